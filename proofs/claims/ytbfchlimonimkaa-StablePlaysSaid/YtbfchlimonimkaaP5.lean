/-
  A part of the proof: an abstract machine over the model, and contracts of functions of this program over it.
-/
import Derived.KernelRfl
import Derived.Test.YtbfchlimonimkaaP4
section
set_option linter.unusedSimpArgs false
set_option linter.unusedVariables false
namespace Go.Proofs.Ytbfchlimonimkaa
open Go.Am Go.Minster

theorem absl_two {w1 w2 : AV} (h1 : w1.one = true) (h2 : w2.one = true) : absl T Y_s__Dot 2 [(0, w1), (1, w2)] = some [w1, w2] := by
  have hz : acells (.slc none 0 0 true) = some [.slc none 0 0 true] := rfl
  simp only [absl, u_s__Dot, z_s_Dot, zr_s_Dot, Option.bind_some, hz]
  rw [if_pos ⟨rfl, by decide⟩]
  simp [afill, acells_1 h1, acells_1 h2, rep, wrs]
theorem amaxM (a b : Int) : amax true [.int .u64 a, .int .u64 b] = some (.int .u64 (max a b)) := by
  simp only [amax, amaxL, Am.amax2, Option.bind_some, if_true]
  congr 2
  by_cases h : b > a
  · rw [if_pos h, Int.max_eq_right (by omega)]
  · rw [if_neg h, Int.max_eq_left (by omega)]
/-- the greater of two vectors, place by place, up to a place -/
def vup (v1 v2 : List Int) (i : Nat) : List Int := (List.range 16).map fun j => if j < i then max (v1.getD j 0) (v2.getD j 0) else v1.getD j 0
theorem vup_len (v1 v2 : List Int) (i : Nat) : (vup v1 v2 i).length = 16 := by simp [vup]
theorem vup_get {v1 v2 : List Int} {i j : Nat} (h : j < 16) : (vup v1 v2 i).getD j 0 = if j < i then max (v1.getD j 0) (v2.getD j 0) else v1.getD j 0 := by
  simp [vup, List.getD_eq_getElem?_getD, h]
theorem vec_ext {v w : List Int} (h : v.length = 16) (h' : w.length = 16) (he : ∀ j, j < 16 → v.getD j 0 = w.getD j 0) : v = w := by
  refine List.ext_getElem (by omega) fun j hj hj' => ?_
  have := he j (by omega)
  simp only [List.getD_eq_getElem?_getD, List.getElem?_eq_getElem hj, List.getElem?_eq_getElem hj'] at this
  exact this
theorem vup_zero {v1 v2 : List Int} (h : v1.length = 16) : vup v1 v2 0 = v1 := vec_ext (vup_len _ _ _) h fun j hj => by rw [vup_get hj, if_neg (by omega)]
theorem vup_step {v1 v2 : List Int} {i : Nat} (hi : i < 16) : (vup v1 v2 i).set i (max ((vup v1 v2 i).getD i 0) (v2.getD i 0)) = vup v1 v2 (i + 1) := by
  refine vec_ext (by simp [vup_len]) (vup_len _ _ _) fun j hj => ?_
  rw [vup_get hj, vup_get hi, if_neg (by omega), List.getD_eq_getElem?_getD, List.getElem?_set]
  by_cases e : i = j
  · subst e; rw [if_pos rfl, if_pos (by rw [vup_len]; exact hi), if_pos (by omega)]; rfl
  · rw [if_neg e, ← List.getD_eq_getElem?_getD, vup_get hj]
    by_cases h : j < i
    · rw [if_pos h, if_pos (by omega)]
    · rw [if_neg h, if_neg (by omega)]
/-- the greater of two vectors -/
def vmx (v1 v2 : List Int) : List Int := vup v1 v2 16
theorem vmx_get {v1 v2 : List Int} {j : Nat} (h : j < 16) : (vmx v1 v2).getD j 0 = max (v1.getD j 0) (v2.getD j 0) := by rw [vmx, vup_get h, if_pos h]
theorem VOk.of {v : List Int} (h : v.length = 16) (hb : ∀ j, j < 16 → 0 ≤ v.getD j 0 ∧ v.getD j 0 ≤ 4611686018427387904) : VOk v := by
  refine ⟨h, fun x hx => ?_⟩
  obtain ⟨j, hj, rfl⟩ := List.mem_iff_getElem.1 hx
  have := hb j (by omega)
  simpa [List.getD_eq_getElem?_getD, List.getElem?_eq_getElem hj] using this
theorem vmx_ok {v1 v2 : List Int} (h1 : VOk v1) (h2 : VOk v2) : VOk (vmx v1 v2) := VOk.of (vup_len _ _ _) fun j hj => by
  rw [vmx_get hj]
  have a := h1.get j
  have b := h2.get j
  omega
/-- dots joined, sorted, taken in: the same dots -/
theorem join_plain {v1 v2 : List Int} {e1 e2 l : List Dot} (h1 : COk v1 e1) (h2 : COk v2 e2) (hp : l.Perm (e1 ++ e2)) (hs : Srt l 0 l.length) :
    COk (compact (vmx v1 v2) (dd l)).1 (compact (vmx v1 v2) (dd l)).2 ∧ Gap (compact (vmx v1 v2) (dd l)).1 (compact (vmx v1 v2) (dd l)).2 ∧ ∀ x, hasD (compact (vmx v1 v2) (dd l)).1 (compact (vmx v1 v2) (dd l)).2 x = (hasD v1 e1 x || hasD v2 e2 x) := by
  have hr := dd_rising l (srt_pair hs)
  have hm : ∀ d ∈ dd l, d.may = true := by
    intro d hd
    rw [dd_mem] at hd
    rcases List.mem_append.1 (hp.mem_iff.1 hd) with h | h
    · exact h1.m d h
    · exact h2.m d h
  have hv := vmx_ok h1.v h2.v
  have hsub := compact_sub (vmx v1 v2) (dd l)
  refine ⟨⟨compact_ok hv hm, hr.sub hsub, fun x hx => hm x (hsub.subset hx)⟩, fold_gap (dd l) (vmx v1 v2, []) hv hr hm (by simp), fun x => ?_⟩
  rw [Bool.eq_iff_iff, compact_has hv hm, Bool.or_eq_true, hasD_iff, hasD_iff, dd_mem, hp.mem_iff, List.mem_append]
  constructor
  · rintro ⟨hmx, h⟩
    have := Dot.may_iff.1 hmx
    rw [vmx_get (by omega)] at h
    rcases h with (h | h) | h
    · exact .inl ⟨hmx, .inl h⟩
    · exact .inr ⟨hmx, .inl h⟩
    · rcases Int.le_total (v1.getD (x.r - 1).toNat 0) (v2.getD (x.r - 1).toNat 0) with hle | hle
      · exact .inr ⟨hmx, .inr (by omega)⟩
      · exact .inl ⟨hmx, .inr (by omega)⟩
  · rintro (⟨hmx, h⟩ | ⟨hmx, h⟩)
    · have := Dot.may_iff.1 hmx
      refine ⟨hmx, ?_⟩
      rw [vmx_get (by omega)]
      rcases h with h | h
      · exact .inl (.inl h)
      · exact .inr (by omega)
    · have := Dot.may_iff.1 hmx
      refine ⟨hmx, ?_⟩
      rw [vmx_get (by omega)]
      rcases h with h | h
      · exact .inl (.inr h)
      · exact .inr (by omega)

/-- what a join comes to -/
structure JoinTo (v1 : List Int) (e1 : List Dot) (v2 : List Int) (e2 : List Dot) (v : List Int) (ex : List Dot) : Prop where
  ok : COk v ex
  gap : Gap v ex
  has : ∀ x, hasD v ex x = (hasD v1 e1 x || hasD v2 e2 x)
  len : ex.length ≤ e1.length + e2.length

theorem ctx_x2 {s : AS} {w : AV} {l : List Dot} (h : Dots s w l) : ∀ y ∈ [w, AV.bool true], ∀ n, y ≠ .int .i64 n := by
  intro y hy n
  rcases List.mem_cons.1 hy with rfl | hy
  · exact dots_not_int h _ _
  · obtain rfl : y = .bool true := by simpa using hy
    intro h; cases h

theorem ctx_Join_ok2 {s : AS} {p1 p2 : Nat} {v1 v2 : List Int} {e1 e2 : List Dot} (h1 : CtxAt s p1 v1 e1) (h2 : CtxAt s p2 v2 e2) (o1 : COk v1 e1) (o2 : COk v2 e2) (n1 : e1.length ≤ 4096) (n2 : e2.length ≤ 4096) :
    ACalls Try.prog F_ctx_Ctx_Join [.ptr (some (p1, 0)), .ptr (some (p2, 0))] s fun r s' => ∃ v ex, JoinTo v1 e1 v2 e2 v ex ∧ Mut [p1] s s' ∧ ((ex.length ≤ 4096 ∧ r = .int .i64 0 ∧ CtxG s s' p1 v ex) ∨ (4096 < ex.length ∧ r = .int .i64 5 ∧ Ext s s')) := by
  refine ACalls.pre fun hw => q_ctx_Ctx_Join _ _ _ _ ?_
  refine ACalls.use (ctx_there_ok h1) ?_
  rintro r s2 ⟨rfl, rfl⟩ _
  refine ⟨_, rfl, bsplit.no rfl ?_⟩
  refine ACalls.use (ctx_there_ok h2) ?_
  rintro r s5 ⟨rfl, rfl⟩ _
  refine ⟨_, rfl, bsplit.no rfl ?_⟩
  obtain ⟨l1, w1, m1, ow1, d1⟩ := h1
  obtain ⟨l2, w2, m2, ow2, d2⟩ := h2
  have hn : e1.length + e2.length ≤ 2 ^ 20 := by omega
  refine ⟨fun i _ r s' => (i = 12 → ∃ l, r = .slc (some (l, 0)) 2 2 true ∧ At s' l [w1, w2]) ∧ (i = 13 → r.one = true ∧ ∃ lo, Room s' r (e1.length + e2.length) (e1 ++ e2) lo ∧ ∀ x, lo = some x → s5.h x = none) ∧ (i = 15 → ∃ q, r = .ptr (some (q, 0)) ∧ s5.h q = none ∧ ∃ cs, Own s' q cs ∧ cs.length = 18), fun i _ r => (i = 13 → r.one = true) ∧ (i = 15 → ∃ q, r = .ptr (some (q, 0))), ?_, ?_⟩
  · rintro i k r s' s'' e ⟨ha, hb, hc⟩
    refine ⟨fun hi => ?_, fun hi => ?_, fun hi => ?_⟩
    · obtain ⟨l, h, h'⟩ := ha hi
      exact ⟨l, h, h'.ext e⟩
    · obtain ⟨h0, lo, h, h'⟩ := hb hi
      refine ⟨h0, lo, ?_, h'⟩
      cases lo with
      | none => exact h
      | some lo => obtain ⟨a, b, rest, c, d⟩ := h; exact ⟨a, b, rest, e.1 _ _ c, d⟩
    · obtain ⟨q, h, h', cs, h2, h3⟩ := hc hi
      exact ⟨q, h, h', cs, h2.ext e, h3⟩
  refine ⟨_, m1.at.rdc (by rw [ctx_len l1]; omega), w1, by rw [m1.at.rd1]; exact ctx_16 l1 w1, w2, by rw [m2.at.rd1]; exact ctx_16 l2 w2, fun s16 e16 w16 _ => ?_, ⟨.bool true, (fun h => by cases h), (fun h => by cases h)⟩, fun v20 _ => ⟨fun s21 e21 w21 h21 => ?_, ⟨.bool true, (fun _ => rfl), (fun h => by cases h)⟩, fun v24 hv24 => ?_⟩⟩
  · refine ⟨_, absl_two ow1 ow2, NewQ.intro w16 rfl fun l18 s19 F => ⟨F.ext, ⟨(fun _ => ⟨l18, rfl, F.own.at⟩), (fun h => by cases h), (fun h => by cases h)⟩, (fun h => by cases h), (fun h => by cases h)⟩⟩
  · obtain ⟨l, rfl, hat⟩ := h21.1.1 rfl
    refine (concat_ok hat (d1.ext e21) (d2.ext e21) hn).mono ?_
    rintro r s23 ⟨lo, rm, hlo, e23⟩
    have hone : r.one = true := by
      cases lo with
      | none => obtain ⟨rfl, _⟩ := rm; rfl
      | some lo => obtain ⟨rfl, _⟩ := rm; rfl
    exact ⟨e23, ⟨(fun h => by cases h), (fun _ => ⟨hone, lo, rm, fun x hx => e21.none (hlo x hx)⟩), (fun h => by cases h)⟩, (fun _ => hone), (fun h => by cases h)⟩
  have hone := hv24.1 rfl
  rw [ctx_take l1]
  refine ⟨_, build_Ctx l1 hone, fun s26 e26 w26 _ => ?_, ⟨.ptr (some (0, 0)), (fun h => by cases h), (fun _ => ⟨0, rfl⟩)⟩, fun v29 hv29 => ?_⟩
  · refine NewQ.intro w26 rfl fun q s28 F => ⟨F.ext, ⟨(fun h => by cases h), (fun h => by cases h), (fun _ => ⟨q, rfl, e26.none F.no, _, F.own, rfl⟩)⟩, (fun h => by cases h), (fun _ => ⟨q, rfl⟩)⟩
  obtain ⟨q, rfl⟩ := hv29.2 rfl
  refine ⟨_, rfl, fun s31 e31 w31 hS => ?_⟩
  obtain ⟨_, hS13, hS15, _⟩ := hS
  obtain ⟨_, lo, rm, hlo⟩ := hS13.2.1 rfl
  obtain ⟨q', hq', hq0, cs, oq, hcs⟩ := hS15.2.2 rfl
  simp only [AV.ptr.injEq, Option.some.injEq, Prod.mk.injEq, and_true] at hq'
  subst hq'
  have hqlo : ∀ x, lo = some x → x ≠ q := by
    rintro x rfl rfl
    obtain ⟨_, _, rest, c, _⟩ := rm
    rw [oq] at c
    simp at c
  have hp1q : p1 ≠ q := by rintro rfl; rw [m1] at hq0; cases hq0
  have hp2q : p2 ≠ q := by rintro rfl; rw [m2] at hq0; cases hq0
  refine ⟨⟨by simp [hone], by rw [ctx_len l1]⟩, StQ.own w31 oq (by rw [ctx_len l1]; omega) fun s35 P35 => ?_⟩
  have c35 : Own s35 q (v1.map (AV.int .u64) ++ [v24, .bool true]) := by have := P35.at; rw [wrs_all0 (by rw [ctx_len l1, hcs])] at this; exact this
  have rm35 : Room s35 v24 (e1 ++ e2).length (e1 ++ e2) lo := by
    rw [List.length_append]
    cases lo with
    | none => exact rm
    | some lo => obtain ⟨a, b, rest, c, d⟩ := rm; exact ⟨a, b, rest, P35.mut.1 _ _ (by simpa using hqlo lo rfl) c, d⟩
  have E35 : Mut [q] s5 s35 := e31.mut.trans P35.mut
  refine ⟨fun vs s' => Own s' q ((vmx v1 v2).map (AV.int .u64) ++ [v24, .bool true]) ∧ Mut [q] s35 s' ∧ WFs s', ?_, ?_⟩
  · rintro s37 ⟨c37, m37, w37⟩
    have hvm := vmx_ok o1.v o2.v
    have rm37 : Room s37 v24 (e1 ++ e2).length (e1 ++ e2) lo := by
      cases lo with
      | none => exact rm35
      | some lo => obtain ⟨a, b, rest, c, d⟩ := rm35; exact ⟨a, b, rest, m37.1 _ _ (by simpa using hqlo lo rfl) c, d⟩
    have hqn : q ∉ lo.toList := by
      cases lo with
      | none => simp
      | some lo => simpa using (hqlo lo rfl).symm
    have hnew : ∀ x ∈ lo.toList, s5.h x = none := by
      intro x hx
      cases lo with
      | none => simp at hx
      | some lo => obtain rfl : x = lo := by simpa using hx
                   exact hlo x rfl
    refine ⟨v24, by rw [c37.at.rd1]; exact ctx_16 hvm.len v24, ?_⟩
    refine ACalls.use (sortDd_ok rm37 (by simp; omega)) ?_
    rintro r s42 ⟨rfl, m42, hdd⟩ w42
    have c42 := c37.mut m42 hqn
    refine ⟨rfl, v24, by rw [c42.at.rd1]; exact ctx_16 hvm.len v24, ?_⟩
    refine ACalls.use hdd ?_
    rintro r s47 ⟨r1, m47, l', hp, hs, d47⟩ w47
    have c47 := c37.mut m47 hqn
    obtain ⟨ok, gap, has⟩ := join_plain o1 o2 hp hs
    have hll := hp.length_eq
    rw [List.length_append] at hll
    have hdl := dd_len l'
    refine qstore_one r1 z_s_Dot (StQ.own w47 c47 (by rw [ctx_len hvm.len]; simp) fun s50 P50 => ?_)
    have c50 : Own s50 q ((vmx v1 v2).map (AV.int .u64) ++ [r, .bool true]) := by
      have := P50.at
      rw [wrs_one, Nat.zero_add, List.set_append_right _ _ (by simp [hvm.len])] at this
      simpa [hvm.len, Own] using this
    have hx : ∀ y ∈ [v24, AV.bool true], ∀ n, y ≠ .int .i64 n := by
      intro y hy n
      rcases List.mem_cons.1 hy with rfl | hy
      · rintro rfl
        cases lo with
        | none => cases rm37.1
        | some lo => cases rm37.1
      · obtain rfl : y = .bool true := by simpa using hy
        intro h; cases h
    have C50 : CtxAt s50 q (vmx v1 v2) (dd l') := ⟨hvm.len, r, c50, r1, dots_keep d47 c47.at hx P50.mut⟩
    have hmm : ∀ d ∈ dd l', d.may = true := by
      intro d hd
      rw [dd_mem] at hd
      rcases List.mem_append.1 (hp.mem_iff.1 hd) with h | h
      · exact o1.m d h
      · exact o2.m d h
    refine ACalls.use (ctx_compact_ok2 C50 hvm hmm (by omega)) ?_
    rintro r s52 ⟨rfl, C52, m52⟩ w52
    refine ⟨rfl, ?_⟩
    have hcl := (compact_sub (vmx v1 v2) (dd l')).length_le
    generalize hres : compact (vmx v1 v2) (dd l') = res at ok gap has C52 hcl
    obtain ⟨v, ex⟩ := res
    simp only at ok gap has C52 hcl
    have J : JoinTo v1 e1 v2 e2 v ex := ⟨ok, gap, has, by omega⟩
    obtain ⟨lv, wv, cv, owv, gv, nv⟩ := C52
    have dv : Dots s52 wv ex := gv.sl dotC_len
    -- all that was there is as it was
    have E52 : Ext s5 s52 := by
      refine ⟨fun x o ho => ?_, ?_⟩
      · have hxq : x ≠ q := by rintro rfl; rw [hq0] at ho; cases ho
        have hxl : x ∉ lo.toList := fun hx => by rw [hnew x hx] at ho; cases ho
        exact m52.1 x o (by simpa using hxq) (P50.mut.1 x o (by simpa using hxq) (m47.1 x o hxl (m37.1 x o (by simpa using hxq) (E35.1 x o (by simpa using hxq) ho))))
      · exact Nat.le_trans E35.2 (Nat.le_trans m37.2 (Nat.le_trans m47.2 (Nat.le_trans P50.mut.2 m52.2)))
    refine ⟨wv, by rw [cv.at.rd1]; exact ctx_16 lv wv, _, dv.lenB u_s_Dot _, bsplit.dec (fun hgt => ?_) (fun hle => ?_)⟩
    · exact ⟨v, ex, J, E52.mut, .inr ⟨by omega, rfl, E52⟩⟩
    · refine ⟨_, cv.at.rdc (by rw [ctx_len lv]; omega), ?_⟩
      rw [List.drop_zero, List.take_of_length_le (by rw [ctx_len lv]; omega)]
      refine ⟨⟨by simp [owv], by rw [ctx_len lv]⟩, StQ.own w52 (m1.ext E52) (by rw [ctx_len lv, ctx_len l1]; omega) fun s62 P62 => ?_⟩
      have c62 : Own s62 p1 (v.map (AV.int .u64) ++ [wv, .bool true]) := by have := P62.at; rw [wrs_all0 (by rw [ctx_len lv, ctx_len l1])] at this; exact this
      have E50 : Ext s5 s50 := by
        refine ⟨fun x o ho => ?_, ?_⟩
        · have hxq : x ≠ q := by rintro rfl; rw [hq0] at ho; cases ho
          have hxl : x ∉ lo.toList := fun hx => by rw [hnew x hx] at ho; cases ho
          exact P50.mut.1 x o (by simpa using hxq) (m47.1 x o hxl (m37.1 x o (by simpa using hxq) (E35.1 x o (by simpa using hxq) ho)))
        · exact Nat.le_trans E35.2 (Nat.le_trans m37.2 (Nat.le_trans m47.2 P50.mut.2))
      have hnv : ∀ la ∈ labOf wv, s5.h la = none := fun la hla => E50.none (nv la hla)
      exact ⟨v, ex, J, E52.mut.trans P62.mut, .inl ⟨by omega, rfl, lv, wv, c62, owv, gv.mut P62.mut (fun x hx hm => by
        obtain rfl : x = p1 := by simpa using hm
        have hn := hnv x hx
        rw [m1] at hn
        cases hn), hnv⟩⟩
  · have m2' := m2.mut E35 (by simpa using hp2q)
    refine ⟨_, m2'.at.rdc (by rw [ctx_len l2]; omega), ?_⟩
    rw [ctx_take l2]
    refine ⟨fun m vs s' => ∃ i : Nat, vs = [.int .i64 (i : Nat)] ∧ i ≤ 16 ∧ m = 16 - i ∧ Own s' q ((vup v1 v2 i).map (AV.int .u64) ++ [v24, .bool true]) ∧ Mut [q] s35 s' ∧ WFs s', 16, ⟨0, rfl, by omega, rfl, by rw [vup_zero l1]; exact c35, Mut.refl _ _, P35.wf⟩, ?_⟩
    rintro m n s70 ⟨i, hi, h6, rfl, c70, m70, w70⟩
    simp only [List.cons.injEq, AV.int.injEq, true_and, and_true] at hi
    subst hi
    refine bsplit.dec (fun hlt => ?_) (fun hge => ?_)
    · have hi16 : i < 16 := by omega
      refine ⟨_, aix_vec l2 hi16, _, _, vix (by omega), _, by rw [c70.at.rd1, Nat.zero_add, Nat.mul_one, Int.toNat_natCast]; exact ctx_at (vup_len _ _ _) v24 hi16, _, amaxM _ _, _, _, vix (by omega), StQ.own w70 c70 (by rw [ctx_len (vup_len _ _ _)]; simp; omega) fun s82 P82 => ⟨16 - (i + 1), by omega, i + 1, by rw [wadd1 (by omega)], by omega, rfl, ?_, m70.trans P82.mut, P82.wf⟩⟩
      have := P82.at
      rw [wrs_one, Nat.zero_add, Nat.mul_one, Int.toNat_natCast, vec_set _ _ _ _ (by rw [vup_len]; exact hi16), vup_step hi16] at this
      exact this
    · obtain rfl : i = 16 := by omega
      exact ⟨c70, m70, w70⟩

end Go.Proofs.Ytbfchlimonimkaa
end

section
set_option linter.unusedSimpArgs false
set_option linter.unusedVariables false
namespace Go.Proofs.Ytbfchlimonimkaa
open Go.Am Go.Minster

/-! ### many at once -/
/-- a context, or a set of the reference -/
structure Ob where
  ref : Bool
  p : Nat
  v : List Int
  ex : List Dot
def Ob.at (s : AS) (o : Ob) : Prop := match o.ref with
  | true => RefAt s o.p o.v o.ex
  | false => CtxAt s o.p o.v o.ex
theorem CtxAt.there {s : AS} {p : Nat} {v : List Int} {ex : List Dot} (h : CtxAt s p v ex) : s.h p ≠ none := by
  obtain ⟨_, w, h, _⟩ := h; rw [h]; simp
theorem RefAt.there {s : AS} {p : Nat} {v : List Int} {ex : List Dot} (h : RefAt s p v ex) : s.h p ≠ none := by
  obtain ⟨_, w, h, _⟩ := h; rw [h]; simp
theorem CtxAt.keepC {s s' : AS} {p q : Nat} {v v' : List Int} {ex ex' : List Dot} (h : CtxAt s p v ex) (h' : CtxAt s q v' ex') (hne : p ≠ q) (m : Mut [q] s s') : CtxAt s' p v ex := by
  obtain ⟨h1, w, h2, h3, h4⟩ := h
  obtain ⟨h1', w', h2', h3', h4'⟩ := h'
  exact ⟨h1, w, h2.mut m (by simpa using hne), h3, dots_keep h4 h2'.at (ctx_x2 h4') m⟩
theorem RefAt.keepR {s s' : AS} {p q : Nat} {v v' : List Int} {ex ex' : List Dot} (h : RefAt s p v ex) (h' : RefAt s q v' ex') (hne : p ≠ q) (m : Mut [q] s s') : RefAt s' p v ex := by
  obtain ⟨h1, w, h2, h3, h5, h4⟩ := h
  obtain ⟨h1', w', h2', h3', h5', h4'⟩ := h'
  refine ⟨h1, w, h2.mut m (by simpa using hne), h3, h5, dots_keep h4 h2'.at (x := [w']) ?_ m⟩
  intro y hy n
  obtain rfl : y = w' := by simpa using hy
  exact dots_not_int h4' _ _
theorem Ob.at.ext {s s' : AS} {o : Ob} (h : o.at s) (e : Ext s s') : o.at s' := by
  unfold Ob.at at *
  split at h
  · exact RefAt.ext h e
  · exact CtxAt.ext h e
theorem Ob.at.there {s : AS} {o : Ob} (h : o.at s) : s.h o.p ≠ none := by
  unfold Ob.at at h
  split at h
  · exact RefAt.there h
  · exact CtxAt.there h
theorem Ob.at.keep {s s' : AS} {o o2 : Ob} (h : o.at s) (h2 : o2.at s) (hne : o.p ≠ o2.p) (m : Mut [o2.p] s s') : o.at s' := by
  unfold Ob.at at *
  split at h
  · split at h2
    · exact RefAt.keepR h h2 hne m
    · exact RefAt.keep h h2 m
  · split at h2
    · exact CtxAt.keep h h2 m
    · exact CtxAt.keepC h h2 hne m

/-- all of them are there, apart -/
structure Obs (s : AS) (L : List Ob) : Prop where
  al : ∀ o ∈ L, o.at s
  ne : L.Pairwise fun o o' => o.p ≠ o'.p
theorem Obs.nil {s : AS} : Obs s [] := ⟨by simp, List.Pairwise.nil⟩
theorem Obs.ext {s s' : AS} {L : List Ob} (h : Obs s L) (e : Ext s s') : Obs s' L := ⟨fun o ho => (h.al o ho).ext e, h.ne⟩
theorem Obs.add {s s' : AS} {L : List Ob} (h : Obs s L) (e : Ext s s') (o : Ob) (hn : s.h o.p = none) (ho : o.at s') : Obs s' (o :: L) := by
  refine ⟨fun x hx => ?_, List.pairwise_cons.2 ⟨fun x hx he => ?_, h.ne⟩⟩
  · rcases List.mem_cons.1 hx with rfl | hx
    · exact ho
    · exact (h.al x hx).ext e
  · exact (h.al x hx).there (by rw [← he]; exact hn)
theorem Obs.mut {s s' : AS} (L1 : List Ob) {L2 : List Ob} {o : Ob} (h : Obs s (L1 ++ o :: L2)) (o' : Ob) (m : Mut [o.p] s s') (hp : o'.p = o.p) (ho : o'.at s') : Obs s' (L1 ++ o' :: L2) := by
  obtain ⟨n1, n2, n3⟩ := List.pairwise_append.1 h.ne
  obtain ⟨n4, n5⟩ := List.pairwise_cons.1 n2
  have hoat := h.al o (by simp)
  refine ⟨fun x hx => ?_, List.pairwise_append.2 ⟨n1, List.pairwise_cons.2 ⟨fun x hx => by rw [hp]; exact n4 x hx, n5⟩, fun a ha b hb => ?_⟩⟩
  · rcases List.mem_append.1 hx with hx | hx
    · exact (h.al x (by simp [hx])).keep hoat (n3 x hx o (by simp)) m
    · rcases List.mem_cons.1 hx with rfl | hx
      · exact ho
      · exact (h.al x (by simp [hx])).keep hoat (Ne.symm (n4 x hx)) m
  · rcases List.mem_cons.1 hb with rfl | hb
    · rw [hp]; exact n3 a ha o (by simp)
    · exact n3 a ha b (by simp [hb])

/-! ### contracts -/
theorem ctx_Copy_G {s : AS} {p : Nat} {v : List Int} {ex : List Dot} (h : CtxAt s p v ex) (hn : ex.length ≤ 2 ^ 30) : ACalls Try.prog F_ctx_Ctx_Copy [.ptr (some (p, 0))] s fun r s' => ∃ q, r = .ptr (some (q, 0)) ∧ s.h q = none ∧ CtxG s s' q v ex ∧ Ext s s' := by
  refine q_ctx_Ctx_Copy _ _ _ ?_
  refine ACalls.use (ctx_there_ok h) ?_
  rintro r s2 ⟨rfl, rfl⟩ _
  obtain ⟨h1, w, h2, h3, h4⟩ := h
  refine ⟨_, rfl, bsplit.no rfl ⟨fun k _ r s' => k = 8 → Gro dotC 2 s' r ex ∧ (∀ la ∈ labOf r, s2.h la = none) ∧ r ≠ .emp ∧ r.one = true, fun k _ r => k = 8 → r.one = true, fun _ _ _ _ _ e h hk => ⟨(h hk).1.ext e, (h hk).2⟩, _, h2.at.rdc (by rw [ctx_len h1]; omega), w, by rw [h2.at.rd1]; exact ctx_16 h1 w, fun s10 e10 w10 _ => ?_, ⟨.bool true, fun _ => rfl⟩, ?_⟩⟩
  · refine (clone_S (s := s2) e10 (h4.ext e10) hn).mono ?_
    rintro r s' ⟨e, h⟩
    exact ⟨e, fun _ => h, fun _ => h.2.2.2⟩
  rintro r hr s14 e14 w14 ⟨hr2, _⟩
  obtain ⟨g, hnew, hne, hone⟩ := hr2 rfl
  rw [ctx_take h1]
  refine ⟨_, build_Ctx h1 hone, by simp [One1, hone], NewQ.intro w14 rfl fun q s18 F => ⟨q, rfl, e14.none F.no, ⟨h1, r, F.own, hone, g.ext F.ext, hnew⟩, e14.trans F.ext⟩⟩

theorem ctx_Copy_ok {s : AS} {p : Nat} {v : List Int} {ex : List Dot} (h : CtxAt s p v ex) (hn : ex.length ≤ 2 ^ 30) : ACalls Try.prog F_ctx_Ctx_Copy [.ptr (some (p, 0))] s fun r s' => ∃ q, r = .ptr (some (q, 0)) ∧ s.h q = none ∧ CtxAt s' q v ex ∧ Ext s s' :=
  (ctx_Copy_G h hn).mono fun _ _ ⟨q, a, b, c, d⟩ => ⟨q, a, b, c.at, d⟩

theorem JoinTo.uniq {v1 v2 v v' w1 w2 : List Int} {e1 e2 ex ex' f1 f2 : List Dot} (j : JoinTo v1 e1 v2 e2 v ex) (j' : JoinTo w1 f1 w2 f2 v' ex') (hh : ∀ x, (hasD v1 e1 x || hasD v2 e2 x) = (hasD w1 f1 x || hasD w2 f2 x)) : v = v' ∧ ex = ex' :=
  norm_eq j.ok j.gap j'.ok j'.gap fun d => by rw [j.has, j'.has, hh]

/-! ### the reference -/
end Go.Proofs.Ytbfchlimonimkaa
end

section
set_option linter.unusedSimpArgs false
set_option linter.unusedVariables false
namespace Go.Proofs.Ytbfchlimonimkaa
open Go.Am Go.Minster Go.ChangeShapes Go.WideShapes Go.ChangeAt Go.RowKit

set_option maxRecDepth 100000 in
theorem flat_int : flatT Try.prog 5 Y_int = some [.int .i64] := by kernel_rfl
theorem has_zero (x : Dot) : hasD zeros [] x = false := by
  cases hq : hasD zeros [] x with
  | false => rfl
  | true =>
    obtain ⟨hm, h⟩ := hasD_iff.1 hq
    have := Dot.may_iff.1 hm
    rcases h with h | h
    · cases h
    · have e : zeros.getD (x.r - 1).toNat 0 = 0 := by
        simp only [zeros, List.getD_eq_getElem?_getD, List.getElem?_replicate]
        split <;> rfl
      omega
theorem mem_take_succ {l : List Dot} {i : Nat} {x y : Dot} (hx : l[i]? = some x) : y ∈ l.take (i + 1) ↔ y ∈ l.take i ∨ y = x := by
  rw [List.take_add_one, hx, Option.toList_some, List.mem_append, List.mem_singleton]

/-- a dot is added, whatever it is -/
theorem addD_any {v : List Int} {ex : List Dot} (ok : COk v ex) (gap : Gap v ex) (hn : ex.length < 4096) (d : Dot) : COk (addD v ex d).2.2.1 (addD v ex d).2.2.2 ∧ Gap (addD v ex d).2.2.1 (addD v ex d).2.2.2 ∧ (addD v ex d).2.2.2.length ≤ ex.length + 1 ∧ ∀ x, hasD (addD v ex d).2.2.1 (addD v ex d).2.2.2 x = true ↔ hasD v ex x = true ∨ (x = d ∧ d.may = true) := by
  cases hm : d.may with
  | false =>
    have : addD v ex d = (false, 2, v, ex) := by simp [addD, hm]
    rw [this]
    exact ⟨ok, gap, by simp, fun x => by simp⟩
  | true =>
    rw [addD_few hm hn]
    exact ⟨ok.add hm, Gap.add ok gap hm, addR_len, fun x => by rw [addR_has ok hm]; simp⟩

end Go.Proofs.Ytbfchlimonimkaa
end

section
set_option linter.unusedVariables false
set_option maxRecDepth 100000
set_option maxHeartbeats 4000000
namespace Go.Proofs.Ytbfchlimonimkaa
open Go.Am

/-- what minster/stable.New asks -/
def Q_stable_New (a0 : Int) (a1 : Int) (s : AS) (R : AV → AS → Prop) : Prop :=
 JoinQ fun J1 =>
 (∀ b2 : Bool, ∀ s3 : AS, J1 [(.bool b2)] s3 →
 bsplit b2
 (R (.tup [(.ptr none), (.int .i64 2)]) s3)
 (NewQ (.map [] 0 false) s3 fun l4 s5 => RdG (abuild T Y_stable_Matrix [(0, (.int .i64 a0)), (1, (.int .i64 a1)), (2, (.map (some l4)))]) fun g6 => One1 g6 (NewQ (.cells g6 0 false) s5 fun l7 s8 => R (.tup [(.ptr (some (l7, 0))), (.int .i64 0)]) s8))) ∧
 (bsplit (decide ((a0 : Int) < 1)) (J1 [(.bool true)] s) (bsplit (decide ((a0 : Int) > 16)) (J1 [(.bool true)] s) (bsplit (decide ((a1 : Int) < 1)) (J1 [(.bool true)] s) (J1 [(.bool (decide ((a1 : Int) > a0)))] s))))

def A_stable_New : QA := (.seq .leaf (.seq (.join [(20, .bool)] [(6, 20)] .leaf (.cond (.seq .leaf .leaf) .leaf)) (.seq .leaf .leaf)))

theorem q_stable_New (a0 : Int) (a1 : Int) (s : AS) (R : AV → AS → Prop) (h : Q_stable_New a0 a1 s R) : ACalls Try.prog F_stable_New [(.int .i64 a0), (.int .i64 a1)] s R :=
  ACalls.q (n := 26) (rs := [.tmp 4, .tmp 5]) (A := A_stable_New) hT hmx Try.func40 (by kernel_rfl) rfl rfl rfl (by kernel_rfl) (by kernel_rfl) h

/-- what (*minster/stable.Matrix).Stable asks -/
def Q_stable_Matrix_Stable (a0 : Option (Nat × Nat)) (a1 : List AV) (s : AS) (R : AV → AS → Prop) : Prop :=
 One1 a1 (NewQ (.cells a1 0 false) s fun l1 s2 => ACalls Try.prog F_stable_Matrix_there [(.ptr a0)] s2 fun v3 s4 => ∃ b5 : Bool, v3 = .bool b5 ∧ (bsplit (!b5) (R (.bool false) s4) (RdL (rdc s4 l1 0 2) fun g6 => ACalls Try.prog F_ctx_May [(.agg g6)] s4 fun v7 s8 => ∃ b9 : Bool, v7 = .bool b9 ∧ (bsplit (!b9)
 (R (.bool false) s8)
 (LoopQ fun I10 m11 => I10 m11 [(.int .i64 1)] s8 ∧
 ∀ m12 : Nat, ∀ n13 : Int, ∀ s14 : AS, I10 m12 [(.int .i64 n13)] s14 →
 AsSome a0 fun l15 o16 => RdI .i64 (rd1 s14 l15 o16) fun n17 => bsplit (decide ((n13 : Int) ≤ n17))
 (AsSome a0 fun l18 o19 => RdI .i64 (rd1 s14 l18 (o19 + 1)) fun n20 => bsplit ((n13 : Int) != n20) (RdL (rdc s14 l1 0 2) fun g21 => ACalls Try.prog F_stable_Matrix_Gone [(.ptr a0), (.int .i64 n13), (.agg g21)] s14 fun v22 s23 => ∃ b24 : Bool, v22 = .bool b24 ∧ (bsplit (!b24)
 (R (.bool false) s23)
 (∃ m', m' < m12 ∧ I10 m' [(.int .i64 (IntKind.wrap .i64 (n13 + 1)))] s23))) (∃ m', m' < m12 ∧ I10 m' [(.int .i64 (IntKind.wrap .i64 (n13 + 1)))] s14))
 (R (.bool true) s14))))))

def A_stable_Matrix_Stable : QA := (.seq .leaf (.seq (.seq .leaf (.cond (.seq .leaf .leaf) .leaf)) (.seq (.seq .leaf (.wrap (.loop [(5, .int .i64)] [(4, 5), (14, 34)] (.seq (.seq .leaf (.cond .leaf .leaf)) (.seq (.wrap (.seq .leaf (.cond (.seq .leaf .leaf) .leaf))) .leaf))))) (.seq .leaf .leaf))))

theorem q_stable_Matrix_Stable (a0 : Option (Nat × Nat)) (a1 : List AV) (s : AS) (R : AV → AS → Prop) (h : Q_stable_Matrix_Stable a0 a1 s R) : ACalls Try.prog F_stable_Matrix_Stable [(.ptr a0), (.agg a1)] s R :=
  ACalls.q (n := 35) (rs := [.tmp 4]) (A := A_stable_Matrix_Stable) hT hmx Try.func41 (by kernel_rfl) rfl rfl rfl (by kernel_rfl) (by kernel_rfl) h

/-- what (*minster/stable.Matrix).Know asks -/
def Q_stable_Matrix_Know (a0 : Option (Nat × Nat)) (a1 : Int) (a2 : Option (Nat × Nat)) (a3 : AV) (s : AS) (R : AV → AS → Prop) : Prop :=
 ACalls Try.prog F_stable_Matrix_there [(.ptr a0)] s fun v1 s2 => ∃ b3 : Bool, v1 = .bool b3 ∧ (bsplit (!b3)
 (R (.int .i64 1) s2)
 (ACalls Try.prog F_stable_Matrix_other [(.ptr a0), (.int .i64 a1)] s2 fun v4 s5 => ∃ b6 : Bool, v4 = .bool b6 ∧ (bsplit (!b6) (R (.int .i64 2) s5) (ACalls Try.prog F_ctx_Ctx_Copy [(.ptr a2)] s5 fun v7 s8 => ∃ p9 : Option (Nat × Nat), v7 = .ptr p9 ∧ (RdO (aeq T 100 Y_p_ctx_Ctx (.ptr p9) (.ptr none)) fun b10 => bsplit b10
 (R (.int .i64 2) s8)
 (NewQ (.map [] 0 false) s8 fun l11 s12 => JoinQ fun J13 =>
 (∀ s14 : AS, J13 [] s14 →
 AsSome a0 fun l15 o16 => RdM (rd1 s14 l15 (o16 + 2)) fun r17 => RdP (alookup T Y_m_int_p_stable_view (.map r17) (.int .i64 a1) false s14) fun p18 => RdO (aeq T 100 Y_p_stable_view (.ptr p18) (.ptr none)) fun b19 => bsplit b19
 (DrawQ fun S V => AsSome a0 fun l20 o21 => RdM (rd1 s14 l20 (o21 + 2)) fun r22 => (∀ s23 : AS, Ext s14 s23 → WFs s23 → (True) → ACalls Try.prog F_ctx_Ctx_Copy [(.ptr a2)] s23 fun v24 s25 => ∃ p26 : Option (Nat × Nat), v24 = .ptr p26 ∧ ((Ext s23 s25 ∧ S 6 [(.func F_ctx_Ctx_Copy []), (.ptr a2)] (.ptr p26) s25 ∧ V 6 [(.func F_ctx_Ctx_Copy []), (.ptr a2)] (.ptr p26)))) ∧ (∃ v, V 6 [(.func F_ctx_Ctx_Copy []), (.ptr a2)] v) ∧ ∀ v27 : AV, V 6 [(.func F_ctx_Ctx_Copy []), (.ptr a2)] v27 → ∃ p28 : Option (Nat × Nat), v27 = .ptr p28 ∧ (RdG (abuild T Y_stable_view [(0, (.ptr p28)), (1, (.map (some l11)))]) fun g29 => (∀ s30 : AS, Ext s14 s30 → WFs s30 → (S 6 [(.func F_ctx_Ctx_Copy []), (.ptr a2)] (.ptr p28) s30 ∧ True) → One1 g29 (NewQ (.cells g29 0 false) s30 fun l31 s32 => (Ext s30 s32 ∧ S 9 [(.agg g29)] (.ptr (some (l31, 0))) s32 ∧ V 9 [(.agg g29)] (.ptr (some (l31, 0)))))) ∧ (∃ v, V 9 [(.agg g29)] v) ∧ ∀ v33 : AV, V 9 [(.agg g29)] v33 → ∃ p34 : Option (Nat × Nat), v33 = .ptr p34 ∧ (∀ s35 : AS, Ext s14 s35 → WFs s35 → (S 6 [(.func F_ctx_Ctx_Copy []), (.ptr a2)] (.ptr p28) s35 ∧ (S 9 [(.agg g29)] (.ptr p34) s35 ∧ True)) → StQ (amapUpdate T Y_m_int_p_stable_view (.map r22) (.int .i64 a1) (.ptr p34) s35) fun s37 => R (.int .i64 0) s37)))
 (AsSome p18 fun l38 o39 => RdP (rd1 s14 l38 o39) fun p40 => ACalls Try.prog F_ctx_Ctx_Copy [(.ptr p40)] s14 fun v41 s42 => ∃ p43 : Option (Nat × Nat), v41 = .ptr p43 ∧ (ACalls Try.prog F_ctx_Ctx_Join [(.ptr p43), (.ptr a2)] s42 fun v44 s45 => ∃ n46 : Int, v44 = .int .i64 n46 ∧ (bsplit ((n46 : Int) != 0)
 (R (.int .i64 n46) s45)
 (NewQ (.map [] 0 false) s45 fun l47 s48 => JoinQ fun J49 =>
 (∀ s50 : AS, J49 [] s50 →
 JoinQ fun J51 =>
 (∀ s52 : AS, J51 [] s52 →
 AsSome a0 fun l53 o54 => RdM (rd1 s52 l53 (o54 + 2)) fun r55 => RdG (abuild T Y_stable_view [(0, (.ptr p43)), (1, (.map (some l47)))]) fun g56 => One1 g56 (NewQ (.cells g56 0 false) s52 fun l57 s58 => StQ (amapUpdate T Y_m_int_p_stable_view (.map r55) (.int .i64 a1) (.ptr (some (l57, 0))) s58) fun s59 => R (.int .i64 0) s59)) ∧
 (Bd2 (arange T Y_m_Dot_struct__is_bool__ (.map (some l11)) s50) fun v60 s61 => LoopQ fun I62 m63 => I62 m63 [] s61 ∧
 ∀ m64 : Nat, ∀ s65 : AS, I62 m64 [] s65 →
 JoinQ fun J66 =>
 (∀ b67 : Bool, ∀ s68 : AS, J66 [(.bool b67)] s68 →
 bsplit b67
 (RdE (aentry v60 s68) fun v69 v70 => ∃ g71 : List AV, v69 = .agg g71 ∧ (NewQ (.cells [.int .i64 0, .int .u64 0] 0 false) s68 fun l72 s73 => OkC (some 2) g71 (StQ (awr s73 l72 0 g71) fun s74 => JoinQ fun J75 =>
 (∀ b76 : Bool, ∀ s77 : AS, J75 [(.bool b76)] s77 →
 bsplit b76
 (RdL (rdc s77 l72 0 2) fun g78 => RdG (abuild T Y_struct__is_bool__ [(0, (.bool true))]) fun g79 => StQ (amapUpdate T Y_m_Dot_struct__is_bool__ (.map (some l47)) (.agg g78) (.agg g79) s77) fun s80 => ∃ m', m' < m64 ∧ I62 m' [] s80)
 (∃ m', m' < m64 ∧ I62 m' [] s77)) ∧
 (AsSome p18 fun l81 o82 => RdM (rd1 s74 l81 (o82 + 1)) fun r83 => RdL (rdc s74 l72 0 2) fun g84 => RdG (alookup T Y_m_Dot_struct__is_bool__ (.map r83) (.agg g84) false s74) fun g85 => RdB (g85[0]?) fun b86 => bsplit b86 (J75 [(.bool true)] s74) (AsSome p18 fun l87 o88 => RdP (rd1 s74 l87 o88) fun p89 => RdL (rdc s74 l72 0 2) fun g90 => ACalls Try.prog F_ctx_Ctx_Has [(.ptr p89), (.agg g90)] s74 fun v91 s92 => ∃ b93 : Bool, v91 = .bool b93 ∧ (J75 [(.bool (!b93))] s92))))))
 (J51 [] s68)) ∧
 (NextP (acandM v60 s65)
 (J66 [(.bool false)] s65)
 fun v94 v95 s96 => J66 [(.bool true)] s96))) ∧
 (AsSome p18 fun l97 o98 => RdM (rd1 s48 l97 (o98 + 1)) fun r99 => Bd2 (arange T Y_m_Dot_struct__is_bool__ (.map r99) s48) fun v100 s101 => LoopQ fun I102 m103 => I102 m103 [] s101 ∧
 ∀ m104 : Nat, ∀ s105 : AS, I102 m104 [] s105 →
 JoinQ fun J106 =>
 (∀ b107 : Bool, ∀ s108 : AS, J106 [(.bool b107)] s108 →
 bsplit b107
 (RdE (aentry v100 s108) fun v109 v110 => ∃ g111 : List AV, v109 = .agg g111 ∧ (NewQ (.cells [.int .i64 0, .int .u64 0] 0 false) s108 fun l112 s113 => OkC (some 2) g111 (StQ (awr s113 l112 0 g111) fun s114 => JoinQ fun J115 =>
 (∀ b116 : Bool, ∀ s117 : AS, J115 [(.bool b116)] s117 →
 bsplit b116
 (RdL (rdc s117 l112 0 2) fun g118 => RdG (abuild T Y_struct__is_bool__ [(0, (.bool true))]) fun g119 => StQ (amapUpdate T Y_m_Dot_struct__is_bool__ (.map (some l47)) (.agg g118) (.agg g119) s117) fun s120 => ∃ m', m' < m104 ∧ I102 m' [] s120)
 (∃ m', m' < m104 ∧ I102 m' [] s117)) ∧
 (RdL (rdc s114 l112 0 2) fun g121 => RdG (alookup T Y_m_Dot_struct__is_bool__ (.map (some l11)) (.agg g121) false s114) fun g122 => RdB (g122[0]?) fun b123 => bsplit b123 (J115 [(.bool true)] s114) (RdL (rdc s114 l112 0 2) fun g124 => ACalls Try.prog F_ctx_Ctx_Has [(.ptr a2), (.agg g124)] s114 fun v125 s126 => ∃ b127 : Bool, v125 = .bool b127 ∧ (J115 [(.bool (!b127))] s126))))))
 (J49 [] s108)) ∧
 (NextP (acandM v100 s105)
 (J106 [(.bool false)] s105)
 fun v128 v129 s130 => J106 [(.bool true)] s130))))))) ∧
 (RdI .i64 (alenB T Y_s_Dot a3 s12) fun n131 => LoopQ fun I132 m133 => I132 m133 [(.int .i64 0)] s12 ∧
 ∀ m134 : Nat, ∀ n135 : Int, ∀ s136 : AS, I132 m134 [(.int .i64 n135)] s136 →
 bsplit (decide ((n135 : Int) < n131))
 (IxQ (aindexAddr T Y_s_Dot a3 (.int .i64 n135)) fun l137 o138 => RdL (rdc s136 l137 o138 2) fun g139 => NewQ (.cells [.int .i64 0, .int .u64 0] 0 false) s136 fun l140 s141 => OkC (some 2) g139 (StQ (awr s141 l140 0 g139) fun s142 => JoinQ fun J143 =>
 (∀ s144 : AS, J143 [] s144 →
 RdL (rdc s144 l140 0 2) fun g145 => RdG (abuild T Y_struct__is_bool__ [(0, (.bool true))]) fun g146 => StQ (amapUpdate T Y_m_Dot_struct__is_bool__ (.map (some l11)) (.agg g145) (.agg g146) s144) fun s147 => ∃ m', m' < m134 ∧ I132 m' [(.int .i64 (IntKind.wrap .i64 (n135 + 1)))] s147) ∧
 (bsplit (decide ((n135 : Int) > 0)) (IxQ (aindexAddr T Y_s_Dot a3 (.int .i64 (IntKind.wrap .i64 (n135 - 1)))) fun l148 o149 => RdL (rdc s142 l148 o149 2) fun g150 => RdL (rdc s142 l140 0 2) fun g151 => ACalls Try.prog F_ctx_Less [(.agg g150), (.agg g151)] s142 fun v152 s153 => ∃ b154 : Bool, v152 = .bool b154 ∧ (bsplit (!b154) (R (.int .i64 2) s153) (RdL (rdc s153 l140 0 2) fun g155 => ACalls Try.prog F_ctx_Ctx_Has [(.ptr a2), (.agg g155)] s153 fun v156 s157 => ∃ b158 : Bool, v156 = .bool b158 ∧ (bsplit (!b158)
 (R (.int .i64 2) s157)
 (J143 [] s157))))) (RdL (rdc s142 l140 0 2) fun g159 => ACalls Try.prog F_ctx_Ctx_Has [(.ptr a2), (.agg g159)] s142 fun v160 s161 => ∃ b162 : Bool, v160 = .bool b162 ∧ (bsplit (!b162)
 (R (.int .i64 2) s161)
 (J143 [] s161))))))
 (J13 [] s136))))))))

def A_stable_Matrix_Know : QA := (.seq .leaf (.seq (.wrap (.seq .leaf (.cond (.seq .leaf .leaf) (.seq .leaf (.cond (.seq .leaf .leaf) .leaf))))) (.seq .leaf (.join [] [(8, 8), (10, 11), (33, 61)] (.seq .leaf (.wrap (.loop [(35, .int .i64)] [(8, 8), (10, 11), (35, 61)] (.seq .leaf (.seq (.cond .leaf .leaf) (.seq (.wrap (.seq .leaf (.join [] [(8, 8), (40, 57)] (.seq .calm (.cond (.seq .leaf .leaf) .leaf)) .leaf))) .leaf)))))) (.seq .leaf (.seq (.seq .leaf (.cond (.seq (.drawH 10 [[], [], [], [], [], [], [], [], [], [6]] [6, 9]) (.seq .leaf .leaf)) .leaf)) (.seq .leaf (.seq (.seq .leaf (.seq .leaf (.cond (.seq .leaf .leaf) .leaf))) (.seq .leaf (.join [] [(16, 16), (92, 113)] (.seq .leaf (.wrap (.loop [] [(16, 16), (97, 113)] (.join [(98, .bool)] [(97, 98)] .leaf (.seq (.cond .leaf .leaf) (.wrap (.seq .leaf (.join [(110, .bool)] [(101, 110)] .leaf (.cond .leaf .leaf))))))))) (.join [] [(17, 17), (114, 138)] (.seq .leaf (.wrap (.loop [] [(17, 17), (116, 138)] (.join [(117, .bool)] [(116, 117)] .leaf (.seq (.cond .leaf .leaf) (.wrap (.seq .leaf (.join [(135, .bool)] [(120, 135)] (.draw 13) (.cond .leaf .leaf))))))))) (.seq .leaf (.seq .leaf .leaf)))))))))))))

theorem q_stable_Matrix_Know (a0 : Option (Nat × Nat)) (a1 : Int) (a2 : Option (Nat × Nat)) (a3 : AV) (s : AS) (R : AV → AS → Prop) (h : Q_stable_Matrix_Know a0 a1 a2 a3 s R) : ACalls Try.prog F_stable_Matrix_Know [(.ptr a0), (.int .i64 a1), (.ptr a2), a3] s R :=
  ACalls.q (n := 148) (rs := [.tmp 8]) (A := A_stable_Matrix_Know) hT hmx Try.func42 (by kernel_rfl) rfl rfl rfl (by kernel_rfl) (by kernel_rfl) h

/-- what minster/minsterlaw14.of asks -/
def Q_law14iof (a0 : AV) (s : AS) (R : AV → AS → Prop) : Prop :=
 ACalls Try.prog F_ctx_New [] s fun v1 s2 => ∃ p3 : Option (Nat × Nat), v1 = .ptr p3 ∧ (LoopQ fun I4 m5 => I4 m5 [(.int .i64 0)] s2 ∧
 ∀ m6 : Nat, ∀ n7 : Int, ∀ s8 : AS, I4 m6 [(.int .i64 n7)] s8 →
 RdI .i64 (alenB T Y_s_Dot a0 s8) fun n9 => bsplit (decide ((n7 : Int) < n9))
 (IxQ (aindexAddr T Y_s_Dot a0 (.int .i64 n7)) fun l10 o11 => RdL (rdc s8 l10 o11 2) fun g12 => ACalls Try.prog F_ctx_Ctx_Add [(.ptr p3), (.agg g12)] s8 fun v13 s14 => ∃ b15 : Bool, ∃ n16 : Int, v13 = .tup [(.bool b15), (.int .i64 n16)] ∧ (∃ m', m' < m6 ∧ I4 m' [(.int .i64 (IntKind.wrap .i64 (n7 + 1)))] s14))
 (R (.ptr p3) s8))

def A_law14iof : QA := (.seq .leaf (.seq .leaf (.seq (.seq .leaf (.wrap (.loop [(4, .int .i64)] [(4, 4), (6, 17)] (.seq (.seq .leaf (.cond .leaf .leaf)) (.seq (.wrap .leaf) .leaf))))) (.seq .leaf .leaf))))

theorem q_law14iof (a0 : AV) (s : AS) (R : AV → AS → Prop) (h : Q_law14iof a0 s R) : ACalls Try.prog F_law14iof [a0] s R :=
  ACalls.q (n := 19) (rs := [.tmp 2]) (A := A_law14iof) hT hmx Try.func43 (by kernel_rfl) rfl rfl rfl (by kernel_rfl) (by kernel_rfl) h

/-- what minster/minsterlaw14.few asks -/
def Q_law14ifew (a0 : AV) (s : AS) (R : AV → AS → Prop) : Prop :=
 JoinQ fun J1 =>
 (∀ s2 : AS, J1 [] s2 →
 RdI .i64 (alenB T Y_s_minsterlaw14iAct a0 s2) fun n3 => R (.bool (decide ((n3 : Int) ≤ 40))) s2) ∧
 (LoopQ fun I4 m5 => I4 m5 [(.int .i64 0)] s ∧
 ∀ m6 : Nat, ∀ n7 : Int, ∀ s8 : AS, I4 m6 [(.int .i64 n7)] s8 →
 RdI .i64 (alenB T Y_s_minsterlaw14iAct a0 s8) fun n9 => bsplit (decide ((n7 : Int) < n9))
 (IxQ (aindexAddr T Y_s_minsterlaw14iAct a0 (.int .i64 n7)) fun l10 o11 => RdA (rd1 s8 l10 (o11 + 2)) fun v12 => RdI .i64 (alenB T Y_s_Dot v12 s8) fun n13 => bsplit (decide ((n13 : Int) > 40)) (R (.bool false) s8) (IxQ (aindexAddr T Y_s_minsterlaw14iAct a0 (.int .i64 n7)) fun l14 o15 => RdA (rd1 s8 l14 (o15 + 3)) fun v16 => RdI .i64 (alenB T Y_s_Dot v16 s8) fun n17 => bsplit (decide ((n17 : Int) > 40))
 (R (.bool false) s8)
 (∃ m', m' < m6 ∧ I4 m' [(.int .i64 (IntKind.wrap .i64 (n7 + 1)))] s8)))
 (J1 [] s8))

def A_law14ifew : QA := (.seq .leaf (.join [] [(2, 25)] (.seq .leaf (.wrap (.loop [(3, .int .i64)] [(2, 25)] (.seq (.seq .leaf (.cond .leaf .leaf)) (.seq (.wrap (.seq .leaf (.cond (.seq .leaf .leaf) .leaf))) .leaf))))) (.seq .leaf .leaf)))

theorem q_law14ifew (a0 : AV) (s : AS) (R : AV → AS → Prop) (h : Q_law14ifew a0 s R) : ACalls Try.prog F_law14ifew [a0] s R :=
  ACalls.q (n := 29) (rs := [.tmp 2]) (A := A_law14ifew) hT hmx Try.func44 (by kernel_rfl) rfl rfl rfl (by kernel_rfl) (by kernel_rfl) h

/-- what minster/minsterlaw14.may asks -/
def Q_law14imay (a0 : List AV) (s : AS) (R : AV → AS → Prop) : Prop :=
 One1 a0 (NewQ (.cells a0 0 false) s fun l1 s2 => LoopQ fun I3 m4 => I3 m4 [(.int .i64 0)] s2 ∧
 ∀ m5 : Nat, ∀ n6 : Int, ∀ s7 : AS, I3 m5 [(.int .i64 n6)] s7 →
 RdA (rd1 s7 l1 3) fun v8 => RdI .i64 (alenB T Y_s_Dot v8 s7) fun n9 => bsplit (decide ((n6 : Int) < n9))
 (JoinQ fun J10 =>
 (∀ b11 : Bool, ∀ s12 : AS, J10 [(.bool b11)] s12 →
 bsplit (!b11) (R (.bool false) s12) (bsplit (decide ((n6 : Int) > 0)) (RdA (rd1 s12 l1 3) fun v13 => IxQ (aindexAddr T Y_s_Dot v13 (.int .i64 (IntKind.wrap .i64 (n6 - 1)))) fun l14 o15 => RdL (rdc s12 l14 o15 2) fun g16 => RdA (rd1 s12 l1 3) fun v17 => IxQ (aindexAddr T Y_s_Dot v17 (.int .i64 n6)) fun l18 o19 => RdL (rdc s12 l18 o19 2) fun g20 => ACalls Try.prog F_ref04iLess [(.agg g16), (.agg g20)] s12 fun v21 s22 => ∃ b23 : Bool, v21 = .bool b23 ∧ (bsplit (!b23)
 (R (.bool false) s22)
 (∃ m', m' < m5 ∧ I3 m' [(.int .i64 (IntKind.wrap .i64 (n6 + 1)))] s22))) (∃ m', m' < m5 ∧ I3 m' [(.int .i64 (IntKind.wrap .i64 (n6 + 1)))] s12))) ∧
 (LoopQ fun I24 m25 => I24 m25 [(.bool false), (.int .i64 0)] s7 ∧
 ∀ m26 : Nat, ∀ b27 : Bool, ∀ n28 : Int, ∀ s29 : AS, I24 m26 [(.bool b27), (.int .i64 n28)] s29 →
 RdA (rd1 s29 l1 2) fun v30 => RdI .i64 (alenB T Y_s_Dot v30 s29) fun n31 => bsplit (decide ((n28 : Int) < n31))
 (bsplit b27 (∃ m', m' < m26 ∧ I24 m' [(.bool true), (.int .i64 (IntKind.wrap .i64 (n28 + 1)))] s29) (RdA (rd1 s29 l1 2) fun v32 => IxQ (aindexAddr T Y_s_Dot v32 (.int .i64 n28)) fun l33 o34 => RdL (rdc s29 l33 o34 2) fun g35 => RdA (rd1 s29 l1 3) fun v36 => IxQ (aindexAddr T Y_s_Dot v36 (.int .i64 n6)) fun l37 o38 => RdL (rdc s29 l37 o38 2) fun g39 => RdO (aeq T 100 Y_Dot (.agg g35) (.agg g39)) fun b40 => bsplit b40 (RdA (rd1 s29 l1 3) fun v41 => IxQ (aindexAddr T Y_s_Dot v41 (.int .i64 n6)) fun l42 o43 => RdL (rdc s29 l42 o43 2) fun g44 => ACalls Try.prog F_ref04iMay [(.agg g44)] s29 fun v45 s46 => ∃ b47 : Bool, v45 = .bool b47 ∧ (∃ m', m' < m26 ∧ I24 m' [(.bool b47), (.int .i64 (IntKind.wrap .i64 (n28 + 1)))] s46)) (∃ m', m' < m26 ∧ I24 m' [(.bool false), (.int .i64 (IntKind.wrap .i64 (n28 + 1)))] s29)))
 (J10 [(.bool b27)] s29)))
 (R (.bool true) s7))

def A_law14imay : QA := (.seq .leaf (.seq (.seq .leaf (.wrap (.loop [(3, .int .i64)] [(2, 62)] (.seq (.seq .leaf (.cond .leaf .leaf)) (.seq (.wrap (.seq .leaf (.join [(4, .bool)] [(4, 5), (13, 41)] (.seq .leaf (.wrap (.loop [(4, .bool), (5, .int .i64)] [(4, 5), (13, 41)] (.seq (.seq .leaf (.cond .leaf .leaf)) (.seq (.wrap (.draw 17)) .leaf))))) (.seq (.draw 17) (.cond (.seq .leaf .leaf) .leaf))))) .leaf))))) (.seq .leaf .leaf)))

theorem q_law14imay (a0 : List AV) (s : AS) (R : AV → AS → Prop) (h : Q_law14imay a0 s R) : ACalls Try.prog F_law14imay [(.agg a0)] s R :=
  ACalls.q (n := 63) (rs := [.tmp 2]) (A := A_law14imay) hT hmx Try.func45 (by kernel_rfl) rfl rfl rfl (by kernel_rfl) (by kernel_rfl) h

/-- what (*minster/stable.Matrix).Have asks -/
def Q_stable_Matrix_Have (a0 : Option (Nat × Nat)) (a1 : Int) (a2 : List AV) (s : AS) (R : AV → AS → Prop) : Prop :=
 One1 a2 (NewQ (.cells a2 0 false) s fun l1 s2 => ACalls Try.prog F_stable_Matrix_there [(.ptr a0)] s2 fun v3 s4 => ∃ b5 : Bool, v3 = .bool b5 ∧ (bsplit (!b5)
 (R (.int .i64 1) s4)
 (ACalls Try.prog F_stable_Matrix_other [(.ptr a0), (.int .i64 a1)] s4 fun v6 s7 => ∃ b8 : Bool, v6 = .bool b8 ∧ (bsplit (!b8)
 (R (.int .i64 2) s7)
 (RdL (rdc s7 l1 0 16) fun g9 => LoopQ fun I10 m11 => I10 m11 [(.int .i64 0)] s7 ∧
 ∀ m12 : Nat, ∀ n13 : Int, ∀ s14 : AS, I10 m12 [(.int .i64 n13)] s14 →
 bsplit (decide ((n13 : Int) < 16))
 (RdI .u64 (aindex T Y_Vector (.agg g9) (.int .i64 n13)) fun n15 => AsSome a0 fun l16 o17 => IxQ (aindexAddr T Y_a16iVector (.ptr (some (l16, (o17 + 3)))) (.int .i64 (IntKind.wrap .i64 (a1 - 1)))) fun l18 o19 => IxQ (aindexAddr T Y_Vector (.ptr (some (l18, o19))) (.int .i64 n13)) fun l20 o21 => RdI .u64 (rd1 s14 l20 o21) fun n22 => RdI .u64 (amax true [(.int .u64 n22), (.int .u64 n15)]) fun n23 => AsSome a0 fun l24 o25 => IxQ (aindexAddr T Y_a16iVector (.ptr (some (l24, (o25 + 3)))) (.int .i64 (IntKind.wrap .i64 (a1 - 1)))) fun l26 o27 => IxQ (aindexAddr T Y_Vector (.ptr (some (l26, o27))) (.int .i64 n13)) fun l28 o29 => StQ (awr s14 l28 o29 [(.int .u64 n23)]) fun s30 => ∃ m', m' < m12 ∧ I10 m' [(.int .i64 (IntKind.wrap .i64 (n13 + 1)))] s30)
 (R (.int .i64 0) s14))))))

def A_stable_Matrix_Have : QA := (.seq .leaf (.seq (.wrap (.seq .leaf (.cond (.seq .leaf .leaf) (.seq .leaf (.cond (.seq .leaf .leaf) .leaf))))) (.seq (.seq .leaf (.wrap (.loop [(19, .int .i64)] [(7, 8), (19, 42)] (.seq .leaf (.seq (.cond .leaf .leaf) (.seq (.wrap (.seq .leaf (.draw 18))) .leaf)))))) (.seq .leaf .leaf))))

theorem q_stable_Matrix_Have (a0 : Option (Nat × Nat)) (a1 : Int) (a2 : List AV) (s : AS) (R : AV → AS → Prop) (h : Q_stable_Matrix_Have a0 a1 a2 s R) : ACalls Try.prog F_stable_Matrix_Have [(.ptr a0), (.int .i64 a1), (.agg a2)] s R :=
  ACalls.q (n := 43) (rs := [.tmp 6]) (A := A_stable_Matrix_Have) hT hmx Try.func46 (by kernel_rfl) rfl rfl rfl (by kernel_rfl) (by kernel_rfl) h

/-- what (*minster/stable.Matrix).Copy asks -/
def Q_stable_Matrix_Copy (a0 : Option (Nat × Nat)) (s : AS) (R : AV → AS → Prop) : Prop :=
 ACalls Try.prog F_stable_Matrix_there [(.ptr a0)] s fun v1 s2 => ∃ b3 : Bool, v1 = .bool b3 ∧ (bsplit (!b3)
 (R (.ptr none) s2)
 (AsSome a0 fun l4 o5 => RdL (rdc s2 l4 o5 259) fun g6 => NewQ (.cells [.int .i64 0, .int .i64 0, .map none, .int .u64 0, .int .u64 0, .int .u64 0, .int .u64 0, .int .u64 0, .int .u64 0, .int .u64 0, .int .u64 0, .int .u64 0, .int .u64 0, .int .u64 0, .int .u64 0, .int .u64 0, .int .u64 0, .int .u64 0, .int .u64 0, .int .u64 0, .int .u64 0, .int .u64 0, .int .u64 0, .int .u64 0, .int .u64 0, .int .u64 0, .int .u64 0, .int .u64 0, .int .u64 0, .int .u64 0, .int .u64 0, .int .u64 0, .int .u64 0, .int .u64 0, .int .u64 0, .int .u64 0, .int .u64 0, .int .u64 0, .int .u64 0, .int .u64 0, .int .u64 0, .int .u64 0, .int .u64 0, .int .u64 0, .int .u64 0, .int .u64 0, .int .u64 0, .int .u64 0, .int .u64 0, .int .u64 0, .int .u64 0, .int .u64 0, .int .u64 0, .int .u64 0, .int .u64 0, .int .u64 0, .int .u64 0, .int .u64 0, .int .u64 0, .int .u64 0, .int .u64 0, .int .u64 0, .int .u64 0, .int .u64 0, .int .u64 0, .int .u64 0, .int .u64 0, .int .u64 0, .int .u64 0, .int .u64 0, .int .u64 0, .int .u64 0, .int .u64 0, .int .u64 0, .int .u64 0, .int .u64 0, .int .u64 0, .int .u64 0, .int .u64 0, .int .u64 0, .int .u64 0, .int .u64 0, .int .u64 0, .int .u64 0, .int .u64 0, .int .u64 0, .int .u64 0, .int .u64 0, .int .u64 0, .int .u64 0, .int .u64 0, .int .u64 0, .int .u64 0, .int .u64 0, .int .u64 0, .int .u64 0, .int .u64 0, .int .u64 0, .int .u64 0, .int .u64 0, .int .u64 0, .int .u64 0, .int .u64 0, .int .u64 0, .int .u64 0, .int .u64 0, .int .u64 0, .int .u64 0, .int .u64 0, .int .u64 0, .int .u64 0, .int .u64 0, .int .u64 0, .int .u64 0, .int .u64 0, .int .u64 0, .int .u64 0, .int .u64 0, .int .u64 0, .int .u64 0, .int .u64 0, .int .u64 0, .int .u64 0, .int .u64 0, .int .u64 0, .int .u64 0, .int .u64 0, .int .u64 0, .int .u64 0, .int .u64 0, .int .u64 0, .int .u64 0, .int .u64 0, .int .u64 0, .int .u64 0, .int .u64 0, .int .u64 0, .int .u64 0, .int .u64 0, .int .u64 0, .int .u64 0, .int .u64 0, .int .u64 0, .int .u64 0, .int .u64 0, .int .u64 0, .int .u64 0, .int .u64 0, .int .u64 0, .int .u64 0, .int .u64 0, .int .u64 0, .int .u64 0, .int .u64 0, .int .u64 0, .int .u64 0, .int .u64 0, .int .u64 0, .int .u64 0, .int .u64 0, .int .u64 0, .int .u64 0, .int .u64 0, .int .u64 0, .int .u64 0, .int .u64 0, .int .u64 0, .int .u64 0, .int .u64 0, .int .u64 0, .int .u64 0, .int .u64 0, .int .u64 0, .int .u64 0, .int .u64 0, .int .u64 0, .int .u64 0, .int .u64 0, .int .u64 0, .int .u64 0, .int .u64 0, .int .u64 0, .int .u64 0, .int .u64 0, .int .u64 0, .int .u64 0, .int .u64 0, .int .u64 0, .int .u64 0, .int .u64 0, .int .u64 0, .int .u64 0, .int .u64 0, .int .u64 0, .int .u64 0, .int .u64 0, .int .u64 0, .int .u64 0, .int .u64 0, .int .u64 0, .int .u64 0, .int .u64 0, .int .u64 0, .int .u64 0, .int .u64 0, .int .u64 0, .int .u64 0, .int .u64 0, .int .u64 0, .int .u64 0, .int .u64 0, .int .u64 0, .int .u64 0, .int .u64 0, .int .u64 0, .int .u64 0, .int .u64 0, .int .u64 0, .int .u64 0, .int .u64 0, .int .u64 0, .int .u64 0, .int .u64 0, .int .u64 0, .int .u64 0, .int .u64 0, .int .u64 0, .int .u64 0, .int .u64 0, .int .u64 0, .int .u64 0, .int .u64 0, .int .u64 0, .int .u64 0, .int .u64 0, .int .u64 0, .int .u64 0, .int .u64 0, .int .u64 0, .int .u64 0, .int .u64 0, .int .u64 0, .int .u64 0, .int .u64 0, .int .u64 0, .int .u64 0, .int .u64 0, .int .u64 0, .int .u64 0, .int .u64 0, .int .u64 0, .int .u64 0, .int .u64 0, .int .u64 0, .int .u64 0, .int .u64 0, .int .u64 0, .int .u64 0, .int .u64 0] 0 false) s2 fun l7 s8 => OkC (some 259) g6 (StQ (awr s8 l7 0 g6) fun s9 => NewQ (.map [] 0 false) s9 fun l10 s11 => StQ (awr s11 l7 2 [(.map (some l10))]) fun s12 => AsSome a0 fun l13 o14 => RdM (rd1 s12 l13 (o14 + 2)) fun r15 => Bd2 (arange T Y_m_int_p_stable_view (.map r15) s12) fun v16 s17 => LoopQ fun I18 m19 => I18 m19 [] s17 ∧
 ∀ m20 : Nat, ∀ s21 : AS, I18 m20 [] s21 →
 JoinQ fun J22 =>
 (∀ b23 : Bool, ∀ s24 : AS, J22 [(.bool b23)] s24 →
 bsplit b23
 (RdE (aentry v16 s24) fun v25 v26 => ∃ n27 : Int, v25 = .int .i64 n27 ∧ (∃ p28 : Option (Nat × Nat), v26 = .ptr p28 ∧ (RdM (rd1 s24 l7 2) fun r29 => StQ (amapUpdate T Y_m_int_p_stable_view (.map r29) (.int .i64 n27) (.ptr p28) s24) fun s30 => ∃ m', m' < m20 ∧ I18 m' [] s30)))
 (R (.ptr (some (l7, 0))) s24)) ∧
 (NextP (acandM v16 s21)
 (J22 [(.bool false)] s21)
 fun v31 v32 s33 => J22 [(.bool true)] s33))))

def A_stable_Matrix_Copy : QA := (.seq .leaf (.seq (.seq .leaf (.cond (.seq .leaf .leaf) .leaf)) (.seq .leaf (.seq .leaf (.seq (.seq .leaf (.wrap (.loop [] [(4, 5), (19, 27)] (.join [(20, .bool)] [(19, 20)] .leaf (.seq (.cond .leaf .leaf) (.wrap (.seq .leaf .leaf))))))) (.seq .leaf .leaf))))))

theorem q_stable_Matrix_Copy (a0 : Option (Nat × Nat)) (s : AS) (R : AV → AS → Prop) (h : Q_stable_Matrix_Copy a0 s R) : ACalls Try.prog F_stable_Matrix_Copy [(.ptr a0)] s R :=
  ACalls.q (n := 28) (rs := [.tmp 2]) (A := A_stable_Matrix_Copy) hT hmx Try.func47 (by kernel_rfl) rfl rfl rfl (by kernel_rfl) (by kernel_rfl) h

/-- what minster/minsterlaw14.gone asks -/
def Q_law14igone (a0 : AV) (a1 : Int) (a2 : List AV) (s : AS) (R : AV → AS → Prop) : Prop :=
 One1 a2 (NewQ (.cells a2 0 false) s fun l1 s2 => LoopQ fun I3 m4 => I3 m4 [(.int .i64 0)] s2 ∧
 ∀ m5 : Nat, ∀ n6 : Int, ∀ s7 : AS, I3 m5 [(.int .i64 n6)] s7 →
 RdI .i64 (alenB T Y_s_minsterlaw14iAct a0 s7) fun n8 => bsplit (decide ((n6 : Int) < n8))
 (IxQ (aindexAddr T Y_s_minsterlaw14iAct a0 (.int .i64 n6)) fun l9 o10 => RdI .i64 (rd1 s7 l9 o10) fun n11 => bsplit ((n11 : Int) != 1) (∃ m', m' < m5 ∧ I3 m' [(.int .i64 (IntKind.wrap .i64 (n6 + 1)))] s7) (IxQ (aindexAddr T Y_s_minsterlaw14iAct a0 (.int .i64 n6)) fun l12 o13 => RdI .i64 (rd1 s7 l12 (o13 + 1)) fun n14 => bsplit ((n14 : Int) != a1) (∃ m', m' < m5 ∧ I3 m' [(.int .i64 (IntKind.wrap .i64 (n6 + 1)))] s7) (IxQ (aindexAddr T Y_s_minsterlaw14iAct a0 (.int .i64 n6)) fun l15 o16 => RdL (rdc s7 l15 o16 20) fun g17 => ACalls Try.prog F_law14imay [(.agg g17)] s7 fun v18 s19 => ∃ b20 : Bool, v18 = .bool b20 ∧ (bsplit (!b20)
 (∃ m', m' < m5 ∧ I3 m' [(.int .i64 (IntKind.wrap .i64 (n6 + 1)))] s19)
 (JoinQ fun J21 =>
 (∀ b22 : Bool, ∀ s23 : AS, J21 [(.bool b22)] s23 →
 JoinQ fun J24 =>
 (∀ b25 : Bool, ∀ s26 : AS, J24 [(.bool b25)] s26 →
 bsplit b22 (bsplit (!b25)
 (R (.bool true) s26)
 (∃ m', m' < m5 ∧ I3 m' [(.int .i64 (IntKind.wrap .i64 (n6 + 1)))] s26)) (∃ m', m' < m5 ∧ I3 m' [(.int .i64 (IntKind.wrap .i64 (n6 + 1)))] s26)) ∧
 (LoopQ fun I27 m28 => I27 m28 [(.bool false), (.int .i64 0)] s23 ∧
 ∀ m29 : Nat, ∀ b30 : Bool, ∀ n31 : Int, ∀ s32 : AS, I27 m29 [(.bool b30), (.int .i64 n31)] s32 →
 IxQ (aindexAddr T Y_s_minsterlaw14iAct a0 (.int .i64 n6)) fun l33 o34 => RdA (rd1 s32 l33 (o34 + 3)) fun v35 => RdI .i64 (alenB T Y_s_Dot v35 s32) fun n36 => bsplit (decide ((n31 : Int) < n36))
 (bsplit b30 (∃ m', m' < m29 ∧ I27 m' [(.bool true), (.int .i64 (IntKind.wrap .i64 (n31 + 1)))] s32) (IxQ (aindexAddr T Y_s_minsterlaw14iAct a0 (.int .i64 n6)) fun l37 o38 => RdA (rd1 s32 l37 (o38 + 3)) fun v39 => IxQ (aindexAddr T Y_s_Dot v39 (.int .i64 n31)) fun l40 o41 => RdL (rdc s32 l40 o41 2) fun g42 => RdL (rdc s32 l1 0 2) fun g43 => RdO (aeq T 100 Y_Dot (.agg g42) (.agg g43)) fun b44 => ∃ m', m' < m29 ∧ I27 m' [(.bool b44), (.int .i64 (IntKind.wrap .i64 (n31 + 1)))] s32))
 (J24 [(.bool b30)] s32))) ∧
 (LoopQ fun I45 m46 => I45 m46 [(.bool false), (.int .i64 0)] s19 ∧
 ∀ m47 : Nat, ∀ b48 : Bool, ∀ n49 : Int, ∀ s50 : AS, I45 m47 [(.bool b48), (.int .i64 n49)] s50 →
 IxQ (aindexAddr T Y_s_minsterlaw14iAct a0 (.int .i64 n6)) fun l51 o52 => RdA (rd1 s50 l51 (o52 + 2)) fun v53 => RdI .i64 (alenB T Y_s_Dot v53 s50) fun n54 => bsplit (decide ((n49 : Int) < n54))
 (bsplit b48 (∃ m', m' < m47 ∧ I45 m' [(.bool true), (.int .i64 (IntKind.wrap .i64 (n49 + 1)))] s50) (IxQ (aindexAddr T Y_s_minsterlaw14iAct a0 (.int .i64 n6)) fun l55 o56 => RdA (rd1 s50 l55 (o56 + 2)) fun v57 => IxQ (aindexAddr T Y_s_Dot v57 (.int .i64 n49)) fun l58 o59 => RdL (rdc s50 l58 o59 2) fun g60 => RdL (rdc s50 l1 0 2) fun g61 => RdO (aeq T 100 Y_Dot (.agg g60) (.agg g61)) fun b62 => bsplit b62 (RdL (rdc s50 l1 0 2) fun g63 => ACalls Try.prog F_ref04iMay [(.agg g63)] s50 fun v64 s65 => ∃ b66 : Bool, v64 = .bool b66 ∧ (∃ m', m' < m47 ∧ I45 m' [(.bool b66), (.int .i64 (IntKind.wrap .i64 (n49 + 1)))] s65)) (∃ m', m' < m47 ∧ I45 m' [(.bool false), (.int .i64 (IntKind.wrap .i64 (n49 + 1)))] s50)))
 (J21 [(.bool b48)] s50)))))))
 (R (.bool false) s7))

def A_law14igone : QA := (.seq .leaf (.seq (.seq .leaf (.wrap (.loop [(7, .int .i64)] [(6, 95)] (.seq (.seq .leaf (.cond .leaf .leaf)) (.seq (.wrap (.seq (.seq .leaf (.cond .leaf .leaf)) (.seq .leaf (.join [(8, .bool)] [(8, 8), (10, 10), (41, 67)] (.seq .leaf (.wrap (.loop [(8, .bool), (10, .int .i64)] [(8, 8), (10, 10), (41, 67)] (.seq (.seq .leaf (.cond .leaf .leaf)) (.seq (.wrap (.draw 11)) .leaf))))) (.join [(9, .bool)] [(9, 9), (11, 11), (68, 90)] (.seq .leaf (.wrap (.loop [(9, .bool), (11, .int .i64)] [(9, 9), (11, 11), (68, 90)] (.seq (.seq .leaf (.cond .leaf .leaf)) (.seq (.wrap (.draw 11)) .leaf))))) (.seq .leaf (.cond (.seq .leaf .leaf) .leaf))))))) .leaf))))) (.seq .leaf .leaf)))

theorem q_law14igone (a0 : AV) (a1 : Int) (a2 : List AV) (s : AS) (R : AV → AS → Prop) (h : Q_law14igone a0 a1 a2 s R) : ACalls Try.prog F_law14igone [a0, (.int .i64 a1), (.agg a2)] s R :=
  ACalls.q (n := 96) (rs := [.tmp 6]) (A := A_law14igone) hT hmx Try.func48 (by kernel_rfl) rfl rfl rfl (by kernel_rfl) (by kernel_rfl) h

/-- what (*minster/stable.Matrix).Gone asks -/
def Q_stable_Matrix_Gone (a0 : Option (Nat × Nat)) (a1 : Int) (a2 : List AV) (s : AS) (R : AV → AS → Prop) : Prop :=
 One1 a2 (NewQ (.cells a2 0 false) s fun l1 s2 => ACalls Try.prog F_stable_Matrix_there [(.ptr a0)] s2 fun v3 s4 => ∃ b5 : Bool, v3 = .bool b5 ∧ (bsplit (!b5) (R (.bool false) s4) (AsSome a0 fun l6 o7 => RdM (rd1 s4 l6 (o7 + 2)) fun r8 => RdP (alookup T Y_m_int_p_stable_view (.map r8) (.int .i64 a1) false s4) fun p9 => RdO (aeq T 100 Y_p_stable_view (.ptr p9) (.ptr none)) fun b10 => bsplit b10
 (R (.bool false) s4)
 (DrawQ fun S V => AsSome a0 fun l11 o12 => RdM (rd1 s4 l11 (o12 + 2)) fun r13 => RdP (alookup T Y_m_int_p_stable_view (.map r13) (.int .i64 a1) false s4) fun p14 => AsSome p14 fun l15 o16 => RdP (rd1 s4 l15 o16) fun p17 => RdL (rdc s4 l1 0 2) fun g18 => (∀ s19 : AS, Ext s4 s19 → WFs s19 → (True) → ACalls Try.prog F_ctx_Ctx_Has [(.ptr p17), (.agg g18)] s19 fun v20 s21 => ∃ b22 : Bool, v20 = .bool b22 ∧ ((Ext s19 s21 ∧ S 10 [(.func F_ctx_Ctx_Has []), (.ptr p17), (.agg g18)] (.bool b22) s21 ∧ V 10 [(.func F_ctx_Ctx_Has []), (.ptr p17), (.agg g18)] (.bool b22)))) ∧ (∃ v, V 10 [(.func F_ctx_Ctx_Has []), (.ptr p17), (.agg g18)] v) ∧ ∀ v23 : AV, V 10 [(.func F_ctx_Ctx_Has []), (.ptr p17), (.agg g18)] v23 → ∃ b24 : Bool, v23 = .bool b24 ∧ (bsplit b24 (AsSome a0 fun l25 o26 => RdM (rd1 s4 l25 (o26 + 2)) fun r27 => RdP (alookup T Y_m_int_p_stable_view (.map r27) (.int .i64 a1) false s4) fun p28 => AsSome p28 fun l29 o30 => RdM (rd1 s4 l29 (o30 + 1)) fun r31 => RdL (rdc s4 l1 0 2) fun g32 => ∀ s33 : AS, Ext s4 s33 → WFs s33 → (S 10 [(.func F_ctx_Ctx_Has []), (.ptr p17), (.agg g18)] (.bool b24) s33 ∧ True) → RdG (alookup T Y_m_Dot_struct__is_bool__ (.map r31) (.agg g32) false s33) fun g35 => RdB (g35[0]?) fun b36 => R (.bool (!b36)) s33) (∀ s37 : AS, Ext s4 s37 → WFs s37 → (S 10 [(.func F_ctx_Ctx_Has []), (.ptr p17), (.agg g18)] (.bool b24) s37 ∧ True) → R (.bool false) s37))))))

def A_stable_Matrix_Gone : QA := (.seq .leaf (.seq (.seq .leaf (.cond (.seq .leaf .leaf) .leaf)) (.seq (.drawH 22 [[], [], [], [], [], [], [], [], [], [], [], [], [], [], [], [], [], [], [], [], [], []] [10]) .leaf)))

theorem q_stable_Matrix_Gone (a0 : Option (Nat × Nat)) (a1 : Int) (a2 : List AV) (s : AS) (R : AV → AS → Prop) (h : Q_stable_Matrix_Gone a0 a1 a2 s R) : ACalls Try.prog F_stable_Matrix_Gone [(.ptr a0), (.int .i64 a1), (.agg a2)] s R :=
  ACalls.q (n := 45) (rs := [.tmp 6]) (A := A_stable_Matrix_Gone) hT hmx Try.func49 (by kernel_rfl) rfl rfl rfl (by kernel_rfl) (by kernel_rfl) h

/-- what (*minster/stable.Matrix).All asks -/
def Q_stable_Matrix_All (a0 : Option (Nat × Nat)) (s : AS) (R : AV → AS → Prop) : Prop :=
 NewQ (.cells [.int .u64 0, .int .u64 0, .int .u64 0, .int .u64 0, .int .u64 0, .int .u64 0, .int .u64 0, .int .u64 0, .int .u64 0, .int .u64 0, .int .u64 0, .int .u64 0, .int .u64 0, .int .u64 0, .int .u64 0, .int .u64 0] 0 false) s fun l1 s2 => JoinQ fun J3 =>
 (∀ b4 : Bool, ∀ s5 : AS, J3 [(.bool b4)] s5 →
 bsplit b4
 (RdG (abuild T Y_Vector []) fun g6 => OkC (some 16) g6 (StQ (awr s5 l1 0 g6) fun s7 => RdL (rdc s7 l1 0 16) fun g8 => R (.agg g8) s7))
 (NewQ (.cells [.int .u64 0, .int .u64 0, .int .u64 0, .int .u64 0, .int .u64 0, .int .u64 0, .int .u64 0, .int .u64 0, .int .u64 0, .int .u64 0, .int .u64 0, .int .u64 0, .int .u64 0, .int .u64 0, .int .u64 0, .int .u64 0] 0 false) s5 fun l9 s10 => LoopQ fun I11 m12 => I11 m12 [(.int .i64 0)] s10 ∧
 ∀ m13 : Nat, ∀ n14 : Int, ∀ s15 : AS, I11 m13 [(.int .i64 n14)] s15 →
 bsplit (decide ((n14 : Int) < 16))
 (JoinQ fun J16 =>
 (∀ v17 : AV, ∀ s18 : AS, J16 [v17] s18 →
 ACalls Try.prog F_slices_Min__s_uint64iuint64 [v17] s18 fun v19 s20 => ∃ n21 : Int, v19 = .int .u64 n21 ∧ (IxQ (aindexAddr T Y_Vector (.ptr (some (l9, 0))) (.int .i64 n14)) fun l22 o23 => StQ (awr s20 l22 o23 [(.int .u64 n21)]) fun s24 => ∃ m', m' < m13 ∧ I11 m' [(.int .i64 (IntKind.wrap .i64 (n14 + 1)))] s24)) ∧
 (LoopQ fun I25 m26 => I25 m26 [(.slc none 0 0 true), (.int .i64 1)] s15 ∧
 ∀ m27 : Nat, ∀ v28 : AV, ∀ n29 : Int, ∀ s30 : AS, I25 m27 [v28, (.int .i64 n29)] s30 →
 AsSome a0 fun l31 o32 => RdI .i64 (rd1 s30 l31 o32) fun n33 => bsplit (decide ((n29 : Int) ≤ n33))
 (AsSome a0 fun l34 o35 => RdI .i64 (rd1 s30 l34 (o35 + 1)) fun n36 => bsplit ((n29 : Int) != n36)
 (AsSome a0 fun l37 o38 => IxQ (aindexAddr T Y_a16iVector (.ptr (some (l37, (o38 + 3)))) (.int .i64 (IntKind.wrap .i64 (n29 - 1)))) fun l39 o40 => IxQ (aindexAddr T Y_Vector (.ptr (some (l39, o40))) (.int .i64 n14)) fun l41 o42 => RdI .u64 (rd1 s30 l41 o42) fun n43 => RdL (absl T Y_s_uint64 1 [(0, (.int .u64 n43))]) fun g44 => NewQ (.cells g44 0 false) s30 fun l45 s46 => Bd2 (aappend T Y_s_uint64 Y_s_uint64 v28 (.slc (some (l45, 0)) 1 1 true) s46) fun v47 s48 => ∃ m', m' < m27 ∧ I25 m' [v47, (.int .i64 (IntKind.wrap .i64 (n29 + 1)))] s48)
 (∃ m', m' < m27 ∧ I25 m' [v28, (.int .i64 (IntKind.wrap .i64 (n29 + 1)))] s30))
 (J16 [v28] s30)))
 (RdL (rdc s15 l9 0 16) fun g49 => OkC (some 16) g49 (StQ (awr s15 l1 0 g49) fun s50 => RdL (rdc s50 l1 0 16) fun g51 => R (.agg g51) s50)))) ∧
 (ACalls Try.prog F_stable_Matrix_there [(.ptr a0)] s2 fun v52 s53 => ∃ b54 : Bool, v52 = .bool b54 ∧ (bsplit (!b54) (J3 [(.bool true)] s53) (AsSome a0 fun l55 o56 => RdI .i64 (rd1 s53 l55 o56) fun n57 => J3 [(.bool ((n57 : Int) == 1))] s53)))

def A_stable_Matrix_All : QA := (.seq .leaf (.seq (.join [(16, .bool)] [(7, 16)] .leaf (.cond (.seq .leaf .leaf) .leaf)) (.seq .leaf (.seq (.seq .leaf (.wrap (.loop [(18, .int .i64)] [(4, 6), (18, 51)] (.seq .leaf (.seq (.cond .leaf .leaf) (.seq (.wrap (.seq .leaf (.seq .leaf (.join [(5, .any)] [(5, 6), (21, 46)] (.seq .leaf (.wrap (.loop [(5, .any), (6, .int .i64)] [(5, 6), (21, 46)] (.seq (.seq .leaf (.cond .leaf .leaf)) (.seq (.wrap (.seq .leaf (.cond .leaf .leaf))) .leaf))))) .leaf)))) .leaf)))))) (.seq .leaf .leaf)))))

theorem q_stable_Matrix_All (a0 : Option (Nat × Nat)) (s : AS) (R : AV → AS → Prop) (h : Q_stable_Matrix_All a0 s R) : ACalls Try.prog F_stable_Matrix_All [(.ptr a0)] s R :=
  ACalls.q (n := 53) (rs := [.cell 2 43]) (A := A_stable_Matrix_All) hT hmx Try.func50 (by kernel_rfl) rfl rfl rfl (by kernel_rfl) (by kernel_rfl) h

/-- what (*minster/stable.Matrix).Of asks -/
def Q_stable_Matrix_Of (a0 : Option (Nat × Nat)) (a1 : Int) (s : AS) (R : AV → AS → Prop) : Prop :=
 NewQ (.cells [.int .u64 0, .int .u64 0, .int .u64 0, .int .u64 0, .int .u64 0, .int .u64 0, .int .u64 0, .int .u64 0, .int .u64 0, .int .u64 0, .int .u64 0, .int .u64 0, .int .u64 0, .int .u64 0, .int .u64 0, .int .u64 0] 0 false) s fun l1 s2 => JoinQ fun J3 =>
 (∀ b4 : Bool, ∀ s5 : AS, J3 [(.bool b4)] s5 →
 bsplit b4
 (RdG (abuild T Y_Vector []) fun g6 => OkC (some 16) g6 (StQ (awr s5 l1 0 g6) fun s7 => RdL (rdc s7 l1 0 16) fun g8 => R (.agg g8) s7))
 (AsSome a0 fun l9 o10 => IxQ (aindexAddr T Y_a16iVector (.ptr (some (l9, (o10 + 3)))) (.int .i64 (IntKind.wrap .i64 (a1 - 1)))) fun l11 o12 => RdL (rdc s5 l11 o12 16) fun g13 => OkC (some 16) g13 (StQ (awr s5 l1 0 g13) fun s14 => RdL (rdc s14 l1 0 16) fun g15 => R (.agg g15) s14))) ∧
 (ACalls Try.prog F_stable_Matrix_there [(.ptr a0)] s2 fun v16 s17 => ∃ b18 : Bool, v16 = .bool b18 ∧ (bsplit (!b18) (J3 [(.bool true)] s17) (ACalls Try.prog F_stable_Matrix_other [(.ptr a0), (.int .i64 a1)] s17 fun v19 s20 => ∃ b21 : Bool, v19 = .bool b21 ∧ (J3 [(.bool (!b21))] s20))))

def A_stable_Matrix_Of : QA := (.seq .leaf (.seq (.join [(13, .bool)] [(5, 13)] .leaf (.cond (.seq .leaf .leaf) .leaf)) (.seq .leaf .leaf)))

theorem q_stable_Matrix_Of (a0 : Option (Nat × Nat)) (a1 : Int) (s : AS) (R : AV → AS → Prop) (h : Q_stable_Matrix_Of a0 a1 s R) : ACalls Try.prog F_stable_Matrix_Of [(.ptr a0), (.int .i64 a1)] s R :=
  ACalls.q (n := 22) (rs := [.cell 4 43]) (A := A_stable_Matrix_Of) hT hmx Try.func51 (by kernel_rfl) rfl rfl rfl (by kernel_rfl) (by kernel_rfl) h

/-- what (*minster/stable.Matrix).there asks -/
def Q_stable_Matrix_there (a0 : Option (Nat × Nat)) (s : AS) (R : AV → AS → Prop) : Prop :=
 RdO (aeq T 100 Y_p_stable_Matrix (.ptr a0) (.ptr none)) fun b1 => bsplit (!b1) (AsSome a0 fun l2 o3 => RdM (rd1 s l2 (o3 + 2)) fun r4 => RdO (aeq T 100 Y_m_int_p_stable_view (.map r4) (.map none)) fun b5 => R (.bool (!b5)) s) (R (.bool false) s)

def A_stable_Matrix_there : QA := (.seq .leaf (.seq .leaf .leaf))

theorem q_stable_Matrix_there (a0 : Option (Nat × Nat)) (s : AS) (R : AV → AS → Prop) (h : Q_stable_Matrix_there a0 s R) : ACalls Try.prog F_stable_Matrix_there [(.ptr a0)] s R :=
  ACalls.q (n := 12) (rs := [.tmp 2]) (A := A_stable_Matrix_there) hT hmx Try.func65 (by kernel_rfl) rfl rfl rfl (by kernel_rfl) (by kernel_rfl) h

/-- what (*minster/stable.Matrix).other asks -/
def Q_stable_Matrix_other (a0 : Option (Nat × Nat)) (a1 : Int) (s : AS) (R : AV → AS → Prop) : Prop :=
 bsplit (decide ((a1 : Int) ≥ 1)) (AsSome a0 fun l1 o2 => RdI .i64 (rd1 s l1 o2) fun n3 => bsplit (decide ((a1 : Int) ≤ n3)) (AsSome a0 fun l4 o5 => RdI .i64 (rd1 s l4 (o5 + 1)) fun n6 => R (.bool ((a1 : Int) != n6)) s) (R (.bool false) s)) (R (.bool false) s)

def A_stable_Matrix_other : QA := (.seq .leaf (.seq .leaf .leaf))

theorem q_stable_Matrix_other (a0 : Option (Nat × Nat)) (a1 : Int) (s : AS) (R : AV → AS → Prop) (h : Q_stable_Matrix_other a0 a1 s R) : ACalls Try.prog F_stable_Matrix_other [(.ptr a0), (.int .i64 a1)] s R :=
  ACalls.q (n := 23) (rs := [.tmp 4]) (A := A_stable_Matrix_other) hT hmx Try.func66 (by kernel_rfl) rfl rfl rfl (by kernel_rfl) (by kernel_rfl) h

/-- what minster/minsterlaw14.StablePlays asks -/
def Q_law14iStablePlays (a0 : Int) (a1 : Int) (a2 : AV) (a3 : AV) (s : AS) (R : AV → AS → Prop) : Prop :=
 JoinQ fun J1 =>
 (∀ b2 : Bool, ∀ s3 : AS, J1 [(.bool b2)] s3 →
 bsplit b2
 (ACalls Try.prog F_law14iknown [] s3 fun v4 s5 => ∃ b6 : Bool, v4 = .bool b6 ∧ (R (.bool b6) s5))
 (ACalls Try.prog F_stable_New [(.int .i64 a0), (.int .i64 a1)] s3 fun v7 s8 => ∃ p9 : Option (Nat × Nat), ∃ n10 : Int, v7 = .tup [(.ptr p9), (.int .i64 n10)] ∧ (JoinQ fun J11 =>
 (∀ b12 : Bool, ∀ s13 : AS, J11 [(.bool b12)] s13 →
 bsplit b12
 (bsplit ((n10 : Int) == 2) (RdO (aeq T 100 Y_p_stable_Matrix (.ptr p9) (.ptr none)) fun b14 => bsplit b14 (ACalls Try.prog F_law14iknown [] s13 fun v15 s16 => ∃ b17 : Bool, v15 = .bool b17 ∧ (R (.bool b17) s16)) (R (.bool false) s13)) (R (.bool false) s13))
 (bsplit ((n10 : Int) != 0)
 (R (.bool false) s13)
 (NewQ (.cells [.int .u64 0, .int .u64 0, .int .u64 0, .int .u64 0, .int .u64 0, .int .u64 0, .int .u64 0, .int .u64 0, .int .u64 0, .int .u64 0, .int .u64 0, .int .u64 0, .int .u64 0, .int .u64 0, .int .u64 0, .int .u64 0, .int .u64 0, .int .u64 0, .int .u64 0, .int .u64 0, .int .u64 0, .int .u64 0, .int .u64 0, .int .u64 0, .int .u64 0, .int .u64 0, .int .u64 0, .int .u64 0, .int .u64 0, .int .u64 0, .int .u64 0, .int .u64 0, .int .u64 0, .int .u64 0, .int .u64 0, .int .u64 0, .int .u64 0, .int .u64 0, .int .u64 0, .int .u64 0, .int .u64 0, .int .u64 0, .int .u64 0, .int .u64 0, .int .u64 0, .int .u64 0, .int .u64 0, .int .u64 0, .int .u64 0, .int .u64 0, .int .u64 0, .int .u64 0, .int .u64 0, .int .u64 0, .int .u64 0, .int .u64 0, .int .u64 0, .int .u64 0, .int .u64 0, .int .u64 0, .int .u64 0, .int .u64 0, .int .u64 0, .int .u64 0, .int .u64 0, .int .u64 0, .int .u64 0, .int .u64 0, .int .u64 0, .int .u64 0, .int .u64 0, .int .u64 0, .int .u64 0, .int .u64 0, .int .u64 0, .int .u64 0, .int .u64 0, .int .u64 0, .int .u64 0, .int .u64 0, .int .u64 0, .int .u64 0, .int .u64 0, .int .u64 0, .int .u64 0, .int .u64 0, .int .u64 0, .int .u64 0, .int .u64 0, .int .u64 0, .int .u64 0, .int .u64 0, .int .u64 0, .int .u64 0, .int .u64 0, .int .u64 0, .int .u64 0, .int .u64 0, .int .u64 0, .int .u64 0, .int .u64 0, .int .u64 0, .int .u64 0, .int .u64 0, .int .u64 0, .int .u64 0, .int .u64 0, .int .u64 0, .int .u64 0, .int .u64 0, .int .u64 0, .int .u64 0, .int .u64 0, .int .u64 0, .int .u64 0, .int .u64 0, .int .u64 0, .int .u64 0, .int .u64 0, .int .u64 0, .int .u64 0, .int .u64 0, .int .u64 0, .int .u64 0, .int .u64 0, .int .u64 0, .int .u64 0, .int .u64 0, .int .u64 0, .int .u64 0, .int .u64 0, .int .u64 0, .int .u64 0, .int .u64 0, .int .u64 0, .int .u64 0, .int .u64 0, .int .u64 0, .int .u64 0, .int .u64 0, .int .u64 0, .int .u64 0, .int .u64 0, .int .u64 0, .int .u64 0, .int .u64 0, .int .u64 0, .int .u64 0, .int .u64 0, .int .u64 0, .int .u64 0, .int .u64 0, .int .u64 0, .int .u64 0, .int .u64 0, .int .u64 0, .int .u64 0, .int .u64 0, .int .u64 0, .int .u64 0, .int .u64 0, .int .u64 0, .int .u64 0, .int .u64 0, .int .u64 0, .int .u64 0, .int .u64 0, .int .u64 0, .int .u64 0, .int .u64 0, .int .u64 0, .int .u64 0, .int .u64 0, .int .u64 0, .int .u64 0, .int .u64 0, .int .u64 0, .int .u64 0, .int .u64 0, .int .u64 0, .int .u64 0, .int .u64 0, .int .u64 0, .int .u64 0, .int .u64 0, .int .u64 0, .int .u64 0, .int .u64 0, .int .u64 0, .int .u64 0, .int .u64 0, .int .u64 0, .int .u64 0, .int .u64 0, .int .u64 0, .int .u64 0, .int .u64 0, .int .u64 0, .int .u64 0, .int .u64 0, .int .u64 0, .int .u64 0, .int .u64 0, .int .u64 0, .int .u64 0, .int .u64 0, .int .u64 0, .int .u64 0, .int .u64 0, .int .u64 0, .int .u64 0, .int .u64 0, .int .u64 0, .int .u64 0, .int .u64 0, .int .u64 0, .int .u64 0, .int .u64 0, .int .u64 0, .int .u64 0, .int .u64 0, .int .u64 0, .int .u64 0, .int .u64 0, .int .u64 0, .int .u64 0, .int .u64 0, .int .u64 0, .int .u64 0, .int .u64 0, .int .u64 0, .int .u64 0, .int .u64 0, .int .u64 0, .int .u64 0, .int .u64 0, .int .u64 0, .int .u64 0, .int .u64 0, .int .u64 0, .int .u64 0, .int .u64 0, .int .u64 0, .int .u64 0, .int .u64 0, .int .u64 0, .int .u64 0, .int .u64 0, .int .u64 0, .int .u64 0, .int .u64 0, .int .u64 0, .int .u64 0, .int .u64 0, .int .u64 0, .int .u64 0, .int .u64 0, .int .u64 0, .int .u64 0, .int .u64 0, .int .u64 0, .int .u64 0, .int .u64 0, .int .u64 0, .int .u64 0, .int .u64 0, .int .u64 0, .int .u64 0, .int .u64 0, .int .u64 0, .int .u64 0, .int .u64 0] 0 false) s13 fun l18 s19 => JoinQ fun J20 =>
 (∀ s21 : AS, J20 [] s21 →
 NewQ (.cells [.int .u64 0, .int .u64 0, .int .u64 0, .int .u64 0, .int .u64 0, .int .u64 0, .int .u64 0, .int .u64 0, .int .u64 0, .int .u64 0, .int .u64 0, .int .u64 0, .int .u64 0, .int .u64 0, .int .u64 0, .int .u64 0] 0 false) s21 fun l22 s23 => JoinQ fun J24 =>
 (∀ s25 : AS, J24 [] s25 →
 DrawQ fun S V => (∀ s26 : AS, Ext s25 s26 → WFs s26 → (True) → ACalls Try.prog F_stable_Matrix_All [(.ptr p9)] s26 fun v27 s28 => ∃ g29 : List AV, v27 = .agg g29 ∧ ((Ext s26 s28 ∧ S 1 [(.func F_stable_Matrix_All []), (.ptr p9)] (.agg g29) s28 ∧ V 1 [(.func F_stable_Matrix_All []), (.ptr p9)] (.agg g29)))) ∧ (∃ v, V 1 [(.func F_stable_Matrix_All []), (.ptr p9)] v) ∧ ∀ v30 : AV, V 1 [(.func F_stable_Matrix_All []), (.ptr p9)] v30 → ∃ g31 : List AV, v30 = .agg g31 ∧ (RdL (rdc s25 l22 0 16) fun g32 => ∀ s33 : AS, Ext s25 s33 → WFs s33 → (S 1 [(.func F_stable_Matrix_All []), (.ptr p9)] (.agg g31) s33 ∧ True) → RdO (aeq T 100 Y_Vector (.agg g31) (.agg g32)) fun b35 => bsplit (!b35)
 (R (.bool false) s33)
 (LoopQ fun I36 m37 => I36 m37 [(.int .i64 0)] s33 ∧
 ∀ m38 : Nat, ∀ n39 : Int, ∀ s40 : AS, I36 m38 [(.int .i64 n39)] s40 →
 bsplit (decide ((n39 : Int) < 17))
 (DrawQ fun S V => (∀ s41 : AS, Ext s40 s41 → WFs s41 → (True) → ACalls Try.prog F_stable_Matrix_Of [(.ptr p9), (.int .i64 n39)] s41 fun v42 s43 => ∃ g44 : List AV, v42 = .agg g44 ∧ ((Ext s41 s43 ∧ S 2 [(.func F_stable_Matrix_Of []), (.ptr p9), (.int .i64 n39)] (.agg g44) s43 ∧ V 2 [(.func F_stable_Matrix_Of []), (.ptr p9), (.int .i64 n39)] (.agg g44)))) ∧ (∃ v, V 2 [(.func F_stable_Matrix_Of []), (.ptr p9), (.int .i64 n39)] v) ∧ ∀ v45 : AV, V 2 [(.func F_stable_Matrix_Of []), (.ptr p9), (.int .i64 n39)] v45 → ∃ g46 : List AV, v45 = .agg g46 ∧ (IxQ (aindexAddr T Y_a17iVector (.ptr (some (l18, 0))) (.int .i64 n39)) fun l47 o48 => RdL (rdc s40 l47 o48 16) fun g49 => ∀ s50 : AS, Ext s40 s50 → WFs s50 → (S 2 [(.func F_stable_Matrix_Of []), (.ptr p9), (.int .i64 n39)] (.agg g46) s50 ∧ True) → RdO (aeq T 100 Y_Vector (.agg g46) (.agg g49)) fun b52 => bsplit (!b52)
 (R (.bool false) s50)
 (∃ m', m' < m38 ∧ I36 m' [(.int .i64 (IntKind.wrap .i64 (n39 + 1)))] s50)))
 (ACalls Try.prog F_law14iknown [] s40 fun v53 s54 => ∃ b55 : Bool, v53 = .bool b55 ∧ (R (.bool b55) s54))))) ∧
 (LoopQ fun I56 m57 => I56 m57 [(.int .i64 0)] s23 ∧
 ∀ m58 : Nat, ∀ n59 : Int, ∀ s60 : AS, I56 m58 [(.int .i64 n59)] s60 →
 bsplit (decide ((n59 : Int) < 16)) (bsplit (decide ((a0 : Int) > 1))
 (LoopQ fun I61 m62 => I61 m62 [(.bool true), (.int .i64 1)] s60 ∧
 ∀ m63 : Nat, ∀ b64 : Bool, ∀ n65 : Int, ∀ s66 : AS, I61 m63 [(.bool b64), (.int .i64 n65)] s66 →
 bsplit (decide ((n65 : Int) ≤ a0))
 (JoinQ fun J67 =>
 (∀ b68 : Bool, ∀ s69 : AS, J67 [(.bool b68)] s69 →
 bsplit b68
 (IxQ (aindexAddr T Y_a17iVector (.ptr (some (l18, 0))) (.int .i64 n65)) fun l70 o71 => IxQ (aindexAddr T Y_Vector (.ptr (some (l70, o71))) (.int .i64 n59)) fun l72 o73 => RdI .u64 (rd1 s69 l72 o73) fun n74 => IxQ (aindexAddr T Y_Vector (.ptr (some (l22, 0))) (.int .i64 n59)) fun l75 o76 => StQ (awr s69 l75 o76 [(.int .u64 n74)]) fun s77 => ∃ m', m' < m63 ∧ I61 m' [(.bool false), (.int .i64 (IntKind.wrap .i64 (n65 + 1)))] s77)
 (∃ m', m' < m63 ∧ I61 m' [(.bool b64), (.int .i64 (IntKind.wrap .i64 (n65 + 1)))] s69)) ∧
 (bsplit ((n65 : Int) != a1) (bsplit b64 (J67 [(.bool true)] s66) (IxQ (aindexAddr T Y_a17iVector (.ptr (some (l18, 0))) (.int .i64 n65)) fun l78 o79 => IxQ (aindexAddr T Y_Vector (.ptr (some (l78, o79))) (.int .i64 n59)) fun l80 o81 => RdI .u64 (rd1 s66 l80 o81) fun n82 => IxQ (aindexAddr T Y_Vector (.ptr (some (l22, 0))) (.int .i64 n59)) fun l83 o84 => RdI .u64 (rd1 s66 l83 o84) fun n85 => J67 [(.bool (decide ((n82 : Int) < n85)))] s66)) (J67 [(.bool false)] s66)))
 (∃ m', m' < m58 ∧ I56 m' [(.int .i64 (IntKind.wrap .i64 (n59 + 1)))] s66))
 (J24 [] s60)) (J24 [] s60))) ∧
 (LoopQ fun I86 m87 => I86 m87 [(.int .i64 0)] s19 ∧
 ∀ m88 : Nat, ∀ n89 : Int, ∀ s90 : AS, I86 m88 [(.int .i64 n89)] s90 →
 RdI .i64 (alenB T Y_s_minsterlaw14iAct a2 s90) fun n91 => bsplit (decide ((n89 : Int) < n91))
 (IxQ (aindexAddr T Y_s_minsterlaw14iAct a2 (.int .i64 n89)) fun l92 o93 => RdL (rdc s90 l92 o93 20) fun g94 => NewQ (.cells [.int .i64 0, .int .i64 0, .slc none 0 0 true, .slc none 0 0 true, .int .u64 0, .int .u64 0, .int .u64 0, .int .u64 0, .int .u64 0, .int .u64 0, .int .u64 0, .int .u64 0, .int .u64 0, .int .u64 0, .int .u64 0, .int .u64 0, .int .u64 0, .int .u64 0, .int .u64 0, .int .u64 0] 0 false) s90 fun l95 s96 => OkC (some 20) g94 (StQ (awr s96 l95 0 g94) fun s97 => JoinQ fun J98 =>
 (∀ b99 : Bool, ∀ s100 : AS, J98 [(.bool b99)] s100 →
 JoinQ fun J101 =>
 (∀ s102 : AS, J101 [] s102 →
 ACalls Try.prog F_stable_Matrix_Copy [(.ptr p9)] s102 fun v103 s104 => ∃ p105 : Option (Nat × Nat), v103 = .ptr p105 ∧ (LoopQ fun I106 m107 => I106 m107 [(.int .i64 0)] s104 ∧
 ∀ m108 : Nat, ∀ n109 : Int, ∀ s110 : AS, I106 m108 [(.int .i64 n109)] s110 →
 RdI .i64 (alenB T Y_s_Dot a3 s110) fun n111 => bsplit (decide ((n109 : Int) < n111))
 (IxQ (aindexAddr T Y_s_Dot a3 (.int .i64 n109)) fun l112 o113 => RdL (rdc s110 l112 o113 2) fun g114 => ACalls Try.prog F_ref04iMay [(.agg g114)] s110 fun v115 s116 => ∃ b117 : Bool, v115 = .bool b117 ∧ (JoinQ fun J118 =>
 (∀ b119 : Bool, ∀ s120 : AS, J118 [(.bool b119)] s120 →
 IxQ (aindexAddr T Y_s_Dot a3 (.int .i64 n109)) fun l121 o122 => RdL (rdc s120 l121 o122 2) fun g123 => ACalls Try.prog F_stable_Matrix_Stable [(.ptr p9), (.agg g123)] s120 fun v124 s125 => ∃ b126 : Bool, v124 = .bool b126 ∧ (bsplit (!((b126 : Bool) == b119))
 (R (.bool false) s125)
 (∃ m', m' < m108 ∧ I106 m' [(.int .i64 (IntKind.wrap .i64 (n109 + 1)))] s125))) ∧
 (LoopQ fun I127 m128 => I127 m128 [(.bool b117), (.int .i64 (-1))] s116 ∧
 ∀ m129 : Nat, ∀ b130 : Bool, ∀ n131 : Int, ∀ s132 : AS, I127 m129 [(.bool b130), (.int .i64 n131)] s132 →
 bsplit (decide ((n131 : Int) < 18))
 (JoinQ fun J133 =>
 (∀ b134 : Bool, ∀ s135 : AS, J133 [(.bool b134)] s135 →
 IxQ (aindexAddr T Y_s_Dot a3 (.int .i64 n109)) fun l136 o137 => RdL (rdc s135 l136 o137 2) fun g138 => ACalls Try.prog F_stable_Matrix_Gone [(.ptr p9), (.int .i64 n131), (.agg g138)] s135 fun v139 s140 => ∃ b141 : Bool, v139 = .bool b141 ∧ (bsplit (!((b141 : Bool) == b134)) (R (.bool false) s140) (IxQ (aindexAddr T Y_s_Dot a3 (.int .i64 n109)) fun l142 o143 => RdL (rdc s140 l142 o143 2) fun g144 => ACalls Try.prog F_stable_Matrix_Gone [(.ptr p105), (.int .i64 n131), (.agg g144)] s140 fun v145 s146 => ∃ b147 : Bool, v145 = .bool b147 ∧ (bsplit (!((b147 : Bool) == b134))
 (R (.bool false) s146)
 (JoinQ fun J148 =>
 (∀ b149 : Bool, ∀ s150 : AS, J148 [(.bool b149)] s150 →
 bsplit b149
 (bsplit b130 (∃ m', m' < m129 ∧ I127 m' [(.bool b134), (.int .i64 (IntKind.wrap .i64 (n131 + 1)))] s150) (∃ m', m' < m129 ∧ I127 m' [(.bool false), (.int .i64 (IntKind.wrap .i64 (n131 + 1)))] s150))
 (∃ m', m' < m129 ∧ I127 m' [(.bool b130), (.int .i64 (IntKind.wrap .i64 (n131 + 1)))] s150)) ∧
 (bsplit (decide ((n131 : Int) ≥ 1)) (bsplit (decide ((n131 : Int) ≤ a0)) (J148 [(.bool ((n131 : Int) != a1))] s146) (J148 [(.bool false)] s146)) (J148 [(.bool false)] s146))))))) ∧
 (bsplit (decide ((n131 : Int) ≥ 1)) (bsplit (decide ((n131 : Int) ≤ a0)) (bsplit ((n131 : Int) != a1) (RdA (aslice T Y_s_minsterlaw14iAct a2 none (some (.int .i64 (IntKind.wrap .i64 (n89 + 1)))) none) fun v151 => IxQ (aindexAddr T Y_s_Dot a3 (.int .i64 n109)) fun l152 o153 => RdL (rdc s132 l152 o153 2) fun g154 => ACalls Try.prog F_law14igone [v151, (.int .i64 n131), (.agg g154)] s132 fun v155 s156 => ∃ b157 : Bool, v155 = .bool b157 ∧ (J133 [(.bool b157)] s156)) (J133 [(.bool false)] s132)) (J133 [(.bool false)] s132)) (J133 [(.bool false)] s132)))
 (J118 [(.bool b130)] s132))))
 (∃ m', m' < m88 ∧ I86 m' [(.int .i64 (IntKind.wrap .i64 (n89 + 1)))] s110))) ∧
 (RdI .i64 (rd1 s100 l95 0) fun n158 => bsplit ((n158 : Int) == 1)
 (DrawQ fun S V => RdI .i64 (rd1 s100 l95 1) fun n159 => RdA (rd1 s100 l95 2) fun v160 => (∀ s161 : AS, Ext s100 s161 → WFs s161 → (True) → ACalls Try.prog F_law14iof [v160] s161 fun v162 s163 => ∃ p164 : Option (Nat × Nat), v162 = .ptr p164 ∧ ((Ext s161 s163 ∧ S 5 [(.func F_law14iof []), v160] (.ptr p164) s163 ∧ V 5 [(.func F_law14iof []), v160] (.ptr p164)))) ∧ (∃ v, V 5 [(.func F_law14iof []), v160] v) ∧ ∀ v165 : AV, V 5 [(.func F_law14iof []), v160] v165 → ∃ p166 : Option (Nat × Nat), v165 = .ptr p166 ∧ (RdA (rd1 s100 l95 3) fun v167 => ∀ s168 : AS, Ext s100 s168 → WFs s168 → (S 5 [(.func F_law14iof []), v160] (.ptr p166) s168 ∧ True) → ACalls Try.prog F_stable_Matrix_Know [(.ptr p9), (.int .i64 n159), (.ptr p166), v167] s168 fun v170 s171 => ∃ n172 : Int, v170 = .int .i64 n172 ∧ (JoinQ fun J173 =>
 (∀ b174 : Bool, ∀ s175 : AS, J173 [(.bool b174)] s175 →
 bsplit (!((b174 : Bool) == ((n172 : Int) == 0))) (R (.bool false) s175) (bsplit (!b174) (bsplit ((n172 : Int) != 2)
 (R (.bool false) s175)
 (J101 [] s175)) (J101 [] s175))) ∧
 (bsplit b99 (RdL (rdc s171 l95 0 20) fun g176 => ACalls Try.prog F_law14imay [(.agg g176)] s171 fun v177 s178 => ∃ b179 : Bool, v177 = .bool b179 ∧ (J173 [(.bool b179)] s178)) (J173 [(.bool false)] s171)))))
 (bsplit ((n158 : Int) == 2)
 (RdI .i64 (rd1 s100 l95 1) fun n180 => RdL (rdc s100 l95 4 16) fun g181 => ACalls Try.prog F_stable_Matrix_Have [(.ptr p9), (.int .i64 n180), (.agg g181)] s100 fun v182 s183 => ∃ n184 : Int, v182 = .int .i64 n184 ∧ (JoinQ fun J185 =>
 (∀ s186 : AS, J185 [] s186 →
 LoopQ fun I187 m188 => I187 m188 [(.int .i64 0)] s186 ∧
 ∀ m189 : Nat, ∀ n190 : Int, ∀ s191 : AS, I187 m189 [(.int .i64 n190)] s191 →
 bsplit (decide ((n190 : Int) < 16)) (bsplit b99
 (IxQ (aindexAddr T Y_Vector (.ptr (some (l95, 4))) (.int .i64 n190)) fun l192 o193 => RdI .u64 (rd1 s191 l192 o193) fun n194 => RdI .i64 (rd1 s191 l95 1) fun n195 => IxQ (aindexAddr T Y_a17iVector (.ptr (some (l18, 0))) (.int .i64 n195)) fun l196 o197 => IxQ (aindexAddr T Y_Vector (.ptr (some (l196, o197))) (.int .i64 n190)) fun l198 o199 => RdI .u64 (rd1 s191 l198 o199) fun n200 => bsplit (decide ((n194 : Int) > n200))
 (RdI .i64 (rd1 s191 l95 1) fun n201 => IxQ (aindexAddr T Y_Vector (.ptr (some (l95, 4))) (.int .i64 n190)) fun l202 o203 => RdI .u64 (rd1 s191 l202 o203) fun n204 => IxQ (aindexAddr T Y_a17iVector (.ptr (some (l18, 0))) (.int .i64 n201)) fun l205 o206 => IxQ (aindexAddr T Y_Vector (.ptr (some (l205, o206))) (.int .i64 n190)) fun l207 o208 => StQ (awr s191 l207 o208 [(.int .u64 n204)]) fun s209 => ∃ m', m' < m189 ∧ I187 m' [(.int .i64 (IntKind.wrap .i64 (n190 + 1)))] s209)
 (∃ m', m' < m189 ∧ I187 m' [(.int .i64 (IntKind.wrap .i64 (n190 + 1)))] s191))
 (J101 [] s191)) (J101 [] s191)) ∧
 (bsplit (!((b99 : Bool) == ((n184 : Int) == 0))) (R (.bool false) s183) (bsplit (!b99) (bsplit ((n184 : Int) != 2)
 (R (.bool false) s183)
 (J185 [] s183)) (J185 [] s183)))))
 (J101 [] s100)))) ∧
 (RdI .i64 (rd1 s97 l95 1) fun n210 => bsplit (decide ((n210 : Int) ≥ 1)) (RdI .i64 (rd1 s97 l95 1) fun n211 => bsplit (decide ((n211 : Int) ≤ a0)) (RdI .i64 (rd1 s97 l95 1) fun n212 => J98 [(.bool ((n212 : Int) != a1))] s97) (J98 [(.bool false)] s97)) (J98 [(.bool false)] s97))))
 (J20 [] s90))))) ∧
 (bsplit (decide ((a0 : Int) < 1)) (J11 [(.bool true)] s8) (bsplit (decide ((a0 : Int) > 16)) (J11 [(.bool true)] s8) (bsplit (decide ((a1 : Int) < 1)) (J11 [(.bool true)] s8) (J11 [(.bool (decide ((a1 : Int) > a0)))] s8))))))) ∧
 (ACalls Try.prog F_law14ifew [a2] s fun v213 s214 => ∃ b215 : Bool, v213 = .bool b215 ∧ (bsplit (!b215) (J1 [(.bool true)] s214) (RdI .i64 (alenB T Y_s_Dot a3 s214) fun n216 => J1 [(.bool (decide ((n216 : Int) > 40)))] s214)))

def A_law14iStablePlays : QA := (.seq .leaf (.seq (.join [(36, .bool)] [(29, 36)] .leaf (.cond (.seq .leaf .leaf) .leaf)) (.seq .leaf (.seq (.join [(58, .bool)] [(44, 58)] .leaf (.cond (.seq .leaf .leaf) .leaf)) (.seq (.seq .leaf (.cond (.seq .leaf .leaf) .leaf)) (.seq .leaf (.join [] [(8, 8), (12, 23), (70, 256)] (.seq .leaf (.wrap (.loop [(12, .int .i64)] [(8, 8), (12, 23), (70, 256)] (.seq (.seq .leaf (.cond .leaf .leaf)) (.seq (.wrap (.seq .leaf (.join [(14, .bool)] [(14, 14), (80, 94)] .leaf (.join [] [(8, 8), (15, 18), (95, 171)] (.seq .leaf (.wrap (.seq .leaf (.cond (.seq (.drawH 8 [[], [], [], [], [], [], [], []] [5]) (.join [(16, .bool)] [(16, 16), (108, 112)] .leaf (.seq .leaf (.cond (.seq .leaf .leaf) .leaf)))) (.seq .leaf (.cond (.seq .leaf (.join [] [(8, 8), (133, 144)] (.seq .leaf (.cond (.seq .leaf .leaf) .leaf)) (.seq .leaf (.wrap (.loop [(18, .int .i64)] [(18, 18), (145, 171)] (.seq (.seq .leaf (.cond .leaf .leaf)) (.seq (.wrap (.seq (.draw 10) (.cond (.draw 8) .leaf))) .leaf))))))) .leaf)))))) (.seq .leaf (.seq .leaf (.wrap (.loop [(20, .int .i64)] [(8, 8), (20, 23), (174, 256)] (.seq (.seq .leaf (.cond .leaf .leaf)) (.seq (.wrap (.seq .leaf (.join [(21, .bool)] [(8, 8), (21, 23), (185, 248)] (.seq .leaf (.wrap (.loop [(21, .bool), (22, .int .i64)] [(8, 8), (21, 23), (185, 248)] (.seq (.seq .leaf (.cond .leaf .leaf)) (.seq (.wrap (.join [(23, .bool)] [(23, 23), (189, 212)] (.draw 22) (.seq (.seq .leaf (.cond (.seq .leaf .leaf) .leaf)) (.join [(244, .bool)] [(233, 244)] .leaf (.cond .leaf .leaf))))) .leaf))))) (.seq .leaf (.cond (.seq .leaf .leaf) .leaf))))) .leaf)))))))))) .leaf))))) (.seq .leaf (.join [] [(25, 27), (257, 293)] (.seq .leaf (.wrap (.loop [(25, .int .i64)] [(25, 27), (257, 293)] (.seq (.seq .leaf (.cond .leaf .leaf)) (.seq (.wrap (.seq .leaf (.seq .leaf (.wrap (.loop [(26, .bool), (27, .int .i64)] [(26, 27), (265, 293)] (.seq (.seq .leaf (.cond .leaf .leaf)) (.seq (.wrap (.join [(286, .bool)] [(270, 286)] (.draw 14) (.cond (.seq .leaf .leaf) .leaf))) .leaf))))))) .leaf))))) (.seq (.seq (.drawH 3 [[], [], []] [1]) (.cond (.seq .leaf .leaf) .leaf)) (.seq (.seq .leaf (.wrap (.loop [(28, .int .i64)] [(8, 8), (28, 28), (298, 308)] (.seq (.seq .leaf (.cond .leaf .leaf)) (.seq (.wrap (.seq (.drawH 6 [[], [], [], [], [], []] [2]) (.cond (.seq .leaf .leaf) .leaf))) .leaf))))) (.seq .leaf .leaf))))))))))))

theorem q_law14iStablePlays (a0 : Int) (a1 : Int) (a2 : AV) (a3 : AV) (s : AS) (R : AV → AS → Prop) (h : Q_law14iStablePlays a0 a1 a2 a3 s R) : ACalls Try.prog F_law14iStablePlays [(.int .i64 a0), (.int .i64 a1), a2, a3] s R :=
  ACalls.q (n := 310) (rs := [.tmp 8]) (A := A_law14iStablePlays) hT hmx Try.func10 (by kernel_rfl) rfl rfl rfl (by kernel_rfl) (by kernel_rfl) h

end Go.Proofs.Ytbfchlimonimkaa
end

section
set_option linter.unusedSimpArgs false
set_option linter.unusedVariables false
namespace Go.Proofs.Ytbfchlimonimkaa
open Go.Am Go.Minster

/-! ### maps of dots -/
abbrev dK (d : Dot) : AV := .agg (dotC d)
abbrev bV (b : Bool) : AV := .agg [.bool b]
abbrev iK (n : Int) : AV := .int .i64 n
abbrev pV (q : Nat) : AV := .ptr (some (q, 0))
theorem tri_ok_Dot : ∀ r c : Int, akeyOk T 100 Y_Dot (.agg [.int .i64 r, .int .u64 c]) = true := by
  intro r c; kernel_rfl
theorem mp_dots : MpTy (K := Dot) T Y_m_Dot_struct__is_bool__ Y_Dot Y_struct__is_bool__ dK (bV false) :=
  ⟨u_m_Dot_struct__is_bool__, fun a b => dot_eq a b, fun a => tri_ok_Dot a.r a.c, fun a => by simp [abits, bitsL, dotC], zr_struct__is_bool__⟩
theorem int_ok : ∀ n : Int, akeyOk T 100 Y_int (.int .i64 n) = true := by
  intro n; kernel_rfl
theorem aeq_i (a b : Int) : aeq T 100 Y_int (.int .i64 a) (.int .i64 b) = some (decide (a = b)) := by
  rw [aeqInt u_int]; congr 1
theorem mp_told : MpTy (K := Int) T Y_m_int_p_stable_view Y_int Y_p_stable_view iK (.ptr none) :=
  ⟨u_m_int_p_stable_view, aeq_i, int_ok, fun a => by simp [abits], zr_p_stable_view⟩
/-- a map that holds just the dots of f -/
def DMap (s : AS) (l : Nat) (f : Dot → Bool) : Prop := ∃ es c, MpAt dK bV s l es c false ∧ ∀ d, mget es d = if f d then some true else none
theorem DMap.mut {s s' : AS} {l : Nat} {f : Dot → Bool} {L : List Nat} (h : DMap s l f) (e : Mut L s s') (hl : l ∉ L) : DMap s' l f := by
  obtain ⟨es, c, h1, h2⟩ := h; exact ⟨es, c, h1.mut e hl, h2⟩
theorem DMap.ext {s s' : AS} {l : Nat} {f : Dot → Bool} (h : DMap s l f) (e : Ext s s') : DMap s' l f := h.mut (L := []) e.mut (by simp)
theorem DMap.new {s : AS} {l : Nat} (h : s.h l = some (.map [] 0 false)) : DMap s l fun _ => false := ⟨[], 0, MpAt.new h, fun d => rfl⟩
theorem DMap.look {s : AS} {l : Nat} {f : Dot → Bool} (h : DMap s l f) (d : Dot) : alookup T Y_m_Dot_struct__is_bool__ (.map (some l)) (.agg (dotC d)) false s = some (.agg [.bool (f d)]) := by
  obtain ⟨es, c, h1, h2⟩ := h
  rw [show (AV.agg (dotC d)) = dK d from rfl, h1.find mp_dots d false, h2]
  cases f d <;> rfl
theorem DMap.upd {s : AS} (hw : WFs s) {l : Nat} {f : Dot → Bool} (h : DMap s l f) (d : Dot) {Q : AS → Prop} (hq : ∀ s', DMap s' l (fun x => f x || decide (x = d)) → WFs s' → Mut [l] s s' → Q s') :
    StQ (amapUpdate T Y_m_Dot_struct__is_bool__ (.map (some l)) (.agg (dotC d)) (.agg [.bool true]) s) Q := by
  obtain ⟨es, c, h1, h2⟩ := h
  refine MpAt.upd mp_dots hw h1 d true fun s' es' c' h1' h2' hw' m' => hq s' ⟨es', c', h1', fun x => ?_⟩ hw' m'
  rw [h2', h2]
  by_cases e : x = d
  · simp [e]
  · simp [e]
theorem DMap.congr {s : AS} {l : Nat} {f g : Dot → Bool} (h : DMap s l f) (e : ∀ d, f d = g d) : DMap s l g := by
  have : f = g := funext e
  rw [← this]; exact h
theorem DMap.there {s : AS} {l : Nat} {f : Dot → Bool} (h : DMap s l f) : s.h l ≠ none := by
  obtain ⟨es, c, h1, _⟩ := h; rw [h1.obj]; simp
theorem is_build : abuild T Y_struct__is_bool__ [(0, .bool true)] = some (.agg [.bool true]) := by kernel_rfl

/-! ### views -/
/-- what a region told: a context, and what is live in it -/
structure Vw where
  v : List Int
  ex : List Dot
  live : Dot → Bool
def Vw.has (x : Vw) (d : Dot) : Bool := hasD x.v x.ex d

/-- a context, all of whose memory is in F -/
structure CtxF (F : List Nat) (s : AS) (p : Nat) (v : List Int) (ex : List Dot) : Prop where
  len : v.length = 16
  lab : p ∈ F
  mem : ∃ w, Own s p (v.map (.int .u64) ++ [w, .bool true]) ∧ w.one = true ∧ Gro dotC 2 s w ex ∧ ∀ la ∈ labOf w, la ∈ F
theorem CtxF.at {F : List Nat} {s : AS} {p : Nat} {v : List Int} {ex : List Dot} (h : CtxF F s p v ex) : CtxAt s p v ex := by
  obtain ⟨h1, _, w, h2, h3, h4, h5⟩ := h
  exact ⟨h1, w, h2, h3, h4.sl dotC_len⟩
theorem CtxF.mut {F : List Nat} {s s' : AS} {L : List Nat} {p : Nat} {v : List Int} {ex : List Dot} (h : CtxF F s p v ex) (m : Mut L s s') (hL : ∀ x ∈ L, x ∉ F) : CtxF F s' p v ex := by
  obtain ⟨h1, h0, w, h2, h3, h4, h5⟩ := h
  exact ⟨h1, h0, w, h2.mut m (fun hx => hL p hx h0), h3, h4.mut m fun x hx hm => hL x hm (h5 x hx), h5⟩
theorem CtxF.sub {F F' : List Nat} {s : AS} {p : Nat} {v : List Int} {ex : List Dot} (h : CtxF F s p v ex) (hF : ∀ x ∈ F, x ∈ F') : CtxF F' s p v ex := by
  obtain ⟨h1, h0, w, h2, h3, h4, h5⟩ := h
  exact ⟨h1, hF _ h0, w, h2, h3, h4, fun x hx => hF x (h5 x hx)⟩
/-- a new context's memory -/
theorem CtxG.toF {s0 s : AS} {p : Nat} {v : List Int} {ex : List Dot} (h : CtxG s0 s p v ex) (hp : s0.h p = none) : ∃ F, CtxF F s p v ex ∧ (∀ x ∈ F, s0.h x = none) ∧ ∀ x ∈ F, s.h x ≠ none := by
  obtain ⟨h1, w, h2, h3, h4, h5⟩ := h
  refine ⟨p :: labOf w, ⟨h1, by simp, w, h2, h3, h4, fun x hx => by simp [hx]⟩, fun x hx => ?_, fun x hx => ?_⟩
  · rcases List.mem_cons.1 hx with rfl | hx
    · exact hp
    · exact h5 x hx
  · rcases List.mem_cons.1 hx with rfl | hx
    · rw [h2]; simp
    · rcases h4 with ⟨_, a, rfl⟩ | ⟨la, rfl, ho⟩
      · simp [labOf] at hx
      · obtain rfl : x = la := by simpa [labOf] using hx
        rw [ho]; simp

theorem CtxG.toF2 {s0 s : AS} {p : Nat} {v : List Int} {ex : List Dot} (h : CtxG s0 s p v ex) : ∃ F, CtxF F s p v ex ∧ (∀ x ∈ F, x = p ∨ s0.h x = none) ∧ ∀ x ∈ F, s.h x ≠ none := by
  obtain ⟨h1, w, h2, h3, h4, h5⟩ := h
  refine ⟨p :: labOf w, ⟨h1, by simp, w, h2, h3, h4, fun x hx => by simp [hx]⟩, fun x hx => ?_, fun x hx => ?_⟩
  · rcases List.mem_cons.1 hx with rfl | hx
    · exact .inl rfl
    · exact .inr (h5 x hx)
  · rcases List.mem_cons.1 hx with rfl | hx
    · rw [h2]; simp
    · rcases h4 with ⟨_, a, rfl⟩ | ⟨la, rfl, ho⟩
      · simp [labOf] at hx
      · obtain rfl : x = la := by simpa [labOf] using hx
        rw [ho]; simp

structure Vw.Ok (x : Vw) : Prop where
  ok : COk x.v x.ex
  gap : Gap x.v x.ex
  len : x.ex.length ≤ 4096
/-- a view in memory that is in F -/
structure VwF (F : List Nat) (s : AS) (q : Nat) (x : Vw) : Prop where
  ok : x.Ok
  mem : ∃ pc ml, s.h q = some (.cells [.ptr (some (pc, 0)), .map (some ml)] 0 false) ∧ q ∈ F ∧ CtxF F s pc x.v x.ex ∧ ml ∈ F ∧ DMap s ml x.live
theorem VwF.mut {F : List Nat} {s s' : AS} {L : List Nat} {q : Nat} {x : Vw} (h : VwF F s q x) (m : Mut L s s') (hL : ∀ x ∈ L, x ∉ F) : VwF F s' q x := by
  obtain ⟨h1, pc, ml, h2, h3, h4, h5, h6⟩ := h
  exact ⟨h1, pc, ml, m.1 _ _ (fun hx => hL q hx h3) h2, h3, h4.mut m hL, h5, h6.mut m fun hx => hL ml hx h5⟩
theorem VwF.sub {F F' : List Nat} {s : AS} {q : Nat} {x : Vw} (h : VwF F s q x) (hF : ∀ x ∈ F, x ∈ F') : VwF F' s q x := by
  obtain ⟨h1, pc, ml, h2, h3, h4, h5, h6⟩ := h
  exact ⟨h1, pc, ml, h2, hF _ h3, h4.sub hF, hF _ h5, h6⟩

/-! ### matrices -/
/-- a matrix in memory: its views are in F; the matrix itself and its map are not -/
structure MatF (F : List Nat) (s : AS) (p m : Nat) (n o : Int) (told : Int → Option Vw) (has : List Int) : Prop where
  len : has.length = 256
  obj : Own s p (.int .i64 n :: .int .i64 o :: .map (some m) :: has.map (.int .u64))
  map : ∃ es c, MpAt iK pV s m es c false ∧ ∀ r, match told r with
    | none => mget es r = none
    | some x => ∃ q, mget es r = some q ∧ VwF F s q x
  pF : p ∉ F
  mF : m ∉ F
  pm : p ≠ m
  rng : 1 ≤ n ∧ n ≤ 16 ∧ 1 ≤ o ∧ o ≤ n
  Ft : ∀ x ∈ F, s.h x ≠ none
section
variable {F : List Nat} {s s' : AS} {p m : Nat} {n o : Int} {told : Int → Option Vw} {has : List Int}
theorem MatF.there {L : List Nat} (h : MatF F s p m n o told has) (e : Mut L s s') (hL : ∀ x ∈ L, x ∉ F) : ∀ x ∈ F, s'.h x ≠ none := by
  intro x hx
  cases hq : s.h x with
  | none => exact absurd hq (h.Ft x hx)
  | some ob => rw [e.1 x ob (fun hm => hL x hm hx) hq]; simp
theorem MatF.mut {L : List Nat} (h : MatF F s p m n o told has) (e : Mut L s s') (hL : ∀ x ∈ L, x ∉ F) (hp : p ∉ L) (hm : m ∉ L) : MatF F s' p m n o told has := by
  obtain ⟨es, c, h1, h2⟩ := h.map
  refine ⟨h.len, h.obj.mut e hp, ⟨es, c, h1.mut e hm, fun r => ?_⟩, h.pF, h.mF, h.pm, h.rng, h.there e hL⟩
  have := h2 r
  cases hq : told r with
  | none => rw [hq] at this; exact this
  | some x =>
    rw [hq] at this
    obtain ⟨q, a, b⟩ := this
    exact ⟨q, a, b.mut e hL⟩
theorem MatF.ext (h : MatF F s p m n o told has) (e : Ext s s') : MatF F s' p m n o told has := h.mut (L := []) e.mut (by simp) (by simp) (by simp)
theorem MatF.mthere (h : MatF F s p m n o told has) : s.h m ≠ none := by
  obtain ⟨es, c, h1, _⟩ := h.map; rw [h1.obj]; simp
theorem MatF.pthere (h : MatF F s p m n o told has) : s.h p ≠ none := by rw [h.obj]; simp
theorem MatF.r0 (h : MatF F s p m n o told has) (e : Ext s s') : rd1 s' p 0 = some (.int .i64 n) := by rw [(h.obj.ext e).at.rd1]; rfl
theorem MatF.r1 (h : MatF F s p m n o told has) (e : Ext s s') : rd1 s' p (0 + 1) = some (.int .i64 o) := by rw [(h.obj.ext e).at.rd1]; rfl
theorem MatF.r2 (h : MatF F s p m n o told has) (e : Ext s s') : rd1 s' p (0 + 2) = some (.map (some m)) := by rw [(h.obj.ext e).at.rd1]; rfl

theorem aeq_map_nil (m : Nat) : aeq T 100 Y_m_int_p_stable_view (.map (some m)) (.map none) = some false := by
  simp [aeq, u_m_int_p_stable_view]
theorem there_ok (h : MatF F s p m n o told has) : ACalls Try.prog F_stable_Matrix_there [.ptr (some (p, 0))] s fun r s' => r = .bool true ∧ s' = s := by
  refine q_stable_Matrix_there _ _ _ ⟨_, aeqPtrNil u_p_stable_Matrix _, bsplit.yes rfl ⟨_, h.r2 (Ext.refl _), _, aeq_map_nil m, rfl, rfl⟩⟩
theorem other_ok (h : MatF F s p m n o told has) (r : Int) : ACalls Try.prog F_stable_Matrix_other [.ptr (some (p, 0)), .int .i64 r] s fun v s' => v = .bool (decide (1 ≤ r ∧ r ≤ n ∧ r ≠ o)) ∧ s' = s := by
  refine q_stable_Matrix_other _ _ _ _ (bsplit.dec (fun h1 => ⟨n, h.r0 (Ext.refl _), bsplit.dec (fun h2 => ⟨o, h.r1 (Ext.refl _), ?_, rfl⟩) (fun h2 => ⟨?_, rfl⟩)⟩) (fun h1 => ⟨?_, rfl⟩))
  · congr 1
    have : r ≥ 1 := h1
    by_cases e : r = o
    · subst e; simp
    · rw [decide_eq_true (show 1 ≤ r ∧ r ≤ n ∧ r ≠ o from ⟨by omega, h2, e⟩)]
      simpa using e
  · have : ¬ (1 ≤ r ∧ r ≤ n ∧ r ≠ o) := by omega
    simp [this]
  · have : ¬ (1 ≤ r ∧ r ≤ n ∧ r ≠ o) := by omega
    simp [this]

def sn (x : Option Vw) (d : Dot) : Bool := match x with | some x => x.has d | none => false
def lvo (x : Option Vw) (d : Dot) : Bool := match x with | some x => x.live d | none => false
def lno (x : Option Vw) : Nat := match x with | some x => x.ex.length | none => 0
/-- has a region a dot gone? -/
def gn (x : Option Vw) (d : Dot) : Bool := sn x d && !lvo x d

/-- a region's view -/
theorem MatF.look (h : MatF F s p m n o told has) (r : Int) (e : Ext s s') : ∃ a : Option (Nat × Nat), alookup T Y_m_int_p_stable_view (.map (some m)) (.int .i64 r) false s' = some (.ptr a) ∧
    match told r with
    | none => a = none
    | some x => ∃ q, a = some (q, 0) ∧ VwF F s' q x := by
  obtain ⟨es, c, h1, h2⟩ := (h.ext e).map
  have hl := (h1.find mp_told r false)
  have := h2 r
  cases hq : told r with
  | none =>
    rw [hq] at this
    have this : mget es r = none := this
    exact ⟨none, by rw [show (AV.int .i64 r) = iK r from rfl, hl, this]; rfl, rfl⟩
  | some x =>
    rw [hq] at this
    obtain ⟨q, a, b⟩ := this
    exact ⟨some (q, 0), by rw [show (AV.int .i64 r) = iK r from rfl, hl, a]; rfl, q, rfl, b⟩

theorem Gone_ok (h : MatF F s p m n o told has) (r : Int) (d : Dot) : ACalls Try.prog F_stable_Matrix_Gone [.ptr (some (p, 0)), .int .i64 r, .agg (dotC d)] s fun v s' => v = .bool (gn (told r) d) ∧ Ext s s' := by
  refine ACalls.pre fun hw => q_stable_Matrix_Gone _ _ _ _ _ ⟨rfl, NewQ.intro hw rfl fun l1 s2 F1 => ?_⟩
  refine ACalls.use (there_ok (h.ext F1.ext)) ?_
  rintro v s4 ⟨rfl, rfl⟩ w4
  obtain ⟨a, hl, ha⟩ := h.look r F1.ext
  refine ⟨_, rfl, bsplit.no rfl ⟨_, h.r2 F1.ext, a, hl, _, aeqPtrNil u_p_stable_view _, ?_⟩⟩
  cases hq : told r with
  | none =>
    rw [hq] at ha
    have ha : a = none := ha
    subst ha
    exact bsplit.yes rfl ⟨rfl, F1.ext⟩
  | some x =>
    rw [hq] at ha
    obtain ⟨q, rfl, hv⟩ := ha
    obtain ⟨ok, pc, ml, hq2, hqF, hc, hmF, hm⟩ := hv
    have hqa : At s4 q [.ptr (some (pc, 0)), .map (some ml)] := ⟨_, _, hq2⟩
    have hd : rdc s4 l1 0 2 = some (dotC d) := F1.own.at.rdc (by simp [dotC])
    refine bsplit.no rfl ⟨fun _ _ _ _ => True, fun _ _ v => v = .bool (hasD x.v x.ex d), fun _ _ _ _ _ _ _ => trivial, _, h.r2 F1.ext, _, hl, _, by rw [hqa.rd1]; rfl, _, hd, fun s19 e19 w19 _ => ?_, ⟨_, rfl⟩, ?_⟩
    · refine (ctx_Has_ok (hc.at.ext e19) ok.ok.r (by have := ok.len; omega) d).mono ?_
      rintro v s' ⟨rfl, e⟩
      exact ⟨_, rfl, e, trivial, rfl⟩
    · rintro v rfl
      refine ⟨_, rfl, bsplit.mk (fun hh => ?_) (fun hh s37 e37 _ _ => ?_)⟩
      · refine ⟨_, h.r2 F1.ext, _, hl, _, by rw [hqa.rd1]; rfl, _, hd, fun s33 e33 w33 _ => ⟨_, (hm.ext e33).look d, _, rfl, ?_, F1.ext.trans e33⟩⟩
        simp [gn, sn, lvo, Vw.has, hh]
      · refine ⟨?_, F1.ext.trans e37⟩
        simp [gn, sn, lvo, Vw.has, hh]

theorem Stable_ok (h : MatF F s p m n o told has) (d : Dot) : ACalls Try.prog F_stable_Matrix_Stable [.ptr (some (p, 0)), .agg (dotC d)] s fun v s' => Ext s s' ∧ ∃ b, v = .bool b ∧ (b = true ↔ d.may = true ∧ ∀ r, 1 ≤ r → r ≤ n → r ≠ o → gn (told r) d = true) := by
  refine ACalls.pre fun hw => q_stable_Matrix_Stable _ _ _ _ ⟨rfl, NewQ.intro hw rfl fun l1 s2 F1 => ?_⟩
  refine ACalls.use (there_ok (h.ext F1.ext)) ?_
  rintro v s4 ⟨rfl, rfl⟩ w4
  refine ⟨_, rfl, bsplit.no rfl ⟨_, F1.own.at.rdc (by simp [dotC]), ?_⟩⟩
  refine ACalls.use (ctx_May_ok d _) ?_
  rintro v s8 ⟨rfl, e8⟩ w8
  have E8 := F1.ext.trans e8
  refine ⟨_, rfl, bsplit.mk (fun hm => ⟨E8, false, rfl, ?_⟩) (fun hm => ?_)⟩
  · have hm' : d.may = false := by simpa using hm
    simp [hm']
  have hmay : d.may = true := by simpa using hm
  have hrng := h.rng
  refine ⟨fun m' vs s' => ∃ i : Nat, vs = [.int .i64 ((i : Int) + 1)] ∧ (i : Int) ≤ n ∧ m' = n.toNat - i ∧ Ext s8 s' ∧ WFs s' ∧ ∀ r, 1 ≤ r → r ≤ (i : Int) → r ≠ o → gn (told r) d = true, n.toNat, ⟨0, rfl, by omega, rfl, Ext.refl _, w8, fun r h1 h2 => by omega⟩, ?_⟩
  rintro m' n13 s14 ⟨i, hi, hin, rfl, e14, w14, all⟩
  simp only [List.cons.injEq, AV.int.injEq, true_and, and_true] at hi
  subst hi
  have E14 := E8.trans e14
  refine ⟨n, h.r0 E14, bsplit.dec (fun hle => ⟨o, h.r1 E14, ?_⟩) (fun hgt => ?_)⟩
  · have cont : ∀ s', Ext s8 s' → WFs s' → ((i : Int) + 1 ≠ o → gn (told ((i : Int) + 1)) d = true) → ∃ m', m' < n.toNat - i ∧ ∃ j : Nat, [AV.int .i64 (IntKind.wrap .i64 ((i : Int) + 1 + 1))] = [.int .i64 ((j : Int) + 1)] ∧ (j : Int) ≤ n ∧ m' = n.toNat - j ∧ Ext s8 s' ∧ WFs s' ∧ ∀ r, 1 ≤ r → r ≤ (j : Int) → r ≠ o → gn (told r) d = true := by
      intro s' e w hg
      refine ⟨n.toNat - (i + 1), by omega, i + 1, by rw [wrap_i' (by omega)]; congr 2, by omega, rfl, e, w, fun r h1 h2 h3 => ?_⟩
      by_cases hr : r ≤ (i : Int)
      · exact all r h1 hr h3
      · obtain rfl : r = (i : Int) + 1 := by omega
        exact hg h3
    refine bsplit.mk (fun hne => ?_) (fun heq => ?_)
    · refine ⟨_, (F1.own.ext (e8.trans e14)).at.rdc (by simp [dotC]), ?_⟩
      refine ACalls.use (Gone_ok (h.ext E14) _ d) ?_
      rintro v s23 ⟨rfl, e23⟩ w23
      refine ⟨_, rfl, bsplit.mk (fun hg => ⟨E14.trans e23, false, rfl, ?_⟩) (fun hg => cont s23 (e14.trans e23) w23 fun _ => by simpa using hg)⟩
      have hg' : gn (told ((i : Int) + 1)) d = false := by simpa using hg
      constructor
      · intro h; cases h
      · rintro ⟨_, h2⟩
        have := h2 ((i : Int) + 1) (by omega) hle (by simpa using hne)
        rw [hg'] at this; cases this
    · exact cont s14 e14 w14 fun hne => absurd (by simpa using heq) hne
  · refine ⟨E14, true, rfl, ?_⟩
    simp only [true_iff]
    exact ⟨hmay, fun r h1 h2 h3 => all r h1 (by omega) h3⟩
end
end Go.Proofs.Ytbfchlimonimkaa
end

section
set_option linter.unusedSimpArgs false
set_option linter.unusedVariables false
namespace Go.Proofs.Ytbfchlimonimkaa
open Go.Am Go.Minster

set_option maxRecDepth 100000 in
theorem known14_run : isT (xcall X1 100000 F_law14iknown [] s0) = true := by decide +kernel
theorem known14_ok (s : AS) : ACalls Try.prog F_law14iknown [] s fun v s' => v = .bool true ∧ s' = s := ACalls.closed (by kernel_rfl) (of_isT known14_run)

def zeros256 : List Int := List.replicate 256 0
theorem zeros256_len : zeros256.length = 256 := List.length_replicate
set_option maxRecDepth 100000 in
theorem mat_build (n o : Int) (m : Nat) : abuild T Y_stable_Matrix [(0, .int .i64 n), (1, .int .i64 o), (2, .map (some m))] = some (.agg (.int .i64 n :: .int .i64 o :: .map (some m) :: zeros256.map (.int .u64))) := by
  rw [abuild_pl (pl := [(0, 1), (1, 1), (2, 1), (3, 256)]) (by kernel_rfl) zr_stable_Matrix rfl]
  rfl
theorem view_build (p : Option (Nat × Nat)) (m : Option Nat) : abuild T Y_stable_view [(0, .ptr p), (1, .map m)] = some (.agg [.ptr p, .map m]) := by
  rw [abuild_pl (pl := [(0, 1), (1, 1)]) (by kernel_rfl) zr_stable_view rfl]
  rfl

theorem New_ok (n o : Int) (s : AS) : ACalls Try.prog F_stable_New [.int .i64 n, .int .i64 o] s fun v s' => Ext s s' ∧ ((¬ (1 ≤ n ∧ n ≤ 16 ∧ 1 ≤ o ∧ o ≤ n) ∧ v = .tup [.ptr none, .int .i64 2]) ∨ ((1 ≤ n ∧ n ≤ 16 ∧ 1 ≤ o ∧ o ≤ n) ∧ ∃ p m, v = .tup [.ptr (some (p, 0)), .int .i64 0] ∧ s.h p = none ∧ s.h m = none ∧ MatF [] s' p m n o (fun _ => none) zeros256)) := by
  refine ACalls.pre fun hw => q_stable_New _ _ _ _ ⟨fun vs s' => s' = s ∧ ∃ t, vs = [.bool t] ∧ (t = true ↔ ¬ (1 ≤ n ∧ n ≤ 16 ∧ 1 ≤ o ∧ o ≤ n)), ?_, bsplit.dec (fun h => ⟨rfl, _, rfl, by simp; omega⟩) (fun h1 => bsplit.dec (fun h => ⟨rfl, _, rfl, by simp; omega⟩) (fun h2 => bsplit.dec (fun h => ⟨rfl, _, rfl, by simp; omega⟩) (fun h3 => ⟨rfl, _, rfl, by simp; omega⟩)))⟩
  rintro t s3 ⟨rfl, t', ht, hiff⟩
  simp only [List.cons.injEq, AV.bool.injEq, and_true] at ht
  subst ht
  refine bsplit.mk (fun ht => ⟨Ext.refl _, .inl ⟨hiff.1 ht, rfl⟩⟩) (fun hf => NewQ.intro hw rfl fun m s5 F5 => ?_)
  have hrng : 1 ≤ n ∧ n ≤ 16 ∧ 1 ≤ o ∧ o ≤ n := by
    apply Decidable.byContradiction
    intro h
    rw [hiff.2 h] at hf; cases hf
  refine ⟨_, mat_build n o m, by simp [One1], NewQ.intro F5.wf rfl fun p s8 F8 => ⟨F5.ext.trans F8.ext, .inr ⟨hrng, p, m, rfl, F5.ext.none F8.no, F5.no, ⟨zeros256_len, F8.own, ⟨[], 0, MpAt.new (F8.ext.1 _ _ F5.at), fun r => rfl⟩, by simp, by simp, ?_, hrng, by simp⟩⟩⟩⟩
  rintro rfl
  have := F8.no
  rw [F5.at] at this; cases this

theorem of14_ok {s : AS} {a : AV} {la : List Dot} (ha : Dots s a la) (hn : la.length ≤ 1000) : ACalls Try.prog F_law14iof [a] s fun r s' => ∃ p v ex, r = .ptr (some (p, 0)) ∧ s.h p = none ∧ COk v ex ∧ Gap v ex ∧ ex.length ≤ la.length ∧ Ext s s' ∧ CtxAt s' p v ex ∧ ∀ x, hasD v ex x = true ↔ x.may = true ∧ x ∈ la := by
  refine q_law14iof _ _ _ ?_
  refine ACalls.use (ctx_New_ok _) ?_
  rintro r s2 ⟨p, rfl, hp, hc, e2⟩ hw2
  refine ⟨_, rfl, fun m vs s' => ∃ (i : Nat) (v : List Int) (ex : List Dot), vs = [.int .i64 (i : Nat)] ∧ i ≤ la.length ∧ m = la.length - i ∧ COk v ex ∧ Gap v ex ∧ ex.length ≤ i ∧ Ext s s' ∧ WFs s' ∧ CtxAt s' p v ex ∧ ∀ x, hasD v ex x = true ↔ x.may = true ∧ x ∈ la.take i, la.length, ⟨0, _, _, rfl, by omega, rfl, COk.zero, (fun y hy => by cases hy), by simp, e2, hw2, hc, fun x => by simp [has_zero]⟩, ?_⟩
  rintro m n s13 ⟨i, v, ex, hi, h6, rfl, ok, gap, hlen, e13, w13, c13, has⟩
  simp only [List.cons.injEq, AV.int.injEq, true_and, and_true] at hi
  subst hi
  refine ⟨_, ha.lenB u_s_Dot _, bsplit.dec (fun hlt => ?_) (fun hge => ⟨p, v, ex, rfl, hp, ok, gap, by omega, e13, c13, fun x => by rw [has, List.take_of_length_le (by omega)]⟩)⟩
  obtain ⟨x, hx⟩ := get_lt (l := la) (i := i) (by omega)
  obtain ⟨lx, o, h8, h9⟩ := ha.ix (by decide) dotC_len u_s_Dot z_Dot hx
  refine ⟨lx, o, h8 _, _, (h9 _ e13).2, ?_⟩
  refine ACalls.use (ctx_Add_ok c13 ok.v ok.r ok.m (by omega) x) ?_
  rintro r s25 ⟨rfl, c25, m25⟩ hw25
  obtain ⟨ok', gap', hl', has'⟩ := addD_any ok gap (by omega) x
  refine ⟨_, _, rfl, la.length - (i + 1), by omega, i + 1, _, _, by rw [wadd1 (by omega)], by omega, rfl, ok', gap', by omega, Ext.wr e13 hp m25, hw25, c25, fun y => ?_⟩
  rw [has', has, mem_take_succ hx]
  constructor
  · rintro (⟨h1, h2⟩ | ⟨rfl, h⟩)
    · exact ⟨h1, .inl h2⟩
    · exact ⟨h, .inr rfl⟩
  · rintro ⟨h1, h2 | h2⟩
    · exact .inl ⟨h1, h2⟩
    · exact .inr ⟨h2, h2 ▸ h1⟩

theorem any_all {es done : List (Dot × Bool × Nat)} {f : Dot → Bool} (hall : ∀ e ∈ es, e ∈ done) (hsub : ∀ e ∈ done, e ∈ es) (hget : ∀ d, mget es d = if f d then some true else none) (d : Dot) : done.any (fun e => decide (e.1 = d)) = f d := by
  have h := hget d
  cases hf : f d with
  | true =>
    rw [hf] at h
    obtain ⟨j, n, hj⟩ := mget_some (show mget es d = some true from h)
    rw [List.any_eq_true]
    exact ⟨_, hall _ (List.mem_of_getElem? hj), by simp⟩
  | false =>
    rw [hf] at h
    have h0 := mget_none.1 (show mget es d = none from h)
    rw [List.any_eq_false]
    intro e he
    simpa using h0 e (hsub e he)

/-- may these live dots be told with a context? -/
def mayL (v : List Int) (ex : List Dot) (l : List Dot) : Prop := (∀ (i : Nat) x y, l[i]? = some x → l[i + 1]? = some y → x.lt y = true) ∧ ∀ d ∈ l, hasD v ex d = true
/-- what a region's view becomes -/
structure Told (old : Option Vw) (v : List Int) (ex : List Dot) (l : List Dot) (x : Vw) : Prop where
  ok : x.Ok
  has : ∀ d, x.has d = (sn old d || hasD v ex d)
  live : ∀ d, x.live d = ((lvo old d && (decide (d ∈ l) || !hasD v ex d)) || (decide (d ∈ l) && (lvo old d || !sn old d)))
  len : x.ex.length ≤ lno old + ex.length

theorem told_set {F F' : List Nat} {s : AS} {p m : Nat} {n o : Int} {told : Int → Option Vw} {has : List Int} (hw : WFs s) (h : MatF F s p m n o told has) (r : Int) {q : Nat} {x : Vw} (hF : ∀ y ∈ F, y ∈ F') (hx : VwF F' s q x) (hp : p ∉ F') (hm : m ∉ F') (hth : ∀ y ∈ F', s.h y ≠ none) {Q : AS → Prop}
    (hq : ∀ s', MatF F' s' p m n o (fun r' => if r' = r then some x else told r') has → WFs s' → Mut [m] s s' → Q s') : StQ (amapUpdate T Y_m_int_p_stable_view (.map (some m)) (.int .i64 r) (.ptr (some (q, 0))) s) Q := by
  obtain ⟨es, c, h1, h2⟩ := h.map
  refine MpAt.upd mp_told hw h1 r q fun s' es' c' h1' h2' w' m' => hq s' ⟨h.len, h.obj.mut m' (by simpa using h.pm), ⟨es', c', h1', fun r' => ?_⟩, hp, hm, h.pm, h.rng, fun y hy => ?_⟩ w' m'
  rotate_left
  · cases hq : s.h y with
    | none => exact absurd hq (hth y hy)
    | some ob => rw [m'.1 y ob (by simp only [List.mem_singleton]; rintro rfl; exact hm hy) hq]; simp
  have hmF : ∀ y ∈ [m], y ∉ F' := by
    intro y hy
    obtain rfl := List.mem_singleton.1 hy
    exact hm
  by_cases e : r' = r
  · rw [if_pos e]
    exact ⟨q, by rw [h2', if_pos e], hx.mut m' hmF⟩
  · rw [if_neg e]
    have := h2 r'
    cases hq : told r' with
    | none =>
      rw [hq] at this
      show mget es' r' = none
      rw [h2', if_neg e]; exact this
    | some y =>
      rw [hq] at this
      obtain ⟨q', a, b⟩ := this
      exact ⟨q', by rw [h2', if_neg e]; exact a, (b.sub hF).mut m' hmF⟩

theorem Know_ok {F : List Nat} {s : AS} {p m : Nat} {n o : Int} {told : Int → Option Vw} {has : List Int} (h : MatF F s p m n o told has) (r : Int) {pc : Nat} {cv : List Int} {ce : List Dot} (hc : CtxAt s pc cv ce) (okc : COk cv ce) (gapc : Gap cv ce) (lenc : ce.length ≤ 4096) {a : AV} {l : List Dot} (hl : Dots s a l) (hll : l.length ≤ 1000) (hroom : lno (told r) + ce.length ≤ 4096) :
    ACalls Try.prog F_stable_Matrix_Know [.ptr (some (p, 0)), .int .i64 r, .ptr (some (pc, 0)), a] s fun v s' => (¬ ((1 ≤ r ∧ r ≤ n ∧ r ≠ o) ∧ mayL cv ce l) ∧ v = .int .i64 2 ∧ Ext s s') ∨
      (((1 ≤ r ∧ r ≤ n ∧ r ≠ o) ∧ mayL cv ce l) ∧ v = .int .i64 0 ∧ ∃ F' x, (∀ y ∈ F, y ∈ F') ∧ (∀ y ∈ F', y ∈ F ∨ s.h y = none) ∧ Told (told r) cv ce l x ∧ MatF F' s' p m n o (fun r' => if r' = r then some x else told r') has ∧ Mut [m] s s') := by
  refine ACalls.pre fun hw => q_stable_Matrix_Know _ _ _ _ _ _ ?_
  refine ACalls.use (there_ok h) ?_
  rintro v s2 ⟨rfl, rfl⟩ _
  refine ⟨_, rfl, bsplit.no rfl ?_⟩
  refine ACalls.use (other_ok h r) ?_
  rintro v s5 ⟨rfl, rfl⟩ _
  refine ⟨_, rfl, bsplit.mk (fun hb => .inl ⟨fun hh => ?_, rfl, Ext.refl _⟩) (fun hb => ?_)⟩
  · rw [decide_eq_true hh.1] at hb; cases hb
  have hother : 1 ≤ r ∧ r ≤ n ∧ r ≠ o := by simpa using hb
  refine ACalls.use (ctx_Copy_ok hc (by omega)) ?_
  rintro v s8 ⟨q0, rfl, hq0, _, e8⟩ w8
  refine ⟨_, rfl, _, aeqPtrNil u_p_ctx_Ctx _, bsplit.no rfl (NewQ.intro w8 rfl fun nw s12 F12 => ?_)⟩
  have E12 := e8.trans F12.ext
  have hnw0 : s5.h nw = none := e8.none F12.no
  have hc12 := hc.ext E12
  have D12 : DMap s12 nw fun _ => false := DMap.new F12.at
  refine ⟨fun vs s' => mayL cv ce l ∧ DMap s' nw (fun d => decide (d ∈ l)) ∧ Ext s5 s' ∧ WFs s', ?_, _, hl.lenB u_s_Dot _, fun m' vs s' => ∃ i : Nat, vs = [.int .i64 (i : Nat)] ∧ i ≤ l.length ∧ m' = l.length - i ∧ DMap s' nw (fun d => decide (d ∈ l.take i)) ∧ Ext s5 s' ∧ WFs s' ∧ (∀ (k : Nat) x y, k + 1 < i → l[k]? = some x → l[k + 1]? = some y → x.lt y = true) ∧ ∀ d ∈ l.take i, hasD cv ce d = true, l.length, ⟨0, rfl, by omega, rfl, D12.congr fun d => by simp, E12, F12.wf, fun k x y hk => by omega, by simp⟩, ?_⟩
  rotate_left
  · -- the live dots, one by one
    rintro m' n' s136 ⟨i, hi, hil, rfl, D136, E136, w136, hris, hall⟩
    simp only [List.cons.injEq, AV.int.injEq, true_and, and_true] at hi
    subst hi
    refine bsplit.dec (fun hlt => ?_) (fun hge => ?_)
    · obtain ⟨x, hx⟩ := get_lt (l := l) (i := i) (by omega)
      obtain ⟨lx, ox, h8, h9⟩ := hl.ix (by decide) dotC_len u_s_Dot z_Dot hx
      refine ⟨lx, ox, h8 _, _, (h9 _ E136).2, NewSt w136 rfl rfl rfl fun l140 s142 F142 => ?_⟩
      have d142 : At s142 l140 (dotC x) := F142.own.at
      have E142 := E136.trans F142.ext
      have D142 := D136.ext F142.ext
      have hxin : x ∈ l := List.mem_of_getElem? hx
      refine ⟨fun vs s' => Ext s142 s' ∧ WFs s' ∧ hasD cv ce x = true ∧ ∀ y, 0 < i → l[i - 1]? = some y → y.lt x = true, ?_, ?_⟩
      · rintro s144 ⟨e144, w144, hh, hy⟩
        refine ⟨_, (d142.ext e144).rdc (by simp [dotC]), _, is_build, DMap.upd w144 (D142.ext e144) x fun s147 D147 w147 m147 => ⟨l.length - (i + 1), by omega, i + 1, by rw [wadd1 (by omega)], by omega, rfl, D147.congr fun d => ?_, Ext.wr (E142.trans e144) hnw0 m147, w147, fun k u v hk hu hv => ?_, fun d hd => ?_⟩⟩
        · rw [Bool.eq_iff_iff, Bool.or_eq_true, decide_eq_true_eq, decide_eq_true_eq, decide_eq_true_eq, mem_take_succ hx]
        · rcases Nat.lt_or_ge (k + 1) i with h | h
          · exact hris k u v h hu hv
          · obtain rfl : k + 1 = i := by omega
            rw [hx] at hv; obtain rfl := Option.some.inj hv
            exact hy u (by omega) (by simpa using hu)
        · rw [mem_take_succ hx] at hd
          rcases hd with hd | rfl
          · exact hall d hd
          · exact hh
      · have hbad : ∀ (P : Prop), (mayL cv ce l → P) → ¬ P → ∀ s', Ext s5 s' → (¬ ((1 ≤ r ∧ r ≤ n ∧ r ≠ o) ∧ mayL cv ce l) ∧ AV.int .i64 2 = .int .i64 2 ∧ Ext s5 s') := fun P h1 h2 s' e => ⟨fun hh => h2 (h1 hh.2), rfl, e⟩
        have chk : ∀ s', Ext s142 s' → WFs s' → (∀ y, 0 < i → l[i - 1]? = some y → y.lt x = true) → RdL (rdc s' l140 0 2) fun g => ACalls Try.prog F_ctx_Ctx_Has [.ptr (some (pc, 0)), .agg g] s' fun v s'' => ∃ b, v = .bool b ∧ bsplit (!b) ((¬ ((1 ≤ r ∧ r ≤ n ∧ r ≠ o) ∧ mayL cv ce l) ∧ AV.int .i64 2 = .int .i64 2 ∧ Ext s5 s'') ∨ (((1 ≤ r ∧ r ≤ n ∧ r ≠ o) ∧ mayL cv ce l) ∧ AV.int .i64 2 = .int .i64 0 ∧ ∃ F' x, (∀ y ∈ F, y ∈ F') ∧ (∀ y ∈ F', y ∈ F ∨ s5.h y = none) ∧ Told (told r) cv ce l x ∧ MatF F' s'' p m n o (fun r' => if r' = r then some x else told r') has ∧ Mut [m] s5 s'')) (Ext s142 s'' ∧ WFs s'' ∧ hasD cv ce x = true ∧ ∀ y, 0 < i → l[i - 1]? = some y → y.lt x = true) := by
          intro s' e' w' hy
          refine ⟨_, (d142.ext e').rdc (by simp [dotC]), ?_⟩
          refine ACalls.use (ctx_Has_ok (hc.ext (E142.trans e')) okc.r (by omega) x) ?_
          rintro v s'' ⟨rfl, e''⟩ w''
          refine ⟨_, rfl, bsplit.mk (fun hb => .inl (hbad (hasD cv ce x = true) (fun hh => hh.2 x hxin) (by simpa using hb) s'' ((E142.trans e').trans e''))) (fun hb => ⟨e'.trans e'', w'', by simpa using hb, hy⟩)⟩
        refine bsplit.dec (fun hpos => ?_) (fun hz => ?_)
        · obtain ⟨y, hy⟩ := get_lt (l := l) (i := i - 1) (by omega)
          obtain ⟨ly, oy, k8, k9⟩ := hl.ix (by decide) dotC_len u_s_Dot z_Dot hy
          rw [wsub1 (by omega) (by omega)]
          refine ⟨ly, oy, k8 _, _, (k9 _ E142).2, _, d142.rdc (by simp [dotC]), ?_⟩
          refine ACalls.use (ctx_Less_ok y x _) ?_
          rintro v s153 ⟨rfl, e153⟩ w153
          refine ⟨_, rfl, bsplit.mk (fun hb => .inl (hbad (y.lt x = true) (fun hh => hh.1 (i - 1) y x hy (by rw [show i - 1 + 1 = i by omega]; exact hx)) (by simpa using hb) s153 (E142.trans e153))) (fun hb => ?_)⟩
          exact chk s153 e153 w153 fun y' _ hy' => by rw [hy] at hy'; obtain rfl := Option.some.inj hy'; simpa using hb
        · exact chk s142 (Ext.refl _) F142.wf fun y h0 => by omega
    · obtain rfl : i = l.length := by omega
      rw [List.take_length] at hall
      refine ⟨⟨fun k x y hx hy => hris k x y ?_ hx hy, hall⟩, by rw [List.take_length] at D136; exact D136, E136, w136⟩
      rcases Nat.lt_or_ge (k + 1) l.length with h | h
      · exact h
      · rw [List.getElem?_eq_none h] at hy; cases hy
  rintro s14 ⟨hmay, D14, E14, w14⟩
  have h14 := h.ext E14
  have hc14 := hc.ext E14
  obtain ⟨av, hlk, hav⟩ := h.look r E14
  refine ⟨_, h.r2 E14, av, hlk, _, aeqPtrNil u_p_stable_view _, ?_⟩
  cases hold : told r with
  | none =>
    rw [hold] at hav
    have hav : av = none := hav
    subst hav
    refine bsplit.yes rfl ⟨fun k ks v s' => (k = 6 → ∃ q, v = .ptr (some (q, 0)) ∧ s14.h q = none ∧ CtxG s14 s' q cv ce) ∧ (k = 9 → ∃ z, v = .ptr (some (z, 0)) ∧ s14.h z = none ∧ ∃ g, ks = [.agg g] ∧ s'.h z = some (.cells g 0 false)), fun k ks v => (k = 6 → ∃ q, v = .ptr (some (q, 0))) ∧ (k = 9 → ∃ z, v = .ptr (some (z, 0))), ?_, _, h14.r2 (Ext.refl _), fun s23 e23 w23 _ => ?_, ⟨.ptr (some (0, 0)), (fun _ => ⟨0, rfl⟩), (fun h => by cases h)⟩, fun v27 hv27 => ?_⟩
    · rintro k ks v s' s'' e ⟨h1, h2⟩
      refine ⟨fun hk => ?_, fun hk => ?_⟩
      · obtain ⟨q, a, b, c⟩ := h1 hk; exact ⟨q, a, b, c.ext e⟩
      · obtain ⟨z, a, b, g, c, d⟩ := h2 hk; exact ⟨z, a, b, g, c, e.1 _ _ d⟩
    · refine (ctx_Copy_G (hc14.ext e23) (by omega)).mono ?_
      rintro v s25 ⟨q, rfl, hq, g25, e25⟩
      exact ⟨_, rfl, e25, ⟨(fun _ => ⟨q, rfl, e23.none hq, g25.back e23⟩), (fun h => by cases h)⟩, (fun _ => ⟨q, rfl⟩), (fun h => by cases h)⟩
    obtain ⟨q, rfl⟩ := hv27.1 rfl
    refine ⟨_, rfl, _, view_build _ _, fun s30 e30 w30 _ => ⟨rfl, NewQ.intro w30 rfl fun z s32 F32 => ⟨F32.ext, ⟨(fun h => by cases h), (fun _ => ⟨z, rfl, e30.none F32.no, _, rfl, F32.at⟩)⟩, (fun h => by cases h), (fun _ => ⟨z, rfl⟩)⟩⟩, ⟨.ptr (some (0, 0)), (fun h => by cases h), (fun _ => ⟨0, rfl⟩)⟩, fun v33 hv33 => ?_⟩
    obtain ⟨z, rfl⟩ := hv33.2 rfl
    refine ⟨_, rfl, fun s35 e35 w35 hS => ?_⟩
    obtain ⟨q', hq', hq0', g35⟩ := hS.1.1 rfl
    obtain ⟨z', hz', hz0, gc, hgc, hzo⟩ := hS.2.1.2 rfl
    simp only [AV.ptr.injEq, Option.some.injEq, Prod.mk.injEq, and_true] at hq' hz'
    subst hq'; subst hz'
    simp only [List.cons.injEq, AV.agg.injEq, and_true] at hgc
    subst hgc
    obtain ⟨Fc, hcF, hFn, hFt⟩ := g35.toF hq0'
    have E35 := E14.trans e35
    have hnew : ∀ y ∈ z :: nw :: Fc, s5.h y = none := by
      intro y hy
      rcases List.mem_cons.1 hy with rfl | hy
      · exact E14.none hz0
      · rcases List.mem_cons.1 hy with rfl | hy
        · exact hnw0
        · exact E14.none (hFn y hy)
    have hnotin : ∀ y, s5.h y ≠ none → y ∉ F → y ∉ z :: nw :: Fc ++ F := by
      intro y h1 h2 hy
      rcases List.mem_append.1 hy with hy | hy
      · exact h1 (hnew y hy)
      · exact h2 hy
    refine told_set w35 (h.ext E35) r (F' := z :: nw :: Fc ++ F) (x := ⟨cv, ce, fun d => decide (d ∈ l)⟩) (fun y hy => by simp [hy]) ⟨⟨okc, gapc, lenc⟩, q, nw, hzo, by simp, hcF.sub (fun y hy => by simp [hy]), by simp, D14.ext e35⟩ (hnotin p h.pthere h.pF) (hnotin m h.mthere h.mF) (fun y hy => ?_) fun s37 M37 w37 m37 => .inr ⟨⟨hother, hmay⟩, rfl, _, _, (fun y hy => by simp [hy]), (fun y hy => ?_), ⟨⟨okc, gapc, lenc⟩, fun d => by simp [Vw.has, sn], fun d => by simp [lvo, sn], by simp [lno]⟩, M37, E35.mut.trans m37⟩
    · rcases List.mem_append.1 hy with hy | hy
      · rcases List.mem_cons.1 hy with rfl | hy
        · rw [hzo]; simp
        · rcases List.mem_cons.1 hy with rfl | hy
          · exact (D14.ext e35).there
          · exact hFt y hy
      · exact (h.ext E35).Ft y hy
    · rcases List.mem_append.1 hy with hy | hy
      · exact .inr (hnew y hy)
      · exact .inl hy
  | some x0 =>
    rw [hold] at hav hroom
    obtain ⟨q, rfl, hv⟩ := hav
    obtain ⟨okx, pc', ml, hq2, hqF, hc', hmF, hml⟩ := hv
    have hlx := okx.len
    have hqa : At s14 q [.ptr (some (pc', 0)), .map (some ml)] := ⟨_, _, hq2⟩
    have q0' : ∀ s', Ext s14 s' → rd1 s' q 0 = some (.ptr (some (pc', 0))) := fun s' e => by rw [(hqa.ext e).rd1]; rfl
    have q1' : ∀ s', Ext s14 s' → rd1 s' q (0 + 1) = some (.map (some ml)) := fun s' e => by rw [(hqa.ext e).rd1]; rfl
    refine bsplit.no rfl ⟨_, q0' _ (Ext.refl _), ?_⟩
    refine ACalls.use (ctx_Copy_G hc'.at (by omega)) ?_
    rintro v s42 ⟨q1, rfl, hq1, g42, e42⟩ w42
    refine ⟨_, rfl, ?_⟩
    refine ACalls.use (ctx_Join_ok2 g42.at (hc14.ext e42) okx.ok okc hlx lenc) ?_
    rintro v s45 ⟨jv, je, J, m45, hj⟩ w45
    have hjl := J.len
    have hroom' : x0.ex.length + ce.length ≤ 4096 := hroom
    obtain ⟨_, rfl, g45⟩ : je.length ≤ 4096 ∧ v = .int .i64 0 ∧ CtxG s42 s45 q1 jv je := by
      rcases hj with h | h
      · exact h
      · omega
    have e45 := Ext.wr e42 hq1 m45
    obtain ⟨Fc, hcF, hFn, hFt⟩ := g45.toF2
    have hFn' : ∀ y ∈ Fc, s14.h y = none := fun y hy => by
      rcases hFn y hy with rfl | h
      · exact hq1
      · exact e42.none h
    refine ⟨_, rfl, bsplit.no rfl (NewQ.intro w45 rfl fun bo s48 F48 => ?_)⟩
    have E48 := e45.trans F48.ext
    have hbo : s14.h bo = none := e45.none F48.no
    have hboF : bo ∉ Fc := fun hm => hFt bo hm F48.no
    obtain ⟨es, c, hA, hget⟩ := hml
    obtain ⟨es2, c2, hB, hget2⟩ := D14
    have hml : DMap s14 ml x0.live := ⟨es, c, hA, hget⟩
    have D14 : DMap s14 nw (fun d => decide (d ∈ l)) := ⟨es2, c2, hB, hget2⟩
    have hC48 : CtxF Fc s48 q1 jv je := hcF.mut (L := []) F48.ext.mut (by simp)
    -- what stays
    let St : AS → Prop := fun s' => Ext s14 s' ∧ WFs s' ∧ CtxF Fc s' q1 jv je ∧ ∀ y ∈ Fc, s'.h y ≠ none
    have St.mut : ∀ {s' s'' x}, St s' → WFs s'' → Mut [x] s' s'' → s14.h x = none → x ∉ Fc → St s'' := by
      intro s' s'' x ⟨a, b, c, d⟩ w m hx hF
      refine ⟨Ext.wr a hx m, w, c.mut m fun y hy => by obtain rfl := List.mem_singleton.1 hy; exact hF, fun y hy => ?_⟩
      cases hq : s'.h y with
      | none => exact absurd hq (d y hy)
      | some ob => rw [m.1 y ob (by simp only [List.mem_singleton]; rintro rfl; exact hF hy) hq]; simp
    have St.ext : ∀ {s' s''}, St s' → WFs s'' → Ext s' s'' → St s'' := by
      intro s' s'' ⟨a, b, c, d⟩ w e
      refine ⟨a.trans e, w, c.mut (L := []) e.mut (by simp), fun y hy => ?_⟩
      cases hq : s'.h y with
      | none => exact absurd hq (d y hy)
      | some ob => rw [e.1 y ob hq]; simp
    have S48 : St s48 := St.ext (s' := s45) ⟨e45, w45, hcF, hFt⟩ F48.wf F48.ext
    have D48 : DMap s48 bo fun _ => false := DMap.new F48.at
    let C1 : Dot → Bool := fun d => decide (d ∈ l) || !hasD cv ce d
    let C2 : Dot → Bool := fun d => x0.live d || !hasD x0.v x0.ex d
    refine ⟨fun vs s' => St s' ∧ DMap s' bo (fun d => x0.live d && C1 d), ?_, _, q1' _ E48, ?_⟩
    · -- the second range, over what is live now
      rintro s50 ⟨S50, D50⟩
      refine ⟨fun vs s' => St s' ∧ DMap s' bo (fun d => (x0.live d && C1 d) || (decide (d ∈ l) && C2 d)), ?_, ?_⟩
      · rintro s52 ⟨⟨E52, w52, c52, t52⟩, D52⟩
        have E52' := E14.trans E52
        refine ⟨_, h.r2 E52', _, view_build _ _, rfl, NewQ.intro w52 rfl fun z s58 F58 => ?_⟩
        have hnew : ∀ y ∈ z :: bo :: Fc, s5.h y = none := by
          intro y hy
          rcases List.mem_cons.1 hy with rfl | hy
          · exact E52'.none F58.no
          · rcases List.mem_cons.1 hy with rfl | hy
            · exact E14.none hbo
            · exact E14.none (hFn' y hy)
        have hnotin : ∀ y, s5.h y ≠ none → y ∉ F → y ∉ z :: bo :: Fc ++ F := by
          intro y h1 h2 hy
          rcases List.mem_append.1 hy with hy | hy
          · exact h1 (hnew y hy)
          · exact h2 hy
        have okj : Vw.Ok ⟨jv, je, fun d => (x0.live d && C1 d) || (decide (d ∈ l) && C2 d)⟩ := ⟨J.ok, J.gap, by show je.length ≤ 4096; omega⟩
        refine told_set F58.wf (h.ext (E52'.trans F58.ext)) r (F' := z :: bo :: Fc ++ F) (x := ⟨jv, je, fun d => (x0.live d && C1 d) || (decide (d ∈ l) && C2 d)⟩) (fun y hy => by simp [hy]) ⟨okj, q1, bo, F58.at, by simp, (c52.mut (L := []) F58.ext.mut (by simp)).sub (fun y hy => by simp [hy]), by simp, D52.ext F58.ext⟩ (hnotin p h.pthere h.pF) (hnotin m h.mthere h.mF) (fun y hy => ?_) fun s59 M59 w59 m59 => .inr ⟨⟨hother, hmay⟩, rfl, _, _, (fun y hy => by simp [hy]), (fun y hy => ?_), ⟨okj, fun d => by simp only [Vw.has, sn]; exact J.has d, fun d => by simp only [lvo, sn, Vw.has]; rfl, hjl⟩, M59, (E52'.trans F58.ext).mut.trans m59⟩
        · rcases List.mem_append.1 hy with hy | hy
          · rcases List.mem_cons.1 hy with rfl | hy
            · rw [F58.at]; simp
            · rcases List.mem_cons.1 hy with rfl | hy
              · exact (D52.ext F58.ext).there
              · cases hq : s52.h y with
                | none => exact absurd hq (t52 y hy)
                | some ob => rw [F58.ext.1 y ob hq]; simp
          · exact (h.ext (E52'.trans F58.ext)).Ft y hy
        · rcases List.mem_append.1 hy with hy | hy
          · exact .inr (hnew y hy)
          · exact .inl hy
      · refine MpAt.range u_m_Dot_struct__is_bool__ S50.2.1 (hB.ext S50.1) fun it s61 I61 F61 => ?_
        have hit : s14.h it = none := S50.1.none F61.no
        have hitbo : it ≠ bo := by rintro rfl; exact D50.there F61.no
        have hitF : it ∉ Fc := fun hm => S50.2.2.2 it hm F61.no
        have S61 := St.ext S50 F61.wf F61.ext
        have hnit : nw ≠ it := by
          rintro rfl
          have := F61.no
          rw [(hB.ext S50.1).obj] at this; cases this
        let f : List (Dot × Bool × Nat) → Dot → Bool := fun done d => (x0.live d && C1 d) || (done.any (fun e => decide (e.1 = d)) && C2 d)
        refine ⟨fun m' vs s' => vs = [] ∧ ∃ done, m' = es2.length - done.length ∧ St s' ∧ Iter s' it nw es2 c2 done ∧ DMap s' bo (f done), es2.length, ⟨rfl, [], rfl, S61, I61, (D50.ext F61.ext).congr fun d => by simp [f]⟩, ?_⟩
        rintro m' s65 ⟨_, done, rfl, S65, I65, D65⟩
        refine ⟨fun vs s' => St s' ∧ DMap s' bo (f done) ∧ ((vs = [.bool false] ∧ ∀ e ∈ es2, e ∈ done) ∨ ∃ e, vs = [.bool true] ∧ e ∈ es2 ∧ e ∉ done ∧ Iter s' it nw es2 c2 (done ++ [e])), ?_, ?_⟩
        rotate_left
        · exact Iter.next S65.2.1 (hB.ext S65.1) I65 (fun hall => ⟨S65, D65, .inl ⟨rfl, hall⟩⟩) fun e s96 he hn I96 w96 m96 => ⟨St.mut S65 w96 m96 hit hitF, D65.mut m96 (by simpa using hitbo.symm), .inr ⟨e, rfl, he, hn, I96⟩⟩
        rintro b s68 ⟨S68, D68, hcase⟩
        rcases hcase with ⟨hb, hall⟩ | ⟨e, hb, he, hn, I68⟩
        · simp only [List.cons.injEq, AV.bool.injEq, and_true] at hb
          subst hb
          refine bsplit.no rfl ⟨S68, D68.congr fun d => ?_⟩
          simp only [f, any_all hall I65.sub hget2 d]
        · simp only [List.cons.injEq, AV.bool.injEq, and_true] at hb
          subst hb
          refine bsplit.yes rfl (Iter.entry (hB.ext S68.1) I68 ⟨_, rfl, NewSt S68.2.1 rfl rfl rfl fun l72 s74 F74 => ?_⟩)
          have d74 : At s74 l72 (dotC e.1) := F74.own.at
          have g74 : ∀ s', Ext s74 s' → rdc s' l72 0 2 = some (dotC e.1) := fun s' e' => (d74.ext e').rdc (by simp [dotC])
          have S74 := St.ext S68 F74.wf F74.ext
          have D74 := D68.ext F74.ext
          have I74 := I68.ext F74.ext
          have hlt := I65.lt he hn
          refine ⟨fun vs s' => Ext s74 s' ∧ St s' ∧ vs = [.bool (C2 e.1)], ?_, ?_⟩
          · rintro b76 s77 ⟨e77, S77, hb⟩
            simp only [List.cons.injEq, AV.bool.injEq, and_true] at hb
            subst hb
            refine bsplit.mk (fun hb => ⟨_, g74 _ e77, _, is_build, DMap.upd S77.2.1 (D74.ext e77) e.1 fun s80 D80 w80 m80 => ⟨es2.length - (done.length + 1), by omega, rfl, done ++ [e], by simp, St.mut S77 w80 m80 hbo hboF, (I74.ext e77).mut m80 (by simpa using hitbo), D80.congr fun d => ?_⟩⟩) (fun hb => ⟨es2.length - (done.length + 1), by omega, rfl, done ++ [e], by simp, S77, I74.ext e77, (D74.ext e77).congr fun d => ?_⟩)
            · simp only [f, List.any_append, List.any_cons, List.any_nil, Bool.or_false]
              by_cases hd : d = e.1
              · subst hd; simp [hb]
              · rw [decide_eq_false hd, decide_eq_false (fun h : e.1 = d => hd h.symm)]; simp
            · simp only [f, List.any_append, List.any_cons, List.any_nil, Bool.or_false]
              by_cases hd : d = e.1
              · subst hd; simp [hb]
              · rw [decide_eq_false (fun h : e.1 = d => hd h.symm)]; simp
          · refine ⟨_, q1' _ S74.1, _, g74 _ (Ext.refl _), _, (hml.ext S74.1).look e.1, _, rfl, bsplit.mk (fun hb => ?_) (fun hb => ⟨_, q0' _ S74.1, _, g74 _ (Ext.refl _), ?_⟩)⟩
            · exact ⟨Ext.refl _, S74, by simp [C2, hb]⟩
            · refine ACalls.use (ctx_Has_ok (hc'.at.ext S74.1) okx.ok.r (by omega) e.1) ?_
              rintro v s92 ⟨rfl, e92⟩ w92
              exact ⟨_, rfl, e92, St.ext S74 w92 e92, by simp [C2, hb]⟩
    · refine MpAt.range u_m_Dot_struct__is_bool__ S48.2.1 (hA.ext S48.1) fun it s61 I61 F61 => ?_
      have hit : s14.h it = none := S48.1.none F61.no
      have hitbo : it ≠ bo := by rintro rfl; exact D48.there F61.no
      have hitF : it ∉ Fc := fun hm => S48.2.2.2 it hm F61.no
      have S61 := St.ext S48 F61.wf F61.ext
      have hnit : ml ≠ it := by
        rintro rfl
        have := F61.no
        rw [(hA.ext S48.1).obj] at this; cases this
      let f : List (Dot × Bool × Nat) → Dot → Bool := fun done d => done.any (fun e => decide (e.1 = d)) && C1 d
      refine ⟨fun m' vs s' => vs = [] ∧ ∃ done, m' = es.length - done.length ∧ St s' ∧ Iter s' it ml es c done ∧ DMap s' bo (f done), es.length, ⟨rfl, [], rfl, S61, I61, (D48.ext F61.ext).congr fun d => by simp [f]⟩, ?_⟩
      rintro m' s65 ⟨_, done, rfl, S65, I65, D65⟩
      refine ⟨fun vs s' => St s' ∧ DMap s' bo (f done) ∧ ((vs = [.bool false] ∧ ∀ e ∈ es, e ∈ done) ∨ ∃ e, vs = [.bool true] ∧ e ∈ es ∧ e ∉ done ∧ Iter s' it ml es c (done ++ [e])), ?_, ?_⟩
      rotate_left
      · exact Iter.next S65.2.1 (hA.ext S65.1) I65 (fun hall => ⟨S65, D65, .inl ⟨rfl, hall⟩⟩) fun e s96 he hn I96 w96 m96 => ⟨St.mut S65 w96 m96 hit hitF, D65.mut m96 (by simpa using hitbo.symm), .inr ⟨e, rfl, he, hn, I96⟩⟩
      rintro b s68 ⟨S68, D68, hcase⟩
      rcases hcase with ⟨hb, hall⟩ | ⟨e, hb, he, hn, I68⟩
      · simp only [List.cons.injEq, AV.bool.injEq, and_true] at hb
        subst hb
        refine bsplit.no rfl ⟨S68, D68.congr fun d => ?_⟩
        simp only [f, any_all hall I65.sub hget d]
      · simp only [List.cons.injEq, AV.bool.injEq, and_true] at hb
        subst hb
        refine bsplit.yes rfl (Iter.entry (hA.ext S68.1) I68 ⟨_, rfl, NewSt S68.2.1 rfl rfl rfl fun l72 s74 F74 => ?_⟩)
        have d74 : At s74 l72 (dotC e.1) := F74.own.at
        have g74 : ∀ s', Ext s74 s' → rdc s' l72 0 2 = some (dotC e.1) := fun s' e' => (d74.ext e').rdc (by simp [dotC])
        have S74 := St.ext S68 F74.wf F74.ext
        have D74 := D68.ext F74.ext
        have I74 := I68.ext F74.ext
        have hlt := I65.lt he hn
        refine ⟨fun vs s' => Ext s74 s' ∧ St s' ∧ vs = [.bool (C1 e.1)], ?_, ?_⟩
        · rintro b76 s77 ⟨e77, S77, hb⟩
          simp only [List.cons.injEq, AV.bool.injEq, and_true] at hb
          subst hb
          refine bsplit.mk (fun hb => ⟨_, g74 _ e77, _, is_build, DMap.upd S77.2.1 (D74.ext e77) e.1 fun s80 D80 w80 m80 => ⟨es.length - (done.length + 1), by omega, rfl, done ++ [e], by simp, St.mut S77 w80 m80 hbo hboF, (I74.ext e77).mut m80 (by simpa using hitbo), D80.congr fun d => ?_⟩⟩) (fun hb => ⟨es.length - (done.length + 1), by omega, rfl, done ++ [e], by simp, S77, I74.ext e77, (D74.ext e77).congr fun d => ?_⟩)
          · simp only [f, List.any_append, List.any_cons, List.any_nil, Bool.or_false]
            by_cases hd : d = e.1
            · subst hd; simp [hb]
            · rw [decide_eq_false hd, decide_eq_false (fun h : e.1 = d => hd h.symm)]; simp
          · simp only [f, List.any_append, List.any_cons, List.any_nil, Bool.or_false]
            by_cases hd : d = e.1
            · subst hd; simp [hb]
            · rw [decide_eq_false (fun h : e.1 = d => hd h.symm)]; simp
        · refine ⟨_, g74 _ (Ext.refl _), _, (D14.ext S74.1).look e.1, _, rfl, bsplit.mk (fun hb => ?_) (fun hb => ⟨_, g74 _ (Ext.refl _), ?_⟩)⟩
          · exact ⟨Ext.refl _, S74, by simp [C1, hb]⟩
          · refine ACalls.use (ctx_Has_ok (hc14.ext S74.1) okc.r (by omega) e.1) ?_
            rintro v s92 ⟨rfl, e92⟩ w92
            exact ⟨_, rfl, e92, St.ext S74 w92 e92, by simp [C1, hb]⟩
end Go.Proofs.Ytbfchlimonimkaa
end

section
set_option linter.unusedSimpArgs false
set_option linter.unusedVariables false
namespace Go.Proofs.Ytbfchlimonimkaa
open Go.Am Go.Minster

/-- what a region has applied of another one's events -/
def hg (has : List Int) (r : Int) (k : Nat) : Int := has.getD ((r - 1).toNat * 16 + k) 0
def hrow (has : List Int) (r : Int) : List Int := (has.drop ((r - 1).toNat * 16)).take 16
theorem hrow_len {has : List Int} (h : has.length = 256) {r : Int} (hr : 1 ≤ r ∧ r ≤ 16) : (hrow has r).length = 16 := by
  simp only [hrow, List.length_take, List.length_drop, h]; omega
theorem hrow_get {has : List Int} {r : Int} {k : Nat} (hk : k < 16) : (hrow has r).getD k 0 = hg has r k := by
  simp only [hrow, hg, List.getD_eq_getElem?_getD, List.getElem?_take, List.getElem?_drop, if_pos hk]

section
variable {F : List Nat} {s s' : AS} {p m : Nat} {n o : Int} {told : Int → Option Vw} {has : List Int}
theorem mat_len (h : has.length = 256) : (.int .i64 n :: .int .i64 o :: .map (some m) :: has.map (AV.int .u64)).length = 259 := by simp [h]
theorem mat_at (hl : has.length = 256) {i : Nat} (hi : i < 256) : (.int .i64 n :: .int .i64 o :: .map (some m) :: has.map (AV.int .u64))[3 + i]? = some (.int .u64 (has.getD i 0)) := by
  rw [show 3 + i = i + 1 + 1 + 1 by omega, List.getElem?_cons_succ, List.getElem?_cons_succ, List.getElem?_cons_succ, List.getElem?_map, List.getElem?_eq_getElem (by omega), List.getD_eq_getElem?_getD, List.getElem?_eq_getElem (by omega)]; rfl
theorem mat_row (hl : has.length = 256) {r : Int} (hr : 1 ≤ r ∧ r ≤ 16) : ((.int .i64 n :: .int .i64 o :: .map (some m) :: has.map (AV.int .u64)).drop (3 + (r - 1).toNat * 16)).take 16 = (hrow has r).map (.int .u64) := by
  rw [show 3 + (r - 1).toNat * 16 = (r - 1).toNat * 16 + 1 + 1 + 1 by omega, List.drop_succ_cons, List.drop_succ_cons, List.drop_succ_cons, hrow, List.map_take, List.map_drop]
theorem mat_set (hl : has.length = 256) {i : Nat} (hi : i < 256) (x : Int) : (.int .i64 n :: .int .i64 o :: .map (some m) :: has.map (AV.int .u64)).set (3 + i) (.int .u64 x) = .int .i64 n :: .int .i64 o :: .map (some m) :: (has.set i x).map (AV.int .u64) := by
  rw [show 3 + i = i + 1 + 1 + 1 by omega, List.set_cons_succ, List.set_cons_succ, List.set_cons_succ, List.map_set]

theorem zvec_build : abuild T Y_Vector [] = some (.agg (zeros.map (.int .u64))) := by kernel_rfl
theorem rix {l q : Nat} {r : Int} (hr : 1 ≤ r ∧ r ≤ 16) : aindexAddr T Y_a16iVector (.ptr (some (l, q))) (.int .i64 (IntKind.wrap .i64 (r - 1))) = some (.ptr (some (l, q + (r - 1).toNat * 16))) := by
  rw [wrap_i' (by omega)]
  exact aix_arr u_a16iVector z_Vector (by omega)

theorem Of_ok (h : MatF F s p m n o told has) (r : Int) : ACalls Try.prog F_stable_Matrix_Of [.ptr (some (p, 0)), .int .i64 r] s fun v s' => v = .agg ((if 1 ≤ r ∧ r ≤ n ∧ r ≠ o then hrow has r else zeros).map (.int .u64)) ∧ Ext s s' := by
  refine ACalls.pre fun hw => q_stable_Matrix_Of _ _ _ _ (NewQ.intro hw rfl fun l1 s2 F2 => ?_)
  have hrng := h.rng
  have fin : ∀ (v : List Int) s', v.length = 16 → Ext s2 s' → WFs s' → OkC (some 16) (v.map (.int .u64)) (StQ (awr s' l1 0 (v.map (.int .u64))) fun s7 => RdL (rdc s7 l1 0 16) fun g8 => AV.agg g8 = .agg (v.map (.int .u64)) ∧ Ext s s7) := by
    intro v s' hv e w
    refine ⟨⟨ints_one _ _, by simp [hv]⟩, StQ.own w (F2.own.ext e) (by simp [hv]) fun s7 P => ?_⟩
    have hat : At s7 l1 (v.map (.int .u64)) := ⟨_, _, by rw [P.at, wrs_all0 (by simp [hv])]⟩
    refine ⟨_, hat.rdc (by simp [hv]), ?_, (F2.ext.trans e).mut.trans P.mut |> fun mm => ⟨fun x ob hob => ?_, mm.2⟩⟩
    · rw [List.drop_zero, List.take_of_length_le (by simp [hv])]
    · rw [P.eq x (F2.ne hob)]; exact e.1 _ _ (F2.ext.1 _ _ hob)
  refine ⟨fun vs s' => (Ext s2 s' ∧ WFs s') ∧ vs = [.bool (!decide (1 ≤ r ∧ r ≤ n ∧ r ≠ o))], ?_, ?_⟩
  · rintro b s5 ⟨⟨e5, w5⟩, hb⟩
    simp only [List.cons.injEq, AV.bool.injEq, and_true] at hb
    subst hb
    refine bsplit.mk (fun hb => ?_) (fun hb => ?_)
    · have h2 : r < 1 ∨ n < r ∨ r = o := by simpa using hb
      have : ¬ (1 ≤ r ∧ r ≤ n ∧ r ≠ o) := by omega
      rw [if_neg this]
      exact ⟨_, zvec_build, fin zeros s5 rfl e5 w5⟩
    · have hr : 1 ≤ r ∧ r ≤ n ∧ r ≠ o := by simpa using hb
      rw [if_pos hr]
      have hr' : 1 ≤ r ∧ r ≤ 16 := by omega
      refine ⟨_, _, rix hr', _, ((h.obj.ext F2.ext).ext e5).at.rdc (by rw [mat_len h.len]; omega), ?_⟩
      rw [Nat.zero_add, mat_row h.len hr']
      exact fin _ s5 (hrow_len h.len hr') e5 w5
  · refine ACalls.use (there_ok (h.ext F2.ext)) ?_
    rintro v s17 ⟨rfl, rfl⟩ _
    refine ⟨_, rfl, bsplit.no rfl ?_⟩
    refine ACalls.use (other_ok (h.ext F2.ext) r) ?_
    rintro v s20 ⟨rfl, rfl⟩ _
    exact ⟨_, rfl, ⟨Ext.refl _, F2.wf⟩, rfl⟩

/-- as far as told, the greater -/
def hup (has : List Int) (r : Int) (v : List Int) (i : Nat) : List Int := (List.range 256).map fun j => if (r - 1).toNat * 16 ≤ j ∧ j < (r - 1).toNat * 16 + i then max (has.getD j 0) (v.getD (j - (r - 1).toNat * 16) 0) else has.getD j 0
theorem hup_len (has : List Int) (r : Int) (v : List Int) (i : Nat) : (hup has r v i).length = 256 := by simp [hup]
theorem hup_get {has : List Int} {r : Int} {v : List Int} {i j : Nat} (hj : j < 256) : (hup has r v i).getD j 0 = if (r - 1).toNat * 16 ≤ j ∧ j < (r - 1).toNat * 16 + i then max (has.getD j 0) (v.getD (j - (r - 1).toNat * 16) 0) else has.getD j 0 := by
  simp only [hup, List.getD_eq_getElem?_getD, List.getElem?_map, List.getElem?_range hj, Option.map_some, Option.getD_some]
theorem ext256 {v w : List Int} (h : v.length = 256) (h' : w.length = 256) (he : ∀ j, j < 256 → v.getD j 0 = w.getD j 0) : v = w := by
  refine List.ext_getElem (by omega) fun j hj hj' => ?_
  have := he j (by omega)
  simp only [List.getD_eq_getElem?_getD, List.getElem?_eq_getElem hj, List.getElem?_eq_getElem hj'] at this
  exact this
theorem hup_zero {has : List Int} (h : has.length = 256) (r : Int) (v : List Int) : hup has r v 0 = has := ext256 (hup_len _ _ _ _) h fun j hj => by rw [hup_get hj, if_neg (by omega)]
theorem hup_step {has : List Int} {r : Int} (hr : 1 ≤ r ∧ r ≤ 16) {v : List Int} {i : Nat} (hi : i < 16) :
    (hup has r v i).set ((r - 1).toNat * 16 + i) (max ((hup has r v i).getD ((r - 1).toNat * 16 + i) 0) (v.getD i 0)) = hup has r v (i + 1) := by
  refine ext256 (by simp [hup_len]) (hup_len _ _ _ _) fun j hj => ?_
  rw [hup_get hj, hup_get (by omega), if_neg (by omega), List.getD_eq_getElem?_getD, List.getElem?_set]
  by_cases e : (r - 1).toNat * 16 + i = j
  · subst e
    rw [if_pos rfl, if_pos (by rw [hup_len]; omega), if_pos (by omega)]
    simp
  · rw [if_neg e, ← List.getD_eq_getElem?_getD, hup_get hj]
    by_cases h : (r - 1).toNat * 16 ≤ j ∧ j < (r - 1).toNat * 16 + i
    · rw [if_pos h, if_pos (by omega)]
    · rw [if_neg h, if_neg (by omega)]
/-- what is applied, when a region tells more -/
theorem hup_hg {has : List Int} {r : Int} (hr : 1 ≤ r ∧ r ≤ 16) {v : List Int} {r' : Int} (hr' : 1 ≤ r' ∧ r' ≤ 16) {k : Nat} (hk : k < 16) : hg (hup has r v 16) r' k = if r' = r then max (hg has r k) (v.getD k 0) else hg has r' k := by
  rw [hg, hup_get (by omega)]
  by_cases e : r' = r
  · subst e
    rw [if_pos (by omega), if_pos rfl, Nat.add_sub_cancel_left]; rfl
  · rw [if_neg (by omega), if_neg e]; rfl

theorem Have_ok (h : MatF F s p m n o told has) (r : Int) {v : List Int} (hv : v.length = 16) : ACalls Try.prog F_stable_Matrix_Have [.ptr (some (p, 0)), .int .i64 r, .agg (v.map (.int .u64))] s fun x s' => (¬ (1 ≤ r ∧ r ≤ n ∧ r ≠ o) ∧ x = .int .i64 2 ∧ Ext s s') ∨
    ((1 ≤ r ∧ r ≤ n ∧ r ≠ o) ∧ x = .int .i64 0 ∧ MatF F s' p m n o told (hup has r v 16) ∧ Mut [p] s s') := by
  refine ACalls.pre fun hw => q_stable_Matrix_Have _ _ _ _ _ ⟨ints_one _ _, NewQ.intro hw rfl fun l1 s2 F2 => ?_⟩
  have hrng := h.rng
  refine ACalls.use (there_ok (h.ext F2.ext)) ?_
  rintro x s4 ⟨rfl, rfl⟩ _
  refine ⟨_, rfl, bsplit.no rfl ?_⟩
  refine ACalls.use (other_ok (h.ext F2.ext) r) ?_
  rintro x s7 ⟨rfl, rfl⟩ w7
  refine ⟨_, rfl, bsplit.mk (fun hb => .inl ⟨?_, rfl, F2.ext⟩) (fun hb => ?_)⟩
  · have h2 : r < 1 ∨ n < r ∨ r = o := by simpa using hb
    omega
  have hr : 1 ≤ r ∧ r ≤ n ∧ r ≠ o := by simpa using hb
  have hr' : 1 ≤ r ∧ r ≤ 16 := by omega
  have M7 := h.ext F2.ext
  refine ⟨_, F2.own.at.rdc (by simp [hv]), ?_⟩
  rw [List.drop_zero, List.take_of_length_le (by simp [hv])]
  refine ⟨fun m' vs s' => ∃ i : Nat, vs = [.int .i64 (i : Nat)] ∧ i ≤ 16 ∧ m' = 16 - i ∧ Own s' p (.int .i64 n :: .int .i64 o :: .map (some m) :: (hup has r v i).map (AV.int .u64)) ∧ Mut [p] s7 s' ∧ WFs s', 16, ⟨0, rfl, by omega, rfl, by rw [hup_zero h.len]; exact M7.obj, Mut.refl _ _, w7⟩, ?_⟩
  rintro m' n13 s14 ⟨i, hi, hi16, rfl, o14, m14, w14⟩
  simp only [List.cons.injEq, AV.int.injEq, true_and, and_true] at hi
  subst hi
  refine bsplit.dec (fun hlt => ?_) (fun hge => ?_)
  · have h16 : i < 16 := by omega
    have hl := hup_len has r v i
    have ix2 : aindexAddr T Y_Vector (.ptr (some (p, 0 + 3 + (r - 1).toNat * 16))) (.int .i64 (i : Nat)) = some (.ptr (some (p, 0 + 3 + (r - 1).toNat * 16 + (i : Int).toNat * 1))) := vix (by omega)
    have hg1 : rd1 s14 p (0 + 3 + (r - 1).toNat * 16 + (i : Int).toNat * 1) = some (.int .u64 ((hup has r v i).getD ((r - 1).toNat * 16 + i) 0)) := by
      rw [o14.at.rd1, show 0 + 3 + (r - 1).toNat * 16 + (i : Int).toNat * 1 = 3 + ((r - 1).toNat * 16 + i) by omega]
      exact mat_at hl (by omega)
    refine ⟨_, aix_vec hv h16, _, _, rix hr', _, _, ix2, _, hg1, _, amaxM _ _, _, _, rix hr', _, _, ix2, StQ.own w14 o14 (by rw [mat_len hl]; simp; omega) fun s30 P => ⟨16 - (i + 1), by omega, i + 1, by rw [wadd1 (by omega)], by omega, rfl, ?_, m14.trans P.mut, P.wf⟩⟩
    have := P.at
    rw [wrs_one, show 0 + 3 + (r - 1).toNat * 16 + (i : Int).toNat * 1 = 3 + ((r - 1).toNat * 16 + i) by omega, mat_set hl (by omega), hup_step hr' h16] at this
    exact this
  · obtain rfl : i = 16 := by omega
    have mm := F2.ext.mut.trans m14
    refine .inr ⟨hr, rfl, ?_, mm⟩
    obtain ⟨es, c, h1, h2⟩ := h.map
    have hpF : ∀ x ∈ [p], x ∉ F := fun x hx => by obtain rfl := List.mem_singleton.1 hx; exact h.pF
    refine ⟨hup_len _ _ _ _, o14, ⟨es, c, h1.mut mm (by simpa using h.pm.symm), fun r' => ?_⟩, h.pF, h.mF, h.pm, h.rng, h.there mm hpF⟩
    have := h2 r'
    cases hq : told r' with
    | none => rw [hq] at this; exact this
    | some x =>
      rw [hq] at this
      obtain ⟨q, a, b⟩ := this
      exact ⟨q, a, b.mut mm hpF⟩

/-! ### the least of a row -/
abbrev U64s := Sl (fun n : Int => [AV.int .u64 n]) 1
theorem sl_s_uint64 : SlTy T Y_s_uint64 Y_uint64 1 8 := ⟨u_s_uint64, z_uint64, b_uint64, ⟨_, _, zr_uint64, rfl, rfl⟩, by decide, by decide⟩
theorem aminM (a b : Int) : amax false [.int .u64 a, .int .u64 b] = some (.int .u64 (min a b)) := by
  simp only [amax, amaxL, Am.amax2, Option.bind_some, Bool.false_eq_true, if_false]
  congr 2
  by_cases h : b < a
  · rw [if_pos h, Int.min_eq_right (by omega)]
  · rw [if_neg h, Int.min_eq_left (by omega)]
/-- x is the least of l -/
def Least (l : List Int) (x : Int) : Prop := x ∈ l ∧ ∀ y ∈ l, x ≤ y
theorem Least.uniq {l : List Int} {x y : Int} (h : Least l x) (h' : Least l y) : x = y := by
  have := h.2 y h'.1
  have := h'.2 x h.1
  omega
theorem Min_ok {s : AS} {a : AV} {l : List Int} (hl : U64s s a l) (h0 : l ≠ []) (hn : l.length ≤ 2 ^ 30) : ACalls Try.prog F_slices_Min__s_uint64iuint64 [a] s fun v s' => s' = s ∧ ∃ x, v = .int .u64 x ∧ Least l x := by
  have hpos : 0 < l.length := List.length_pos_iff.2 h0
  obtain ⟨x0, hx0⟩ := get_lt hpos
  obtain ⟨lx, ox, h8, h9⟩ := hl.ix (sz := 1) (by decide) (fun _ => rfl) u_s_uint64 z_uint64 hx0
  have hg0 : rd1 s lx ox = some (.int .u64 x0) := by have := (h9 _ (Ext.refl _)).1 0 (by decide); simpa using this
  refine q_slices_Min__s_uint64iuint64 _ _ _ ⟨_, hl.lenB u_s_uint64 _, bsplit.dec (fun h => by omega) (fun _ => ⟨lx, ox, h8 _, x0, hg0, fun m vs s' => ∃ (i : Nat) (x : Int), vs = [.int .u64 x, .int .i64 (i : Nat)] ∧ 1 ≤ i ∧ i ≤ l.length ∧ m = l.length - i ∧ s' = s ∧ Least (l.take i) x, l.length - 1, ⟨1, x0, rfl, by omega, by omega, rfl, rfl, ?_⟩, ?_⟩)⟩
  · have : l.take 1 = [x0] := by
      rw [show (1 : Nat) = 0 + 1 from rfl, List.take_add_one, hx0]; rfl
    rw [this]
    exact ⟨by simp, fun y hy => by obtain rfl := List.mem_singleton.1 hy; omega⟩
  · rintro m n8 n9 s10 ⟨i, x, hv, h1, h2, rfl, rfl, hle⟩
    simp only [List.cons.injEq, AV.int.injEq, true_and, and_true] at hv
    obtain ⟨rfl, rfl⟩ := hv
    refine ⟨_, hl.lenB u_s_uint64 _, bsplit.dec (fun hlt => ?_) (fun hge => ⟨rfl, n8, rfl, by rw [List.take_of_length_le (by omega)] at hle; exact hle⟩)⟩
    obtain ⟨y, hy⟩ := get_lt (l := l) (i := i) (by omega)
    obtain ⟨ly, oy, k8, k9⟩ := hl.ix (sz := 1) (by decide) (fun _ => rfl) u_s_uint64 z_uint64 hy
    have hgy : rd1 s10 ly oy = some (.int .u64 y) := by have := (k9 _ (Ext.refl _)).1 0 (by decide); simpa using this
    refine ⟨ly, oy, k8 _, y, hgy, _, aminM _ _, l.length - (i + 1), by omega, i + 1, _, by rw [wadd1 (by omega)], by omega, by omega, rfl, rfl, ?_⟩
    rw [List.take_add_one, hy, Option.toList_some]
    constructor
    · rcases Int.le_total n8 y with h | h
      · rw [Int.min_eq_left h]; exact List.mem_append_left _ hle.1
      · rw [Int.min_eq_right h]; exact List.mem_append_right _ (by simp)
    · intro z hz
      rcases List.mem_append.1 hz with hz | hz
      · have := hle.2 z hz; omega
      · obtain rfl := List.mem_singleton.1 hz; omega

/-! ### all -/
/-- what the other regions have applied of one's events -/
def colTo (has : List Int) (o : Int) (k : Nat) (j : Nat) : List Int := (((List.range j).map fun (i : Nat) => (i : Int) + 1).filter fun r => decide (r ≠ o)).map fun r => hg has r k
theorem colTo_succ (has : List Int) (o : Int) (k j : Nat) : colTo has o k (j + 1) = colTo has o k j ++ if (j : Int) + 1 ≠ o then [hg has ((j : Int) + 1) k] else [] := by
  simp only [colTo, List.range_succ, List.map_append, List.map_cons, List.map_nil, List.filter_append]
  congr 1
  by_cases h : (j : Int) + 1 = o
  · simp [h]
  · simp [h]
theorem colTo_len (has : List Int) (o : Int) (k j : Nat) : (colTo has o k j).length ≤ j := by
  rw [colTo, List.length_map]
  exact Nat.le_trans (List.length_filter_le _ _) (by simp)
theorem colTo_mem {has : List Int} {o : Int} {k j : Nat} {x : Int} : x ∈ colTo has o k j ↔ ∃ r : Int, (1 ≤ r ∧ r ≤ j) ∧ r ≠ o ∧ x = hg has r k := by
  simp only [colTo, List.mem_map, List.mem_filter, List.mem_range, decide_eq_true_eq]
  constructor
  · rintro ⟨r, ⟨⟨i, hi, rfl⟩, h⟩, rfl⟩; exact ⟨_, by omega, h, rfl⟩
  · rintro ⟨r, h1, h2, rfl⟩; exact ⟨r, ⟨⟨(r - 1).toNat, by omega, by omega⟩, h2⟩, rfl⟩
theorem colTo_ne {has : List Int} {o : Int} {k j : Nat} (hj : 2 ≤ j) : colTo has o k j ≠ [] := by
  intro h
  by_cases e : o = 1
  · have : hg has 2 k ∈ colTo has o k j := colTo_mem.2 ⟨2, by omega, by omega, rfl⟩
    rw [h] at this; cases this
  · have : hg has 1 k ∈ colTo has o k j := colTo_mem.2 ⟨1, by omega, by omega, rfl⟩
    rw [h] at this; cases this
/-- what all others have applied -/
def IsAll (has : List Int) (n o : Int) (v : List Int) : Prop := v.length = 16 ∧ (n = 1 → v = zeros) ∧ (n ≠ 1 → ∀ k, k < 16 → Least (colTo has o k n.toNat) (v.getD k 0))
theorem IsAll.uniq {has : List Int} {n o : Int} {v w : List Int} (h : IsAll has n o v) (h' : IsAll has n o w) : v = w := by
  by_cases e : n = 1
  · rw [h.2.1 e, h'.2.1 e]
  · exact vec_ext h.1 h'.1 fun j hj => (h.2.2 e j hj).uniq (h'.2.2 e j hj)

theorem vset {v : List Int} {i : Nat} (x : Int) : (v.map (AV.int .u64)).set i (.int .u64 x) = (v.set i x).map (.int .u64) := by rw [List.map_set]

theorem All_ok (h : MatF F s p m n o told has) : ACalls Try.prog F_stable_Matrix_All [.ptr (some (p, 0))] s fun x s' => Ext s s' ∧ ∃ v, x = .agg (v.map (.int .u64)) ∧ IsAll has n o v := by
  refine ACalls.pre fun hw => q_stable_Matrix_All _ _ _ (NewQ.intro hw rfl fun l1 s2 F2 => ?_)
  have hrng := h.rng
  have o2 : Own s2 l1 (zeros.map (.int .u64)) := F2.own
  have fin : ∀ (v : List Int) s', IsAll has n o v → Ext s s' → Own s' l1 (zeros.map (.int .u64)) → WFs s' → OkC (some 16) (v.map (.int .u64)) (StQ (awr s' l1 0 (v.map (.int .u64))) fun s7 => RdL (rdc s7 l1 0 16) fun g8 => Ext s s7 ∧ ∃ v, AV.agg g8 = .agg (v.map (.int .u64)) ∧ IsAll has n o v) := by
    intro v s' hv e ho w
    have hl := hv.1
    refine ⟨⟨ints_one _ _, by simp [hl]⟩, StQ.own w ho (by simp [hl, zeros]) fun s7 P => ?_⟩
    have hat : At s7 l1 (v.map (.int .u64)) := ⟨_, _, by rw [P.at, wrs_all0 (by simp [hl, zeros])]⟩
    refine ⟨_, hat.rdc (by simp [hl]), ⟨fun x ob hob => ?_, by rw [P.nl]; exact e.2⟩, v, ?_, hv⟩
    · rw [P.eq x (F2.ne hob)]; exact e.1 _ _ hob
    · rw [List.drop_zero, List.take_of_length_le (by simp [hl])]
  refine ⟨fun vs s' => s' = s2 ∧ vs = [.bool (n == 1)], ?_, ?_⟩
  rotate_left
  · refine ACalls.use (there_ok (h.ext F2.ext)) ?_
    rintro v s53 ⟨rfl, rfl⟩ _
    exact ⟨_, rfl, bsplit.no rfl ⟨n, h.r0 F2.ext, rfl, rfl⟩⟩
  rintro b s5 ⟨rfl, hb⟩
  simp only [List.cons.injEq, AV.bool.injEq, and_true] at hb
  subst hb
  refine bsplit.mk (fun hb => ?_) (fun hb => ?_)
  · have hn : n = 1 := by simpa using hb
    exact ⟨_, zvec_build, fin zeros s5 ⟨rfl, fun _ => rfl, fun h => absurd hn h⟩ F2.ext o2 F2.wf⟩
  have hn1 : n ≠ 1 := by simpa using hb
  refine NewQ.intro F2.wf rfl fun l9 s10 F10 => ?_
  have hl9 : s.h l9 = none := F2.ext.none F10.no
  have h91 : l1 ≠ l9 := F10.ne o2
  refine ⟨fun m' vs s' => ∃ (i : Nat) (v : List Int), vs = [.int .i64 (i : Nat)] ∧ i ≤ 16 ∧ m' = 16 - i ∧ v.length = 16 ∧ (∀ k, k < i → Least (colTo has o k n.toNat) (v.getD k 0)) ∧ Ext s s' ∧ WFs s' ∧ Own s' l1 (zeros.map (.int .u64)) ∧ Own s' l9 (v.map (.int .u64)), 16, ⟨0, zeros, rfl, by omega, rfl, rfl, fun k hk => by omega, F2.ext.trans F10.ext, F10.wf, o2.ext F10.ext, F10.own⟩, ?_⟩
  rintro m' n14 s15 ⟨i, v, hi, hi16, rfl, hv, hle, e15, w15, o1, o9⟩
  simp only [List.cons.injEq, AV.int.injEq, true_and, and_true] at hi
  subst hi
  refine bsplit.dec (fun hlt => ?_) (fun hge => ?_)
  · have h16 : i < 16 := by omega
    refine ⟨fun vs s' => ∃ x, vs = [x] ∧ GroN (fun n : Int => [AV.int .u64 n]) 1 [] s15 s' x (colTo has o i n.toNat) ∧ WFs s', ?_, fun m' vs s' => ∃ (j : Nat) (x : AV), vs = [x, .int .i64 ((j : Int) + 1)] ∧ (j : Int) ≤ n ∧ m' = n.toNat - j ∧ GroN (fun n : Int => [AV.int .u64 n]) 1 [] s15 s' x (colTo has o i j) ∧ WFs s', n.toNat, ⟨0, _, rfl, by omega, rfl, GroN.nil, w15⟩, ?_⟩
    · rintro x s18 ⟨x', hx, g18, w18⟩
      simp only [List.cons.injEq, and_true] at hx
      subst hx
      have e18 := g18.chg.ext
      refine ACalls.use (Min_ok (g18.sl (fun _ => rfl)) (colTo_ne (by omega)) (Nat.le_trans (colTo_len _ _ _ _) (by omega))) ?_
      rintro y s20 ⟨rfl, z, rfl, hz⟩ _
      refine ⟨_, rfl, _, _, vix (by omega), StQ.own w18 (o9.ext e18) (by simp [hv]; omega) fun s24 P => ⟨16 - (i + 1), by omega, i + 1, v.set i z, by rw [wadd1 (by omega)], by omega, rfl, by simpa using hv, fun k hk => ?_, ?_, P.wf, (o1.ext e18).mut P.mut (by simpa using h91), ?_⟩⟩
      · rw [List.getD_eq_getElem?_getD, List.getElem?_set]
        by_cases e : i = k
        · subst e; rw [if_pos rfl, if_pos (by omega)]; exact hz
        · rw [if_neg e, ← List.getD_eq_getElem?_getD]; exact hle k (by omega)
      · exact Ext.wr (e15.trans e18) hl9 P.mut
      · have := P.at
        rw [wrs_one, Nat.zero_add, Nat.mul_one, Int.toNat_natCast, vset] at this
        exact this
    · rintro m' x n29 s30 ⟨j, x', hx, hjn, rfl, g30, w30⟩
      simp only [List.cons.injEq, AV.int.injEq, true_and, and_true] at hx
      obtain ⟨rfl, rfl⟩ := hx
      have e30 := g30.chg.ext
      have E30 := e15.trans e30
      refine ⟨n, h.r0 E30, bsplit.dec (fun hle' => ⟨o, h.r1 E30, ?_⟩) (fun hgt => ?_)⟩
      · have hnx : [AV.int .i64 (IntKind.wrap .i64 ((j : Int) + 1 + 1))] = [.int .i64 (((j + 1 : Nat) : Int) + 1)] := by rw [wrap_i' (by omega)]; rfl
        have hr : (1 : Int) ≤ (j : Int) + 1 ∧ (j : Int) + 1 ≤ 16 := by omega
        refine bsplit.mk (fun hne => ?_) (fun heq => ?_)
        · have hne' : (j : Int) + 1 ≠ o := by simpa using hne
          have ix2 : aindexAddr T Y_Vector (.ptr (some (p, 0 + 3 + ((j : Int) + 1 - 1).toNat * 16))) (.int .i64 (i : Nat)) = some (.ptr (some (p, 0 + 3 + ((j : Int) + 1 - 1).toNat * 16 + (i : Int).toNat * 1))) := vix (by omega)
          have hg1 : rd1 s30 p (0 + 3 + ((j : Int) + 1 - 1).toNat * 16 + (i : Int).toNat * 1) = some (.int .u64 (hg has ((j : Int) + 1) i)) := by
            rw [(h.obj.ext E30).at.rd1, show 0 + 3 + ((j : Int) + 1 - 1).toNat * 16 + (i : Int).toNat * 1 = 3 + (((j : Int) + 1 - 1).toNat * 16 + i) by omega]
            exact mat_at h.len (by omega)
          have hcl := colTo_len has o i j
          refine ⟨_, _, rix hr, _, _, ix2, _, hg1, GroN.append1s sl_s_uint64 rfl (fun _ => rfl) w30 g30 (by simp) (hg has ((j : Int) + 1) i) (by omega) fun y s' g' w' _ => ?_⟩
          refine ⟨n.toNat - (j + 1), by omega, j + 1, y, by rw [wrap_i' (by omega)]; rfl, by omega, rfl, ?_, w'⟩
          rw [colTo_succ, if_pos hne']; exact g'
        · have he : (j : Int) + 1 = o := by simpa using heq
          refine ⟨n.toNat - (j + 1), by omega, j + 1, x, by rw [wrap_i' (by omega)]; rfl, by omega, rfl, ?_, w30⟩
          rw [colTo_succ, if_neg (fun h => h he), List.append_nil]; exact g30
      · have : j = n.toNat := by omega
        exact ⟨x, rfl, by rw [← this]; exact g30, w30⟩
  · obtain rfl : i = 16 := by omega
    refine ⟨_, o9.at.rdc (by simp [hv]), ?_⟩
    rw [List.drop_zero, List.take_of_length_le (by simp [hv])]
    exact fin v s15 ⟨hv, fun h => absurd h hn1, fun _ k hk => hle k hk⟩ e15 o1 w15

set_option maxRecDepth 100000 in
theorem MCopy_ok (h : MatF F s p m n o told has) : ACalls Try.prog F_stable_Matrix_Copy [.ptr (some (p, 0))] s fun x s' => ∃ p' m', x = .ptr (some (p', 0)) ∧ s.h p' = none ∧ s.h m' = none ∧ MatF F s' p' m' n o told has ∧ Ext s s' := by
  refine ACalls.pre fun hw => q_stable_Matrix_Copy _ _ _ ?_
  refine ACalls.use (there_ok h) ?_
  rintro v s2 ⟨rfl, rfl⟩ w2
  have hml := mat_len (n := n) (o := o) (m := m) h.len
  refine ⟨_, rfl, bsplit.no rfl ⟨_, h.obj.at.rdc (by rw [hml]; omega), ?_⟩⟩
  rw [List.drop_zero, List.take_of_length_le (by rw [hml]; omega)]
  refine NewSt w2 hml rfl (by simp [List.all_eq_true]) fun p' s9 F9 => NewQ.intro F9.wf rfl fun m' s11 F11 => ?_
  have o11 := F9.own.ext F11.ext
  have hpm' : p' ≠ m' := F11.ne F9.at
  refine StQ.own F11.wf o11 (by rw [hml]; simp) fun s12 P12 => ?_
  have o12 : Own s12 p' (.int .i64 n :: .int .i64 o :: .map (some m') :: has.map (.int .u64)) := by
    have := P12.at
    rw [wrs_one] at this
    exact this
  have hp' : s2.h p' = none := F9.no
  have hm' : s2.h m' = none := F9.ext.none F11.no
  have e12 : Ext s2 s12 := Ext.wr (F9.ext.trans F11.ext) hp' P12.mut
  have hm12 : s12.h m' = some (.map [] 0 false) := by rw [P12.eq m' hpm'.symm]; exact F11.at
  obtain ⟨es, c, hes, htold⟩ := h.map
  refine ⟨_, h.r2 e12, MpAt.range u_m_int_p_stable_view P12.wf (hes.ext e12) fun it s17 I17 F17 => ?_⟩
  have hit : s2.h it = none := e12.none F17.no
  have itm : it ≠ m' := by rintro rfl; have := F17.no; rw [hm12] at this; cases this
  have itp : it ≠ p' := by rintro rfl; have := F17.no; rw [o12] at this; cases this
  refine ⟨fun m0 vs s' => vs = [] ∧ ∃ done es' c', m0 = es.length - done.length ∧ Ext s2 s' ∧ WFs s' ∧ Own s' p' (.int .i64 n :: .int .i64 o :: .map (some m') :: has.map (.int .u64)) ∧ Iter s' it m es c done ∧ MpAt iK pV s' m' es' c' false ∧ ∀ r q, mget es' r = some q ↔ ∃ k, (r, q, k) ∈ done, es.length, ⟨rfl, [], [], 0, rfl, e12.trans F17.ext, F17.wf, o12.ext F17.ext, I17, (MpAt.new hm12).ext F17.ext, fun r q => by simp [mget_nil]⟩, ?_⟩
  rintro m0 s21 ⟨_, done, es', c', rfl, e21, w21, o21, I21, M21, hg21⟩
  refine ⟨fun vs s' => Ext s2 s' ∧ WFs s' ∧ Own s' p' (.int .i64 n :: .int .i64 o :: .map (some m') :: has.map (.int .u64)) ∧ MpAt iK pV s' m' es' c' false ∧ ((vs = [.bool false] ∧ ∀ e ∈ es, e ∈ done) ∨ ∃ e, vs = [.bool true] ∧ e ∈ es ∧ e ∉ done ∧ Iter s' it m es c (done ++ [e])), ?_, ?_⟩
  rotate_left
  · exact Iter.next w21 (hes.ext e21) I21 (fun hall => ⟨e21, w21, o21, M21, .inl ⟨rfl, hall⟩⟩) fun e s96 he hn I96 w96 m96 => ⟨Ext.wr e21 hit m96, w96, o21.mut m96 (by simpa using itp.symm), M21.mut m96 (by simpa using itm.symm), .inr ⟨e, rfl, he, hn, I96⟩⟩
  rintro b s24 ⟨e24, w24, o24, M24, hcase⟩
  rcases hcase with ⟨hb, hall⟩ | ⟨e, hb, he, hn, I24⟩
  · simp only [List.cons.injEq, AV.bool.injEq, and_true] at hb
    subst hb
    have hsame : ∀ r, mget es' r = mget es r := by
      intro r
      cases hq : mget es r with
      | some q =>
        obtain ⟨j, k, hj⟩ := mget_some hq
        exact (hg21 r q).2 ⟨k, hall _ (List.mem_of_getElem? hj)⟩
      | none =>
        cases hq' : mget es' r with
        | none => rfl
        | some q =>
          obtain ⟨k, hk⟩ := (hg21 r q).1 hq'
          exact absurd rfl (mget_none.1 hq _ (I21.sub _ hk))
    refine bsplit.no rfl ⟨p', m', rfl, hp', hm', ⟨h.len, o24, ⟨es', c', M24, fun r => ?_⟩, fun hin => h.Ft _ hin hp', fun hin => h.Ft _ hin hm', hpm', h.rng, h.there (L := []) e24.mut (by simp)⟩, e24⟩
    · have := htold r
      cases hq : told r with
      | none => rw [hq] at this; show mget es' r = none; rw [hsame]; exact this
      | some x =>
        rw [hq] at this
        obtain ⟨q, a, b⟩ := this
        exact ⟨q, by rw [hsame]; exact a, b.mut (L := []) e24.mut (by simp)⟩
  · simp only [List.cons.injEq, AV.bool.injEq, and_true] at hb
    subst hb
    have hlt := I21.lt he hn
    refine bsplit.yes rfl (Iter.entry (hes.ext e24) I24 ⟨_, rfl, _, rfl, _, by rw [o24.at.rd1]; rfl, MpAt.upd mp_told w24 M24 e.1 e.2.1 fun s30 es2 c2 M30 hg30 w30 m30 => ⟨es.length - (done.length + 1), by omega, rfl, done ++ [e], es2, c2, by simp, Ext.wr e24 hm' m30, w30, o24.mut m30 (by simpa using hpm'), I24.mut m30 (by simpa using itm), M30, fun r q => ?_⟩⟩)
    rw [hg30]
    by_cases hr : r = e.1
    · subst hr
      rw [if_pos rfl]
      constructor
      · intro hq; obtain rfl := Option.some.inj hq; exact ⟨e.2.2, by simp⟩
      · rintro ⟨k, hk⟩
        have h1 := mget_mem hes.nd he
        have h2 : mget es e.1 = some q := mget_mem hes.nd (e := (e.1, q, k)) (I24.sub _ hk)
        rw [h1] at h2; exact h2
    · rw [if_neg hr, hg21]
      constructor
      · rintro ⟨k, hk⟩; exact ⟨k, by simp [hk]⟩
      · rintro ⟨k, hk⟩
        rcases List.mem_append.1 hk with hk | hk
        · exact ⟨k, hk⟩
        · obtain hk := List.mem_singleton.1 hk
          exact absurd (congrArg (fun x => x.1) hk) hr
end
end Go.Proofs.Ytbfchlimonimkaa
end

section
set_option linter.unusedSimpArgs false
set_option linter.unusedVariables false
namespace Go.Am
/-- the first part of a slice -/
theorem SlAt.to {T : TT} {t el : TypeId} {sz : Nat} (hu : T.und t = some (.slice el)) (hs : T.siz el = some sz) {s : AS} {v : AV} {n : Nat} {cs : List AV} (h : SlAt s v sz cs n) (h0 : 0 < n) {i : Nat} (hi : i ≤ n) (k : IntKind) : ∃ v', aslice T t v none (some (.int k (i : Nat))) none = some v' ∧ SlAt s v' sz (cs.take (i * sz)) i := by
  rcases h with ⟨_, rfl, _⟩ | ⟨a, c, e, rfl, ⟨hl, hnc⟩, h3⟩
  · omega
  rcases h3 with h3 | ⟨la, o, C, rfl, hC, hcs⟩
  · omega
  have hab : abounds n c none (some (.int k (i : Nat))) none = some (0, i, c) := by
    have : (0 : Int) ≤ (i : Int) ∧ (i : Int) ≤ ((c : Nat) : Int) := by omega
    simp only [abounds, aopt, ahigh, abound1, Option.isNone_some, Option.isSome_none, Bool.false_eq_true, false_and, if_false, Option.bind_some, this, and_self, if_true, Option.map_some, Int.toNat_natCast]
  have hc0 : ¬ c = 0 := by omega
  have key : aslice T t (.slc (some (la, o)) n c e) none (some (.int k (i : Nat))) none = some (.slc (some (la, o)) i c e) := by
    cases e <;> simp [aslice, hu, hs, hab, hc0]
  refine ⟨_, key, .inr ⟨_, _, _, rfl, ⟨?_, by omega⟩, .inr ⟨la, o, C, rfl, hC, ?_⟩⟩⟩
  · rw [List.length_take, hl]
    have := Nat.mul_le_mul_right sz hi
    omega
  · rw [← hcs, List.take_take]
    have := Nat.mul_le_mul_right sz hi
    congr 1; omega
theorem Sl.to {α : Type} {f : α → List AV} {sz : Nat} {s : AS} {v : AV} {l : List α} {T : TT} {t el : TypeId} (hf : ∀ x, (f x).length = sz) (hu : T.und t = some (.slice el)) (hs : T.siz el = some sz) (h : Sl f sz s v l) (h0 : 0 < l.length) {i : Nat} (hi : i ≤ l.length) (k : IntKind) : ∃ v', aslice T t v none (some (.int k (i : Nat))) none = some v' ∧ Sl f sz s v' (l.take i) := by
  obtain ⟨v', h1, h2⟩ := SlAt.to hu hs h h0 hi k
  refine ⟨v', h1, ?_⟩
  rw [flat_take hf] at h2
  simpa [Sl, List.length_take, Nat.min_eq_left hi] using h2
end Go.Am
namespace Go.Proofs.Ytbfchlimonimkaa
open Go.Am Go.Minster

/-- an act -/
structure A14 where
  kind : Int
  region : Int
  da : AV
  la : AV
  dots : List Dot
  live : List Dot
  v : Nat → Int
def A14.vl (a : A14) : List Int := (List.range 16).map a.v
theorem A14.vl_len (a : A14) : a.vl.length = 16 := by simp [A14.vl]
theorem A14.vl_get (a : A14) {k : Nat} (hk : k < 16) : a.vl.getD k 0 = a.v k := by simp [A14.vl, List.getD_eq_getElem?_getD, hk]
def actC (a : A14) : List AV := [.int .i64 a.kind, .int .i64 a.region, a.da, a.la] ++ a.vl.map (.int .u64)
theorem actC_len (a : A14) : (actC a).length = 20 := by simp [actC, A14.vl_len]
structure ActOk (s : AS) (a : A14) : Prop where
  d1 : a.da.one = true
  l1 : a.la.one = true
  d : Dots s a.da a.dots
  l : Dots s a.la a.live
theorem ActOk.ext {s s' : AS} {a : A14} (h : ActOk s a) (e : Ext s s') : ActOk s' a := ⟨h.d1, h.l1, h.d.ext e, h.l.ext e⟩
theorem ActOk.one {s : AS} {a : A14} (h : ActOk s a) : (actC a).all AV.one = true := by
  simp [actC, h.d1, h.l1]
structure Acts (s : AS) (v : AV) (l : List A14) : Prop where
  sl : Sl actC 20 s v l
  ok : ∀ a ∈ l, ActOk s a
theorem Acts.ext {s s' : AS} {v : AV} {l : List A14} (h : Acts s v l) (e : Ext s s') : Acts s' v l := ⟨h.sl.ext e, fun a ha => (h.ok a ha).ext e⟩
theorem act_0 (a : A14) : (actC a)[0]? = some (.int .i64 a.kind) := rfl
theorem act_1 (a : A14) : (actC a)[1]? = some (.int .i64 a.region) := rfl
theorem act_2 (a : A14) : (actC a)[2]? = some a.da := rfl
theorem act_3 (a : A14) : (actC a)[3]? = some a.la := rfl

/-- may live dots be told with these? -/
def MayA (a : A14) : Prop := (∀ (i : Nat) x y, a.live[i]? = some x → a.live[i + 1]? = some y → x.lt y = true) ∧ ∀ d ∈ a.live, d.may = true ∧ d ∈ a.dots
theorem MayA.iff {a : A14} {v : List Int} {ex : List Dot} (h : ∀ y, hasD v ex y = true ↔ y.may = true ∧ y ∈ a.dots) : mayL v ex a.live ↔ MayA a :=
  ⟨fun ⟨h1, h2⟩ => ⟨h1, fun d hd => (h d).1 (h2 d hd)⟩, fun ⟨h1, h2⟩ => ⟨h1, fun d hd => (h d).2 (h2 d hd)⟩⟩

theorem may_ok {s : AS} {a : A14} (h : ActOk s a) (hl : a.live.length ≤ 1000) (hd : a.dots.length ≤ 1000) : ACalls Try.prog F_law14imay [.agg (actC a)] s fun r s' => Ext s s' ∧ ∃ b, r = .bool b ∧ (b = true ↔ MayA a) := by
  refine ACalls.pre fun hw => q_law14imay _ _ _ ⟨h.one, NewQ.intro hw rfl fun l1 s2 F2 => ?_⟩
  have at2 : At s2 l1 (actC a) := F2.own.at
  have r2 : ∀ s', Ext s2 s' → rd1 s' l1 2 = some a.da := fun s' e => by rw [(at2.ext e).rd1]; rfl
  have r3 : ∀ s', Ext s2 s' → rd1 s' l1 3 = some a.la := fun s' e => by rw [(at2.ext e).rd1]; rfl
  have hL := h.l.ext F2.ext
  have hD := h.d.ext F2.ext
  refine ⟨fun m vs s' => ∃ i : Nat, vs = [.int .i64 (i : Nat)] ∧ i ≤ a.live.length ∧ m = a.live.length - i ∧ Ext s2 s' ∧ WFs s' ∧ (∀ (k : Nat) x y, k + 1 < i → a.live[k]? = some x → a.live[k + 1]? = some y → x.lt y = true) ∧ ∀ d ∈ a.live.take i, d.may = true ∧ d ∈ a.dots, a.live.length, ⟨0, rfl, by omega, rfl, Ext.refl _, F2.wf, fun k x y hk => by omega, by simp⟩, ?_⟩
  rintro m n6 s7 ⟨i, hi, hil, rfl, e7, w7, hris, hall⟩
  simp only [List.cons.injEq, AV.int.injEq, true_and, and_true] at hi
  subst hi
  have E7 := F2.ext.trans e7
  refine ⟨_, r3 _ e7, _, hL.lenB u_s_Dot _, bsplit.dec (fun hlt => ?_) (fun hge => ?_)⟩
  · obtain ⟨x, hx⟩ := get_lt (l := a.live) (i := i) (by omega)
    obtain ⟨lx, ox, h8, h9⟩ := hL.ix (by decide) dotC_len u_s_Dot z_Dot hx
    have gx : ∀ s', Ext s2 s' → rdc s' lx ox 2 = some (dotC x) := fun s' e => (h9 s' e).2
    have hxin := List.mem_of_getElem? hx
    refine ⟨fun vs s' => Ext s2 s' ∧ WFs s' ∧ ∃ b, vs = [.bool b] ∧ (b = true ↔ x.may = true ∧ x ∈ a.dots), ?_, fun m vs s' => ∃ (k : Nat) (b : Bool), vs = [.bool b, .int .i64 (k : Nat)] ∧ k ≤ a.dots.length ∧ m = a.dots.length - k ∧ Ext s2 s' ∧ WFs s' ∧ (b = true ↔ x.may = true ∧ x ∈ a.dots.take k), a.dots.length, ⟨0, false, rfl, by omega, rfl, e7, w7, by simp⟩, ?_⟩
    · rintro b s12 ⟨e12, w12, b', hb, hiff⟩
      simp only [List.cons.injEq, AV.bool.injEq, and_true] at hb
      subst hb
      refine bsplit.mk (fun hb => ⟨F2.ext.trans e12, false, rfl, ?_⟩) (fun hb => ?_)
      · have hb' : b = false := by simpa using hb
        constructor
        · intro h; cases h
        · intro hm
          have := hiff.2 (hm.2 x hxin)
          rw [hb'] at this; cases this
      have hb' : b = true := by simpa using hb
      have hx2 := hiff.1 hb'
      have cont : ∀ s', Ext s2 s' → WFs s' → (∀ y, 0 < i → a.live[i - 1]? = some y → y.lt x = true) → ∃ m', m' < a.live.length - i ∧ ∃ j : Nat, [AV.int .i64 (IntKind.wrap .i64 ((i : Int) + 1))] = [.int .i64 (j : Nat)] ∧ j ≤ a.live.length ∧ m' = a.live.length - j ∧ Ext s2 s' ∧ WFs s' ∧ (∀ (k : Nat) x y, k + 1 < j → a.live[k]? = some x → a.live[k + 1]? = some y → x.lt y = true) ∧ ∀ d ∈ a.live.take j, d.may = true ∧ d ∈ a.dots := by
        intro s' e w hy
        refine ⟨a.live.length - (i + 1), by omega, i + 1, by rw [wadd1 (by omega)], by omega, rfl, e, w, fun k u v hk hu hv => ?_, fun d hd => ?_⟩
        · rcases Nat.lt_or_ge (k + 1) i with h | h
          · exact hris k u v h hu hv
          · obtain rfl : k + 1 = i := by omega
            rw [hx] at hv; obtain rfl := Option.some.inj hv
            exact hy u (by omega) (by simpa using hu)
        · rw [mem_take_succ hx] at hd
          rcases hd with hd | rfl
          · exact hall d hd
          · exact hx2
      refine bsplit.dec (fun hpos => ?_) (fun hz => cont s12 e12 w12 fun y h0 => by omega)
      obtain ⟨y, hy⟩ := get_lt (l := a.live) (i := i - 1) (by omega)
      obtain ⟨ly, oy, k8, k9⟩ := hL.ix (by decide) dotC_len u_s_Dot z_Dot hy
      rw [wsub1 (by omega) (by omega)]
      refine ⟨_, r3 _ e12, ly, oy, k8 _, _, (k9 _ e12).2, _, r3 _ e12, lx, ox, h8 _, _, gx _ e12, ?_⟩
      refine ACalls.use (ref04iLess_ok y x _) ?_
      rintro r s22 ⟨rfl, e22⟩ w22
      refine ⟨_, rfl, bsplit.mk (fun hb => ⟨F2.ext.trans (e12.trans e22), false, rfl, ?_⟩) (fun hb => cont s22 (e12.trans e22) w22 fun y' _ hy' => by rw [hy] at hy'; obtain rfl := Option.some.inj hy'; simpa using hb)⟩
      constructor
      · intro h; cases h
      · intro hm
        have := hm.1 (i - 1) y x hy (by rw [show i - 1 + 1 = i by omega]; exact hx)
        rw [this] at hb; cases hb
    · rintro m b n28 s29 ⟨k, b', hk, hkl, rfl, e29, w29, hiff⟩
      simp only [List.cons.injEq, AV.int.injEq, AV.bool.injEq, true_and, and_true] at hk
      obtain ⟨rfl, rfl⟩ := hk
      refine ⟨_, r2 _ e29, _, hD.lenB u_s_Dot _, bsplit.dec (fun hlt2 => ?_) (fun hge2 => ⟨e29, w29, b, rfl, by rw [hiff, List.take_of_length_le (by omega)]⟩)⟩
      obtain ⟨y, hy⟩ := get_lt (l := a.dots) (i := k) (by omega)
      obtain ⟨ly, oy, k8, k9⟩ := hD.ix (by decide) dotC_len u_s_Dot z_Dot hy
      have cont : ∀ (t : Bool) s', Ext s2 s' → WFs s' → (t = true ↔ x.may = true ∧ x ∈ a.dots.take (k + 1)) → ∃ m', m' < a.dots.length - k ∧ ∃ (j : Nat) (b : Bool), [AV.bool t, AV.int .i64 (IntKind.wrap .i64 ((k : Int) + 1))] = [.bool b, .int .i64 (j : Nat)] ∧ j ≤ a.dots.length ∧ m' = a.dots.length - j ∧ Ext s2 s' ∧ WFs s' ∧ (b = true ↔ x.may = true ∧ x ∈ a.dots.take j) :=
        fun t s' e w ht => ⟨a.dots.length - (k + 1), by omega, k + 1, t, by rw [wadd1 (by omega)], by omega, rfl, e, w, ht⟩
      refine bsplit.mk (fun hb => ?_) (fun hb => ⟨_, r2 _ e29, ly, oy, k8 _, _, (k9 _ e29).2, _, r3 _ e29, lx, ox, h8 _, _, gx _ e29, _, dot_eq _ _, bsplit.dec (fun heq => ?_) (fun hne => ?_)⟩)
      · refine cont true s29 e29 w29 ?_
        have := hiff.1 hb
        simp only [true_iff]
        exact ⟨this.1, by rw [mem_take_succ hy]; exact .inl this.2⟩
      · refine ⟨_, r3 _ e29, lx, ox, h8 _, _, gx _ e29, ?_⟩
        refine ACalls.use (ref04iMay_ok x _) ?_
        rintro r s46 ⟨rfl, e46⟩ w46
        refine ⟨_, rfl, cont _ s46 (e29.trans e46) w46 ?_⟩
        rw [mem_take_succ hy]
        exact ⟨fun h => ⟨h, .inr heq.symm⟩, fun h => h.1⟩
      · refine cont false s29 e29 w29 ?_
        rw [mem_take_succ hy]
        constructor
        · intro h; cases h
        · rintro ⟨h1, h2 | h2⟩
          · have := hiff.2 ⟨h1, h2⟩; rw [hb] at this; cases this
          · exact absurd h2.symm hne
  · refine ⟨E7, true, rfl, ?_⟩
    obtain rfl : i = a.live.length := by omega
    rw [List.take_length] at hall
    simp only [true_iff]
    refine ⟨fun k x y hx hy => hris k x y ?_ hx hy, hall⟩
    rcases Nat.lt_or_ge (k + 1) a.live.length with h | h
    · exact h
    · rw [List.getElem?_eq_none h] at hy; cases hy

/-- did an act tell a dot gone? -/
def Tells (a : A14) (r : Int) : Prop := a.kind = 1 ∧ a.region = r ∧ MayA a
def hd (a : A14) (d : Dot) : Prop := d.may = true ∧ d ∈ a.dots
def GoneP (l : List A14) (r : Int) (d : Dot) : Prop := ∃ a ∈ l, Tells a r ∧ hd a d ∧ d ∉ a.live
/-- few acts, of few dots -/
def Few (l : List A14) : Prop := l.length ≤ 40 ∧ ∀ a ∈ l, a.dots.length ≤ 40 ∧ a.live.length ≤ 40

theorem wadd63 {x : Nat} (h : x + 1 ≤ 9223372036854775807) : IntKind.wrap .i64 ((x : Int) + 1) = ((x + 1 : Nat) : Int) := by rw [IntWalk.i64_in _ (by omega)]; omega
theorem few_ok {s : AS} {v : AV} {l : List A14} (h : Acts s v l) (hn : l.length ≤ 9223372036854775807) (hw : WFs s) : ACalls Try.prog F_law14ifew [v] s fun r s' => s' = s ∧ ∃ b, r = .bool b ∧ (b = true ↔ Few l) := by
  refine q_law14ifew _ _ _ ⟨fun vs s' => s' = s ∧ ∀ a ∈ l, a.dots.length ≤ 40 ∧ a.live.length ≤ 40, ?_, fun m vs s' => ∃ i : Nat, vs = [.int .i64 (i : Nat)] ∧ i ≤ l.length ∧ m = l.length - i ∧ s' = s ∧ ∀ a ∈ l.take i, a.dots.length ≤ 40 ∧ a.live.length ≤ 40, l.length, ⟨0, rfl, by omega, rfl, rfl, by simp⟩, ?_⟩
  · rintro s2 ⟨rfl, hall⟩
    refine ⟨_, h.sl.lenB u_s_minsterlaw14iAct _, rfl, _, rfl, ?_⟩
    simp only [decide_eq_true_eq, Few]
    constructor
    · intro h; exact ⟨by omega, hall⟩
    · intro h; omega
  · rintro m n7 s8 ⟨i, hi, hil, rfl, rfl, hall⟩
    simp only [List.cons.injEq, AV.int.injEq, true_and, and_true] at hi
    subst hi
    refine ⟨_, h.sl.lenB u_s_minsterlaw14iAct _, bsplit.dec (fun hlt => ?_) (fun hge => ⟨rfl, by rw [List.take_of_length_le (by omega)] at hall; exact hall⟩)⟩
    obtain ⟨a, ha⟩ := get_lt (l := l) (i := i) (by omega)
    obtain ⟨la, oa, h8, h9⟩ := h.sl.ix (by decide) actC_len u_s_minsterlaw14iAct z_minsterlaw14iAct ha
    have hao := h.ok a (List.mem_of_getElem? ha)
    have g2 : rd1 s8 la (oa + 2) = some a.da := (h9 _ (Ext.refl _)).1 2 (by decide)
    have g3 : rd1 s8 la (oa + 3) = some a.la := (h9 _ (Ext.refl _)).1 3 (by decide)
    refine ⟨la, oa, h8 _, _, g2, _, hao.d.lenB u_s_Dot _, bsplit.dec (fun hgt => ⟨rfl, false, rfl, ?_⟩) (fun hle => ⟨la, oa, h8 _, _, g3, _, hao.l.lenB u_s_Dot _, bsplit.dec (fun hgt => ⟨rfl, false, rfl, ?_⟩) (fun hle2 => ?_)⟩)⟩
    · constructor
      · intro h; cases h
      · intro h; have := h.2 a (List.mem_of_getElem? ha); omega
    · constructor
      · intro h; cases h
      · intro h; have := h.2 a (List.mem_of_getElem? ha); omega
    · refine ⟨l.length - (i + 1), by omega, i + 1, by rw [wadd63 (by omega)], by omega, rfl, rfl, fun b hb => ?_⟩
      rw [List.take_add_one, ha, Option.toList_some, List.mem_append, List.mem_singleton] at hb
      rcases hb with hb | rfl
      · exact hall b hb
      · exact ⟨by omega, by omega⟩

theorem gone_ok {s : AS} {v : AV} {l : List A14} (h : Acts s v l) (hf : Few l) (r : Int) (d : Dot) : ACalls Try.prog F_law14igone [v, .int .i64 r, .agg (dotC d)] s fun x s' => Ext s s' ∧ ∃ b, x = .bool b ∧ (b = true ↔ GoneP l r d) := by
  refine ACalls.pre fun hw => q_law14igone _ _ _ _ _ ⟨rfl, NewQ.intro hw rfl fun l1 s2 F2 => ?_⟩
  have d2 : At s2 l1 (dotC d) := F2.own.at
  have gd : ∀ s', Ext s2 s' → rdc s' l1 0 2 = some (dotC d) := fun s' e => (d2.ext e).rdc (by simp [dotC])
  have h2 := h.ext F2.ext
  have hfl := hf.1
  refine ⟨fun m vs s' => ∃ i : Nat, vs = [.int .i64 (i : Nat)] ∧ i ≤ l.length ∧ m = l.length - i ∧ Ext s2 s' ∧ WFs s' ∧ ¬ GoneP (l.take i) r d, l.length, ⟨0, rfl, by omega, rfl, Ext.refl _, F2.wf, by simp [GoneP]⟩, ?_⟩
  rintro m n6 s7 ⟨i, hi, hil, rfl, e7, w7, hno⟩
  simp only [List.cons.injEq, AV.int.injEq, true_and, and_true] at hi
  subst hi
  refine ⟨_, h2.sl.lenB u_s_minsterlaw14iAct _, bsplit.dec (fun hlt => ?_) (fun hge => ⟨F2.ext.trans e7, false, rfl, ?_⟩)⟩
  rotate_left
  · rw [List.take_of_length_le (by omega)] at hno
    simp [hno]
  obtain ⟨a, ha⟩ := get_lt (l := l) (i := i) (by omega)
  obtain ⟨la, oa, h8, h9⟩ := h2.sl.ix (by decide) actC_len u_s_minsterlaw14iAct z_minsterlaw14iAct ha
  have hain := List.mem_of_getElem? ha
  have hao := h2.ok a hain
  have hfa := hf.2 a hain
  have g0 : ∀ s', Ext s2 s' → rd1 s' la oa = some (.int .i64 a.kind) := fun s' e => (h9 s' e).1 0 (by decide)
  have g1 : ∀ s', Ext s2 s' → rd1 s' la (oa + 1) = some (.int .i64 a.region) := fun s' e => (h9 s' e).1 1 (by decide)
  have g2 : ∀ s', Ext s2 s' → rd1 s' la (oa + 2) = some a.da := fun s' e => (h9 s' e).1 2 (by decide)
  have g3 : ∀ s', Ext s2 s' → rd1 s' la (oa + 3) = some a.la := fun s' e => (h9 s' e).1 3 (by decide)
  have cont : ∀ s', Ext s2 s' → WFs s' → ¬ (Tells a r ∧ hd a d ∧ d ∉ a.live) → ∃ m', m' < l.length - i ∧ ∃ j : Nat, [AV.int .i64 (IntKind.wrap .i64 ((i : Int) + 1))] = [.int .i64 (j : Nat)] ∧ j ≤ l.length ∧ m' = l.length - j ∧ Ext s2 s' ∧ WFs s' ∧ ¬ GoneP (l.take j) r d := by
    intro s' e w hn
    refine ⟨l.length - (i + 1), by omega, i + 1, by rw [wadd1 (by omega)], by omega, rfl, e, w, ?_⟩
    rintro ⟨b, hb, hbb⟩
    rw [List.take_add_one, ha, Option.toList_some, List.mem_append, List.mem_singleton] at hb
    rcases hb with hb | rfl
    · exact hno ⟨b, hb, hbb⟩
    · exact hn hbb
  refine ⟨la, oa, h8 _, _, g0 _ e7, bsplit.mk (fun hk => cont s7 e7 w7 fun hh => ?_) (fun hk => ⟨la, oa, h8 _, _, g1 _ e7, bsplit.mk (fun hr => cont s7 e7 w7 fun hh => ?_) (fun hr => ⟨la, oa, h8 _, _, (h9 _ e7).2, ?_⟩)⟩)⟩
  · have hk' : a.kind ≠ 1 := by simpa using hk
    exact hk' hh.1.1
  · have hr' : a.region ≠ r := by simpa using hr
    exact hr' hh.1.2.1
  have hk' : a.kind = 1 := by simpa using hk
  have hr' : a.region = r := by simpa using hr
  refine ACalls.use (may_ok (hao.ext e7) (by omega) (by omega)) ?_
  rintro x s19 ⟨e19, b20, rfl, hb20⟩ w19
  have E19 := e7.trans e19
  refine ⟨_, rfl, bsplit.mk (fun hb => cont s19 E19 w19 fun hh => ?_) (fun hb => ?_)⟩
  · have := hb20.2 hh.1.2.2
    rw [this] at hb; cases hb
  have hmay : MayA a := hb20.1 (by simpa using hb)
  have hT : Tells a r := ⟨hk', hr', hmay⟩
  refine ⟨fun vs s' => Ext s2 s' ∧ WFs s' ∧ ∃ b, vs = [.bool b] ∧ (b = true ↔ hd a d), ?_, fun m vs s' => ∃ (k : Nat) (b : Bool), vs = [.bool b, .int .i64 (k : Nat)] ∧ k ≤ a.dots.length ∧ m = a.dots.length - k ∧ Ext s2 s' ∧ WFs s' ∧ (b = true ↔ d.may = true ∧ d ∈ a.dots.take k), a.dots.length, ⟨0, false, rfl, by omega, rfl, E19, w19, by simp⟩, ?_⟩
  · rintro b22 s23 ⟨e23, w23, b', hb, h22⟩
    simp only [List.cons.injEq, AV.bool.injEq, and_true] at hb
    subst hb
    refine ⟨fun vs s' => Ext s2 s' ∧ WFs s' ∧ ∃ b, vs = [.bool b] ∧ (b = true ↔ d ∈ a.live), ?_, fun m vs s' => ∃ (k : Nat) (b : Bool), vs = [.bool b, .int .i64 (k : Nat)] ∧ k ≤ a.live.length ∧ m = a.live.length - k ∧ Ext s2 s' ∧ WFs s' ∧ (b = true ↔ d ∈ a.live.take k), a.live.length, ⟨0, false, rfl, by omega, rfl, e23, w23, by simp⟩, ?_⟩
    · rintro b25 s26 ⟨e26, w26, b', hb, h25⟩
      simp only [List.cons.injEq, AV.bool.injEq, and_true] at hb
      subst hb
      refine bsplit.mk (fun hs => bsplit.mk (fun hl => ⟨F2.ext.trans e26, true, rfl, ?_⟩) (fun hl => cont s26 e26 w26 fun hh => ?_)) (fun hs => cont s26 e26 w26 fun hh => ?_)
      · simp only [true_iff]
        refine ⟨a, hain, hT, h22.1 hs, fun hin => ?_⟩
        rw [h25.2 hin] at hl; cases hl
      · exact hh.2.2 (h25.1 (by simpa using hl))
      · have := h22.2 hh.2.1
        rw [hs] at this; cases this
    · rintro m b30 n31 s32 ⟨k, b', hk, hkl, rfl, e32, w32, hiff⟩
      simp only [List.cons.injEq, AV.int.injEq, AV.bool.injEq, true_and, and_true] at hk
      obtain ⟨rfl, rfl⟩ := hk
      refine ⟨la, oa, h8 _, _, g3 _ e32, _, hao.l.lenB u_s_Dot _, bsplit.dec (fun hlt2 => ?_) (fun hge2 => ⟨e32, w32, b30, rfl, by rw [hiff, List.take_of_length_le (by omega)]⟩)⟩
      obtain ⟨y, hy⟩ := get_lt (l := a.live) (i := k) (by omega)
      obtain ⟨ly, oy, k8, k9⟩ := hao.l.ix (by decide) dotC_len u_s_Dot z_Dot hy
      have cont2 : ∀ (t : Bool) s', Ext s2 s' → WFs s' → (t = true ↔ d ∈ a.live.take (k + 1)) → ∃ m', m' < a.live.length - k ∧ ∃ (j : Nat) (b : Bool), [AV.bool t, AV.int .i64 (IntKind.wrap .i64 ((k : Int) + 1))] = [.bool b, .int .i64 (j : Nat)] ∧ j ≤ a.live.length ∧ m' = a.live.length - j ∧ Ext s2 s' ∧ WFs s' ∧ (b = true ↔ d ∈ a.live.take j) :=
        fun t s' e w ht => ⟨a.live.length - (k + 1), by omega, k + 1, t, by rw [wadd1 (by omega)], by omega, rfl, e, w, ht⟩
      refine bsplit.mk (fun hb => cont2 true s32 e32 w32 ?_) (fun hb => ⟨la, oa, h8 _, _, g3 _ e32, ly, oy, k8 _, _, (k9 _ e32).2, _, gd _ e32, _, dot_eq _ _, cont2 _ s32 e32 w32 ?_⟩)
      · simp only [true_iff]
        rw [mem_take_succ hy]; exact .inl (hiff.1 hb)
      · rw [mem_take_succ hy, decide_eq_true_eq]
        constructor
        · intro h; exact .inr h.symm
        · rintro (h | h)
          · have := hiff.2 h; rw [hb] at this; cases this
          · exact h.symm
  · rintro m b48 n49 s50 ⟨k, b', hk, hkl, rfl, e50, w50, hiff⟩
    simp only [List.cons.injEq, AV.int.injEq, AV.bool.injEq, true_and, and_true] at hk
    obtain ⟨rfl, rfl⟩ := hk
    refine ⟨la, oa, h8 _, _, g2 _ e50, _, hao.d.lenB u_s_Dot _, bsplit.dec (fun hlt2 => ?_) (fun hge2 => ⟨e50, w50, b48, rfl, by rw [hiff, List.take_of_length_le (by omega)]; exact Iff.rfl⟩)⟩
    obtain ⟨y, hy⟩ := get_lt (l := a.dots) (i := k) (by omega)
    obtain ⟨ly, oy, k8, k9⟩ := hao.d.ix (by decide) dotC_len u_s_Dot z_Dot hy
    have cont2 : ∀ (t : Bool) s', Ext s2 s' → WFs s' → (t = true ↔ d.may = true ∧ d ∈ a.dots.take (k + 1)) → ∃ m', m' < a.dots.length - k ∧ ∃ (j : Nat) (b : Bool), [AV.bool t, AV.int .i64 (IntKind.wrap .i64 ((k : Int) + 1))] = [.bool b, .int .i64 (j : Nat)] ∧ j ≤ a.dots.length ∧ m' = a.dots.length - j ∧ Ext s2 s' ∧ WFs s' ∧ (b = true ↔ d.may = true ∧ d ∈ a.dots.take j) :=
      fun t s' e w ht => ⟨a.dots.length - (k + 1), by omega, k + 1, t, by rw [wadd1 (by omega)], by omega, rfl, e, w, ht⟩
    refine bsplit.mk (fun hb => cont2 true s50 e50 w50 ?_) (fun hb => ⟨la, oa, h8 _, _, g2 _ e50, ly, oy, k8 _, _, (k9 _ e50).2, _, gd _ e50, _, dot_eq _ _, bsplit.dec (fun heq => ⟨_, gd _ e50, ?_⟩) (fun hne => cont2 false s50 e50 w50 ?_)⟩)
    · simp only [true_iff]
      have := hiff.1 hb
      exact ⟨this.1, by rw [mem_take_succ hy]; exact .inl this.2⟩
    · refine ACalls.use (ref04iMay_ok d _) ?_
      rintro x s65 ⟨rfl, e65⟩ w65
      refine ⟨_, rfl, cont2 _ s65 (e50.trans e65) w65 ?_⟩
      rw [mem_take_succ hy]
      exact ⟨fun h => ⟨h, .inr heq.symm⟩, fun h => h.1⟩
    · rw [mem_take_succ hy]
      constructor
      · intro h; cases h
      · rintro ⟨h1, h2 | h2⟩
        · have := hiff.2 ⟨h1, h2⟩; rw [hb] at this; cases this
        · exact absurd h2.symm hne
end Go.Proofs.Ytbfchlimonimkaa
end

section
set_option linter.unusedSimpArgs false
set_option linter.unusedVariables false
namespace Go.Proofs.Ytbfchlimonimkaa
open Go.Am Go.Minster

def Oth (n o r : Int) : Prop := 1 ≤ r ∧ r ≤ n ∧ r ≠ o
/-- what is known after the acts of D -/
structure Kn (n o : Int) (D : List A14) (told : Int → Option Vw) (has : List Int) : Prop where
  sn : ∀ r d, sn (told r) d = true ↔ Oth n o r ∧ ∃ a ∈ D, Tells a r ∧ hd a d
  lv : ∀ r d, lvo (told r) d = true ↔ Go.Proofs.Ytbfchlimonimkaa.sn (told r) d = true ∧ ∀ a ∈ D, Tells a r → hd a d → d ∈ a.live
  hle : ∀ r, Oth n o r → ∀ a ∈ D, a.kind = 2 → a.region = r → ∀ k, k < 16 → a.v k ≤ hg has r k
  hge : ∀ r, 1 ≤ r → r ≤ 16 → ∀ k, k < 16 → hg has r k = 0 ∨ (Oth n o r ∧ ∃ a ∈ D, a.kind = 2 ∧ a.region = r ∧ hg has r k = a.v k)
  hnn : ∀ r, 1 ≤ r → r ≤ 16 → ∀ k, k < 16 → 0 ≤ hg has r k

section
variable {n o : Int} {D : List A14} {told : Int → Option Vw} {has : List Int}
theorem hg_zero {r : Int} (hr : 1 ≤ r ∧ r ≤ 16) {k : Nat} (hk : k < 16) : hg zeros256 r k = 0 := by
  simp only [hg, zeros256, List.getD_eq_getElem?_getD, List.getElem?_replicate]
  split <;> rfl
theorem Kn.zero : Kn n o [] (fun _ => none) zeros256 :=
  ⟨fun r d => by simp [Go.Proofs.Ytbfchlimonimkaa.sn], fun r d => by simp [Go.Proofs.Ytbfchlimonimkaa.sn, lvo], fun r _ a ha => (by cases ha), fun r h1 h2 k hk => .inl (hg_zero ⟨h1, h2⟩ hk), fun r h1 h2 k hk => by rw [hg_zero ⟨h1, h2⟩ hk]; omega⟩

theorem Kn.gone (h : Kn n o D told has) (r : Int) (d : Dot) : gn (told r) d = true ↔ Oth n o r ∧ GoneP D r d := by
  rw [gn, Bool.and_eq_true, Bool.not_eq_true', ← Bool.not_eq_true, h.lv, h.sn]
  constructor
  · rintro ⟨⟨h1, a, ha, ht, hh⟩, h2⟩
    refine ⟨h1, ?_⟩
    apply Classical.byContradiction
    intro hno
    refine h2 ⟨⟨h1, a, ha, ht, hh⟩, fun b hb htb hhb => ?_⟩
    apply Classical.byContradiction
    intro hnl
    exact hno ⟨b, hb, htb, hhb, hnl⟩
  · rintro ⟨h1, a, ha, ht, hh, hnl⟩
    exact ⟨⟨h1, a, ha, ht, hh⟩, fun h2 => hnl (h2.2 a ha ht hh)⟩
theorem GoneP.mono {D D' : List A14} (h : ∀ a ∈ D, a ∈ D') {r : Int} {d : Dot} (hg : GoneP D r d) : GoneP D' r d := by
  obtain ⟨a, ha, hh⟩ := hg
  exact ⟨a, h a ha, hh⟩
theorem tells_snoc {a : A14} {P : A14 → Prop} : (∃ b ∈ D ++ [a], P b) ↔ (∃ b ∈ D, P b) ∨ P a := by
  constructor
  · rintro ⟨b, hb, hp⟩
    rcases List.mem_append.1 hb with hb | hb
    · exact .inl ⟨b, hb, hp⟩
    · obtain rfl := List.mem_singleton.1 hb; exact .inr hp
  · rintro (⟨b, hb, hp⟩ | hp)
    · exact ⟨b, by simp [hb], hp⟩
    · exact ⟨a, by simp, hp⟩
theorem all_snoc {a : A14} {P : A14 → Prop} : (∀ b ∈ D ++ [a], P b) ↔ (∀ b ∈ D, P b) ∧ P a := by
  constructor
  · intro h; exact ⟨fun b hb => h b (by simp [hb]), h a (by simp)⟩
  · rintro ⟨h1, h2⟩ b hb
    rcases List.mem_append.1 hb with hb | hb
    · exact h1 b hb
    · obtain rfl := List.mem_singleton.1 hb; exact h2

/-- an act that does nothing -/
theorem Kn.skip (h : Kn n o D told has) {a : A14} (h1 : a.kind = 1 → ¬ (Oth n o a.region ∧ MayA a)) (h2 : a.kind = 2 → ¬ Oth n o a.region) : Kn n o (D ++ [a]) told has := by
  have hT : ∀ r, Oth n o r → ¬ Tells a r := fun r ho ht => h1 ht.1 ⟨ht.2.1 ▸ ho, ht.2.2⟩
  refine ⟨fun r d => ?_, fun r d => ?_, fun r ho b hb hk hr k hk16 => ?_, fun r hr1 hr2 k hk => ?_, h.hnn⟩
  · rw [h.sn, tells_snoc]
    constructor
    · rintro ⟨a1, a2⟩; exact ⟨a1, .inl a2⟩
    · rintro ⟨a1, a2 | ⟨a2, _⟩⟩
      · exact ⟨a1, a2⟩
      · exact absurd a2 (hT r a1)
  · rw [h.lv, all_snoc]
    constructor
    · rintro ⟨a1, a2⟩; exact ⟨a1, a2, fun ht => absurd ht (hT r ((h.sn r d).1 a1).1)⟩
    · rintro ⟨a1, a2, _⟩; exact ⟨a1, a2⟩
  · rcases List.mem_append.1 hb with hb | hb
    · exact h.hle r ho b hb hk hr k hk16
    · obtain rfl := List.mem_singleton.1 hb
      exact absurd (hr ▸ ho) (h2 hk)
  · rcases h.hge r hr1 hr2 k hk with h0 | ⟨ho, b, hb, hh⟩
    · exact .inl h0
    · exact .inr ⟨ho, b, by simp [hb], hh⟩
/-- a region tells -/
theorem Kn.know (h : Kn n o D told has) {a : A14} (hk : a.kind = 1) (ho : Oth n o a.region) (hm : MayA a) {cv : List Int} {ce : List Dot} (hh : ∀ y, hasD cv ce y = true ↔ y.may = true ∧ y ∈ a.dots) {x : Vw} (ht : Told (told a.region) cv ce a.live x) :
    Kn n o (D ++ [a]) (fun r' => if r' = a.region then some x else told r') has := by
  have hT : Tells a a.region := ⟨hk, rfl, hm⟩
  have hsub : ∀ d, d ∈ a.live → hd a d := fun d hd => hm.2 d hd
  refine ⟨fun r d => ?_, fun r d => ?_, fun r ho b hb hk2 hr k hk16 => ?_, fun r hr1 hr2 k hk => ?_, h.hnn⟩
  · by_cases e : r = a.region
    · subst e
      simp only [if_true]
      show x.has d = true ↔ _
      rw [ht.has, Bool.or_eq_true, h.sn, tells_snoc, hh]
      constructor
      · rintro (⟨a1, a2⟩ | a2)
        · exact ⟨a1, .inl a2⟩
        · exact ⟨ho, .inr ⟨hT, a2⟩⟩
      · rintro ⟨a1, a2 | ⟨_, a2⟩⟩
        · exact .inl ⟨a1, a2⟩
        · exact .inr a2
    · simp only [if_neg e]
      rw [h.sn, tells_snoc]
      constructor
      · rintro ⟨a1, a2⟩; exact ⟨a1, .inl a2⟩
      · rintro ⟨a1, a2 | ⟨a2, _⟩⟩
        · exact ⟨a1, a2⟩
        · exact absurd a2.2.1.symm e
  · by_cases e : r = a.region
    · subst e
      simp only [if_true]
      show x.live d = true ↔ x.has d = true ∧ _
      have hl := h.lv a.region d
      rw [ht.live, ht.has, all_snoc]
      have hc := hh d
      generalize hasD cv ce d = c at hc
      generalize hs : Go.Proofs.Ytbfchlimonimkaa.sn (told a.region) d = s0 at hl
      generalize lvo (told a.region) d = l0 at hl
      have hs0 : s0 = false → ∀ b ∈ D, Tells b a.region → hd b d → d ∈ b.live := by
        intro h0 b hb htb hhb
        have := (h.sn a.region d).2 ⟨ho, b, hb, htb, hhb⟩
        rw [hs, h0] at this; cases this
      simp only [Bool.or_eq_true, Bool.and_eq_true, decide_eq_true_eq, Bool.not_eq_true']
      constructor
      · rintro (⟨a1, a2⟩ | ⟨a1, a2⟩)
        · obtain ⟨b1, b2⟩ := hl.1 a1
          refine ⟨.inl b1, b2, fun _ hhd => ?_⟩
          rcases a2 with a2 | a2
          · exact a2
          · rw [hc.2 hhd] at a2; cases a2
        · refine ⟨.inr (hc.2 (hsub d a1)), ?_, fun _ _ => a1⟩
          rcases a2 with a2 | a2
          · exact (hl.1 a2).2
          · exact hs0 a2
      · rintro ⟨a1, a2, a3⟩
        rcases a1 with a1 | a1
        · refine .inl ⟨hl.2 ⟨a1, a2⟩, ?_⟩
          cases c with
          | false => exact .inr rfl
          | true => exact .inl (a3 hT (hc.1 rfl))
        · have hin := a3 hT (hc.1 a1)
          refine .inr ⟨hin, ?_⟩
          cases s0 with
          | false => exact .inr rfl
          | true => exact .inl (hl.2 ⟨rfl, a2⟩)
    · simp only [if_neg e]
      rw [h.lv, all_snoc]
      constructor
      · rintro ⟨a1, a2⟩; exact ⟨a1, a2, fun ht => absurd ht.2.1.symm e⟩
      · rintro ⟨a1, a2, _⟩; exact ⟨a1, a2⟩
  · rcases List.mem_append.1 hb with hb | hb
    · exact h.hle r ho b hb hk2 hr k hk16
    · obtain rfl := List.mem_singleton.1 hb
      omega
  · rcases h.hge r hr1 hr2 k hk with h0 | ⟨ho, b, hb, hh⟩
    · exact .inl h0
    · exact .inr ⟨ho, b, by simp [hb], hh⟩
/-- a region has applied -/
theorem Kn.have (h : Kn n o D told has) (hn : n ≤ 16) {a : A14} (hk : a.kind = 2) (ho : Oth n o a.region) (hnn : ∀ k, 0 ≤ a.v k) : Kn n o (D ++ [a]) told (hup has a.region a.vl 16) := by
  have hT : ∀ r, ¬ Tells a r := fun r ht => by have := ht.1; omega
  have hr16 : 1 ≤ a.region ∧ a.region ≤ 16 := ⟨ho.1, by have := ho.2.1; omega⟩
  refine ⟨fun r d => ?_, fun r d => ?_, fun r ho' b hb hk2 hr k hk16 => ?_, fun r hr1 hr2 k hk' => ?_, fun r hr1 hr2 k hk' => ?_⟩
  · rw [h.sn, tells_snoc]
    constructor
    · rintro ⟨a1, a2⟩; exact ⟨a1, .inl a2⟩
    · rintro ⟨a1, a2 | ⟨a2, _⟩⟩
      · exact ⟨a1, a2⟩
      · exact absurd a2 (hT r)
  · rw [h.lv, all_snoc]
    constructor
    · rintro ⟨a1, a2⟩; exact ⟨a1, a2, fun ht => absurd ht (hT r)⟩
    · rintro ⟨a1, a2, _⟩; exact ⟨a1, a2⟩
  · have hr' : 1 ≤ r ∧ r ≤ 16 := ⟨ho'.1, by have := ho'.2.1; omega⟩
    rw [hup_hg hr16 hr' hk16]
    rcases List.mem_append.1 hb with hb | hb
    · have := h.hle r ho' b hb hk2 hr k hk16
      split
      · rename_i e; subst e; omega
      · exact this
    · obtain rfl := List.mem_singleton.1 hb
      rw [if_pos hr.symm, b.vl_get hk16]
      omega
  · rw [hup_hg hr16 ⟨hr1, hr2⟩ hk']
    split
    · rename_i e
      subst e
      rw [a.vl_get hk']
      rcases Int.le_total (hg has a.region k) (a.v k) with hle | hle
      · rw [Int.max_eq_right hle]
        exact .inr ⟨ho, a, by simp, hk, rfl, rfl⟩
      · rw [Int.max_eq_left hle]
        rcases h.hge a.region hr1 hr2 k hk' with h0 | ⟨ho, b, hb, hh⟩
        · exact .inl h0
        · exact .inr ⟨ho, b, by simp [hb], hh⟩
    · rcases h.hge r hr1 hr2 k hk' with h0 | ⟨ho, b, hb, hh⟩
      · exact .inl h0
      · exact .inr ⟨ho, b, by simp [hb], hh⟩
  · rw [hup_hg hr16 ⟨hr1, hr2⟩ hk']
    have h1 := h.hnn r hr1 hr2 k hk'
    split
    · rename_i e; subst e; have := h.hnn a.region hr1 hr2 k hk'; omega
    · exact h1

theorem rising_nodup {l : List Dot} (h : Rising l) : l.Nodup := h.imp fun {a b} hlt he => by rw [he] at hlt; exact Dot.lt_irrefl b hlt
/-- as many exceptions as dots -/
theorem Kn.len (h : Kn n o D told has) {F : List Nat} {s : AS} {p m : Nat} (M : MatF F s p m n o told has) {L : List Dot} (hL : ∀ a ∈ D, ∀ d ∈ a.dots, d ∈ L) (r : Int) : lno (told r) ≤ L.length := by
  cases hq : told r with
  | none => simp [lno]
  | some x =>
    obtain ⟨es, c, _, hm⟩ := M.map
    have := hm r
    rw [hq] at this
    obtain ⟨q, _, hv⟩ := this
    have ok := hv.ok.ok
    refine nodup_len (rising_nodup ok.r) fun d hd => ?_
    have hs : Go.Proofs.Ytbfchlimonimkaa.sn (told r) d = true := by
      rw [hq]
      exact hasD_iff.2 ⟨ok.m d hd, .inl hd⟩
    obtain ⟨_, a, ha, _, hha⟩ := (h.sn r d).1 hs
    exact hL a ha d hha.2
end

/-- all dots of few acts -/
theorem few_dots {l : List A14} (h : Few l) : (l.flatMap fun a => a.dots).length ≤ 1600 := by
  have key : ∀ (l : List A14), (∀ a ∈ l, a.dots.length ≤ 40) → (l.flatMap fun a => a.dots).length ≤ 40 * l.length := by
    intro l
    induction l with
    | nil => intro _; simp
    | cons a l ih =>
      intro h
      have h1 := h a (by simp)
      have h2 := ih fun b hb => h b (by simp [hb])
      simp only [List.flatMap_cons, List.length_append, List.length_cons]
      omega
  have := key l fun a ha => (h.2 a ha).1
  have := h.1
  omega

end Go.Proofs.Ytbfchlimonimkaa
end

section
set_option linter.unusedSimpArgs false
set_option linter.unusedVariables false
namespace Go.Proofs.Ytbfchlimonimkaa
open Go.Am Go.Minster

instance (n o r : Int) : Decidable (Oth n o r) := inferInstanceAs (Decidable (_ ∧ _ ∧ _))
theorem ext_getD {N : Nat} {v w : List Int} (h : v.length = N) (h' : w.length = N) (he : ∀ j, j < N → v.getD j 0 = w.getD j 0) : v = w := by
  apply List.ext_getElem (by omega)
  intro j h1 h2
  have := he j (by omega)
  simpa [List.getD_eq_getElem?_getD, h1, h2] using this
theorem getD_set {l : List Int} {i j : Nat} {x : Int} (hi : i < l.length) : (l.set i x).getD j 0 = if j = i then x else l.getD j 0 := by
  simp only [List.getD_eq_getElem?_getD, List.getElem?_set]
  by_cases e : i = j
  · subst e; simp [hi]
  · rw [if_neg e, if_neg (Ne.symm e)]

theorem hup_hg' {has : List Int} {r : Int} (hr : 1 ≤ r ∧ r ≤ 16) {v : List Int} {r' : Int} (hr' : 1 ≤ r' ∧ r' ≤ 16) {i k : Nat} (hi : i ≤ 16) (hk : k < 16) : hg (hup has r v i) r' k = if r' = r ∧ k < i then max (hg has r k) (v.getD k 0) else hg has r' k := by
  rw [hg, hup_get (by omega)]
  by_cases e : r' = r
  · subst e
    by_cases hki : k < i
    · rw [if_pos (by omega), if_pos ⟨rfl, hki⟩]
      rw [show (r' - 1).toNat * 16 + k - (r' - 1).toNat * 16 = k by omega]
      rfl
    · rw [if_neg (by omega), if_neg (by omega)]
      rfl
  · rw [if_neg (by omega), if_neg (fun h => e h.1)]
    rfl

/-- the local array: row r is what region r has applied -/
def loc (n o : Int) (has : List Int) : List Int := (List.range 272).map fun j => if Oth n o ((j / 16 : Nat) : Int) then hg has ((j / 16 : Nat) : Int) (j % 16) else 0
section
variable {n o : Int} {has : List Int}
theorem loc_len : (loc n o has).length = 272 := by simp [loc]
theorem loc_get {j : Nat} (hj : j < 272) : (loc n o has).getD j 0 = if Oth n o ((j / 16 : Nat) : Int) then hg has ((j / 16 : Nat) : Int) (j % 16) else 0 := by
  simp [loc, List.getD_eq_getElem?_getD, hj]
theorem loc_at {r k : Nat} (hr : r < 17) (hk : k < 16) : (loc n o has).getD (r * 16 + k) 0 = if Oth n o (r : Int) then hg has (r : Int) k else 0 := by
  rw [loc_get (by omega), show (r * 16 + k) / 16 = r by omega, show (r * 16 + k) % 16 = k by omega]
theorem loc_zero : loc n o zeros256 = List.replicate 272 0 := by
  refine ext_getD loc_len List.length_replicate fun j hj => ?_
  rw [loc_get hj]
  have h0 : (List.replicate 272 (0 : Int)).getD j 0 = 0 := by
    simp only [List.getD_eq_getElem?_getD, List.getElem?_replicate]
    split <;> rfl
  rw [h0]
  split
  · rename_i h
    have := h.1
    exact hg_zero ⟨by omega, by omega⟩ (by omega)
  · rfl
theorem loc_step_gt {r : Int} (ho : Oth n o r) (hn : n ≤ 16) {v : List Int} {i : Nat} (hi : i < 16) (h : hg has r i < v.getD i 0) : (loc n o (hup has r v i)).set (r.toNat * 16 + i) (v.getD i 0) = loc n o (hup has r v (i + 1)) := by
  have h1 := ho.1
  have h2 := ho.2.1
  refine ext_getD (N := 272) (by simp [loc_len]) loc_len fun j hj => ?_
  rw [getD_set (by rw [loc_len]; omega), loc_get hj, loc_get hj]
  by_cases e : j = r.toNat * 16 + i
  · rw [if_pos e]
    have e1 : ((j / 16 : Nat) : Int) = r := by omega
    have e2 : j % 16 = i := by omega
    rw [e1, e2, if_pos ho, hup_hg' (by omega) (by omega) (by omega) hi, if_pos ⟨rfl, by omega⟩, Int.max_eq_right (by omega)]
  · rw [if_neg e]
    by_cases ho' : Oth n o ((j / 16 : Nat) : Int)
    · rw [if_pos ho', if_pos ho']
      have h3 := ho'.1
      have h4 := ho'.2.1
      rw [hup_hg' (by omega) (by omega) (by omega) (by omega), hup_hg' (by omega) (by omega) (by omega) (by omega)]
      by_cases e1 : ((j / 16 : Nat) : Int) = r ∧ j % 16 < i
      · rw [if_pos e1, if_pos ⟨e1.1, by omega⟩]
      · rw [if_neg e1, if_neg (by omega)]
    · rw [if_neg ho', if_neg ho']
theorem loc_step_le {r : Int} (ho : Oth n o r) (hn : n ≤ 16) {v : List Int} {i : Nat} (hi : i < 16) (h : ¬ hg has r i < v.getD i 0) : loc n o (hup has r v i) = loc n o (hup has r v (i + 1)) := by
  have h1 := ho.1
  have h2 := ho.2.1
  refine ext_getD (N := 272) loc_len loc_len fun j hj => ?_
  rw [loc_get hj, loc_get hj]
  by_cases ho' : Oth n o ((j / 16 : Nat) : Int)
  · rw [if_pos ho', if_pos ho']
    have h3 := ho'.1
    have h4 := ho'.2.1
    rw [hup_hg' (by omega) (by omega) (by omega) (by omega), hup_hg' (by omega) (by omega) (by omega) (by omega)]
    by_cases e1 : ((j / 16 : Nat) : Int) = r ∧ j % 16 < i
    · rw [if_pos e1, if_pos ⟨e1.1, by omega⟩]
    · rw [if_neg e1]
      by_cases e2 : ((j / 16 : Nat) : Int) = r ∧ j % 16 < i + 1
      · rw [if_pos e2, e2.1, show j % 16 = i by omega, Int.max_eq_left (by omega)]
      · rw [if_neg e2]
  · rw [if_neg ho', if_neg ho']
theorem loc_hup_at {r : Int} (ho : Oth n o r) (hn : n ≤ 16) {v : List Int} {i : Nat} (hi : i < 16) : (loc n o (hup has r v i)).getD (r.toNat * 16 + i) 0 = hg has r i := by
  have h1 := ho.1
  have h2 := ho.2.1
  rw [loc_at (by omega) hi, show (r.toNat : Int) = r by omega, if_pos ho, hup_hg' (by omega) (by omega) (by omega) hi, if_neg (by omega)]
theorem loc_hup0 (h : has.length = 256) (r : Int) (v : List Int) : loc n o (hup has r v 0) = loc n o has := by rw [hup_zero h]
/-- a region's row, as it is told -/
def ofV (has : List Int) (n o r : Int) : List Int := if 1 ≤ r ∧ r ≤ n ∧ r ≠ o then hrow has r else zeros
theorem ofV_len {r : Int} (h : has.length = 256) (hn : n ≤ 16) : (ofV has n o r).length = 16 := by
  unfold ofV
  split
  · exact hrow_len h (by omega)
  · rfl
theorem ofV_get {r : Int} {k : Nat} (hk : k < 16) : (ofV has n o r).getD k 0 = if 1 ≤ r ∧ r ≤ n ∧ r ≠ o then hg has r k else 0 := by
  unfold ofV
  split
  · exact hrow_get hk
  · simp only [zeros, List.getD_eq_getElem?_getD, List.getElem?_replicate]
    split <;> rfl
theorem loc_row (h : has.length = 256) (hn : n ≤ 16) {r : Nat} (hr : r < 17) : ((loc n o has).drop (r * 16)).take 16 = ofV has n o (r : Int) := by
  have hl := @loc_len n o has
  refine ext_getD (N := 16) (by rw [List.length_take, List.length_drop, hl]; omega) (ofV_len h hn) fun k hk => ?_
  rw [ofV_get hk]
  have := @loc_at n o has r k hr hk
  rw [List.getD_eq_getElem?_getD] at this ⊢
  rw [List.getElem?_take, if_pos hk, List.getElem?_drop, this]
  rfl
end
theorem aix17 {l q : Nat} {r : Int} (h : 0 ≤ r ∧ r < 17) : aindexAddr T Y_a17iVector (.ptr (some (l, q))) (.int .i64 r) = some (.ptr (some (l, q + r.toNat * 16))) := aix_arr u_a17iVector z_Vector h
theorem loc_build {n o : Int} : (loc n o zeros256).map (AV.int .u64) = List.replicate 272 (.int .u64 0) := by rw [loc_zero, List.map_replicate]
theorem rd_ints {s : AS} {l : Nat} {v : List Int} (h : Own s l (v.map (.int .u64))) {i : Nat} (hi : i < v.length) : rd1 s l i = some (.int .u64 (v.getD i 0)) := by
  rw [h.at.rd1, List.getElem?_map, List.getElem?_eq_getElem hi]
  simp [List.getD_eq_getElem?_getD, List.getElem?_eq_getElem hi]
theorem Few.take {l : List A14} (h : Few l) (i : Nat) : Few (l.take i) := ⟨by rw [List.length_take]; have := h.1; omega, fun a ha => h.2 a (List.mem_of_mem_take ha)⟩
theorem Acts.to {s : AS} {v : AV} {l : List A14} (h : Acts s v l) (h0 : 0 < l.length) {i : Nat} (hi : i ≤ l.length) (k : IntKind) : ∃ v', aslice T Y_s_minsterlaw14iAct v none (some (.int k (i : Nat))) none = some v' ∧ Acts s v' (l.take i) := by
  obtain ⟨v', h1, h2⟩ := h.sl.to actC_len u_s_minsterlaw14iAct z_minsterlaw14iAct h0 hi k
  exact ⟨v', h1, h2, fun a ha => h.ok a (List.mem_of_mem_take ha)⟩
end Go.Proofs.Ytbfchlimonimkaa
end

section
set_option linter.unusedSimpArgs false
set_option linter.unusedVariables false
namespace Go.Proofs.Ytbfchlimonimkaa
open Go.Am Go.Minster Go.ChangeShapes Go.WideShapes Go.ChangeAt Go.RowKit

theorem ints_in : ∀ (n : Nat) (cs : List AV), cellsOk (List.replicate n (.int .u64)) cs → ∃ vs : List Int, cs = vs.map (.int .u64) ∧ vs.length = n ∧ ∀ x ∈ vs, 0 ≤ x ∧ x ≤ 18446744073709551615
  | 0, cs, h => by
    obtain rfl := cellsOk.nil h
    exact ⟨[], rfl, rfl, by simp⟩
  | n + 1, cs, h => by
    obtain ⟨a, c1, rfl, ⟨r, rfl, h1, h2⟩, g⟩ := cellsOk.cons h
    obtain ⟨vs, rfl, h3, h4⟩ := ints_in n c1 g
    rw [min_u64] at h1
    rw [max_u64] at h2
    refine ⟨r :: vs, rfl, by simp [h3], fun x hx => ?_⟩
    rcases List.mem_cons.1 hx with rfl | hx
    · exact ⟨h1, h2⟩
    · exact h4 x hx

def kDot : List LK := [.int .i64, .int .u64]
theorem deep_act : deepT Try.prog 5 Y_minsterlaw14iAct = some ([.fl (.int .i64), .fl (.int .i64), .sl kDot, .sl kDot] ++ (List.replicate 16 (.int .u64)).map .fl) := by kernel_rfl

theorem dots_of {w : World} {v : AV} (h : leaf2 w (.sl kDot) v) : v.one = true ∧ ∃ l, Dots (sW w) v l := by
  obtain ⟨h1, C, h2, h3, _⟩ := h
  refine ⟨h1, ?_⟩
  obtain ⟨l, e1, e2, e3⟩ := cells_dec (f := dotC) (Q := fun _ => True) C fun c hc => by
    obtain ⟨a, c1, rfl, ⟨r, rfl, hr1, hr2⟩, g1⟩ := (h3 c hc).cons
    obtain ⟨b, c2, rfl, ⟨n, rfl, hn1, hn2⟩, g2⟩ := g1.cons
    obtain rfl := g2.nil
    exact ⟨⟨r, n⟩, rfl, trivial⟩
  rw [e1, e2] at h2
  exact ⟨l, h2⟩

set_option maxRecDepth 100000 in
theorem acts_arg {H : Type} {enc : TypeId × Value → H} {W : World} {base : Nat} {v : Value} (hv : Value.okWide Try.prog W .any base Y_s_minsterlaw14iAct v) (h : ∃ (d : DataW H) (p : List MemPlace), DataW.Trod enc Try.prog W 0 (fun _ => true) true Y_s_minsterlaw14iAct v d p) :
    ∃ l : List A14, Acts (sW W) (absV W.heap.size (MW W) v) l ∧ (∀ a ∈ l, ∀ k, 0 ≤ a.v k) ∧ l.length ≤ 9223372036854775807 := by
  obtain ⟨d, p, h⟩ := h
  obtain ⟨C, h1, h2, h3⟩ := slice_arg2 (d := 5) (hT.und _ _ u_s_minsterlaw14iAct) deep_act (by kernel_rfl) (by simp) hv h
  obtain ⟨l, e1, e2, e3⟩ := cells_dec (f := actC) (Q := fun a => ActOk (sW W) a ∧ ∀ k, 0 ≤ a.v k) C fun c hc => by
    obtain ⟨c1, c2, rfl, g1, g2⟩ := cells2.split (h2 c hc)
    obtain ⟨a, r1, rfl, ⟨k, rfl, _⟩, g3⟩ := cells2.cons g1
    obtain ⟨a, r2, rfl, ⟨r, rfl, _⟩, g4⟩ := cells2.cons g3
    obtain ⟨da, r3, rfl, hda, g5⟩ := cells2.cons g4
    obtain ⟨la, r4, rfl, hla, g6⟩ := cells2.cons g5
    obtain rfl := cells2.nil g6
    obtain ⟨vs, rfl, hvl, hvs⟩ := ints_in 16 _ (cells2.flat g2)
    obtain ⟨d1, ld, hd⟩ := dots_of hda
    obtain ⟨l1, ll, hl⟩ := dots_of hla
    refine ⟨⟨k, r, da, la, ld, ll, fun k => vs.getD k 0⟩, ?_, ⟨d1, l1, hd, hl⟩, fun k => ?_⟩
    · have : A14.vl ⟨k, r, da, la, ld, ll, fun k => vs.getD k 0⟩ = vs := by
        apply List.ext_getElem?
        intro i
        simp only [A14.vl, List.getElem?_map]
        rcases Nat.lt_or_ge i 16 with hi | hi
        · rw [List.getElem?_range hi]
          simp [List.getD_eq_getElem?_getD, List.getElem?_eq_getElem (show i < vs.length by omega)]
        · rw [List.getElem?_eq_none (by simpa using hi), List.getElem?_eq_none (by omega)]; rfl
      simp only [actC, this]
    · simp only [List.getD_eq_getElem?_getD]
      cases hq : vs[k]? with
      | none => simp
      | some x => exact (hvs x (List.mem_of_getElem? hq)).1
  rw [e1, e2] at h1
  exact ⟨l, ⟨h1, fun a ha => (e3 a ha).1⟩, fun a ha => (e3 a ha).2, by rw [← e2]; exact h3⟩
end Go.Proofs.Ytbfchlimonimkaa
end

section
set_option linter.unusedSimpArgs false
set_option linter.unusedVariables false
namespace Go.Proofs.Ytbfchlimonimkaa
open Go.Am Go.Minster Go.ChangeShapes Go.WideShapes Go.ChangeAt Go.RowKit

section
variable {r a : Int} (hr : 1 ≤ r ∧ r ≤ 16) (ha : 0 ≤ a ∧ a ≤ 1152921504606846976)
include hr ha
omit hr in
omit hr ha in
omit hr in
end

set_option maxRecDepth 100000 in
/-- a number as it may come -/
theorem int_arg {k : IntKind} {t : TypeId} (ht : Try.prog.underlying t = some (.int k)) (hf : flatT Try.prog 5 t = some [.int k]) {H : Type} {enc : TypeId × Value → H} {W : World} {base : Nat} {v : Value} (hv : Value.okWide Try.prog W .any base t v) (h : ∃ (d : DataW H) (p : List MemPlace), DataW.Trod enc Try.prog W 0 (fun _ => true) true t v d p) :
    ∃ n : Int, absV W.heap.size (MW W) v = .int k n ∧ k.min ≤ n ∧ n ≤ k.max := by
  obtain ⟨n, rfl⟩ := okWide_int ht hv
  obtain ⟨d, p, fuel, h⟩ := h
  have hc := flat_open 5 t _ fuel _ _ W.heap.size (MW W) hf h
  obtain ⟨a, c1, h1, ⟨r, rfl, h2, h3⟩, _⟩ := cellsOk.cons hc
  simp only [Value.cells, absV, List.map_cons, List.map_nil, List.cons.injEq, AV.int.injEq, true_and] at h1
  obtain ⟨rfl, _⟩ := h1
  exact ⟨_, rfl, h2, h3⟩

end Go.Proofs.Ytbfchlimonimkaa
end
