/-
  Contracts: a dot is added to the reference's set; the next count.
-/
import Derived.Test.YtbfchlimonimkaaCtx7
set_option linter.unusedSimpArgs false
set_option linter.unusedVariables false
namespace Go.Proofs.Ytbfchlimonimkaa
open Go.Am Go.Minster

/-- what adding a dot that may be comes to, plainly -/
def addR (v : List Int) (ex : List Dot) (d : Dot) : List Int × List Dot := if hasD v ex d then (v, ex) else compact v (ins ex d)

theorem ref_Add_ok {s : AS} {q : Nat} {v : List Int} {ex : List Dot} (h : RefAt s q v ex) (hv : VOk v) (hr : Rising ex) (hm : ∀ d ∈ ex, d.may = true) (hn : ex.length + 1 < 2 ^ 30) {d : Dot} (hd : d.may = true) :
    ACalls Try.prog F_ref04iSet_Add [.ptr (some (q, 0)), .agg (dotC d)] s fun r s' => r = .bool (!hasD v ex d) ∧ RefAt s' q (addR v ex d).1 (addR v ex d).2 ∧ Mut [q] s s' := by
  refine ACalls.pre fun hw => q_ref04iSet_Add _ _ _ _ ⟨rfl, NewQ.intro hw rfl fun l1 s2 F1 => ⟨_, F1.own.at.rdc (by simp [dotC]), ?_⟩⟩
  refine ACalls.use (ref_Has_ok (h.ext F1.ext) (by omega) d) ?_
  rintro r s5 ⟨rfl, e5⟩ hw5
  have E5 := F1.ext.trans e5
  refine ⟨_, rfl, bsplit.mk (fun hh => ?_) (fun hh => ?_)⟩
  · have : addR v ex d = (v, ex) := by simp [addR, hh]
    rw [this]
    exact ⟨by simp [hh], h.ext E5, E5.mut⟩
  have hnin : d ∉ ex := by
    intro hin
    simp [hasD, hd, hin] at hh
  have hadd : addR v ex d = compact v (ins ex d) := by simp [addR, hh]
  rw [hadd]
  obtain ⟨h1, w, h2, h3, h5, h4⟩ := h
  have hq16 : ∀ s', Ext s s' → rd1 s' q (0 + 16) = some w := fun s' e => by rw [(h2.ext e).at.rd1]; exact ref_16 h1 w
  refine ⟨fun vs s' => ∃ left, vs = [left, .int .i64 (pos ex d : Nat)] ∧ WFs s' ∧ GroN dotC 2 [] s5 s' left (ex.take (pos ex d)), ?_, fun m vs s' => ∃ (i : Nat) (left : AV), vs = [left, .int .i64 (i : Nat)] ∧ i ≤ ex.length ∧ m = ex.length - i ∧ WFs s' ∧ GroN dotC 2 [] s5 s' left (ex.take i) ∧ ∀ (k : Nat) x, k < i → ex[k]? = some x → x.lt d = true, ex.length, ⟨0, _, rfl, by omega, rfl, hw5, by simpa using GroN.nil, fun k x hk => by omega⟩, ?_⟩
  · rintro v8 n9 s10 ⟨left, hl, hw10, g⟩
    simp only [List.cons.injEq, AV.int.injEq, true_and, and_true] at hl
    obtain ⟨rfl, rfl⟩ := hl
    have hpl := pos_le ex d
    refine ⟨_, (F1.own.ext (e5.trans g.chg.ext)).at.rdc (by simp [dotC]), GroN.append1 sl_s_Dot dotC_len dotC_one hw10 g (by simp) d (by rw [List.length_take]; omega) fun v15 s16 g16 hw16 _ => ?_⟩
    have E16 := E5.trans g16.chg.ext
    obtain ⟨v20, k1, k2⟩ := (h4.ext E16).from dotC_len u_s_Dot z_Dot h5 hpl .i64
    refine ⟨w, hq16 _ E16, v20, k1, GroN.appendS sl_s_Dot dotC_len dotC_one hw16 g16 (by simp) k2 (by simp; omega) u_s_Dot fun v21 s22 g22 hw22 _ => ?_⟩
    have E22 := E5.trans g22.chg.ext
    have hins : ex.take (pos ex d) ++ [d] ++ ex.drop (pos ex d) = ins ex d := by simp [ins]
    rw [hins] at g22
    refine qstore_one g22.isSlc.2 z_s_Dot (StQ.own hw22 (h2.ext E22) (by rw [ref_set_len h1]; simp) fun s25 P => ?_)
    have hP := P.at
    rw [wrs_one, List.set_append_right _ _ (by simp [h1])] at hP
    simp only [List.length_map, h1, Nat.zero_add, Nat.sub_self, List.set_cons_zero] at hP
    have hsp : ∀ x ∈ [q], s5.h x ≠ none := by
      intro x hx; obtain rfl : x = q := by simpa using hx
      rw [h2.ext E5]; simp
    have hnq : ∀ x ∈ labOf v21, x ∉ [q] := fun x hx hm => hsp x hm (g22.new x hx)
    have c25 : RefAt s25 q v (ins ex d) := ⟨h1, v21, hP, g22.isSlc.2, g22.isSlc.1, (g22.gro.mut P.mut hnq).sl dotC_len⟩
    have hmi : ∀ x ∈ ins ex d, x.may = true := by
      intro x hx
      rcases mem_ins.1 hx with rfl | hx
      · exact hd
      · exact hm x hx
    refine (ref_compact_ok c25 hv hmi (by rw [ins_len]; omega)).mono ?_
    rintro r s27 ⟨rfl, c27, m27⟩
    exact ⟨rfl, by simp [hh], c27, E22.mut.trans (P.mut.trans m27)⟩
  · rintro m left n s33 ⟨i, left', hi, h6, rfl, hw33, g, hlt⟩
    simp only [List.cons.injEq, AV.int.injEq, true_and, and_true] at hi
    obtain ⟨rfl, rfl⟩ := hi
    have E33 := E5.trans g.chg.ext
    refine ⟨w, hq16 _ E33, _, h4.lenB u_s_Dot _, bsplit.dec (fun hl => ?_) (fun hge => ?_)⟩
    · obtain ⟨x, hx⟩ := get_lt (l := ex) (i := i) (by omega)
      obtain ⟨la, o, h8, h9⟩ := (h4.ext E33).ix (by decide) dotC_len u_s_Dot z_Dot hx
      refine ⟨w, hq16 _ E33, la, o, h8 _, _, (h9 _ (Ext.refl _)).2, _, (F1.own.ext (e5.trans g.chg.ext)).at.rdc (by simp [dotC]), ?_⟩
      refine ACalls.use (ref04iLess_ok x d _) ?_
      rintro r s46 ⟨rfl, e46⟩ hw46
      refine ⟨_, rfl, bsplit.mk (fun hb => ?_) (fun hb => ?_)⟩
      · have ht : ex.take (i + 1) = ex.take i ++ [x] := by rw [List.take_add_one, hx]; rfl
        refine ⟨w, hq16 _ (E33.trans e46), la, o, h8 _, _, (h9 _ e46).2, GroN.append1 sl_s_Dot dotC_len dotC_one hw46 (g.step e46) (by simp) x (by rw [List.length_take]; omega) fun v' s' g' hw' _ => ?_⟩
        refine ⟨ex.length - (i + 1), by omega, i + 1, v', by rw [wrap_i (by omega)]; rfl, by omega, rfl, hw', by rw [ht]; exact g', fun k y hk hy => ?_⟩
        rcases Nat.lt_or_ge k i with h | h
        · exact hlt k y h hy
        · obtain rfl : k = i := by omega
          rw [hx] at hy; obtain rfl := Option.some.inj hy; exact hb
      · have hp : pos ex d = i := pos_eq h6 hlt fun y hy => by rw [hx] at hy; obtain rfl := Option.some.inj hy; exact hb
        exact ⟨left, by rw [hp], hw46, by rw [hp]; exact g.step e46⟩
    · have hp : pos ex d = i := pos_eq h6 hlt fun y hy => by rw [List.getElem?_eq_none (by omega)] at hy; cases hy
      exact ⟨left, by rw [hp], hw33, by rw [hp]; exact g⟩

/-- the next count -/
def nextD (v : List Int) (ex : List Dot) (r : Int) : Int × Int :=
  if 1 ≤ r ∧ r ≤ 16 then (if top v ex r ≥ 4611686018427387904 then (0, 5) else (top v ex r + 1, 0)) else (0, 2)

theorem top_rng {v : List Int} {ex : List Dot} (hv : VOk v) (hm : ∀ d ∈ ex, d.may = true) (r : Int) : 0 ≤ top v ex r ∧ top v ex r ≤ 4611686018427387904 := by
  unfold top
  have := hv.get (r - 1).toNat
  revert this
  generalize v.getD (r - 1).toNat 0 = n
  induction ex generalizing n with
  | nil => exact fun h => h
  | cons d l ih =>
    intro h
    have hd := Dot.may_iff.1 (hm d (by simp))
    simp only [List.foldl_cons]
    refine ih (fun x hx => hm x (by simp [hx])) _ ?_
    split
    · split <;> omega
    · exact h

theorem ctx_Next_ok {s : AS} {p : Nat} {v : List Int} {ex : List Dot} (h : CtxAt s p v ex) (hv : VOk v) (hm : ∀ d ∈ ex, d.may = true) (hn : ex.length < 2 ^ 30) (r : Int) :
    ACalls Try.prog F_ctx_Ctx_Next [.ptr (some (p, 0)), .int .i64 r] s fun x s' => x = .tup [.int .u64 (nextD v ex r).1, .int .i64 (nextD v ex r).2] ∧ Ext s s' := by
  refine q_ctx_Ctx_Next _ _ _ _ ?_
  refine ACalls.use (ctx_there_ok h) ?_
  rintro x s2 ⟨rfl, rfl⟩ hw2
  have hrng := top_rng hv hm r
  obtain ⟨h1, w, h2, h3, h4⟩ := h
  refine ⟨_, rfl, bsplit.no rfl ⟨fun vs s' => s' = s2 ∧ ∃ b, vs = [.bool b] ∧ (b = true ↔ ¬ (1 ≤ r ∧ r ≤ 16)), ?_, bsplit.dec (fun hl => ⟨rfl, _, rfl, by simp; omega⟩) (fun hl => ⟨rfl, _, rfl, by simp; omega⟩)⟩⟩
  rintro b s6 ⟨rfl, b', hb, hiff⟩
  simp only [List.cons.injEq, AV.bool.injEq, and_true] at hb
  subst hb
  refine bsplit.mk (fun hb => ?_) (fun hb => ?_)
  · refine ⟨?_, Ext.refl _⟩
    simp only [nextD, if_neg (hiff.1 hb)]
  · have hr : 1 ≤ r ∧ r ≤ 16 := by
      apply Decidable.byContradiction
      intro hc
      rw [hiff.2 hc] at hb; cases hb
    refine AsSome_some.2 ?_
    rw [wrap_i' (by omega)]
    refine ⟨_, _, vix (by omega), _, by rw [h2.at.rd1, Nat.zero_add, Nat.mul_one]; exact ctx_at h1 w (by omega), fun vs s' => vs = [.int .u64 (top v ex r)] ∧ Ext s6 s', ?_, w, by rw [h2.at.rd1]; exact ctx_16 h1 w, _, h4.lenB u_s_Dot _, fun m vs s' => ∃ i : Nat, vs = [.int .u64 ((ex.take i).foldl (fun n d => if d.r = r then (if d.c > n then d.c else n) else n) (v.getD (r - 1).toNat 0)), .int .i64 (i : Nat)] ∧ i ≤ ex.length ∧ m = ex.length - i ∧ Ext s6 s' ∧ WFs s', ex.length, ⟨0, rfl, by omega, rfl, Ext.refl _, hw2⟩, ?_⟩
    · rintro n s14 ⟨hn', e14⟩
      simp only [List.cons.injEq, AV.int.injEq, true_and, and_true] at hn'
      subst hn'
      refine bsplit.dec (fun hge => ?_) (fun hlt => ?_)
      · refine ⟨?_, e14⟩
        simp only [nextD, if_pos hr, if_pos hge]
      · refine ⟨?_, e14⟩
        simp only [nextD, if_pos hr, if_neg hlt]
        rw [wrap_u (by omega)]
    · rintro m n22 n23 s24 ⟨i, hi, h6, rfl, e24, hw24⟩
      simp only [List.cons.injEq, AV.int.injEq, true_and, and_true] at hi
      obtain ⟨rfl, rfl⟩ := hi
      refine bsplit.dec (fun hl => ?_) (fun hge => ?_)
      · obtain ⟨x, hx⟩ := get_lt (l := ex) (i := i) (by omega)
        obtain ⟨la, o, h8, h9⟩ := (h4.ext e24).ix (by decide) dotC_len u_s_Dot z_Dot hx
        have ht : ex.take (i + 1) = ex.take i ++ [x] := by rw [List.take_add_one, hx]; rfl
        refine ⟨la, o, h8 _, _, (h9 _ (Ext.refl _)).2, NewSt hw24 rfl rfl rfl fun l28 s30 F => ?_⟩
        have f0 : rd1 s30 l28 0 = some (.int .i64 x.r) := by rw [F.own.at.rd1]; rfl
        have f1 : rd1 s30 l28 1 = some (.int .u64 x.c) := by rw [F.own.at.rd1]; rfl
        have step : ∀ y, y = (ex.take (i + 1)).foldl (fun n d => if d.r = r then (if d.c > n then d.c else n) else n) (v.getD (r - 1).toNat 0) → ∃ m', m' < ex.length - i ∧ ∃ j : Nat, [AV.int .u64 y, .int .i64 (IntKind.wrap .i64 ((i : Int) + 1))] = [.int .u64 ((ex.take j).foldl (fun n d => if d.r = r then (if d.c > n then d.c else n) else n) (v.getD (r - 1).toNat 0)), .int .i64 (j : Nat)] ∧ j ≤ ex.length ∧ m' = ex.length - j ∧ Ext s6 s30 ∧ WFs s30 := by
          rintro y rfl
          exact ⟨ex.length - (i + 1), by omega, i + 1, by rw [wrap_i (by omega)]; rfl, by omega, rfl, e24.trans F.ext, F.wf⟩
        refine ⟨_, f0, bsplit.mk (fun hq => ⟨_, f1, _, amax2 _ _, step _ ?_⟩) (fun hq => step _ ?_)⟩
        · have : x.r = r := by simpa using hq
          rw [ht, List.foldl_append, List.foldl_cons, List.foldl_nil, if_pos this]
        · have : ¬ x.r = r := by simpa using hq
          rw [ht, List.foldl_append, List.foldl_cons, List.foldl_nil, if_neg this]
      · refine ⟨?_, e24⟩
        rw [List.take_of_length_le (by omega)]; rfl
end Go.Proofs.Ytbfchlimonimkaa
