/-
  The law CtxOrder: a context is what its dots are, in whatever order they came, and it covers just those contexts whose dots it has.
-/
import Derived.Test.YtbfchlimonimkaaP5
set_option linter.unusedSimpArgs false
set_option linter.unusedVariables false
namespace Go.Proofs.Ytbfchlimonimkaa
open Go.Am Go.Minster Go.ChangeShapes Go.WideShapes Go.ChangeAt Go.RowKit

set_option maxRecDepth 100000 in
theorem flat_int : flatT Try.prog 5 Y_int = some [.int .i64] := by kernel_rfl
abbrev Ints := Sl (fun n : Int => [AV.int .i64 n]) 1
set_option maxRecDepth 100000 in
theorem ints_arg {H : Type} {enc : TypeId × Value → H} {W : World} {base : Nat} {v : Value} (hv : Value.okWide Try.prog W .any base Y_s_int v) (h : ∃ (d : DataW H) (p : List MemPlace), DataW.Trod enc Try.prog W 0 (fun _ => true) true Y_s_int v d p) :
    ∃ l : List Int, Ints (sW W) (absV W.heap.size (MW W) v) l ∧ ∀ n ∈ l, -9223372036854775808 ≤ n ∧ n ≤ 9223372036854775807 := by
  obtain ⟨d, p, h⟩ := h
  obtain ⟨C, h1, h2, _⟩ := slice_arg (d := 5) (ks := [.int .i64]) (hT.und _ _ u_s_int) flat_int (by kernel_rfl) (by decide) hv h
  obtain ⟨l, e1, e2, e3⟩ := cells_dec (f := fun n : Int => [AV.int .i64 n]) (Q := fun n => -9223372036854775808 ≤ n ∧ n ≤ 9223372036854775807) C fun c hc => by
    obtain ⟨a, c1, rfl, ⟨r, rfl, hr1, hr2⟩, g1⟩ := (h2 c hc).cons
    obtain rfl := g1.nil
    rw [min_i64] at hr1
    rw [max_i64] at hr2
    exact ⟨r, rfl, hr1, hr2⟩
  rw [e1, e2] at h1
  exact ⟨l, h1, e3⟩

theorem has_zero (x : Dot) : hasD zeros [] x = false := by
  cases hq : hasD zeros [] x with
  | false => rfl
  | true =>
    obtain ⟨hm, h⟩ := hasD_iff.1 hq
    have := Dot.may_iff.1 hm
    rcases h with h | h
    · cases h
    · have e : zeros.getD (x.r - 1).toNat 0 = 0 := by
        simp only [zeros, List.getD_eq_getElem?_getD, List.getElem?_replicate]
        split <;> rfl
      omega
theorem mem_take_succ {l : List Dot} {i : Nat} {x y : Dot} (hx : l[i]? = some x) : y ∈ l.take (i + 1) ↔ y ∈ l.take i ∨ y = x := by
  rw [List.take_add_one, hx, Option.toList_some, List.mem_append, List.mem_singleton]

/-- by both, with what is in it -/
theorem law_of_has {s : AS} {a : AV} {la : List Dot} (ha : Dots s a la) (hn : la.length ≤ 200) : ACalls Try.prog F_law04iof [a] s fun r s' => ∃ p q v ex, r = .tup [.ptr (some (p, 0)), .ptr (some (q, 0))] ∧ s.h p = none ∧ s.h q = none ∧ COk v ex ∧ Gap v ex ∧ ex.length ≤ la.length ∧ Ext s s' ∧ CtxAt s' p v ex ∧ RefAt s' q v ex ∧ ∀ x, hasD v ex x = true ↔ x.may = true ∧ x ∈ la := by
  refine q_law04iof _ _ _ ?_
  refine ACalls.use (ctx_New_ok _) ?_
  rintro r s2 ⟨p, rfl, hp, hc, e2⟩ hw2
  refine ⟨_, rfl, set_new hw2 fun q s6 hq hr e6 hw6 => ?_⟩
  have hq0 := e2.none hq
  have E6 := e2.trans e6
  refine ⟨fun vs s' => ∃ v ex, COk v ex ∧ Gap v ex ∧ ex.length ≤ la.length ∧ Ext s s' ∧ CtxAt s' p v ex ∧ RefAt s' q v ex ∧ ∀ x, hasD v ex x = true ↔ x.may = true ∧ x ∈ la, ?_, fun m vs s' => ∃ (i : Nat) (v : List Int) (ex : List Dot), vs = [.int .i64 (i : Nat)] ∧ i ≤ la.length ∧ m = la.length - i ∧ COk v ex ∧ Gap v ex ∧ ex.length ≤ i ∧ Ext s s' ∧ WFs s' ∧ CtxAt s' p v ex ∧ RefAt s' q v ex ∧ ∀ x, hasD v ex x = true ↔ x.may = true ∧ x ∈ la.take i, la.length, ⟨0, _, _, rfl, by omega, rfl, COk.zero, (fun y hy => by cases hy), by simp, E6, hw6, hc.ext e6, hr, fun x => by simp [has_zero]⟩, ?_⟩
  · rintro s8 ⟨v, ex, h1, h2, h3, h4, h5, h6, h7⟩
    exact ⟨p, q, v, ex, rfl, hp, hq0, h1, h2, h3, h4, h5, h6, h7⟩
  · rintro m n s13 ⟨i, v, ex, hi, h6, rfl, ok, gap, hlen, e13, w13, c13, r13, has⟩
    simp only [List.cons.injEq, AV.int.injEq, true_and, and_true] at hi
    subst hi
    refine ⟨_, ha.lenB u_s_Dot _, bsplit.dec (fun hlt => ?_) (fun hge => ⟨v, ex, ok, gap, by omega, e13, c13, r13, fun x => by rw [has, List.take_of_length_le (by omega)]⟩)⟩
    have cont : ∀ s' v' ex', COk v' ex' → Gap v' ex' → ex'.length ≤ ex.length + 1 → Ext s s' → WFs s' → CtxAt s' p v' ex' → RefAt s' q v' ex' → (∀ x, hasD v' ex' x = true ↔ x.may = true ∧ x ∈ la.take (i + 1)) → ∃ m', m' < la.length - i ∧ ∃ (j : Nat) (v : List Int) (ex : List Dot), [AV.int .i64 (IntKind.wrap .i64 ((i : Int) + 1))] = [.int .i64 (j : Nat)] ∧ j ≤ la.length ∧ m' = la.length - j ∧ COk v ex ∧ Gap v ex ∧ ex.length ≤ j ∧ Ext s s' ∧ WFs s' ∧ CtxAt s' p v ex ∧ RefAt s' q v ex ∧ ∀ x, hasD v ex x = true ↔ x.may = true ∧ x ∈ la.take j := by
      intro s' v' ex' a b c d e f g h
      exact ⟨la.length - (i + 1), by omega, i + 1, v', ex', by rw [wrap_i (by omega)]; rfl, by omega, rfl, a, b, by omega, d, e, f, g, h⟩
    obtain ⟨x, hx⟩ := get_lt (l := la) (i := i) (by omega)
    obtain ⟨lx, o, h8, h9⟩ := ha.ix (by decide) dotC_len u_s_Dot z_Dot hx
    have gx := fun s' e => (h9 s' e).2
    refine ⟨lx, o, h8 _, _, gx _ e13, ?_⟩
    refine ACalls.use (ref04iMay_ok x _) ?_
    rintro r s19 ⟨rfl, e19⟩ hw19
    have E19 := e13.trans e19
    have c19 := c13.ext e19
    have r19 := r13.ext e19
    refine ⟨_, rfl, bsplit.mk (fun hm => ?_) (fun hm => ?_)⟩
    · refine ⟨lx, o, h8 _, _, gx _ E19, ?_⟩
      refine ACalls.use (ctx_Add_ok c19 ok.v ok.r ok.m (by omega) x) ?_
      rintro r s25 ⟨rfl, c25, m25⟩ hw25
      have e25 := Ext.wr E19 hp m25
      have r25 := r19.keep c19 m25
      have hadd := addD_few (v := v) (ex := ex) hm (by omega)
      rw [hadd] at c25 ⊢
      change CtxAt s25 p (addR v ex x).1 (addR v ex x).2 at c25
      refine ⟨_, _, rfl, lx, o, h8 _, _, gx _ e25, ?_⟩
      refine ACalls.use (ref_Add_ok r25 ok.v ok.r ok.m (by omega) hm) ?_
      rintro r s32 ⟨rfl, r32, m32⟩ hw32
      have c32 := c25.keep r25 m32
      refine ⟨_, rfl, cont _ _ _ (ok.add hm) (Gap.add ok gap hm) addR_len (Ext.wr e25 hq0 m32) hw32 c32 r32 fun y => ?_⟩
      rw [addR_has ok hm, has, mem_take_succ hx]
      constructor
      · rintro (⟨h1, h2⟩ | rfl)
        · exact ⟨h1, .inl h2⟩
        · exact ⟨hm, .inr rfl⟩
      · rintro ⟨h1, h2 | h2⟩
        · exact .inl ⟨h1, h2⟩
        · exact .inr h2
    · refine cont _ v ex ok gap (by omega) E19 hw19 c19 r19 fun y => ?_
      rw [has, mem_take_succ hx]
      constructor
      · rintro ⟨h1, h2⟩; exact ⟨h1, .inl h2⟩
      · rintro ⟨h1, h2 | rfl⟩
        · exact ⟨h1, h2⟩
        · rw [hm] at h1; cases h1

/-- a dot is added, whatever it is -/
theorem addD_any {v : List Int} {ex : List Dot} (ok : COk v ex) (gap : Gap v ex) (hn : ex.length < 4096) (d : Dot) : COk (addD v ex d).2.2.1 (addD v ex d).2.2.2 ∧ Gap (addD v ex d).2.2.1 (addD v ex d).2.2.2 ∧ (addD v ex d).2.2.2.length ≤ ex.length + 1 ∧ ∀ x, hasD (addD v ex d).2.2.1 (addD v ex d).2.2.2 x = true ↔ hasD v ex x = true ∨ (x = d ∧ d.may = true) := by
  cases hm : d.may with
  | false =>
    have : addD v ex d = (false, 2, v, ex) := by simp [addD, hm]
    rw [this]
    exact ⟨ok, gap, by simp, fun x => by simp⟩
  | true =>
    rw [addD_few hm hn]
    exact ⟨ok.add hm, Gap.add ok gap hm, addR_len, fun x => by rw [addR_has ok hm]; simp⟩

/-- the place that is meant -/
theorem place {n : Int} {k : Nat} (hk : 0 < k) (hk2 : k ≤ 80) : ∃ j : Nat, j < k ∧ Int.tmod (IntKind.wrap .i64 (Int.tmod n (k : Int) + (k : Int))) (k : Int) = (j : Int) := by
  have h1 := Int.tmod_lt_of_pos n (show (0 : Int) < k by omega)
  have h2 : -(k : Int) < Int.tmod n k := by
    have := Int.tmod_lt_of_pos (-n) (show (0 : Int) < k by omega)
    rw [Int.neg_tmod] at this
    omega
  rw [wrap_i (by omega)]
  have h3 : 0 ≤ Int.tmod (Int.tmod n k + k) k := Int.tmod_nonneg _ (by omega)
  have h4 := Int.tmod_lt_of_pos (Int.tmod n k + k) (show (0 : Int) < k by omega)
  exact ⟨(Int.tmod (Int.tmod n k + k) k).toNat, by omega, by omega⟩

theorem ctxOrder_ok {s : AS} {a b d : AV} {la ld : List Dot} {lb : List Int} (ha : Dots s a la) (hb : Ints s b lb) (hd : Dots s d ld) : ACalls Try.prog F_law04iCtxOrder [a, b, d] s fun r s' => r = .bool true := by
  refine ACalls.pre fun hw => q_law04iCtxOrder _ _ _ _ _ ⟨fun vs s' => s' = s ∧ ∃ t, vs = [.bool t] ∧ (t = false → la.length ≤ 80 ∧ lb.length ≤ 160 ∧ ld.length ≤ 80), ?_, _, ha.lenB u_s_Dot _, bsplit.dec (fun h => ⟨rfl, _, rfl, by simp⟩) (fun h => ⟨_, hb.lenB u_s_int _, bsplit.dec (fun h => ⟨rfl, _, rfl, by simp⟩) (fun h => ⟨_, hd.lenB u_s_Dot _, rfl, _, rfl, fun h2 => by simp at h2; omega⟩)⟩)⟩
  rintro t s3 ⟨rfl, t', ht, hsmall⟩
  simp only [List.cons.injEq, AV.bool.injEq, and_true] at ht
  subst ht
  have kn : ∀ s', ACalls Try.prog F_law04iknown [] s' fun v4 s5 => ∃ b6 : Bool, v4 = .bool b6 ∧ (AV.bool b6 = .bool true) := by
    intro s'
    refine (known_ok _).mono ?_
    rintro r s' ⟨rfl, rfl⟩
    exact ⟨_, rfl, rfl⟩
  refine bsplit.mk (fun hb => kn _) (fun hf => ?_)
  obtain ⟨hla, hlb, hld⟩ := hsmall hf
  refine ACalls.use (law_of_has ha (by omega)) ?_
  rintro r s8 ⟨pa, pu, va, ea, rfl, hx0, hu0, oka, gapa, lena, e8, ca, ru, hasa⟩ w8
  refine ⟨_, _, rfl, ?_⟩
  refine ACalls.use (ctx_New_ok _) ?_
  rintro r s12 ⟨pb, rfl, hpb, cb, e12⟩ w12
  refine ⟨_, rfl, ?_⟩
  have hpb0 : s3.h pb = none := e8.none hpb
  have E12 := e8.trans e12
  have hne : pa ≠ pb := by rintro rfl; exact ca.there hpb
  -- what holds of b on the way
  let I : AS → List Int → List Dot → Prop := fun s' v ex => COk v ex ∧ Gap v ex ∧ Ext s3 s' ∧ WFs s' ∧ CtxAt s' pa va ea ∧ CtxAt s' pb v ex ∧ ∀ x, hasD v ex x = true → x.may = true ∧ x ∈ la
  have step : ∀ {s' v ex} {i : Nat} {x : Dot}, I s' v ex → ex.length < 4096 → x ∈ la → ACalls Try.prog F_ctx_Ctx_Add [.ptr (some (pb, 0)), .agg (dotC x)] s' fun r s'' => ∃ b n, r = .tup [.bool b, .int .i64 n] ∧ ∃ v' ex', I s'' v' ex' ∧ ex'.length ≤ ex.length + 1 ∧ ∀ y, hasD v' ex' y = true ↔ hasD v ex y = true ∨ (y = x ∧ x.may = true) := by
    intro s' v ex i x ⟨ok, gap, e, w, c1, c2, has⟩ hl hx
    refine ACalls.use (ctx_Add_ok c2 ok.v ok.r ok.m (by omega) x) ?_
    rintro r s'' ⟨rfl, c', m'⟩ w'
    obtain ⟨ok', gap', hl', has'⟩ := addD_any ok gap hl x
    refine ⟨_, _, rfl, _, _, ⟨ok', gap', Ext.wr e hpb0 m', w', c1.keepC c2 hne m', c', fun y hy => ?_⟩, hl', has'⟩
    rcases (has' y).1 hy with h | ⟨rfl, h⟩
    · exact has y h
    · exact ⟨h, hx⟩
  refine ⟨fun vs s' => ∃ v ex, I s' v ex ∧ ex.length ≤ 160, ?_, fun m vs s' => ∃ (i : Nat) (v : List Int) (ex : List Dot), vs = [.int .i64 (i : Nat)] ∧ i ≤ lb.length ∧ m = lb.length - i ∧ I s' v ex ∧ ex.length ≤ i, lb.length, ⟨0, zeros, [], rfl, by omega, rfl, ⟨COk.zero, (fun y hy => by cases hy), E12, w12, ca.ext e12, cb, fun x hx => by rw [has_zero] at hx; cases hx⟩, by simp⟩, ?_⟩
  · rintro s15 ⟨v, ex, i15, l15⟩
    refine ⟨fun vs s' => ∃ v ex, I s' v ex ∧ ex.length ≤ 240 ∧ ∀ x, x.may = true → x ∈ la → hasD v ex x = true, ?_, _, ha.lenB u_s_Dot _, fun m vs s' => ∃ (i : Nat) (v : List Int) (ex : List Dot), vs = [.int .i64 ((i : Int) - 1)] ∧ i ≤ la.length ∧ m = i + 1 ∧ I s' v ex ∧ ex.length ≤ 160 + (la.length - i) ∧ ∀ (k : Nat) x, i ≤ k → la[k]? = some x → x.may = true → hasD v ex x = true, la.length + 1, ⟨la.length, v, ex, by rw [wrap_i' (by omega)], by omega, rfl, i15, by omega, fun k x hk hx => by rw [List.getElem?_eq_none hk] at hx; cases hx⟩, ?_⟩
    · rintro s17 ⟨v, ex, ⟨ok, gap, e17, w17, ca17, cb17, has⟩, l17, all⟩
      refine ACalls.use (law_of_has (hd.ext e17) (by omega)) ?_
      rintro r s19 ⟨pc, pw, vc, ec, rfl, hpc, hpw, okc, gapc, lenc, e19, cc, rc, hasc⟩ w19
      refine ⟨_, _, rfl, ?_⟩
      have heq : va = v ∧ ea = ex := norm_eq oka gapa ok gap fun x => by
        rw [Bool.eq_iff_iff, hasa]
        exact ⟨fun h => all x h.1 h.2, has x⟩
      obtain ⟨rfl, rfl⟩ := heq
      refine ⟨fun vs s' => ∃ b, vs = [.bool b] ∧ Ext s19 s' ∧ (b = true ↔ Cov va ea vc ec), ?_, fun m vs s' => ∃ (i : Nat) (b : Bool), vs = [.bool b, .int .i64 (i : Nat)] ∧ i ≤ ld.length ∧ m = ld.length - i ∧ Ext s19 s' ∧ WFs s' ∧ (b = true ↔ ∀ (k : Nat) x, k < i → ld[k]? = some x → x.may = true → hasD va ea x = true), ld.length, ⟨0, true, rfl, by omega, rfl, Ext.refl _, w19, by simp⟩, ?_⟩
      · rintro b s24 ⟨b', hbb, e24, hcov⟩
        simp only [List.cons.injEq, AV.bool.injEq, and_true] at hbb
        subst hbb
        have ca24 := (ca17.ext e19).ext e24
        have cb24 := (cb17.ext e19).ext e24
        refine ACalls.use (Same_ok ca24 cb24 (by omega)) ?_
        rintro r s26 ⟨rfl, rfl⟩ _
        refine ⟨_, rfl, bsplit.yes (by simp) ?_⟩
        refine ACalls.use (Same_ok cb24 ca24 (by omega)) ?_
        rintro r s29 ⟨rfl, rfl⟩ _
        refine ⟨_, rfl, bsplit.yes (by simp) ?_⟩
        refine ACalls.use (ctx_Covers_ok ca24 (cc.ext e24) oka gapa okc (by omega) (by omega)) ?_
        rintro r s32 ⟨e32, b32, rfl, hb32⟩ _
        refine ⟨_, rfl, bsplit.yes ?_ (kn _)⟩
        have : b32 = b := by rw [Bool.eq_iff_iff, hb32, hcov]
        simp [this]
      · rintro m b n s42 ⟨i, b', hi, hil, rfl, e42, w42, hall⟩
        simp only [List.cons.injEq, AV.int.injEq, AV.bool.injEq, true_and, and_true] at hi
        obtain ⟨rfl, rfl⟩ := hi
        have E42 := (e17.trans e19).trans e42
        refine ⟨_, hd.lenB u_s_Dot _, bsplit.dec (fun hlt => ?_) (fun hge => ?_)⟩
        · obtain ⟨x, hx⟩ := get_lt (l := ld) (i := i) (by omega)
          obtain ⟨lx, o, h8, h9⟩ := hd.ix (by decide) dotC_len u_s_Dot z_Dot hx
          have gx := fun s' e => (h9 s' e).2
          have cont : ∀ (t : Bool) s', Ext s19 s' → WFs s' → (t = true ↔ b = true ∧ (x.may = true → hasD va ea x = true)) → ∃ m', m' < ld.length - i ∧ ∃ (j : Nat) (b : Bool), [AV.bool t, AV.int .i64 (IntKind.wrap .i64 ((i : Int) + 1))] = [.bool b, .int .i64 (j : Nat)] ∧ j ≤ ld.length ∧ m' = ld.length - j ∧ Ext s19 s' ∧ WFs s' ∧ (b = true ↔ ∀ (k : Nat) x, k < j → ld[k]? = some x → x.may = true → hasD va ea x = true) := by
            intro t s' e w ht
            refine ⟨ld.length - (i + 1), by omega, i + 1, t, by rw [wrap_i (by omega)]; rfl, by omega, rfl, e, w, ?_⟩
            rw [ht, hall]
            constructor
            · rintro ⟨h1, h2⟩ k y hk hy hm
              rcases Nat.lt_or_ge k i with h | h
              · exact h1 k y h hy hm
              · obtain rfl : k = i := by omega
                rw [hx] at hy; obtain rfl := Option.some.inj hy; exact h2 hm
            · intro h
              exact ⟨fun k y hk => h k y (by omega), h i x (by omega) hx⟩
          refine bsplit.mk (fun hbt => ?_) (fun hbf => cont false s42 e42 w42 (by simp [hbf]))
          refine ⟨lx, o, h8 _, _, gx _ E42, ?_⟩
          refine ACalls.use (ctx_Has_ok ((ca17.ext e19).ext e42) oka.r (by omega) x) ?_
          rintro r s48 ⟨rfl, e48⟩ w48
          refine ⟨_, rfl, bsplit.mk (fun hh => cont true s48 (e42.trans e48) w48 (by simp [hbt, hh])) (fun hh => ?_)⟩
          refine ⟨lx, o, h8 _, _, gx _ (E42.trans e48), ?_⟩
          refine ACalls.use (ref04iMay_ok x _) ?_
          rintro r s54 ⟨rfl, e54⟩ w54
          exact ⟨_, rfl, cont _ s54 ((e42.trans e48).trans e54) w54 (by simp [hbt, hh])⟩
        · refine ⟨b, rfl, e42, ?_⟩
          rw [hall]
          constructor
          · intro h x hx
            obtain ⟨hm, hin⟩ := (hasc x).1 hx
            obtain ⟨k, hk⟩ := List.mem_iff_getElem?.1 hin
            have : k < ld.length := by
              rcases Nat.lt_or_ge k ld.length with h' | h'
              · exact h'
              · rw [List.getElem?_eq_none h'] at hk; cases hk
            exact h k x (by omega) hk hm
          · intro h k x _ hx hm
            exact h x ((hasc x).2 ⟨hm, List.mem_of_getElem? hx⟩)
    · rintro m n s61 ⟨i, v, ex, hi, hil, rfl, i61, l61, all⟩
      simp only [List.cons.injEq, AV.int.injEq, true_and, and_true] at hi
      subst hi
      refine bsplit.dec (fun hge => ?_) (fun hlt => ?_)
      · obtain ⟨x, hx⟩ := get_lt (l := la) (i := i - 1) (by omega)
        obtain ⟨lx, o, h8, h9⟩ := ha.ix (by decide) dotC_len u_s_Dot z_Dot hx
        rw [show (i : Int) - 1 = ((i - 1 : Nat) : Int) by omega]
        refine ⟨lx, o, h8 _, _, (h9 _ i61.2.2.1).2, ?_⟩
        refine ACalls.use (step (i := 0) i61 (by omega) (List.mem_of_getElem? hx)) ?_
        rintro r s66 ⟨b67, n68, rfl, v', ex', i66, l66, has66⟩ w66
        refine ⟨_, _, rfl, i - 1 + 1, by omega, i - 1, v', ex', by rw [wrap_i' (by omega)], by omega, rfl, i66, by omega, fun k y hk hy hm => (has66 y).2 ?_⟩
        rcases Nat.lt_or_ge k i with h | h
        · obtain rfl : k = i - 1 := by omega
          rw [hx] at hy; obtain rfl := Option.some.inj hy
          exact .inr ⟨rfl, hm⟩
        · exact .inl (all k y h hy hm)
      · obtain rfl : i = 0 := by omega
        refine ⟨v, ex, i61, by omega, fun x hm hin => ?_⟩
        obtain ⟨k, hk⟩ := List.mem_iff_getElem?.1 hin
        exact all k x (by omega) hk hm
  · rintro m n s73 ⟨i, v, ex, hi, hil, rfl, i73, l73⟩
    simp only [List.cons.injEq, AV.int.injEq, true_and, and_true] at hi
    subst hi
    refine ⟨_, hb.lenB u_s_int _, bsplit.dec (fun hlt => ⟨_, ha.lenB u_s_Dot _, bsplit.dec (fun hpos => ?_) (fun _ => ⟨v, ex, i73, by omega⟩)⟩) (fun _ => ⟨v, ex, i73, by omega⟩)⟩
    obtain ⟨n, hn⟩ := get_lt (l := lb) (i := i) (by omega)
    obtain ⟨ln, o, h8, h9⟩ := hb.ix (sz := 1) (by decide) (fun _ => rfl) u_s_int z_int hn
    have hgn : rd1 s73 ln o = some (.int .i64 n) := by have := (h9 _ i73.2.2.1).1 0 (by decide); simpa using this
    obtain ⟨j, hj, hje⟩ := place (n := n) (k := la.length) (by omega) (by omega)
    refine ⟨ln, o, h8 _, _, hgn, _, ha.lenB u_s_Dot _, by omega, _, ha.lenB u_s_Dot _, _, ha.lenB u_s_Dot _, by omega, ?_⟩
    rw [hje]
    obtain ⟨x, hx⟩ := get_lt (l := la) (i := j) hj
    obtain ⟨lx, o', k8, k9⟩ := ha.ix (by decide) dotC_len u_s_Dot z_Dot hx
    refine ⟨lx, o', k8 _, _, (k9 _ i73.2.2.1).2, ?_⟩
    refine ACalls.use (step (i := 0) i73 (by omega) (List.mem_of_getElem? hx)) ?_
    rintro r s86 ⟨b87, n88, rfl, v', ex', i86, l86, has86⟩ w86
    exact ⟨_, _, rfl, lb.length - (i + 1), by omega, i + 1, v', ex', by rw [wrap_i (by omega)]; rfl, by omega, rfl, i86, by omega⟩

set_option maxRecDepth 100000 in
theorem ctxOrder_lifted (os : Os) (started : os.Started) (H : Type) (enc : TypeId × Value → H) :
    ReturnsInHanded {} Try.checked os F_law04iCtxOrder .any (Rows.ctxOrderSpec.pre6 enc Try.prog Try.f7 Rows.ctxOrderRow.domain false) (Rows.ctxOrderSpec.post enc Try.prog Try.f7 false true false false) := by
  refine law_open (C := Try.checked) (rt := 4) own started (by kernel_rfl) Try.func7
    (ChangeSpec.witness6 (enc := enc) (C := Try.checked) false ⟨#[], #[.slice none 0 0, .slice none 0 0, .slice none 0 0], []⟩ 8 (by kernel_rfl) (by kernel_rfl) (by kernel_rfl) (by kernel_rfl)) (by kernel_rfl) rfl (by kernel_rfl) Try.underlying4 laid (by kernel_rfl) ?_ ?_
  · intro ds hds
    rw [Try.params7] at hds
    match ds, hds with
    | [d1, d2, d3], _ => rfl
  · intro W base args hlen hargs
    rw [Try.params7] at hlen hargs
    match args, hlen with
    | [a, b, c], _ =>
      obtain ⟨la, ha, _⟩ := dots_arg (hargs 0 _ a rfl rfl).1 (hargs 0 _ a rfl rfl).2
      obtain ⟨lb, hb, _⟩ := ints_arg (hargs 1 _ b rfl rfl).1 (hargs 1 _ b rfl rfl).2
      obtain ⟨lc, hc, _⟩ := dots_arg (hargs 2 _ c rfl rfl).1 (hargs 2 _ c rfl rfl).2
      exact ctxOrder_ok ha hb hc

theorem ctxOrder_holds : Rows.CtxOrderSaid :=
  OpenClaim.holds_of_wide 7 Try.f7 rfl rfl rfl rfl rfl rfl rfl ⟨rfl, rfl, rfl, rfl, rfl⟩ rfl rfl rfl rfl rfl (by kernel_rfl) Try.func7 (by kernel_rfl)
    (of_decide_eq_true (by kernel_rfl)) (by unfold Func.isWrapper; rw [if_neg (by decide +kernel)]; exact ⟨rfl, rfl⟩)
    (fun os started H enc _ => ctxOrder_lifted os started H enc)
end Go.Proofs.Ytbfchlimonimkaa
