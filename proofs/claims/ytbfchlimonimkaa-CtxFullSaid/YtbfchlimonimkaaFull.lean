/-
  The law CtxFull: more exceptions than there may be are refused, and then nothing changes.
-/
import Derived.Test.YtbfchlimonimkaaP5
set_option linter.unusedSimpArgs false
set_option linter.unusedVariables false
namespace Go.Proofs.Ytbfchlimonimkaa
open Go.Am Go.Minster Go.ChangeShapes Go.WideShapes Go.ChangeAt Go.RowKit

/-- a context whose exceptions lie in memory that is new since s0 -/
structure CtxG (s0 s : AS) (p : Nat) (v : List Int) (ex : List Dot) : Prop where
  len : v.length = 16
  mem : ∃ w, Own s p (v.map (.int .u64) ++ [w, .bool true]) ∧ w.one = true ∧ Gro dotC 2 s w ex ∧ ∀ la ∈ labOf w, s0.h la = none
theorem CtxG.at {s0 s : AS} {p : Nat} {v : List Int} {ex : List Dot} (h : CtxG s0 s p v ex) : CtxAt s p v ex := by
  obtain ⟨h1, w, h2, h3, h4, h5⟩ := h
  exact ⟨h1, w, h2, h3, h4.sl dotC_len⟩
theorem CtxG.mut {s0 s s' : AS} {L : List Nat} {p : Nat} {v : List Int} {ex : List Dot} (h : CtxG s0 s p v ex) (m : Mut L s s') (hp : p ∉ L) (hL : ∀ x ∈ L, s0.h x ≠ none ∨ s.h x = none) : CtxG s0 s' p v ex := by
  obtain ⟨h1, w, h2, h3, h4, h5⟩ := h
  refine ⟨h1, w, h2.mut m hp, h3, h4.mut m fun x hx hm => ?_, h5⟩
  rcases hL x hm with h | h
  · exact h (h5 x hx)
  · rcases h4 with ⟨_, a, rfl⟩ | ⟨la, rfl, ho⟩
    · simp [labOf] at hx
    · obtain rfl : x = la := by simpa [labOf] using hx
      rw [h] at ho; cases ho
theorem CtxG.ext {s0 s s' : AS} {p : Nat} {v : List Int} {ex : List Dot} (h : CtxG s0 s p v ex) (e : Ext s s') : CtxG s0 s' p v ex := h.mut (L := []) e.mut (by simp) (by simp)
theorem CtxG.back {s0 s1 s : AS} {p : Nat} {v : List Int} {ex : List Dot} (h : CtxG s1 s p v ex) (e : Ext s0 s1) : CtxG s0 s p v ex := by
  obtain ⟨h1, w, h2, h3, h4, h5⟩ := h
  exact ⟨h1, w, h2, h3, h4, fun x hx => e.none (h5 x hx)⟩
theorem ctx_Copy_G {s : AS} {p : Nat} {v : List Int} {ex : List Dot} (h : CtxAt s p v ex) (hn : ex.length ≤ 2 ^ 30) : ACalls Try.prog F_ctx_Ctx_Copy [.ptr (some (p, 0))] s fun r s' => ∃ q, r = .ptr (some (q, 0)) ∧ s.h q = none ∧ CtxG s s' q v ex ∧ Ext s s' := by
  refine q_ctx_Ctx_Copy _ _ _ ?_
  refine ACalls.use (ctx_there_ok h) ?_
  rintro r s2 ⟨rfl, rfl⟩ _
  obtain ⟨h1, w, h2, h3, h4⟩ := h
  refine ⟨_, rfl, bsplit.no rfl ⟨fun k _ r s' => k = 8 → Gro dotC 2 s' r ex ∧ (∀ la ∈ labOf r, s2.h la = none) ∧ r ≠ .emp ∧ r.one = true, fun k _ r => k = 8 → r.one = true, fun _ _ _ _ _ e h hk => ⟨(h hk).1.ext e, (h hk).2⟩, _, h2.at.rdc (by rw [ctx_len h1]; omega), w, by rw [h2.at.rd1]; exact ctx_16 h1 w, fun s10 e10 w10 _ => ?_, ⟨.bool true, fun _ => rfl⟩, ?_⟩⟩
  · refine (clone_S (s := s2) e10 (h4.ext e10) hn).mono ?_
    rintro r s' ⟨e, h⟩
    exact ⟨e, fun _ => h, fun _ => h.2.2.2⟩
  rintro r hr s14 e14 w14 ⟨hr2, _⟩
  obtain ⟨g, hnew, hne, hone⟩ := hr2 rfl
  rw [ctx_take h1]
  refine ⟨_, build_Ctx h1 hone, by simp [One1, hone], NewQ.intro w14 rfl fun q s18 F => ⟨q, rfl, e14.none F.no, ⟨h1, r, F.own, hone, g.ext F.ext, hnew⟩, e14.trans F.ext⟩⟩

theorem ctx_Of_any {s : AS} {a : AV} {v : List Int} {l : List Dot} (hv : VIn v) (hl : Dots s a l) (hn : l.length ≤ 2 ^ 20) :
    ACalls Try.prog F_ctx_Of [.agg (v.map (.int .u64)), a] s fun r s' => Ext s s' ∧ ((¬ OfOk v l ∧ r = .tup [.ptr none, .int .i64 2]) ∨ (OfOk v l ∧ 4096 < l.length ∧ r = .tup [.ptr none, .int .i64 5]) ∨ (OfOk v l ∧ l.length ≤ 4096 ∧ ∃ p, s.h p = none ∧ r = .tup [.ptr (some (p, 0)), .int .i64 0] ∧ CtxG s s' p v l)) := by
  have hlen := hv.len
  refine ACalls.pre fun hw => q_ctx_Of _ _ _ _ ⟨ints_one _ _, NewQ.intro hw rfl fun l1 s2 F => ?_⟩
  have hat := F.own.at
  refine ⟨fun vs s' => s' = s2 ∧ ∀ x ∈ v, x ≤ 4611686018427387904, ?_, _, hat.rdc (by simp [hlen]), ?_⟩
  · rintro s4 ⟨rfl, hvm⟩
    have cont : ∀ (i : Nat), i < l.length → ∀ s', Ext s4 s' → WFs s' → (∀ (k : Nat) x, k < i + 1 → l[k]? = some x → x.may = true ∧ (∀ y, 0 < k → l[k - 1]? = some y → y.lt x = true) ∧ v.getD (x.r - 1).toNat 0 + 1 < x.c) → ∃ m', m' < l.length - i ∧ ∃ j : Nat, [AV.int .i64 (IntKind.wrap .i64 ((i : Int) + 1))] = [.int .i64 (j : Nat)] ∧ j ≤ l.length ∧ m' = l.length - j ∧ Ext s4 s' ∧ WFs s' ∧ (∀ (k : Nat) x, k < j → l[k]? = some x → x.may = true ∧ (∀ y, 0 < k → l[k - 1]? = some y → y.lt x = true) ∧ v.getD (x.r - 1).toNat 0 + 1 < x.c) :=
      fun i hi s' e w h => ⟨l.length - (i + 1), by omega, i + 1, by rw [wrap_i (by omega)]; rfl, by omega, rfl, e, w, h⟩
    refine ⟨fun vs s' => Ext s4 s' ∧ WFs s' ∧ OfOk v l, ?_, _, hl.lenB u_s_Dot _, fun m vs s' => ∃ i : Nat, vs = [.int .i64 (i : Nat)] ∧ i ≤ l.length ∧ m = l.length - i ∧ Ext s4 s' ∧ WFs s' ∧ (∀ (k : Nat) x, k < i → l[k]? = some x → x.may = true ∧ (∀ y, 0 < k → l[k - 1]? = some y → y.lt x = true) ∧ v.getD (x.r - 1).toNat 0 + 1 < x.c), l.length, ⟨0, rfl, by omega, rfl, Ext.refl _, F.wf, by omega⟩, ?_⟩
    · rintro s6 ⟨e6, w6, ok⟩
      have E6 := F.ext.trans e6
      refine ⟨_, hl.lenB u_s_Dot _, bsplit.dec (fun hgt => ⟨E6, .inr (.inl ⟨ok, by omega, rfl⟩)⟩) (fun hle => ?_)⟩
      refine ⟨fun k _ r s' => k = 2 → Gro dotC 2 s' r l ∧ (∀ la ∈ labOf r, s.h la = none) ∧ r ≠ .emp ∧ r.one = true, fun _ _ _ => True, fun _ _ _ _ _ e h hk => ⟨(h hk).1.ext e, (h hk).2⟩, _, (hat.ext e6).rdc (by simp [hlen]), fun s9 e9 w9 _ => ?_, ⟨.emp, trivial⟩, ?_⟩
      · refine (clone_S (s := s) (E6.trans e9) (hl.ext (E6.trans e9)) (by omega)).mono ?_
        rintro r s' ⟨e, h⟩
        exact ⟨e, fun _ => h, trivial⟩
      rintro r _ s13 e13 w13 ⟨hr, _⟩
      obtain ⟨g, hnew, hne, hone⟩ := hr rfl
      rw [List.drop_zero, List.take_of_length_le (by simp [hlen])]
      refine ⟨_, build_Ctx hlen hone, by simp [hone], NewQ.intro w13 rfl fun p s17 F17 => ?_⟩
      have E13 := E6.trans e13
      refine ⟨E13.trans F17.ext, .inr (.inr ⟨ok, by omega, p, E13.none F17.no, rfl, hlen, r, F17.own, hone, g.ext F17.ext, hnew⟩)⟩
    · rintro m n s15 ⟨i, hi, h6, rfl, e15, w15, hk⟩
      simp only [List.cons.injEq, AV.int.injEq, true_and, and_true] at hi
      subst hi
      have E15 := F.ext.trans e15
      refine bsplit.dec (fun hlt => ?_) (fun hge => ⟨e15, w15, hvm, fun k x hx => hk k x (by
        rcases Nat.lt_or_ge k l.length with h | h
        · omega
        · rw [List.getElem?_eq_none h] at hx; cases hx) hx⟩)
      obtain ⟨x, hx⟩ := get_lt (l := l) (i := i) (by omega)
      obtain ⟨lx, o, h8, h9⟩ := hl.ix (by decide) dotC_len u_s_Dot z_Dot hx
      have gx := fun s' e => (h9 s' e).2
      have bad : ∀ (s' : AS), Ext s s' → (OfOk v l → False) → Ext s s' ∧ ((¬ OfOk v l ∧ AV.tup [.ptr none, .int .i64 2] = .tup [.ptr none, .int .i64 2]) ∨ (OfOk v l ∧ 4096 < l.length ∧ AV.tup [.ptr none, .int .i64 2] = .tup [.ptr none, .int .i64 5]) ∨ (OfOk v l ∧ l.length ≤ 4096 ∧ ∃ p, s.h p = none ∧ AV.tup [.ptr none, .int .i64 2] = .tup [.ptr (some (p, 0)), .int .i64 0] ∧ CtxG s s' p v l)) :=
        fun s' e h => ⟨e, .inl ⟨h, rfl⟩⟩
      refine ⟨lx, o, h8 _, _, gx _ E15, NewSt w15 rfl rfl rfl fun l27 s29 F29 => ?_⟩
      have E29 := E15.trans F29.ext
      have e29 := e15.trans F29.ext
      have d29 : At s29 l27 (dotC x) := F29.own.at
      refine ⟨fun vs s' => Ext s29 s' ∧ WFs s' ∧ ∃ t, vs = [.bool t] ∧ (t = true → ¬ OfOk v l) ∧ (t = false → x.may = true ∧ (∀ y, 0 < i → l[i - 1]? = some y → y.lt x = true) ∧ v.getD (x.r - 1).toNat 0 + 1 < x.c), ?_, ?_⟩
      · rintro b s19 ⟨e19, w19, t, ht, h1, h2⟩
        simp only [List.cons.injEq, AV.bool.injEq, and_true] at ht
        subst ht
        refine bsplit.mk (fun hb => bad _ (E29.trans e19) (h1 hb)) (fun hb => cont i (by omega) _ (e29.trans e19) w19 fun k y hk' hy => ?_)
        rcases Nat.lt_or_ge k i with h | h
        · exact hk k y h hy
        · obtain rfl : k = i := by omega
          rw [hx] at hy; obtain rfl := Option.some.inj hy; exact h2 hb
      · have last : x.may = true → ∀ (s' : AS), Ext s29 s' → WFs s' → (∀ y, 0 < i → l[i - 1]? = some y → y.lt x = true) → ∃ t, [AV.bool (decide (x.c ≤ v.getD (x.r - 1).toNat 0 + 1))] = [.bool t] ∧ (t = true → ¬ OfOk v l) ∧ (t = false → x.may = true ∧ (∀ y, 0 < i → l[i - 1]? = some y → y.lt x = true) ∧ v.getD (x.r - 1).toNat 0 + 1 < x.c) := by
          intro hm s' e w hy
          refine ⟨_, rfl, fun h ok => ?_, fun h => ⟨hm, hy, ?_⟩⟩
          · exact absurd (of_decide_eq_true h) (Int.not_le.2 (ok.hl i x hx).2.2)
          · exact Int.not_le.1 (of_decide_eq_false h)
        have hbd := hv.get (x.r - 1).toNat
        have hvle : v.getD (x.r - 1).toNat 0 ≤ 4611686018427387904 := by
          rw [List.getD_eq_getElem?_getD]
          cases hq : v[(x.r - 1).toNat]? with
          | none => simp
          | some y => exact hvm y (List.mem_of_getElem? hq)
        have dc0 : rdc s29 l27 0 2 = some (dotC x) := d29.rdc (by simp [dotC])
        have d0 : rd1 s29 l27 0 = some (.int .i64 x.r) := by rw [d29.rd1]; rfl
        have d1 : rd1 s29 l27 1 = some (.int .u64 x.c) := by rw [d29.rd1]; rfl
        refine ⟨fun _ _ _ _ => True, fun k _ r => (k = 1 → r = .bool x.may) ∧ (k = 13 → ∀ y, l[i - 1]? = some y → r = .bool (y.lt x)), fun _ _ _ _ _ _ _ => trivial, _, dc0, fun s34 e34 w34 _ => ?_, ⟨.bool x.may, (fun _ => rfl), (fun h => by cases h)⟩, ?_⟩
        · refine (ctx_May_ok x _).mono ?_
          rintro r s' ⟨rfl, e⟩
          exact ⟨_, rfl, e, trivial, (fun _ => rfl), (fun h => by cases h)⟩
        rintro r ⟨hr, _⟩
        obtain rfl := hr rfl
        refine ⟨_, rfl, bsplit.mk (fun hm => ?_) (fun hm => ?_)⟩
        · intro s40 e40 w40 _
          refine ⟨e40, w40, true, rfl, fun _ ok => ?_, (fun h => by cases h)⟩
          have := (ok.hl i x hx).1
          rw [this] at hm; cases hm
        have hmay : x.may = true := by simpa using hm
        have hmm := Dot.may_iff.1 hmay
        refine bsplit.dec (fun hpos => ?_) (fun hz => ?_)
        · obtain ⟨y, hy⟩ := get_lt (l := l) (i := i - 1) (by omega)
          obtain ⟨ly, o', k8, k9⟩ := hl.ix (by decide) dotC_len u_s_Dot z_Dot hy
          have gy := fun s' e => (k9 s' e).2
          rw [wrap_i' (by omega), show (i : Int) - 1 = ((i - 1 : Nat) : Int) by omega]
          refine ⟨ly, o', k8 _, _, gy _ E29, _, dc0, fun s46 e46 w46 _ => ?_, ⟨.bool (y.lt x), (fun h => by cases h), (fun _ y' hy' => by rw [hy] at hy'; obtain rfl := Option.some.inj hy'; rfl)⟩, ?_⟩
          · refine (ctx_Less_ok y x _).mono ?_
            rintro r s' ⟨rfl, e⟩
            exact ⟨_, rfl, e, trivial, (fun h => by cases h), (fun _ y' hy' => by rw [hy] at hy'; obtain rfl := Option.some.inj hy'; rfl)⟩
          rintro r ⟨_, hr⟩
          obtain rfl := hr rfl y hy
          refine ⟨_, rfl, bsplit.mk (fun hb => ?_) (fun hb => ?_)⟩
          · intro s52 e52 w52 _
            refine ⟨e52, w52, true, rfl, fun _ ok => ?_, (fun h => by cases h)⟩
            have := (ok.hl i x hx).2.1 y (by omega) hy
            rw [this] at hb; cases hb
          · refine ⟨_, d1, _, d0, ?_⟩
            dsimp only
            rw [wrap_i' (by omega)]
            refine ⟨_, _, vix (by omega), _, by rw [(hat.ext e29).rd1, Nat.zero_add, Nat.mul_one]; exact vec_at hlen (by omega), fun s54 e54 w54 _ => ⟨e54, w54, ?_⟩⟩
            rw [wrap_u (by omega)]
            exact last hmay s54 e54 w54 fun y' _ hy' => by rw [hy] at hy'; obtain rfl := Option.some.inj hy'; simpa using hb
        · refine ⟨_, d1, _, d0, ?_⟩
          dsimp only
          rw [wrap_i' (by omega)]
          refine ⟨_, _, vix (by omega), _, by rw [(hat.ext e29).rd1, Nat.zero_add, Nat.mul_one]; exact vec_at hlen (by omega), fun s65 e65 w65 _ => ⟨e65, w65, ?_⟩⟩
          rw [wrap_u (by omega)]
          exact last hmay s65 e65 w65 fun y' h0 _ => by omega
  rw [List.drop_zero, List.take_of_length_le (by simp [hlen])]
  refine ⟨fun m vs s' => ∃ i : Nat, vs = [.int .i64 (i : Nat)] ∧ i ≤ 16 ∧ m = 16 - i ∧ s' = s2 ∧ ∀ (k : Nat) x, k < i → v[k]? = some x → x ≤ 4611686018427387904, 16, ⟨0, rfl, by omega, rfl, rfl, by omega⟩, ?_⟩
  rintro m n s71 ⟨i, hi, h6, rfl, rfl, hk⟩
  simp only [List.cons.injEq, AV.int.injEq, true_and, and_true] at hi
  subst hi
  refine bsplit.dec (fun hlt => ?_) (fun hge => ⟨rfl, fun x hx => ?_⟩)
  · have hi16 : i < 16 := by omega
    refine ⟨_, aix_vec hlen hi16, bsplit.dec (fun hgt => ?_) (fun hle => ?_)⟩
    · refine ⟨F.ext, .inl ⟨fun ok => ?_, rfl⟩⟩
      have := ok.hv _ (List.mem_of_getElem? (vec_some hlen hi16))
      omega
    · refine ⟨16 - (i + 1), by omega, i + 1, by rw [wrap_i (by omega)]; rfl, by omega, rfl, rfl, fun k y hk' hy => ?_⟩
      rcases Nat.lt_or_ge k i with h | h
      · exact hk k y h hy
      · obtain rfl : k = i := by omega
        rw [vec_some hlen hi16] at hy; obtain rfl := Option.some.inj hy; omega
  · obtain ⟨k, hkx⟩ := List.mem_iff_getElem?.1 hx
    refine hk k x ?_ hkx
    rcases Nat.lt_or_ge k v.length with h | h
    · omega
    · rw [List.getElem?_eq_none h] at hkx; cases hkx

/-- exceptions that stand apart stay as they are -/
theorem fold_apart {v : List Int} : ∀ (l acc : List Dot), (∀ d ∈ l, v.getD (d.r - 1).toNat 0 + 1 < d.c) → l.foldl cstep (v, acc) = (v, acc ++ l)
  | [], acc, _ => by simp
  | d :: l, acc, h => by
    have hd := h d (by simp)
    have : cstep (v, acc) d = (v, acc ++ [d]) := by
      unfold cstep
      rw [if_neg (by show ¬ d.c ≤ v.getD (d.r - 1).toNat 0; omega), if_neg (by show ¬ d.c = v.getD (d.r - 1).toNat 0 + 1; omega)]
    rw [List.foldl_cons, this, fold_apart l _ fun x hx => h x (by simp [hx])]
    simp
theorem compact_apart {v : List Int} {l : List Dot} (h : Gap v l) : compact v l = (v, l) := by
  rw [compact, fold_apart l [] h, List.nil_append]
theorem zeros_at (i : Nat) : zeros.getD i 0 = 0 := by
  simp only [zeros, List.getD_eq_getElem?_getD, List.getElem?_replicate]
  split <;> rfl

/-- the exceptions of the law -/
def many (r : Int) (a : Int) (n : Nat) : List Dot := (List.range n).map fun (i : Nat) => Dot.mk r (a + 2 + 2 * (i : Int))
theorem many_len (r a : Int) (n : Nat) : (many r a n).length = n := by simp [many]
theorem many_succ (r a : Int) (n : Nat) : many r a (n + 1) = many r a n ++ [⟨r, a + 2 + 2 * n⟩] := by
  simp [many, List.range_succ]
theorem many_get {r a : Int} {n i : Nat} {x : Dot} (h : (many r a n)[i]? = some x) : i < n ∧ x = ⟨r, a + 2 + 2 * i⟩ := by
  simp only [many, List.getElem?_map, Option.map_eq_some_iff] at h
  obtain ⟨k, hk, rfl⟩ := h
  obtain ⟨h1, h2⟩ := List.getElem?_eq_some_iff.1 hk
  simp only [List.length_range] at h1
  simp only [List.getElem_range] at h2
  subst h2
  exact ⟨h1, rfl⟩
theorem many_mem {r a : Int} {n : Nat} {x : Dot} (h : x ∈ many r a n) : ∃ i : Nat, i < n ∧ x = ⟨r, a + 2 + 2 * i⟩ := by
  obtain ⟨i, hi⟩ := List.mem_iff_getElem?.1 h
  obtain ⟨h1, h2⟩ := many_get hi
  exact ⟨i, h1, h2⟩
section
variable {r a : Int} (hr : 1 ≤ r ∧ r ≤ 16) (ha : 0 ≤ a ∧ a ≤ 1152921504606846976)
include hr ha
theorem many_may {n : Nat} (hn : n ≤ 4096) : ∀ d ∈ many r a n, d.may = true := by
  intro d hd
  obtain ⟨i, hi, rfl⟩ := many_mem hd
  refine Dot.may_iff.2 ⟨hr.1, hr.2, ?_, ?_⟩
  · show 1 ≤ a + 2 + 2 * (i : Int); omega
  · show a + 2 + 2 * (i : Int) ≤ 4611686018427387904; omega
theorem more_may : (Dot.mk r (a + 9000)).may = true := Dot.may_iff.2 ⟨hr.1, hr.2, by show 1 ≤ a + 9000; omega, by show a + 9000 ≤ 4611686018427387904; omega⟩
omit hr in
theorem more_gap : Gap zeros (many r a 4096 ++ [⟨r, a + 9000⟩]) := by
  intro y hy
  rw [zeros_at]
  rcases List.mem_append.1 hy with h | h
  · obtain ⟨i, hi, rfl⟩ := many_mem h
    show 0 + 1 < a + 2 + 2 * (i : Int); omega
  · obtain rfl : y = ⟨r, a + 9000⟩ := by simpa using h
    show 0 + 1 < a + 9000; omega
omit hr ha in
theorem more_rising : Rising (many r a 4096 ++ [⟨r, a + 9000⟩]) := by
  refine List.pairwise_append.2 ⟨?_, List.pairwise_singleton _ _, fun x hx y hy => ?_⟩
  · refine List.pairwise_map.2 ((List.pairwise_lt_range).imp fun {i j} h => ?_)
    exact Dot.lt_iff.2 (.inr ⟨rfl, by show a + 2 + 2 * (i : Int) < a + 2 + 2 * (j : Int); omega⟩)
  · obtain ⟨i, hi, rfl⟩ := many_mem hx
    obtain rfl : y = ⟨r, a + 9000⟩ := by simpa using hy
    exact Dot.lt_iff.2 (.inr ⟨rfl, by show a + 2 + 2 * (i : Int) < a + 9000; omega⟩)
theorem more_ok : COk zeros (many r a 4096 ++ [⟨r, a + 9000⟩]) := by
  refine ⟨⟨rfl, by decide⟩, more_rising, fun d hd => ?_⟩
  rcases List.mem_append.1 hd with h | h
  · exact many_may hr ha (Nat.le_refl _) d h
  · obtain rfl : d = ⟨r, a + 9000⟩ := by simpa using h
    exact more_may hr ha
theorem many_ok : COk zeros (many r a 4096) := by
  have h := more_ok hr ha
  exact ⟨h.v, h.r.sub (List.sublist_append_left _ _), fun d hd => h.m d (by simp [hd])⟩
omit hr in
theorem many_gap : Gap zeros (many r a 4096) := fun y hy => more_gap (r := r) ha y (List.mem_append_left _ hy)
/-- one dot more is refused -/
theorem add_full : addD zeros (many r a 4096) ⟨r, a + 9000⟩ = (false, 5, zeros, many r a 4096) := by
  have hm := more_may hr ha
  have hnin : (Dot.mk r (a + 9000)) ∉ many r a 4096 := by
    intro h
    obtain ⟨i, hi, he⟩ := many_mem h
    have := congrArg Dot.c he
    have : a + 9000 = a + 2 + 2 * (i : Int) := this
    omega
  have hh : hasD zeros (many r a 4096) ⟨r, a + 9000⟩ = false := by
    cases hq : hasD zeros (many r a 4096) ⟨r, a + 9000⟩ with
    | false => rfl
    | true =>
      rcases (hasD_iff.1 hq).2 with h | h
      · exact absurd h hnin
      · rw [zeros_at] at h
        have : a + 9000 ≤ 0 := h
        omega
  have hp : pos (many r a 4096) ⟨r, a + 9000⟩ = 4096 := by
    refine pos_eq (by rw [many_len]; exact Nat.le_refl _) (fun k x hk hx => ?_) fun x hx => ?_
    · obtain ⟨h1, rfl⟩ := many_get hx
      exact Dot.lt_iff.2 (.inr ⟨rfl, by show a + 2 + 2 * (k : Int) < a + 9000; omega⟩)
    · have := (many_get hx).1; omega
  have hi : ins (many r a 4096) ⟨r, a + 9000⟩ = many r a 4096 ++ [⟨r, a + 9000⟩] := by
    rw [ins, hp, List.take_of_length_le (by rw [many_len]; exact Nat.le_refl _), List.drop_eq_nil_of_le (by rw [many_len]; exact Nat.le_refl _)]
  unfold addD
  rw [hm, hh, hi, compact_apart (more_gap ha), List.length_append, many_len]
  rfl
end

theorem dotC_mk (r c : Int) : [AV.int .i64 r, AV.int .u64 c] = dotC ⟨r, c⟩ := rfl
theorem dot_build (r c : Int) : abuild T Y_Dot [(0, .int .i64 r), (1, .int .u64 c)] = some (.agg (dotC ⟨r, c⟩)) := by
  rw [abuild_pl (pl := [(0, 1), (1, 1)]) (by kernel_rfl) zr_Dot rfl]
  rfl
theorem vec_build : abuild T Y_Vector [] = some (.agg (zeros.map (.int .u64))) := by kernel_rfl

set_option maxRecDepth 100000 in
/-- a number as it may come -/
theorem int_arg {k : IntKind} {t : TypeId} (ht : Try.prog.underlying t = some (.int k)) (hf : flatT Try.prog 5 t = some [.int k]) {H : Type} {enc : TypeId × Value → H} {W : World} {base : Nat} {v : Value} (hv : Value.okWide Try.prog W .any base t v) (h : ∃ (d : DataW H) (p : List MemPlace), DataW.Trod enc Try.prog W 0 (fun _ => true) true t v d p) :
    ∃ n : Int, absV W.heap.size (MW W) v = .int k n ∧ k.min ≤ n ∧ n ≤ k.max := by
  obtain ⟨n, rfl⟩ := okWide_int ht hv
  obtain ⟨d, p, fuel, h⟩ := h
  have hc := flat_open 5 t _ fuel _ _ W.heap.size (MW W) hf h
  obtain ⟨a, c1, h1, ⟨r, rfl, h2, h3⟩, _⟩ := cellsOk.cons hc
  simp only [Value.cells, absV, List.map_cons, List.map_nil, List.cons.injEq, AV.int.injEq, true_and] at h1
  obtain ⟨rfl, _⟩ := h1
  exact ⟨_, rfl, h2, h3⟩

set_option maxRecDepth 100000 in
theorem ctxFull_ok {s : AS} {r a : Int} (ha : 0 ≤ a) : ACalls Try.prog F_law04iCtxFull [.int .i64 r, .int .u64 a] s fun v s' => v = .bool true := by
  refine ACalls.pre fun hw => q_law04iCtxFull _ _ _ _ ⟨fun vs s' => s' = s ∧ ∃ t, vs = [.bool t] ∧ (t = false → 1 ≤ r ∧ r ≤ 16 ∧ a ≤ 1152921504606846976), ?_, bsplit.dec (fun h => ⟨rfl, _, rfl, by simp⟩) (fun h1 => bsplit.dec (fun h => ⟨rfl, _, rfl, by simp⟩) (fun h2 => ⟨rfl, _, rfl, fun h3 => by simp at h3; omega⟩))⟩
  rintro t s3 ⟨rfl, t', ht, hsmall⟩
  simp only [List.cons.injEq, AV.bool.injEq, and_true] at ht
  subst ht
  have kn : ∀ s', ACalls Try.prog F_law04iknown [] s' fun v4 s5 => ∃ b6 : Bool, v4 = .bool b6 ∧ (AV.bool b6 = .bool true) := by
    intro s'
    refine (known_ok _).mono ?_
    rintro r s' ⟨rfl, rfl⟩
    exact ⟨_, rfl, rfl⟩
  refine bsplit.mk (fun hb => kn _) (fun hf => ?_)
  obtain ⟨hr1, hr2, ha2⟩ := hsmall hf
  have hr : 1 ≤ r ∧ r ≤ 16 := ⟨hr1, hr2⟩
  have haa : 0 ≤ a ∧ a ≤ 1152921504606846976 := ⟨ha, ha2⟩
  have okl := many_ok hr haa
  have gapl := many_gap (r := r) haa
  have okm := more_ok hr haa
  have gapm := more_gap (r := r) haa
  have hmay := more_may hr haa
  have vz : VIn zeros := ⟨rfl, by decide⟩
  refine ⟨fun vs s' => ∃ v, vs = [v] ∧ GroN dotC 2 [] s3 s' v (many r a 4096) ∧ WFs s', ?_, fun m vs s' => ∃ (i : Nat) (v : AV), vs = [v, .int .i64 (i : Nat)] ∧ i ≤ 4096 ∧ m = 4096 - i ∧ GroN dotC 2 [] s3 s' v (many r a i) ∧ WFs s', 4096, ⟨0, _, rfl, by omega, rfl, GroN.nil, hw⟩, ?_⟩
  · rintro v8 s9 ⟨v, hv, g9, w9⟩
    simp only [List.cons.injEq, and_true] at hv
    subst hv
    have E9 := g9.chg.ext
    have d9 : Dots s9 v8 (many r a 4096) := g9.sl dotC_len
    have hl := many_len r a 4096
    refine ⟨_, vec_build, ?_⟩
    refine ACalls.use (ctx_Of_any vz d9 (by omega)) ?_
    rintro r1 s12 ⟨e12, h12⟩ w12
    obtain ⟨p, hp, rfl, c12⟩ : ∃ p, s9.h p = none ∧ r1 = .tup [.ptr (some (p, 0)), .int .i64 0] ∧ CtxG s9 s12 p zeros (many r a 4096) := by
      rcases h12 with ⟨h, _⟩ | ⟨_, h, _⟩ | ⟨_, _, h⟩
      · exact absurd (ofOk okl gapl) h
      · omega
      · exact h
    refine ⟨_, _, rfl, bsplit.no rfl ?_⟩
    refine ACalls.use (ctx_Copy_G c12.at (by omega)) ?_
    rintro r1 s16 ⟨q, rfl, hq, c16, e16⟩ w16
    have hpq : q ≠ p := by rintro rfl; exact c12.at.there hq
    have cp16 := c12.ext e16
    have cq16 := c16.back e12
    refine ⟨_, rfl, ?_⟩
    rw [wrap_u (by omega)]
    refine ⟨_, dot_build _ _, NewSt w16 rfl rfl rfl fun l19 s21 F => ?_⟩
    have d21 : At s21 l19 (dotC ⟨r, a + 9000⟩) := F.own.at
    have cp21 := cp16.ext F.ext
    have cq21 := cq16.ext F.ext
    refine ⟨_, d21.rdc (by simp [dotC]), ?_⟩
    have hful := add_full hr haa
    refine ACalls.use (ctx_Add_ok2 cp21.at okl.v okl.r okl.m (by omega) ⟨r, a + 9000⟩) ?_
    rintro r1 s24 ⟨rfl, _, _, e24⟩ w24
    replace e24 := e24 (by rw [hful])
    rw [hful]
    have cp24 := cp21.ext e24
    have cq24 := cq21.ext e24
    have d24 := d21.ext e24
    refine ⟨_, _, rfl, ?_⟩
    refine ACalls.use (ctx_New_ok _) ?_
    rintro r1 s28 ⟨o, rfl, ho, co, e28⟩ w28
    have hop : o ≠ p := by rintro rfl; exact cp24.at.there ho
    have hoq : o ≠ q := by rintro rfl; exact cq24.at.there ho
    have hol : o ≠ l19 := by
      rintro rfl
      obtain ⟨g, ro, h⟩ := d24
      rw [h] at ho; cases ho
    have E24 : Ext s9 s24 := ((e12.trans e16).trans F.ext).trans e24
    refine ⟨_, rfl, _, (d24.ext e28).rdc (by simp [dotC]), ?_⟩
    refine ACalls.use (ctx_Add_ok co COk.zero.v COk.zero.r COk.zero.m (by simp) ⟨r, a + 9000⟩) ?_
    rintro r1 s32 ⟨rfl, co32, m32⟩ w32
    obtain ⟨oko, gapo, leno, haso⟩ := addD_any COk.zero (fun y hy => by cases hy) (by simp) ⟨r, a + 9000⟩
    have e32 := Ext.wr e28 ho m32
    have cp32 := cp24.ext e32
    have cq32 := cq24.ext e32
    have d32 := d24.ext e32
    refine ⟨_, _, rfl, ?_⟩
    refine ACalls.use (ctx_Join_ok cp32.at co32 okl oko (by omega) (Nat.le_trans leno (by simp))) ?_
    rintro r1 s36 ⟨v, ex, j, m36, hj⟩ w36
    obtain ⟨rfl, rfl⟩ : v = zeros ∧ ex = many r a 4096 ++ [⟨r, a + 9000⟩] := norm_eq j.ok j.gap okm gapm fun x => by
      rw [Bool.eq_iff_iff, j.has, Bool.or_eq_true, haso, has_zero, hasD_iff, hasD_iff, List.mem_append, List.mem_singleton, zeros_at]
      constructor
      · rintro (⟨h1, h2⟩ | h | ⟨h, _⟩)
        · rcases h2 with h2 | h2
          · exact ⟨h1, .inl (.inl h2)⟩
          · exact ⟨h1, .inr h2⟩
        · cases h
        · subst h; exact ⟨hmay, .inl (.inr rfl)⟩
      · rintro ⟨h1, (h2 | h2) | h2⟩
        · exact .inl ⟨h1, .inl h2⟩
        · exact .inr (.inr ⟨h2, hmay⟩)
        · exact .inl ⟨h1, .inr h2⟩
    have hl1 : (many r a 4096 ++ [Dot.mk r (a + 9000)]).length = 4097 := by rw [List.length_append, hl, List.length_singleton]
    obtain ⟨rfl, e36⟩ : r1 = .int .i64 5 ∧ Ext s32 s36 := by
      rcases hj with ⟨h, _⟩ | ⟨_, h, h'⟩
      · omega
      · exact ⟨h, h'⟩
    have d36 := d32.ext e36
    have cp36 := cp32.ext e36
    have cq36 := cq32.ext e36
    have E36 : Ext s9 s36 := (E24.trans e32).trans e36
    refine ⟨_, rfl, _, vec_build, _, d36.rdc (by simp [dotC]), ?_⟩
    refine GroN.append1 sl_s_Dot dotC_len dotC_one w36 (g9.step E36) (by simp) ⟨r, a + 9000⟩ (by omega) fun v43 s44 g44 w44 m44 => ?_
    have hlab : ∀ x ∈ labOf v8, s9.h x ≠ none := by
      intro x hx
      rcases g9.gro with ⟨h, _⟩ | ⟨la, rfl, h⟩
      · have := congrArg List.length h; rw [hl, List.length_nil] at this; omega
      · obtain rfl : x = la := by simpa [labOf] using hx
        rw [h]; simp
    have cp44 := cp36.mut m44 (fun h => hlab p h hp) fun x hx => .inl (hlab x hx)
    have cq44 := cq36.mut m44 (fun h => hlab q h (e12.none hq)) fun x hx => .inl (hlab x hx)
    refine ACalls.use (ctx_Of_any vz (g44.sl dotC_len) (by omega)) ?_
    rintro r1 s46 ⟨e46, h46⟩ w46
    obtain rfl : r1 = .tup [.ptr none, .int .i64 5] := by
      rcases h46 with ⟨h, _⟩ | ⟨_, _, h⟩ | ⟨_, h, _⟩
      · exact absurd (ofOk okm gapm) h
      · exact h
      · omega
    have cp46 := cp44.ext e46
    have cq46 := cq44.ext e46
    refine ⟨_, _, rfl, ?_⟩
    rw [wrap_u (by omega)]
    refine ⟨_, dot_build _ _, ?_⟩
    have hhas : addD zeros (many r a 4096) ⟨r, a + 2⟩ = (false, 0, zeros, many r a 4096) := by
      have hin : (Dot.mk r (a + 2)) ∈ many r a 4096 := by
        simp only [many, List.mem_map, List.mem_range]
        exact ⟨0, by omega, by simp⟩
      have hm := okl.m _ hin
      have hh : hasD zeros (many r a 4096) ⟨r, a + 2⟩ = true := hasD_iff.2 ⟨hm, .inl hin⟩
      unfold addD
      rw [hm, hh]
      rfl
    refine ACalls.use (ctx_Add_ok2 cp46.at okl.v okl.r okl.m (by omega) ⟨r, a + 2⟩) ?_
    rintro r1 s51 ⟨rfl, _, _, e51⟩ w51
    replace e51 := e51 (by rw [hhas])
    rw [hhas]
    refine ⟨_, _, rfl, bsplit.yes rfl (bsplit.yes rfl (bsplit.yes rfl ?_))⟩
    refine ACalls.use (Same_ok (cp46.ext e51).at (cq46.ext e51).at (by omega)) ?_
    rintro r1 s55 ⟨rfl, rfl⟩ _
    exact ⟨_, rfl, bsplit.yes (by simp) (bsplit.yes rfl (bsplit.yes rfl (kn _)))⟩
  · rintro m v n s65 ⟨i, v', hi, hil, rfl, g65, w65⟩
    simp only [List.cons.injEq, AV.int.injEq, true_and, and_true] at hi
    obtain ⟨rfl, rfl⟩ := hi
    refine bsplit.dec (fun hlt => ?_) (fun hge => ?_)
    · have e1 : IntKind.wrap .u64 (IntKind.wrap .u64 (a + 2) + IntKind.wrap .u64 (2 * IntKind.wrap .u64 (i : Int))) = a + 2 + 2 * (i : Int) := by
        rw [wrap_u (n := (i : Int)) (by omega), wrap_u (n := a + 2) (by omega), wrap_u (n := 2 * (i : Int)) (by omega), wrap_u (by omega)]
      rw [e1]
      refine ⟨_, dot_build _ _, GroN.append1 sl_s_Dot dotC_len dotC_one w65 g65 (by simp) ⟨r, a + 2 + 2 * (i : Int)⟩ (by rw [many_len]; omega) fun v' s' g' w' _ => ?_⟩
      refine ⟨4096 - (i + 1), by omega, i + 1, v', by rw [wrap_i (by omega)]; rfl, by omega, rfl, by rw [many_succ]; exact g', w'⟩
    · obtain rfl : i = 4096 := by omega
      exact ⟨v, rfl, g65, w65⟩

set_option maxRecDepth 100000 in
theorem flat_uint64 : flatT Try.prog 5 Y_uint64 = some [.int .u64] := by kernel_rfl
set_option maxRecDepth 100000 in
theorem ctxFull_lifted (os : Os) (started : os.Started) (H : Type) (enc : TypeId × Value → H) :
    ReturnsInHanded {} Try.checked os F_law04iCtxFull .any (Rows.ctxFullSpec.pre6 enc Try.prog Try.f8 Rows.ctxFullRow.domain false) (Rows.ctxFullSpec.post enc Try.prog Try.f8 false true false false) := by
  refine law_open (C := Try.checked) (rt := 4) own started (by kernel_rfl) Try.func8
    (ChangeSpec.witness6 (enc := enc) (C := Try.checked) false ⟨#[], #[.int .i64 0, .int .u64 0], []⟩ 8 (by kernel_rfl) (by kernel_rfl) (by kernel_rfl) (by kernel_rfl)) (by kernel_rfl) rfl (by kernel_rfl) Try.underlying4 laid (by kernel_rfl) ?_ ?_
  · intro ds hds
    rw [Try.params8] at hds
    match ds, hds with
    | [d1, d2], _ => rfl
  · intro W base args hlen hargs
    rw [Try.params8] at hlen hargs
    match args, hlen with
    | [a, b], _ =>
      obtain ⟨n, hn, _⟩ := int_arg (hT.und _ _ u_int) flat_int (hargs 0 _ a rfl rfl).1 (hargs 0 _ a rfl rfl).2
      obtain ⟨m, hm, hm0, _⟩ := int_arg (hT.und _ _ u_uint64) flat_uint64 (hargs 1 _ b rfl rfl).1 (hargs 1 _ b rfl rfl).2
      simp only [List.map_cons, List.map_nil, hn, hm]
      exact ctxFull_ok (by rw [min_u64] at hm0; exact hm0)

theorem ctxFull_holds : Rows.CtxFullSaid :=
  OpenClaim.holds_of_wide 8 Try.f8 rfl rfl rfl rfl rfl rfl rfl ⟨rfl, rfl, rfl, rfl, rfl⟩ rfl rfl rfl rfl rfl (by kernel_rfl) Try.func8 (by kernel_rfl)
    (of_decide_eq_true (by kernel_rfl)) (by unfold Func.isWrapper; rw [if_neg (by decide +kernel)]; exact ⟨rfl, rfl⟩)
    (fun os started H enc _ => ctxFull_lifted os started H enc)
end Go.Proofs.Ytbfchlimonimkaa
