/-
  Contracts: contexts of vectors and exceptions (ctx.Of); a row of dots handed to both sides.
-/
import Derived.Test.YtbfchlimonimkaaOf
set_option linter.unusedSimpArgs false
set_option linter.unusedVariables false
namespace Go.Proofs.Ytbfchlimonimkaa
open Go.Am Go.Minster Go.ChangeShapes Go.WideShapes Go.ChangeAt Go.RowKit

/-- a context whose exceptions are nobody else's -/
def CtxOwn (s s' : AS) (p : Nat) (v : List Int) (l : List Dot) : Prop := CtxAt s' p v l ∧ ∀ lo s'', s.h lo ≠ none → Mut [lo] s' s'' → CtxAt s'' p v l

theorem clone_S {s s9 : AS} {v : AV} {l : List Dot} (e : Ext s s9) (h : Dots s9 v l) (hn : l.length ≤ 2 ^ 30) : ACalls Try.prog F_slices_Clone__s_Dot_Dot [v] s9 fun r s' => Ext s9 s' ∧ (Gro dotC 2 s' r l ∧ (∀ la ∈ labOf r, s.h la = none) ∧ r ≠ .emp ∧ r.one = true) := by
  refine (clone_ok h hn).mono ?_
  intro r s' g
  exact ⟨g.chg.ext, g.gro, fun la hla => e.none (g.new la hla), g.isSlc⟩

theorem ctx_Of_ok {s : AS} {a : AV} {v : List Int} {l : List Dot} (hv : VIn v) (hl : Dots s a l) (hn : l.length ≤ 4096) :
    ACalls Try.prog F_ctx_Of [.agg (v.map (.int .u64)), a] s fun r s' => Ext s s' ∧ ((¬ OfOk v l ∧ r = .tup [.ptr none, .int .i64 2]) ∨ (OfOk v l ∧ ∃ p, s.h p = none ∧ r = .tup [.ptr (some (p, 0)), .int .i64 0] ∧ CtxOwn s s' p v l)) := by
  have hlen := hv.len
  refine ACalls.pre fun hw => q_ctx_Of _ _ _ _ ⟨ints_one _ _, NewQ.intro hw rfl fun l1 s2 F => ?_⟩
  have hat := F.own.at
  refine ⟨fun vs s' => s' = s2 ∧ ∀ x ∈ v, x ≤ 4611686018427387904, ?_, _, hat.rdc (by simp [hlen]), ?_⟩
  · rintro s4 ⟨rfl, hvm⟩
    have cont : ∀ (i : Nat), i < l.length → ∀ s', Ext s4 s' → WFs s' → (∀ (k : Nat) x, k < i + 1 → l[k]? = some x → x.may = true ∧ (∀ y, 0 < k → l[k - 1]? = some y → y.lt x = true) ∧ v.getD (x.r - 1).toNat 0 + 1 < x.c) → ∃ m', m' < l.length - i ∧ ∃ j : Nat, [AV.int .i64 (IntKind.wrap .i64 ((i : Int) + 1))] = [.int .i64 (j : Nat)] ∧ j ≤ l.length ∧ m' = l.length - j ∧ Ext s4 s' ∧ WFs s' ∧ (∀ (k : Nat) x, k < j → l[k]? = some x → x.may = true ∧ (∀ y, 0 < k → l[k - 1]? = some y → y.lt x = true) ∧ v.getD (x.r - 1).toNat 0 + 1 < x.c) :=
      fun i hi s' e w h => ⟨l.length - (i + 1), by omega, i + 1, by rw [wrap_i (by omega)]; rfl, by omega, rfl, e, w, h⟩
    refine ⟨fun vs s' => Ext s4 s' ∧ WFs s' ∧ OfOk v l, ?_, _, hl.lenB u_s_Dot _, fun m vs s' => ∃ i : Nat, vs = [.int .i64 (i : Nat)] ∧ i ≤ l.length ∧ m = l.length - i ∧ Ext s4 s' ∧ WFs s' ∧ (∀ (k : Nat) x, k < i → l[k]? = some x → x.may = true ∧ (∀ y, 0 < k → l[k - 1]? = some y → y.lt x = true) ∧ v.getD (x.r - 1).toNat 0 + 1 < x.c), l.length, ⟨0, rfl, by omega, rfl, Ext.refl _, F.wf, by omega⟩, ?_⟩
    · rintro s6 ⟨e6, w6, ok⟩
      have E6 := F.ext.trans e6
      refine ⟨_, hl.lenB u_s_Dot _, bsplit.no (by simp; omega) ?_⟩
      refine ⟨fun k _ r s' => k = 2 → Gro dotC 2 s' r l ∧ (∀ la ∈ labOf r, s.h la = none) ∧ r ≠ .emp ∧ r.one = true, fun _ _ _ => True, fun _ _ _ _ _ e h hk => ⟨(h hk).1.ext e, (h hk).2⟩, _, (hat.ext e6).rdc (by simp [hlen]), fun s9 e9 w9 _ => ?_, ⟨.emp, trivial⟩, ?_⟩
      · refine (clone_S (s := s) (E6.trans e9) (hl.ext (E6.trans e9)) (by omega)).mono ?_
        rintro r s' ⟨e, h⟩
        exact ⟨e, fun _ => h, trivial⟩
      rintro r _ s13 e13 w13 ⟨hr, _⟩
      obtain ⟨g, hnew, hne, hone⟩ := hr rfl
      rw [List.drop_zero, List.take_of_length_le (by simp [hlen])]
      refine ⟨_, build_Ctx hlen hone, by simp [hone], NewQ.intro w13 rfl fun p s17 F17 => ?_⟩
      have E13 := E6.trans e13
      refine ⟨E13.trans F17.ext, .inr ⟨ok, p, E13.none F17.no, rfl, ⟨hlen, r, F17.own, hone, (g.ext F17.ext).sl dotC_len⟩, fun lo s'' hlo m => ⟨hlen, r, F17.own.mut m ?_, hone, ?_⟩⟩⟩
      · simp only [List.mem_singleton]
        rintro rfl
        exact hlo (E13.none F17.no)
      · refine ((g.ext F17.ext).mut m fun x hx => ?_).sl dotC_len
        simp only [List.mem_singleton]
        rintro rfl
        exact hlo (hnew _ hx)
    · rintro m n s15 ⟨i, hi, h6, rfl, e15, w15, hk⟩
      simp only [List.cons.injEq, AV.int.injEq, true_and, and_true] at hi
      subst hi
      have E15 := F.ext.trans e15
      refine bsplit.dec (fun hlt => ?_) (fun hge => ⟨e15, w15, hvm, fun k x hx => hk k x (by
        rcases Nat.lt_or_ge k l.length with h | h
        · omega
        · rw [List.getElem?_eq_none h] at hx; cases hx) hx⟩)
      obtain ⟨x, hx⟩ := get_lt (l := l) (i := i) (by omega)
      obtain ⟨lx, o, h8, h9⟩ := hl.ix (by decide) dotC_len u_s_Dot z_Dot hx
      have gx := fun s' e => (h9 s' e).2
      have bad : ∀ (s' : AS), Ext s s' → (OfOk v l → False) → Ext s s' ∧ ((¬ OfOk v l ∧ AV.tup [.ptr none, .int .i64 2] = .tup [.ptr none, .int .i64 2]) ∨ (OfOk v l ∧ ∃ p, s.h p = none ∧ AV.tup [.ptr none, .int .i64 2] = .tup [.ptr (some (p, 0)), .int .i64 0] ∧ CtxOwn s s' p v l)) :=
        fun s' e h => ⟨e, .inl ⟨h, rfl⟩⟩
      refine ⟨lx, o, h8 _, _, gx _ E15, NewSt w15 rfl rfl rfl fun l27 s29 F29 => ?_⟩
      have E29 := E15.trans F29.ext
      have e29 := e15.trans F29.ext
      have d29 : At s29 l27 (dotC x) := F29.own.at
      refine ⟨fun vs s' => Ext s29 s' ∧ WFs s' ∧ ∃ t, vs = [.bool t] ∧ (t = true → ¬ OfOk v l) ∧ (t = false → x.may = true ∧ (∀ y, 0 < i → l[i - 1]? = some y → y.lt x = true) ∧ v.getD (x.r - 1).toNat 0 + 1 < x.c), ?_, ?_⟩
      · rintro b s19 ⟨e19, w19, t, ht, h1, h2⟩
        simp only [List.cons.injEq, AV.bool.injEq, and_true] at ht
        subst ht
        refine bsplit.mk (fun hb => bad _ (E29.trans e19) (h1 hb)) (fun hb => cont i (by omega) _ (e29.trans e19) w19 fun k y hk' hy => ?_)
        rcases Nat.lt_or_ge k i with h | h
        · exact hk k y h hy
        · obtain rfl : k = i := by omega
          rw [hx] at hy; obtain rfl := Option.some.inj hy; exact h2 hb
      · have last : x.may = true → ∀ (s' : AS), Ext s29 s' → WFs s' → (∀ y, 0 < i → l[i - 1]? = some y → y.lt x = true) → ∃ t, [AV.bool (decide (x.c ≤ v.getD (x.r - 1).toNat 0 + 1))] = [.bool t] ∧ (t = true → ¬ OfOk v l) ∧ (t = false → x.may = true ∧ (∀ y, 0 < i → l[i - 1]? = some y → y.lt x = true) ∧ v.getD (x.r - 1).toNat 0 + 1 < x.c) := by
          intro hm s' e w hy
          refine ⟨_, rfl, fun h ok => ?_, fun h => ⟨hm, hy, ?_⟩⟩
          · exact absurd (of_decide_eq_true h) (Int.not_le.2 (ok.hl i x hx).2.2)
          · exact Int.not_le.1 (of_decide_eq_false h)
        have hbd := hv.get (x.r - 1).toNat
        have hvle : v.getD (x.r - 1).toNat 0 ≤ 4611686018427387904 := by
          rw [List.getD_eq_getElem?_getD]
          cases hq : v[(x.r - 1).toNat]? with
          | none => simp
          | some y => exact hvm y (List.mem_of_getElem? hq)
        have dc0 : rdc s29 l27 0 2 = some (dotC x) := d29.rdc (by simp [dotC])
        have d0 : rd1 s29 l27 0 = some (.int .i64 x.r) := by rw [d29.rd1]; rfl
        have d1 : rd1 s29 l27 1 = some (.int .u64 x.c) := by rw [d29.rd1]; rfl
        refine ⟨fun _ _ _ _ => True, fun k _ r => (k = 1 → r = .bool x.may) ∧ (k = 13 → ∀ y, l[i - 1]? = some y → r = .bool (y.lt x)), fun _ _ _ _ _ _ _ => trivial, _, dc0, fun s34 e34 w34 _ => ?_, ⟨.bool x.may, (fun _ => rfl), (fun h => by cases h)⟩, ?_⟩
        · refine (ctx_May_ok x _).mono ?_
          rintro r s' ⟨rfl, e⟩
          exact ⟨_, rfl, e, trivial, (fun _ => rfl), (fun h => by cases h)⟩
        rintro r ⟨hr, _⟩
        obtain rfl := hr rfl
        refine ⟨_, rfl, bsplit.mk (fun hm => ?_) (fun hm => ?_)⟩
        · intro s40 e40 w40 _
          refine ⟨e40, w40, true, rfl, fun _ ok => ?_, (fun h => by cases h)⟩
          have := (ok.hl i x hx).1
          rw [this] at hm; cases hm
        have hmay : x.may = true := by simpa using hm
        have hmm := Dot.may_iff.1 hmay
        refine bsplit.dec (fun hpos => ?_) (fun hz => ?_)
        · obtain ⟨y, hy⟩ := get_lt (l := l) (i := i - 1) (by omega)
          obtain ⟨ly, o', k8, k9⟩ := hl.ix (by decide) dotC_len u_s_Dot z_Dot hy
          have gy := fun s' e => (k9 s' e).2
          rw [wrap_i' (by omega), show (i : Int) - 1 = ((i - 1 : Nat) : Int) by omega]
          refine ⟨ly, o', k8 _, _, gy _ E29, _, dc0, fun s46 e46 w46 _ => ?_, ⟨.bool (y.lt x), (fun h => by cases h), (fun _ y' hy' => by rw [hy] at hy'; obtain rfl := Option.some.inj hy'; rfl)⟩, ?_⟩
          · refine (ctx_Less_ok y x _).mono ?_
            rintro r s' ⟨rfl, e⟩
            exact ⟨_, rfl, e, trivial, (fun h => by cases h), (fun _ y' hy' => by rw [hy] at hy'; obtain rfl := Option.some.inj hy'; rfl)⟩
          rintro r ⟨_, hr⟩
          obtain rfl := hr rfl y hy
          refine ⟨_, rfl, bsplit.mk (fun hb => ?_) (fun hb => ?_)⟩
          · intro s52 e52 w52 _
            refine ⟨e52, w52, true, rfl, fun _ ok => ?_, (fun h => by cases h)⟩
            have := (ok.hl i x hx).2.1 y (by omega) hy
            rw [this] at hb; cases hb
          · refine ⟨_, d1, _, d0, ?_⟩
            dsimp only
            rw [wrap_i' (by omega)]
            refine ⟨_, _, vix (by omega), _, by rw [(hat.ext e29).rd1, Nat.zero_add, Nat.mul_one]; exact vec_at hlen (by omega), fun s54 e54 w54 _ => ⟨e54, w54, ?_⟩⟩
            rw [wrap_u (by omega)]
            exact last hmay s54 e54 w54 fun y' _ hy' => by rw [hy] at hy'; obtain rfl := Option.some.inj hy'; simpa using hb
        · refine ⟨_, d1, _, d0, ?_⟩
          dsimp only
          rw [wrap_i' (by omega)]
          refine ⟨_, _, vix (by omega), _, by rw [(hat.ext e29).rd1, Nat.zero_add, Nat.mul_one]; exact vec_at hlen (by omega), fun s65 e65 w65 _ => ⟨e65, w65, ?_⟩⟩
          rw [wrap_u (by omega)]
          exact last hmay s65 e65 w65 fun y' h0 _ => by omega
  rw [List.drop_zero, List.take_of_length_le (by simp [hlen])]
  refine ⟨fun m vs s' => ∃ i : Nat, vs = [.int .i64 (i : Nat)] ∧ i ≤ 16 ∧ m = 16 - i ∧ s' = s2 ∧ ∀ (k : Nat) x, k < i → v[k]? = some x → x ≤ 4611686018427387904, 16, ⟨0, rfl, by omega, rfl, rfl, by omega⟩, ?_⟩
  rintro m n s71 ⟨i, hi, h6, rfl, rfl, hk⟩
  simp only [List.cons.injEq, AV.int.injEq, true_and, and_true] at hi
  subst hi
  refine bsplit.dec (fun hlt => ?_) (fun hge => ⟨rfl, fun x hx => ?_⟩)
  · have hi16 : i < 16 := by omega
    refine ⟨_, aix_vec hlen hi16, bsplit.dec (fun hgt => ?_) (fun hle => ?_)⟩
    · refine ⟨F.ext, .inl ⟨fun ok => ?_, rfl⟩⟩
      have := ok.hv _ (List.mem_of_getElem? (vec_some hlen hi16))
      omega
    · refine ⟨16 - (i + 1), by omega, i + 1, by rw [wrap_i (by omega)]; rfl, by omega, rfl, rfl, fun k y hk' hy => ?_⟩
      rcases Nat.lt_or_ge k i with h | h
      · exact hk k y h hy
      · obtain rfl : k = i := by omega
        rw [vec_some hlen hi16] at hy; obtain rfl := Option.some.inj hy; omega
  · obtain ⟨k, hkx⟩ := List.mem_iff_getElem?.1 hx
    refine hk k x ?_ hkx
    rcases Nat.lt_or_ge k v.length with h | h
    · omega
    · rw [List.getElem?_eq_none h] at hkx; cases hkx
end Go.Proofs.Ytbfchlimonimkaa
