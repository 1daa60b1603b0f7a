/-
  Contracts: contexts of vectors and exceptions; contexts of dots; are two the same.
-/
import Derived.Test.YtbfchlimonimkaaPlays
set_option linter.unusedSimpArgs false
set_option linter.unusedVariables false
namespace Go.Proofs.Ytbfchlimonimkaa
open Go.Am Go.Minster Go.ChangeShapes Go.WideShapes Go.ChangeAt Go.RowKit

theorem Equal_ok {s : AS} {v v' : AV} {l l' : List Dot} (h : Dots s v l) (h' : Dots s v' l') (hn : l.length ≤ 2 ^ 40) : ACalls Try.prog F_slices_Equal__s_Dot_Dot [v, v'] s fun r s' => r = .bool (decide (l = l')) ∧ s' = s := by
  refine q_slices_Equal__s_Dot_Dot _ _ _ _ ⟨_, h.lenB u_s_Dot _, _, h'.lenB u_s_Dot _, bsplit.mk (fun hq => ?_) (fun hq => ?_)⟩
  · refine ⟨?_, rfl⟩
    have hq' : ¬ (l.length : Int) = (l'.length : Int) := by simpa using hq
    have : l.length ≠ l'.length := by omega
    have : l ≠ l' := fun e => this (by rw [e])
    simp [this]
  · have hlen : l.length = l'.length := by
      have : (l.length : Int) = (l'.length : Int) := by simpa using hq
      omega
    refine ⟨_, h.lenB u_s_Dot _, fun m vs s' => ∃ i : Nat, vs = [.int .i64 (i : Nat)] ∧ i ≤ l.length ∧ m = l.length - i ∧ s' = s ∧ l.take i = l'.take i, l.length, ⟨0, rfl, by omega, rfl, rfl, by simp⟩, ?_⟩
    rintro m n s20 ⟨i, hi, h6, rfl, rfl, h7⟩
    simp only [List.cons.injEq, AV.int.injEq, true_and, and_true] at hi
    subst hi
    refine bsplit.dec (fun hlt => ?_) (fun hge => ?_)
    · obtain ⟨x, hx⟩ := get_lt (l := l) (i := i) (by omega)
      obtain ⟨y, hy⟩ := get_lt (l := l') (i := i) (by omega)
      obtain ⟨la, o, h8, h9⟩ := h.ix (by decide) dotC_len u_s_Dot z_Dot hx
      obtain ⟨la', o', h8', h9'⟩ := h'.ix (by decide) dotC_len u_s_Dot z_Dot hy
      refine ⟨la, o, h8 _, _, (h9 _ (Ext.refl _)).2, la', o', h8' _, _, (h9' _ (Ext.refl _)).2, _, dot_eq x y, bsplit.mk (fun hq => ?_) (fun hq => ?_)⟩
      · refine ⟨?_, rfl⟩
        have hne : x ≠ y := by simpa using hq
        have : l ≠ l' := fun e => hne (by subst e; rw [hx] at hy; exact Option.some.inj hy)
        simp [this]
      · have he : x = y := by simpa using hq
        subst he
        refine ⟨l.length - (i + 1), by omega, i + 1, by rw [wrap_i (by omega)]; rfl, by omega, rfl, rfl, ?_⟩
        rw [List.take_add_one, List.take_add_one, h7, hx, hy]
    · refine ⟨?_, rfl⟩
      rw [List.take_of_length_le (by omega), List.take_of_length_le (by omega)] at h7
      simp [h7]

theorem Same_ok {s : AS} {p q : Nat} {v v' : List Int} {ex ex' : List Dot} (h : CtxAt s p v ex) (h' : CtxAt s q v' ex') (hn : ex.length ≤ 2 ^ 40) : ACalls Try.prog F_ctx_Ctx_Same [.ptr (some (p, 0)), .ptr (some (q, 0))] s fun r s' => r = .bool (decide (v = v') && decide (ex = ex')) ∧ s' = s := by
  refine q_ctx_Ctx_Same _ _ _ _ ⟨fun vs s' => vs = [.bool false] ∧ s' = s, ?_, ?_⟩
  · rintro b s3 ⟨hb, rfl⟩
    simp only [List.cons.injEq, AV.bool.injEq, and_true] at hb
    subst hb
    obtain ⟨h1, w, h2, h3, h4⟩ := h
    obtain ⟨h1', w', h2', h3', h4'⟩ := h'
    refine bsplit.no rfl ⟨_, h2.at.rdc (by rw [ctx_len h1]; omega), _, h2'.at.rdc (by rw [ctx_len h1']; omega), ?_⟩
    rw [ctx_take h1, ctx_take h1']
    refine ⟨_, vec_eq h1 h1', bsplit.dec (fun hv => ?_) (fun hv => ?_)⟩
    · refine ⟨w, by rw [h2.at.rd1]; exact ctx_16 h1 w, w', by rw [h2'.at.rd1]; exact ctx_16 h1' w', ?_⟩
      refine (Equal_ok h4 h4' hn).mono ?_
      rintro r s' ⟨rfl, rfl⟩
      exact ⟨_, rfl, by simp [hv], rfl⟩
    · exact ⟨by simp [hv], rfl⟩
  · refine (ctx_there_ok h).mono ?_
    rintro r s' ⟨rfl, rfl⟩
    refine ⟨_, rfl, bsplit.no rfl ?_⟩
    refine (ctx_there_ok h').mono ?_
    rintro r s'' ⟨rfl, rfl⟩
    exact ⟨_, rfl, rfl, rfl⟩

/-- may a vector and exceptions be a context? -/
structure OfOk (v : List Int) (l : List Dot) : Prop where
  hv : ∀ x ∈ v, x ≤ 4611686018427387904
  hl : ∀ (i : Nat) x, l[i]? = some x → x.may = true ∧ (∀ y, 0 < i → l[i - 1]? = some y → y.lt x = true) ∧ v.getD (x.r - 1).toNat 0 + 1 < x.c
/-- a vector as it may come -/
structure VIn (v : List Int) : Prop where
  len : v.length = 16
  rng : ∀ x ∈ v, 0 ≤ x ∧ x ≤ 18446744073709551615
theorem VIn.get {v : List Int} (h : VIn v) (i : Nat) : 0 ≤ v.getD i 0 ∧ v.getD i 0 ≤ 18446744073709551615 := by
  rw [List.getD_eq_getElem?_getD]
  cases hq : v[i]? with
  | none => simp
  | some x => exact h.rng x (List.mem_of_getElem? hq)

theorem pl_Ctx : places T Y_ctx_Ctx = some [(0, 16), (16, 1), (17, 1)] := by kernel_rfl
theorem pl_Set : places T Y_minsterref04iSet = some [(0, 16), (16, 1)] := by kernel_rfl
theorem acells_all {l : List AV} (h : l.all AV.one = true) : acells (.agg l) = some l := by rw [acells_agg, if_pos h]
theorem acells_1 {v : AV} (h : v.one = true) : acells v = some [v] := by cases v <;> first | rfl | cases h
theorem build_Ctx {v : List Int} (h : v.length = 16) {w : AV} (hw : w.one = true) : abuild T Y_ctx_Ctx [(0, .agg (v.map (.int .u64))), (1, w), (2, .bool true)] = some (.agg (v.map (.int .u64) ++ [w, .bool true])) := by
  rw [abuild_pl pl_Ctx zr_ctx_Ctx rfl]
  have e0 := afill_step (pl := fun i => [(0, 16), (16, 1), (17, 1)][i]?) (pre := []) (mid := zeros.map (.int .u64)) (post := [.slc none 0 0 true, .bool false]) (c := v.map (.int .u64)) (i := 0) (sz := 16) (v := .agg (v.map (.int .u64))) (rest := [(1, w), (2, .bool true)]) rfl (acells_all (ints_one _ _)) (by simp [h]) rfl
  have e1 := afill_step (pl := fun i => [(0, 16), (16, 1), (17, 1)][i]?) (pre := v.map (.int .u64)) (mid := [.slc none 0 0 true]) (post := [.bool false]) (c := [w]) (i := 1) (sz := 1) (v := w) (rest := [(2, .bool true)]) (by simp [h]) (acells_1 hw) rfl rfl
  have e2 := afill_step (pl := fun i => [(0, 16), (16, 1), (17, 1)][i]?) (pre := v.map (.int .u64) ++ [w]) (mid := [.bool false]) (post := []) (c := [.bool true]) (i := 2) (sz := 1) (v := .bool true) (rest := []) (by simp [h]) rfl rfl rfl
  refine (congrArg (Option.map AV.agg) e0).trans ?_
  simp only [List.nil_append]
  rw [show v.map (AV.int .u64) ++ [.slc none 0 0 true, .bool false] = v.map (AV.int .u64) ++ [.slc none 0 0 true] ++ [.bool false] by simp, e1]
  rw [show v.map (AV.int .u64) ++ [w] ++ [.bool false] = v.map (AV.int .u64) ++ [w] ++ [.bool false] ++ [] by simp, e2]
  simp [afill]
theorem build_Set {v : List Int} (h : v.length = 16) {w : AV} (hw : w.one = true) : abuild T Y_minsterref04iSet [(0, .agg (v.map (.int .u64))), (1, w)] = some (.agg (v.map (.int .u64) ++ [w])) := by
  rw [abuild_pl pl_Set zr_minsterref04iSet rfl]
  have e0 := afill_step (pl := fun i => [(0, 16), (16, 1)][i]?) (pre := []) (mid := zeros.map (.int .u64)) (post := [.slc none 0 0 true]) (c := v.map (.int .u64)) (i := 0) (sz := 16) (v := .agg (v.map (.int .u64))) (rest := [(1, w)]) rfl (acells_all (ints_one _ _)) (by simp [h]) rfl
  have e1 := afill_step (pl := fun i => [(0, 16), (16, 1)][i]?) (pre := v.map (.int .u64)) (mid := [.slc none 0 0 true]) (post := []) (c := [w]) (i := 1) (sz := 1) (v := w) (rest := []) (by simp [h]) (acells_1 hw) rfl rfl
  refine (congrArg (Option.map AV.agg) e0).trans ?_
  simp only [List.nil_append]
  rw [show v.map (AV.int .u64) ++ [.slc none 0 0 true] = v.map (AV.int .u64) ++ [.slc none 0 0 true] ++ [] by simp, e1]
  simp [afill]

theorem aix_vec {v : List Int} (h : v.length = 16) {i : Nat} (hi : i < 16) : aindex T Y_Vector (.agg (v.map (.int .u64))) (.int .i64 (i : Nat)) = some (.int .u64 (v.getD i 0)) := by
  have : (0 : Int) ≤ (i : Int) ∧ (i : Int) < ((16 : Nat) : Int) := by omega
  simp only [aindex, u_Vector, z_uint64, Option.bind_some, if_pos this, part_s ag_uint64, Int.toNat_natCast, Nat.mul_one, List.getElem?_map]
  rw [List.getElem?_eq_getElem (by omega), List.getD_eq_getElem?_getD, List.getElem?_eq_getElem (by omega)]; rfl
theorem vec_at {v : List Int} (h : v.length = 16) {i : Nat} (hi : i < 16) : (v.map (AV.int .u64))[i]? = some (.int .u64 (v.getD i 0)) := by
  rw [List.getElem?_map, List.getElem?_eq_getElem (by omega), List.getD_eq_getElem?_getD, List.getElem?_eq_getElem (by omega)]; rfl
theorem vec_some {v : List Int} (h : v.length = 16) {i : Nat} (hi : i < 16) : v[i]? = some (v.getD i 0) := by
  rw [List.getD_eq_getElem?_getD, List.getElem?_eq_getElem (by omega)]; rfl

theorem ref_Of_ok {s : AS} {a : AV} {v : List Int} {l : List Dot} (hv : VIn v) (hl : Dots s a l) (ha : a ≠ .emp ∧ a.one = true) (hn : l.length ≤ 4096) :
    ACalls Try.prog F_ref04iOf [.agg (v.map (.int .u64)), a] s fun r s' => Ext s s' ∧ ((¬ OfOk v l ∧ r = .tup [.ptr none, .bool false]) ∨ (OfOk v l ∧ ∃ q, s.h q = none ∧ r = .tup [.ptr (some (q, 0)), .bool true] ∧ Own s' q (v.map (AV.int .u64) ++ [a]))) := by
  have hlen := hv.len
  refine ACalls.pre fun hw => q_ref04iOf _ _ _ _ ⟨ints_one _ _, NewQ.intro hw rfl fun l1 s2 F => ?_⟩
  have hat := F.own.at
  refine ⟨fun vs s' => s' = s2 ∧ ∀ x ∈ v, x ≤ 4611686018427387904, ?_, fun m vs s' => ∃ i : Nat, vs = [.int .i64 (i : Nat)] ∧ i ≤ 16 ∧ m = 16 - i ∧ s' = s2 ∧ ∀ (k : Nat) x, k < i → v[k]? = some x → x ≤ 4611686018427387904, 16, ⟨0, rfl, by omega, rfl, rfl, by omega⟩, ?_⟩
  · rintro s4 ⟨rfl, hvm⟩
    have cont : ∀ (i : Nat), i < l.length → ∀ s', Ext s4 s' → WFs s' → (∀ (k : Nat) x, k < i + 1 → l[k]? = some x → x.may = true ∧ (∀ y, 0 < k → l[k - 1]? = some y → y.lt x = true) ∧ v.getD (x.r - 1).toNat 0 + 1 < x.c) → ∃ m', m' < l.length - i ∧ ∃ j : Nat, [AV.int .i64 (IntKind.wrap .i64 ((i : Int) + 1))] = [.int .i64 (j : Nat)] ∧ j ≤ l.length ∧ m' = l.length - j ∧ Ext s4 s' ∧ WFs s' ∧ (∀ (k : Nat) x, k < j → l[k]? = some x → x.may = true ∧ (∀ y, 0 < k → l[k - 1]? = some y → y.lt x = true) ∧ v.getD (x.r - 1).toNat 0 + 1 < x.c) :=
      fun i hi s' e w h => ⟨l.length - (i + 1), by omega, i + 1, by rw [wrap_i (by omega)]; rfl, by omega, rfl, e, w, h⟩
    refine ⟨fun vs s' => Ext s4 s' ∧ WFs s' ∧ OfOk v l, ?_, fun m vs s' => ∃ i : Nat, vs = [.int .i64 (i : Nat)] ∧ i ≤ l.length ∧ m = l.length - i ∧ Ext s4 s' ∧ WFs s' ∧ (∀ (k : Nat) x, k < i → l[k]? = some x → x.may = true ∧ (∀ y, 0 < k → l[k - 1]? = some y → y.lt x = true) ∧ v.getD (x.r - 1).toNat 0 + 1 < x.c), l.length, ⟨0, rfl, by omega, rfl, Ext.refl _, F.wf, by omega⟩, ?_⟩
    · rintro s6 ⟨e6, w6, ok⟩
      refine ⟨_, (hat.ext e6).rdc (by simp [hlen]), ?_⟩
      rw [List.drop_zero, List.take_of_length_le (by simp [hlen])]
      refine ⟨_, build_Set hlen ha.2, by simp [ha.2], NewQ.intro w6 rfl fun q s10 F10 => ⟨F.ext.trans (e6.trans F10.ext), .inr ⟨ok, q, (F.ext.trans e6).none F10.no, rfl, F10.own⟩⟩⟩
    · rintro m n s15 ⟨i, hi, h6, rfl, e15, w15, hk⟩
      simp only [List.cons.injEq, AV.int.injEq, true_and, and_true] at hi
      subst hi
      have E15 := F.ext.trans e15
      refine ⟨_, hl.lenB u_s_Dot _, bsplit.dec (fun hlt => ?_) (fun hge => ⟨e15, w15, hvm, fun k x hx => hk k x (by
        rcases Nat.lt_or_ge k l.length with h | h
        · omega
        · rw [List.getElem?_eq_none h] at hx; cases hx) hx⟩)⟩
      obtain ⟨x, hx⟩ := get_lt (l := l) (i := i) (by omega)
      obtain ⟨lx, o, h8, h9⟩ := hl.ix (by decide) dotC_len u_s_Dot z_Dot hx
      have gx := fun s' e => (h9 s' e).2
      have gx0 : ∀ s', Ext s s' → rd1 s' lx o = some (.int .i64 x.r) := fun s' e => (h9 s' e).1 0 (by decide)
      have gx1 : ∀ s', Ext s s' → rd1 s' lx (o + 1) = some (.int .u64 x.c) := fun s' e => (h9 s' e).1 1 (by decide)
      have bad : ∀ (s' : AS), Ext s15 s' → (OfOk v l → False) → Ext s s' ∧ ((¬ OfOk v l ∧ AV.tup [.ptr none, .bool false] = .tup [.ptr none, .bool false]) ∨ (OfOk v l ∧ ∃ q, s.h q = none ∧ AV.tup [.ptr none, .bool false] = .tup [.ptr (some (q, 0)), .bool true] ∧ Own s' q (v.map (AV.int .u64) ++ [a]))) :=
        fun s' e h => ⟨E15.trans e, .inl ⟨h, rfl⟩⟩
      refine ⟨fun vs s' => Ext s15 s' ∧ WFs s' ∧ ∃ t, vs = [.bool t] ∧ (t = true → ¬ OfOk v l) ∧ (t = false → x.may = true ∧ (∀ y, 0 < i → l[i - 1]? = some y → y.lt x = true) ∧ v.getD (x.r - 1).toNat 0 + 1 < x.c), ?_, ?_⟩
      · rintro b s19 ⟨e19, w19, t, ht, h1, h2⟩
        simp only [List.cons.injEq, AV.bool.injEq, and_true] at ht
        subst ht
        refine bsplit.mk (fun hb => bad _ e19 (h1 hb)) (fun hb => cont i (by omega) _ (e15.trans e19) w19 fun k y hk' hy => ?_)
        rcases Nat.lt_or_ge k i with h | h
        · exact hk k y h hy
        · obtain rfl : k = i := by omega
          rw [hx] at hy; obtain rfl := Option.some.inj hy; exact h2 hb
      · have last : x.may = true → ∀ (s' : AS), Ext s15 s' → WFs s' → (∀ y, 0 < i → l[i - 1]? = some y → y.lt x = true) → ∃ t, [AV.bool (decide (x.c ≤ v.getD (x.r - 1).toNat 0 + 1))] = [.bool t] ∧ (t = true → ¬ OfOk v l) ∧ (t = false → x.may = true ∧ (∀ y, 0 < i → l[i - 1]? = some y → y.lt x = true) ∧ v.getD (x.r - 1).toNat 0 + 1 < x.c) := by
          intro hm s' e w hy
          refine ⟨_, rfl, fun h ok => ?_, fun h => ⟨hm, hy, ?_⟩⟩
          · exact absurd (of_decide_eq_true h) (Int.not_le.2 (ok.hl i x hx).2.2)
          · exact Int.not_le.1 (of_decide_eq_false h)
        have hbd := hv.get (x.r - 1).toNat
        have hvle : v.getD (x.r - 1).toNat 0 ≤ 4611686018427387904 := by
          rw [List.getD_eq_getElem?_getD]
          cases hq : v[(x.r - 1).toNat]? with
          | none => simp
          | some y => exact hvm y (List.mem_of_getElem? hq)
        refine ⟨fun _ _ _ _ => True, fun k _ r => (k = 4 → r = .bool x.may) ∧ (k = 19 → ∀ y, l[i - 1]? = some y → r = .bool (y.lt x)), fun _ _ _ _ _ _ _ => trivial, lx, o, h8 _, _, gx _ E15, fun s23 e23 w23 _ => ?_, ⟨.bool x.may, (fun _ => rfl), (fun h => by cases h)⟩, ?_⟩
        · refine (ref04iMay_ok x _).mono ?_
          rintro r s' ⟨rfl, e⟩
          exact ⟨_, rfl, e, trivial, (fun _ => rfl), (fun h => by cases h)⟩
        rintro r ⟨hr, _⟩
        obtain rfl := hr rfl
        refine ⟨_, rfl, bsplit.mk (fun hm => ?_) (fun hm => ?_)⟩
        · intro s29 e29 w29 _
          refine ⟨e29, w29, true, rfl, fun _ ok => ?_, (fun h => by cases h)⟩
          have := (ok.hl i x hx).1
          rw [this] at hm; cases hm
        have hmay : x.may = true := by simpa using hm
        have hmm := Dot.may_iff.1 hmay
        refine bsplit.dec (fun hpos => ?_) (fun hz => ?_)
        · obtain ⟨y, hy⟩ := get_lt (l := l) (i := i - 1) (by omega)
          obtain ⟨ly, o', k8, k9⟩ := hl.ix (by decide) dotC_len u_s_Dot z_Dot hy
          have gy := fun s' e => (k9 s' e).2
          rw [wrap_i' (by omega), show (i : Int) - 1 = ((i - 1 : Nat) : Int) by omega]
          refine ⟨ly, o', k8 _, _, gy _ E15, lx, o, h8 _, _, gx _ E15, fun s37 e37 w37 _ => ?_, ⟨.bool (y.lt x), (fun h => by cases h), (fun _ y' hy' => by rw [hy] at hy'; obtain rfl := Option.some.inj hy'; rfl)⟩, ?_⟩
          · refine (ref04iLess_ok y x _).mono ?_
            rintro r s' ⟨rfl, e⟩
            exact ⟨_, rfl, e, trivial, (fun h => by cases h), (fun _ y' hy' => by rw [hy] at hy'; obtain rfl := Option.some.inj hy'; rfl)⟩
          rintro r ⟨_, hr⟩
          obtain rfl := hr rfl y hy
          refine ⟨_, rfl, bsplit.mk (fun hb => ?_) (fun hb => ?_)⟩
          · intro s43 e43 w43 _
            refine ⟨e43, w43, true, rfl, fun _ ok => ?_, (fun h => by cases h)⟩
            have := (ok.hl i x hx).2.1 y (by omega) hy
            rw [this] at hb; cases hb
          · refine ⟨lx, o, h8 _, _, gx1 _ E15, lx, o, h8 _, _, gx0 _ E15, ?_⟩
            dsimp only
            rw [wrap_i' (by omega)]
            refine ⟨_, _, vix (by omega), _, by rw [(hat.ext e15).rd1, Nat.zero_add, Nat.mul_one]; exact vec_at hlen (by omega), fun s54 e54 w54 _ => ⟨e54, w54, ?_⟩⟩
            rw [wrap_u (by omega)]
            exact last hmay s54 e54 w54 fun y' _ hy' => by rw [hy] at hy'; obtain rfl := Option.some.inj hy'; simpa using hb
        · refine ⟨lx, o, h8 _, _, gx1 _ E15, lx, o, h8 _, _, gx0 _ E15, ?_⟩
          dsimp only
          rw [wrap_i' (by omega)]
          refine ⟨_, _, vix (by omega), _, by rw [(hat.ext e15).rd1, Nat.zero_add, Nat.mul_one]; exact vec_at hlen (by omega), fun s65 e65 w65 _ => ⟨e65, w65, ?_⟩⟩
          rw [wrap_u (by omega)]
          exact last hmay s65 e65 w65 fun y' h0 _ => by omega
  · rintro m n s71 ⟨i, hi, h6, rfl, rfl, hk⟩
    simp only [List.cons.injEq, AV.int.injEq, true_and, and_true] at hi
    subst hi
    refine bsplit.dec (fun hlt => ?_) (fun hge => ⟨rfl, fun x hx => ?_⟩)
    · have hi16 : i < 16 := by omega
      refine ⟨_, _, vix (by omega), _, by rw [hat.rd1, Nat.zero_add, Nat.mul_one, Int.toNat_natCast]; exact vec_at hlen hi16, bsplit.dec (fun hgt => ?_) (fun hle => ?_)⟩
      · refine ⟨F.ext, .inl ⟨fun ok => ?_, rfl⟩⟩
        have := ok.hv _ (List.mem_of_getElem? (vec_some hlen hi16))
        omega
      · refine ⟨16 - (i + 1), by omega, i + 1, by rw [wrap_i (by omega)]; rfl, by omega, rfl, rfl, fun k y hk' hy => ?_⟩
        rcases Nat.lt_or_ge k i with h | h
        · exact hk k y h hy
        · obtain rfl : k = i := by omega
          rw [vec_some hlen hi16] at hy; obtain rfl := Option.some.inj hy; omega
    · obtain ⟨k, hkx⟩ := List.mem_iff_getElem?.1 hx
      refine hk k x ?_ hkx
      rcases Nat.lt_or_ge k v.length with h | h
      · omega
      · rw [List.getElem?_eq_none h] at hkx; cases hkx
end Go.Proofs.Ytbfchlimonimkaa
