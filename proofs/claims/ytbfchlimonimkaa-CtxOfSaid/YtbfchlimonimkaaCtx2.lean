/-
  Contracts: dots in order, contexts that are looked at.
-/
import Derived.Test.YtbfchlimonimkaaCtx1
import Derived.Test.YtbfchlimonimkaaAmE
set_option linter.unusedSimpArgs false
set_option linter.unusedVariables false
namespace Go.Proofs.Ytbfchlimonimkaa
open Go.Am Go.Minster

theorem sl_s_Dot : SlTy T Y_s_Dot Y_Dot 2 16 := ⟨u_s_Dot, z_Dot, b_Dot, ⟨_, _, zr_Dot, rfl, rfl⟩, by decide, by decide⟩
theorem sl_s_int : SlTy T Y_s_int Y_int 1 8 := ⟨u_s_int, z_int, b_int, ⟨_, _, zr_int, rfl, rfl⟩, by decide, by decide⟩
abbrev Dots := Sl dotC 2

theorem wrap_i {n : Int} (h : 0 ≤ n ∧ n ≤ 4611686018427387904) : IntKind.wrap .i64 n = n := IntWalk.i64_in _ (by omega)
theorem wrap_i' {n : Int} (h : -4611686018427387904 ≤ n ∧ n ≤ 4611686018427387904) : IntKind.wrap .i64 n = n := IntWalk.i64_in _ (by omega)
theorem wrap_u {n : Int} (h : 0 ≤ n ∧ n ≤ 18446744073709551615) : IntKind.wrap .u64 n = n := IntWalk.u64_in _ (by omega)
theorem wrap_half {i j : Nat} (h : i + j ≤ 4611686018427387904) : IntKind.wrap .i64 (Int.fdiv (IntKind.wrap .u64 (IntKind.wrap .i64 ((i : Int) + (j : Int)))) (2 ^ min (Int.toNat 1) (IntKind.bits .u64))) = (((i + j) / 2 : Nat) : Int) := by
  rw [show IntKind.wrap .i64 ((i : Int) + (j : Int)) = (i : Int) + (j : Int) from wrap_i (by omega), wrap_u (by omega)]
  have : (2 : Int) ^ min (Int.toNat 1) (IntKind.bits .u64) = 2 := by decide
  rw [this, Int.fdiv_eq_ediv_of_nonneg _ (by omega), wrap_i (by omega)]
  omega

/-- cmp.Or of two -/
theorem cmp_Or__int_ok2 (a b : Int) {s : AS} {l : Nat} (h : At s l [.int .i64 a, .int .i64 b]) : ACalls Try.prog F_cmp_Or__int [.slc (some (l, 0)) 2 2 true] s fun v s' => v = .int .i64 (if a ≠ 0 then a else b) ∧ s' = s := by
  have hs : Sl (fun n : Int => [AV.int .i64 n]) 1 s (.slc (some (l, 0)) 2 2 true) [a, b] := SlAt.mk h rfl rfl
  refine q_cmp_Or__int _ _ _ ⟨_, hs.lenB u_s_int s, fun m vs s' => ∃ i : Nat, vs = [.int .i64 i] ∧ s' = s ∧ i ≤ 2 ∧ m = 2 - i ∧ (0 < i → a = 0) ∧ (1 < i → b = 0), 2, ⟨0, by simp⟩, ?_⟩
  rintro m n s' ⟨i, hi, rfl, h2, rfl, h3, h4⟩
  simp only [List.cons.injEq, AV.int.injEq, true_and, and_true] at hi
  subst hi
  refine bsplit.dec (fun hlt => ?_) (fun hge => ?_)
  · simp only [List.length_cons, List.length_nil] at hlt
    have hi2 : i < 2 := by omega
    obtain ⟨x, hx⟩ : ∃ x, [a, b][i]? = some x := ⟨_, List.getElem?_eq_getElem (by simpa using hi2)⟩
    obtain ⟨la, o, h5, h6⟩ := hs.ix (sz := 1) (by decide) (fun _ => rfl) u_s_int z_int hx
    refine ⟨la, o, h5 _, x, (h6 _ (Ext.refl _)).1 0 (by decide), bsplit.mk (fun hne => ?_) (fun heq => ?_)⟩
    · refine ⟨?_, rfl⟩
      have hne' : x ≠ 0 := by simpa using hne
      rcases (show i = 0 ∨ i = 1 by omega) with rfl | rfl
      · simp at hx; subst hx; rw [if_pos hne']
      · simp at hx; subst hx; rw [if_neg (by simp [h3])]
    · have heq' : x = 0 := by simpa using heq
      subst heq'
      refine ⟨2 - (i + 1), by omega, i + 1, by rw [wrap_i (by omega)]; rfl, rfl, by omega, rfl, fun _ => ?_, fun h1 => ?_⟩
      · rcases (show i = 0 ∨ i = 1 by omega) with rfl | rfl
        · simpa using hx
        · exact h3 (by decide)
      · rcases (show i = 0 ∨ i = 1 by omega) with rfl | rfl
        · omega
        · simpa using hx
  · simp only [List.length_cons, List.length_nil] at hge
    obtain rfl : i = 2 := by omega
    refine ⟨?_, rfl⟩
    rw [if_neg (by simp [h3]), h4 (by decide)]

theorem ctx_order_ok (a b : Dot) (s : AS) : ACalls Try.prog F_ctx_order [.agg (dotC a), .agg (dotC b)] s fun v s' => v = .int .i64 (a.cmp b) ∧ Ext s s' := by
  refine ACalls.pre fun hw => q_ctx_order _ _ _ _ ⟨rfl, NewQ.intro hw rfl fun l s1 F => ⟨rfl, NewQ.intro F.wf rfl fun l2 s2 F2 => ?_⟩⟩
  have e := F.ext.trans F2.ext
  refine ⟨fun _ _ _ _ => True, fun _ _ v => v = .int .i64 (cmpI a.r b.r), fun _ _ _ _ _ _ _ => trivial, ?_⟩
  simp only [(F.own.ext F2.ext).at.rd1, F2.own.at.rd1, dotC, List.getElem?_cons_zero, List.getElem?_cons_succ, go_sem]
  refine ⟨fun s7 _ _ _ => ?_, ⟨_, rfl⟩, ?_⟩
  · refine (cmp_Compare__int_ok _ _ _).mono ?_
    rintro v s' ⟨rfl, rfl⟩
    exact ⟨_, rfl, Ext.refl _, trivial, rfl⟩
  · rintro v rfl
    refine ⟨_, rfl, fun s15 e15 _ _ => ?_⟩
    refine ACalls.use (cmp_Compare__uint64_ok _ _ _) ?_
    rintro v s' ⟨rfl, rfl⟩ hw'
    refine ⟨_, rfl, ?_⟩
    have habs : absl T Y_s_int 2 [(0, .int .i64 (cmpI a.r b.r)), (1, .int .i64 (cmpI a.c b.c))] = some [.int .i64 (cmpI a.r b.r), .int .i64 (cmpI a.c b.c)] := by
      simp only [absl, u_s_int, z_int, zr_int, Option.bind_some, acells_int]; rfl
    rw [habs]
    simp only [go_sem]
    refine NewQ.intro hw' rfl fun l3 s3 F3 => ?_
    refine (cmp_Or__int_ok2 _ _ F3.own.at).mono ?_
    rintro v s' ⟨rfl, rfl⟩
    refine ⟨_, rfl, ?_, e.trans (e15.trans F3.ext)⟩
    simp only [Dot.cmp]

theorem ctx_Less_ok (a b : Dot) (s : AS) : ACalls Try.prog F_ctx_Less [.agg (dotC a), .agg (dotC b)] s fun v s' => v = .bool (a.lt b) ∧ Ext s s' := by
  refine ACalls.pre fun hw => q_ctx_Less _ _ _ _ ⟨rfl, NewQ.intro hw rfl fun l s1 F => ⟨rfl, NewQ.intro F.wf rfl fun l2 s2 F2 => ?_⟩⟩
  have e := F.ext.trans F2.ext
  refine ⟨_, (F.own.ext F2.ext).at.rdc (by simp [dotC]), _, F2.own.at.rdc (by simp [dotC]), ?_⟩
  refine (ctx_order_ok a b s2).mono ?_
  rintro v s' ⟨rfl, e'⟩
  refine ⟨_, rfl, ?_, e.trans e'⟩
  congr 1
  rw [Bool.eq_iff_iff, decide_eq_true_eq, Dot.cmp_lt]

theorem u_p_Ctx : T.und Y_p_ctx_Ctx = some (.pointer Y_ctx_Ctx) := u_p_ctx_Ctx

/-- a context in memory -/
structure CtxAt (s : AS) (p : Nat) (v : List Int) (ex : List Dot) : Prop where
  len : v.length = 16
  mem : ∃ w, Own s p (v.map (.int .u64) ++ [w, .bool true]) ∧ w.one = true ∧ Dots s w ex

theorem CtxAt.ext {s s' : AS} {p : Nat} {v : List Int} {ex : List Dot} (h : CtxAt s p v ex) (e : Ext s s') : CtxAt s' p v ex := by
  obtain ⟨h1, w, h2, h3, h4⟩ := h
  exact ⟨h1, w, h2.ext e, h3, h4.ext e⟩

theorem ctx_there_nil (s : AS) : ACalls Try.prog F_ctx_Ctx_there [.ptr none] s fun v s' => v = .bool false ∧ s' = s := by
  refine q_ctx_Ctx_there _ _ _ ?_
  unfold Q_ctx_Ctx_there
  rw [aeqPtrNil u_p_ctx_Ctx]
  simp [go_sem]
theorem ctx_there_ok {s : AS} {p : Nat} {v : List Int} {ex : List Dot} (h : CtxAt s p v ex) : ACalls Try.prog F_ctx_Ctx_there [.ptr (some (p, 0))] s fun v s' => v = .bool true ∧ s' = s := by
  obtain ⟨h1, w, h2, h3, h4⟩ := h
  refine q_ctx_Ctx_there _ _ _ ?_
  unfold Q_ctx_Ctx_there
  rw [aeqPtrNil u_p_ctx_Ctx]
  have : (v.map (AV.int .u64) ++ [w, .bool true])[0 + 17]? = some (.bool true) := by
    rw [List.getElem?_append_right (by simp [h1])]; simp [h1]
  simp only [go_sem, Option.isNone_some, Bool.not_false, h2.at.rd1, this, and_self]
end Go.Proofs.Ytbfchlimonimkaa
