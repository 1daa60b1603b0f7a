/-
  Contracts: contexts that are looked at, and the reference's.
-/
import Derived.Test.YtbfchlimonimkaaCtx3
set_option linter.unusedSimpArgs false
set_option linter.unusedVariables false
namespace Go.Proofs.Ytbfchlimonimkaa
open Go.Am Go.Minster

theorem tri_Dot : triples (T.und Y_Dot) = some [(false, Y_int, 0), (false, Y_uint64, 1)] := by kernel_rfl
theorem et_Dot : T.eqt Y_Dot = true := by kernel_rfl
theorem dot_eq (a b : Dot) : aeq T 100 Y_Dot (.agg (dotC a)) (.agg (dotC b)) = some (decide (a = b)) := by
  rw [aeq_tri tri_Dot et_Dot]
  simp only [eqTri, cond_false, part_s ag_int, part_s ag_uint64, dotC, List.getElem?_cons_zero, List.getElem?_cons_succ, Option.bind_some, aeqInt u_int, aeqInt u_uint64]
  cases a; cases b
  simp only [Dot.mk.injEq]
  rename_i r c r' c'
  by_cases h1 : r = r' <;> by_cases h2 : c = c' <;> simp [h1, h2]
theorem vec_eq {v v' : List Int} (h : v.length = 16) (h' : v'.length = 16) : aeq T 100 Y_Vector (.agg (v.map (.int .u64))) (.agg (v'.map (.int .u64))) = some (decide (v = v')) :=
  aeq_arr_int u_Vector z_uint64 u_uint64 98 h h'
theorem vix {l o : Nat} {i : Int} (h : 0 ≤ i ∧ i < 16) : aindexAddr T Y_Vector (.ptr (some (l, o))) (.int .i64 i) = some (.ptr (some (l, o + i.toNat * 1))) := aix_arr u_Vector z_uint64 h
theorem vix' {l o : Nat} {i : Int} (h : 0 ≤ i ∧ i < 16) : aindexAddr T Y_a16iuint64 (.ptr (some (l, o))) (.int .i64 i) = some (.ptr (some (l, o + i.toNat * 1))) := aix_arr u_a16iuint64 z_uint64 h

theorem clone_ok {s : AS} {v : AV} {l : List Dot} (hl : Dots s v l) (hn : l.length ≤ 2 ^ 30) : ACalls Try.prog F_slices_Clone__s_Dot_Dot [v] s fun r s' => GroN dotC 2 [] s s' r l := by
  refine ACalls.pre fun hw => q_slices_Clone__s_Dot_Dot _ _ _ ?_
  have main : RdL (absl T Y_s_Dot 0 []) fun g2 => NewQ (.cells g2 0 false) s fun l3 s4 => Bd2 (aappend T Y_s_Dot Y_s_Dot (.slc (some (l3, 0)) 0 0 true) v s4) fun v5 s6 => GroN dotC 2 [] s s6 v5 l := by
    refine ⟨_, absl_nil sl_s_Dot, NewQ.intro hw rfl fun l3 s4 F => ?_⟩
    refine GroN.appendS sl_s_Dot dotC_len dotC_one F.wf (GroN.start (M := []) F.ext.mut) (by simp) (hl.ext F.ext) (by simpa using hn) u_s_Dot fun v' s' g _ _ => ?_
    simpa using g
  rcases hl with ⟨rfl, _, hnil⟩ | ⟨a, c, e, rfl, hlen, h3⟩
  · refine ⟨_, eqQ_emp_nil u_s_Dot _ _ _ _, bsplit.no rfl main⟩
  · refine ⟨_, eqQ_slc_nil u_s_Dot _ _ _ _ _ _ _ _, bsplit.mk (fun h => ?_) (fun _ => main)⟩
    have : a = none := by simpa using h
    subst this
    have : l = [] := by
      rcases h3 with h3 | ⟨la, o, C, h, _⟩
      · exact List.length_eq_zero_iff.1 h3
      · cases h
    subst this
    exact GroN.nil

def zeros : List Int := List.replicate 16 0
theorem ctx_New_ok (s : AS) : ACalls Try.prog F_ctx_New [] s fun r s' => ∃ p, r = .ptr (some (p, 0)) ∧ s.h p = none ∧ CtxAt s' p zeros [] ∧ Ext s s' := by
  refine ACalls.pre fun hw => q_ctx_New _ _ ?_
  have hb : abuild T Y_ctx_Ctx [(2, .bool true)] = some (.agg (zeros.map (.int .u64) ++ [.slc none 0 0 true, .bool true])) := by kernel_rfl
  refine ⟨_, hb, rfl, NewQ.intro hw rfl fun p s1 F => ⟨p, rfl, F.no, ⟨rfl, _, F.own, rfl, ?_⟩, F.ext⟩⟩
  exact Sl.nil

/-- of what a context's cells are -/
theorem ctx_len {v : List Int} (h : v.length = 16) (w : AV) : (v.map (AV.int .u64) ++ [w, .bool true]).length = 18 := by simp [h]
theorem ctx_at {v : List Int} (h : v.length = 16) (w : AV) {i : Nat} (hi : i < 16) : (v.map (AV.int .u64) ++ [w, .bool true])[i]? = some (.int .u64 (v.getD i 0)) := by
  rw [List.getElem?_append_left (by simp [h]; omega), List.getElem?_map, List.getElem?_eq_getElem (by omega), List.getD_eq_getElem?_getD, List.getElem?_eq_getElem (by omega)]; rfl
theorem ctx_16 {v : List Int} (h : v.length = 16) (w : AV) : (v.map (AV.int .u64) ++ [w, .bool true])[16]? = some w := by
  rw [List.getElem?_append_right (by simp [h])]; simp [h]
theorem ctx_take {v : List Int} (h : v.length = 16) (w : AV) : ((v.map (AV.int .u64) ++ [w, .bool true]).drop 0).take 16 = v.map (AV.int .u64) := by
  rw [List.drop_zero, List.take_append_of_le_length (by simp [h]), List.take_of_length_le (by simp [h])]
theorem ints_one (k : IntKind) (v : List Int) : (v.map (AV.int k)).all AV.one = true := by simp [List.all_eq_true]

theorem ctx_Vector_ok {s : AS} {p : Nat} {v : List Int} {ex : List Dot} (h : CtxAt s p v ex) : ACalls Try.prog F_ctx_Ctx_Vector [.ptr (some (p, 0))] s fun r s' => r = .agg (v.map (.int .u64)) ∧ Ext s s' := by
  refine ACalls.pre fun hw => q_ctx_Ctx_Vector _ _ _ (NewQ.intro hw rfl fun l s1 F => ?_)
  refine ACalls.use (ctx_there_ok (h.ext F.ext)) ?_
  rintro r s2 ⟨rfl, rfl⟩ hw2
  obtain ⟨h1, w, h2, h3, h4⟩ := h
  refine ⟨_, rfl, bsplit.no rfl ⟨_, (h2.ext F.ext).at.rdc (by rw [ctx_len h1]; omega), ?_⟩⟩
  rw [ctx_take h1]
  refine ⟨⟨ints_one _ _, by simp [h1]⟩, StQ.own hw2 F.own (by simp [h1]) fun s3 P => ?_⟩
  have hat : At s3 l (v.map (.int .u64)) := ⟨_, _, by rw [P.at, wrs_all (by simp [h1])]⟩
  refine ⟨_, hat.rdc (by simp [h1]), ?_, ?_⟩
  · rw [List.drop_zero, List.take_of_length_le (by simp [h1])]
  · refine ⟨fun x o ho => ?_, by rw [P.nl]; exact F.ext.2⟩
    rw [P.eq x (F.ne ho)]; exact F.ext.1 x o ho

theorem ctx_Extra_ok {s : AS} {p : Nat} {v : List Int} {ex : List Dot} (h : CtxAt s p v ex) (hn : ex.length ≤ 2 ^ 30) : ACalls Try.prog F_ctx_Ctx_Extra [.ptr (some (p, 0))] s fun r s' => GroN dotC 2 [] s s' r ex := by
  refine q_ctx_Ctx_Extra _ _ _ ?_
  refine (ctx_there_ok h).mono ?_
  rintro r s2 ⟨rfl, rfl⟩
  obtain ⟨h1, w, h2, h3, h4⟩ := h
  refine ⟨_, rfl, bsplit.no rfl ⟨w, ?_, ?_⟩⟩
  · rw [h2.at.rd1]; exact ctx_16 h1 w
  · exact (clone_ok h4 hn).mono fun r s' g => g

/-- has a context a dot? -/
def hasD (v : List Int) (ex : List Dot) (d : Dot) : Bool := d.may && (decide (d ∈ ex) || decide (d.c ≤ v.getD (d.r - 1).toNat 0))

theorem ctx_Has_ok {s : AS} {p : Nat} {v : List Int} {ex : List Dot} (h : CtxAt s p v ex) (hr : Rising ex) (hn : ex.length ≤ 2 ^ 30) (d : Dot) : ACalls Try.prog F_ctx_Ctx_Has [.ptr (some (p, 0)), .agg (dotC d)] s fun r s' => r = .bool (hasD v ex d) ∧ Ext s s' := by
  refine ACalls.pre fun hw => q_ctx_Ctx_Has _ _ _ _ ⟨rfl, NewQ.intro hw rfl fun l s1 F => ?_⟩
  refine (ctx_there_ok (h.ext F.ext)).mono ?_
  rintro r s2 ⟨rfl, rfl⟩
  refine ⟨_, rfl, bsplit.no rfl ⟨_, F.own.at.rdc (by simp [dotC]), ?_⟩⟩
  refine (ctx_May_ok d _).mono ?_
  rintro r s3 ⟨rfl, e3⟩
  have e := F.ext.trans e3
  refine ⟨_, rfl, bsplit.mk (fun hm => ?_) (fun hm => ?_)⟩
  · simp only [Bool.not_eq_true'] at hm
    exact ⟨by simp [hasD, hm], e⟩
  · simp only [Bool.not_eq_false'] at hm
    obtain ⟨h1, w, h2, h3, h4⟩ := h
    refine ⟨fun _ _ _ _ => True, fun _ _ v => v = .tup [.int .i64 (pos ex d : Nat), .bool (decide (d ∈ ex))], fun _ _ _ _ _ _ _ => trivial, w, ?_, _, (F.own.ext e3).at.rdc (by simp [dotC]), fun s4 e4 _ _ => ?_, ⟨_, rfl⟩, ?_⟩
    · rw [(h2.ext e).at.rd1]; exact ctx_16 h1 w
    · refine (bsearch_ok (h4.ext (e.trans e4)) (by omega) hr d).mono ?_
      rintro r s5 ⟨rfl, e5⟩
      exact ⟨_, _, rfl, e5, trivial, rfl⟩
    · rintro r rfl
      refine ⟨_, _, rfl, fun s22 e22 _ _ => bsplit.mk (fun hd => ?_) (fun hd => ?_)⟩
      · refine ⟨?_, e.trans e22⟩
        simp [hasD, hm, hd]
      · have hm' := Dot.may_iff.1 hm
        have hat := (F.own.ext (e3.trans e22)).at
        have hc := (h2.ext (e.trans e22)).at
        refine ⟨_, by rw [hat.rd1]; rfl, _, by rw [hat.rd1]; rfl, ?_⟩
        dsimp only
        rw [wrap_i' (by omega)]
        refine ⟨_, _, vix (by omega), _, by rw [hc.rd1, Nat.zero_add, Nat.mul_one]; exact ctx_at h1 w (by omega), ?_, e.trans e22⟩
        simp [hasD, hm, hd]
end Go.Proofs.Ytbfchlimonimkaa
