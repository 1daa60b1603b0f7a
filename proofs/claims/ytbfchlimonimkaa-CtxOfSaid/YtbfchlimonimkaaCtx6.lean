/-
  Contracts: exceptions are taken into the vector.
-/
import Derived.Test.YtbfchlimonimkaaCtx5
set_option linter.unusedSimpArgs false
set_option linter.unusedVariables false
namespace Go.Proofs.Ytbfchlimonimkaa
open Go.Am Go.Minster

theorem dots_not_int {s : AS} {w : AV} {l : List Dot} (h : Dots s w l) : ∀ k n, w ≠ .int k n := by
  rintro k n rfl
  rcases h with ⟨h, _⟩ | ⟨_, _, _, h, _⟩ <;> cases h
theorem vec_set (v : List Int) (x : List AV) (i : Nat) (c : Int) (hi : i < v.length) : (v.map (AV.int .u64) ++ x).set i (.int .u64 c) = (v.set i c).map (AV.int .u64) ++ x := by
  rw [List.set_append_left _ _ (by simpa using hi), List.map_set]
/-- slices of dots stay where a struct of a vector is written -/
theorem dots_keep {s s' : AS} {p : Nat} {v : List Int} {x : List AV} {w : AV} {l : List Dot} (h : Dots s w l) (hp : At s p (v.map (AV.int .u64) ++ x)) (hx : ∀ y ∈ x, ∀ n, y ≠ .int .i64 n) (e : Mut [p] s s') : Dots s' w l := by
  refine Sl.mut h e dotC_len (by decide) fun q hq C hC d hd i c hc he => ?_
  obtain rfl : q = p := by simpa using hq
  obtain rfl := hC.inj hp
  simp only [dotC, List.getElem?_cons_zero, Option.some.injEq] at hc
  subst hc
  have := List.mem_of_getElem? he
  rcases List.mem_append.1 this with h | h
  · obtain ⟨y, _, hy⟩ := List.mem_map.1 h
    cases hy
  · exact hx _ h _ rfl

theorem ctx_compact_ok {s : AS} {p : Nat} {v : List Int} {ex : List Dot} (h : CtxAt s p v ex) (hv : VOk v) (hm : ∀ d ∈ ex, d.may = true) (hn : ex.length < 2 ^ 30) :
    ACalls Try.prog F_ctx_Ctx_compact [.ptr (some (p, 0))] s fun r s' => r = .tup [] ∧ CtxAt s' p (compact v ex).1 (compact v ex).2 ∧ Mut [p] s s' := by
  refine ACalls.pre fun hw => q_ctx_Ctx_compact _ _ _ ?_
  obtain ⟨h1, w, h2, h3, h4⟩ := h
  have hsp : ∀ x ∈ [p], s.h x ≠ none := by
    intro x hx; obtain rfl : x = p := by simpa using hx
    rw [h2]; simp
  have hnew : ∀ {r : AV} {s' : AS} {l : List Dot}, GroN dotC 2 [p] s s' r l → p ∉ labOf r := fun g hm => hsp p (by simp) (g.new p hm)
  have hx2 : ∀ y ∈ [w, AV.bool true], ∀ n, y ≠ .int .i64 n := by
    intro y hy n
    rcases List.mem_cons.1 hy with rfl | hy
    · exact dots_not_int h4 _ _
    · obtain rfl : y = .bool true := by simpa using hy
      intro h; cases h
  let cst : Nat → List Int × List Dot := fun i => (ex.take i).foldl cstep (v, [])
  have hcok : ∀ i, VOk (cst i).1 := fun i => fold_ok _ _ hv fun d hd => hm d (List.mem_of_mem_take hd)
  have hclen : ∀ i, (cst i).2.length ≤ i := fun i => by have := fold_len (ex.take i) (v, []); simp only [List.length_nil, Nat.zero_add] at this; have h2 := List.length_take_le i ex; exact Nat.le_trans this h2
  refine ⟨fun vs s' => ∃ left, vs = [left] ∧ WFs s' ∧ GroN dotC 2 [p] s s' left (compact v ex).2 ∧ Own s' p ((compact v ex).1.map (.int .u64) ++ [w, .bool true]), ?_, ?_⟩
  · rintro r s3 ⟨left, hl, hw3, g, ho⟩
    simp only [List.cons.injEq, and_true] at hl
    subst hl
    have hok : VOk (compact v ex).1 := by have := hcok ex.length; simp only [cst, List.take_length] at this; exact this
    refine qstore_one g.isSlc.2 z_s_Dot (StQ.own hw3 ho (by rw [ctx_len hok.len]; simp) fun s6 P => ⟨rfl, ⟨hok.len, r, ?_, g.isSlc.2, ?_⟩, g.chg.trans P.mut⟩)
    · have : wrs ((compact v ex).1.map (AV.int .u64) ++ [w, .bool true]) (0 + 16) [r] = (compact v ex).1.map (AV.int .u64) ++ [r, .bool true] := by
        rw [wrs_one, List.set_append_right _ _ (by simp [hok.len])]
        simp [hok.len]
      rw [this] at P
      exact P.at
    · exact (g.wr hsp P.mut).sl dotC_len
  · have hc := h2.at
    refine ⟨w, by rw [hc.rd1]; exact ctx_16 h1 w, _, h4.lenB u_s_Dot _, fun m vs s' => ∃ (i : Nat) (left : AV), vs = [left, .int .i64 (i : Nat)] ∧ i ≤ ex.length ∧ m = ex.length - i ∧ WFs s' ∧ GroN dotC 2 [p] s s' left (cst i).2 ∧ Own s' p ((cst i).1.map (.int .u64) ++ [w, .bool true]), ex.length, ⟨0, _, rfl, by omega, rfl, hw, GroN.nil, h2⟩, ?_⟩
    rintro m left n s16 ⟨i, left', hi, h6, rfl, hw16, g, ho⟩
    simp only [List.cons.injEq, AV.int.injEq, true_and, and_true] at hi
    obtain ⟨rfl, rfl⟩ := hi
    refine bsplit.dec (fun hlt => ?_) (fun hge => ?_)
    · obtain ⟨x, hx⟩ := get_lt (l := ex) (i := i) (by omega)
      have hd := dots_keep h4 hc hx2 g.chg
      have hvi := hcok i
      obtain ⟨la, o, h8, h9⟩ := hd.ix (by decide) dotC_len u_s_Dot z_Dot hx
      have hmx := Dot.may_iff.1 (hm x (List.mem_of_getElem? hx))
      have ht : cst (i + 1) = cstep (cst i) x := by simp only [cst]; rw [List.take_add_one, hx, Option.toList_some, List.foldl_append]; rfl
      refine ⟨la, o, h8 _, _, (h9 _ (Ext.refl _)).2, NewSt hw16 rfl rfl rfl fun l20 s22 F => ?_⟩
      have ho22 := ho.ext F.ext
      have gg := g.step F.ext
      have hidx : (x.r - 1).toNat < 16 := by omega
      have hbd := hvi.get (x.r - 1).toNat
      refine ⟨_, by rw [F.own.at.rd1]; rfl, ?_⟩
      dsimp only
      rw [wrap_i' (by omega)]
      refine ⟨_, _, vix (by omega), _, by rw [F.own.at.rd1]; rfl, _, by rw [ho22.at.rd1, Nat.zero_add, Nat.mul_one]; exact ctx_at hvi.len w hidx, ?_⟩
      have cont : ∀ (r : AV) (s' : AS), WFs s' → GroN dotC 2 [p] s s' r (cst (i + 1)).2 → Own s' p ((cst (i + 1)).1.map (.int .u64) ++ [w, .bool true]) →
          ∃ m', m' < ex.length - i ∧ ∃ (j : Nat) (left : AV), [r, AV.int .i64 (IntKind.wrap .i64 ((i : Int) + 1))] = [left, .int .i64 (j : Nat)] ∧ j ≤ ex.length ∧ m' = ex.length - j ∧ WFs s' ∧ GroN dotC 2 [p] s s' left (cst j).2 ∧ Own s' p ((cst j).1.map (.int .u64) ++ [w, .bool true]) :=
        fun r s' a b c => ⟨ex.length - (i + 1), by omega, i + 1, r, by rw [wrap_i (by omega)]; rfl, by omega, rfl, a, b, c⟩
      refine bsplit.dec (fun hle => ?_) (fun hgt => ?_)
      · have hs : cst (i + 1) = cst i := by rw [ht]; unfold cstep; rw [if_pos hle]
        exact cont _ _ F.wf (by rw [hs]; exact gg) (by rw [hs]; exact ho22)
      · refine ⟨_, by rw [F.own.at.rd1]; rfl, _, by rw [ho22.at.rd1, Nat.zero_add, Nat.mul_one]; exact ctx_at hvi.len w hidx, ?_⟩
        dsimp only
        rw [wrap_u (by omega)]
        refine bsplit.mk (fun hq => ?_) (fun hq => ?_)
        · have hq' : x.c = (cst i).1.getD (x.r - 1).toNat 0 + 1 := by simpa using hq
          have hs : cst (i + 1) = ((cst i).1.set (x.r - 1).toNat x.c, (cst i).2) := by rw [ht]; unfold cstep; rw [if_neg hgt, if_pos hq']
          refine ⟨_, by rw [F.own.at.rd1]; rfl, StQ.own F.wf ho22 (by rw [ctx_len hvi.len]; simp; omega) fun s33 P => ?_⟩
          refine cont _ _ P.wf (by rw [hs]; exact g.wr hsp (F.ext.mut.trans P.mut)) ?_
          rw [hs]
          have := P.at
          rw [wrs_one, Nat.zero_add, Nat.mul_one, vec_set _ _ _ _ (by rw [hvi.len]; exact hidx)] at this
          exact this
        · have hq' : ¬ x.c = (cst i).1.getD (x.r - 1).toNat 0 + 1 := by simpa using hq
          have hs : cst (i + 1) = ((cst i).1, (cst i).2 ++ [x]) := by rw [ht]; unfold cstep; rw [if_neg hgt, if_neg hq']
          have hM : ∀ y ∈ [p], s22.h y ≠ none := by
            intro y hy; obtain rfl : y = p := by simpa using hy
            rw [ho22]; simp
          refine ⟨_, F.own.at.rdc (by simp [dotC]), GroN.append1 sl_s_Dot dotC_len dotC_one F.wf gg hM x (by have := hclen i; omega) fun r s' g' hw' mm => ?_⟩
          exact cont _ _ hw' (by rw [hs]; exact g') (by rw [hs]; exact ho22.mut mm (hnew g))
    · obtain rfl : i = ex.length := by omega
      have hs : cst ex.length = compact v ex := by simp only [cst, List.take_length]; rfl
      rw [hs] at g ho
      exact ⟨left, rfl, hw16, g, ho⟩

theorem ref_set_len {v : List Int} (h : v.length = 16) (w : AV) : (v.map (AV.int .u64) ++ [w]).length = 17 := by simp [h]

theorem ref_compact_ok {s : AS} {p : Nat} {v : List Int} {ex : List Dot} (h : RefAt s p v ex) (hv : VOk v) (hm : ∀ d ∈ ex, d.may = true) (hn : ex.length < 2 ^ 30) :
    ACalls Try.prog F_ref04iSet_compact [.ptr (some (p, 0))] s fun r s' => r = .tup [] ∧ RefAt s' p (compact v ex).1 (compact v ex).2 ∧ Mut [p] s s' := by
  refine ACalls.pre fun hw => q_ref04iSet_compact _ _ _ ?_
  obtain ⟨h1, w, h2, h3, h5, h4⟩ := h
  have hsp : ∀ x ∈ [p], s.h x ≠ none := by
    intro x hx; obtain rfl : x = p := by simpa using hx
    rw [h2]; simp
  have hnew : ∀ {r : AV} {s' : AS} {l : List Dot}, GroN dotC 2 [p] s s' r l → p ∉ labOf r := fun g hm => hsp p (by simp) (g.new p hm)
  have hx2 : ∀ y ∈ [w], ∀ n, y ≠ .int .i64 n := by
    intro y hy n
    obtain rfl : y = w := by simpa using hy
    exact dots_not_int h4 _ _
  let cst : Nat → List Int × List Dot := fun i => (ex.take i).foldl cstep (v, [])
  have hcok : ∀ i, VOk (cst i).1 := fun i => fold_ok _ _ hv fun d hd => hm d (List.mem_of_mem_take hd)
  have hclen : ∀ i, (cst i).2.length ≤ i := fun i => by have := fold_len (ex.take i) (v, []); simp only [List.length_nil, Nat.zero_add] at this; have h2 := List.length_take_le i ex; exact Nat.le_trans this h2
  refine ⟨fun vs s' => ∃ left, vs = [left] ∧ WFs s' ∧ GroN dotC 2 [p] s s' left (compact v ex).2 ∧ Own s' p ((compact v ex).1.map (.int .u64) ++ [w]), ?_, ?_⟩
  · rintro r s3 ⟨left, hl, hw3, g, ho⟩
    simp only [List.cons.injEq, and_true] at hl
    subst hl
    have hok : VOk (compact v ex).1 := by have := hcok ex.length; simp only [cst, List.take_length] at this; exact this
    refine qstore_one g.isSlc.2 z_s_Dot (StQ.own hw3 ho (by rw [ref_set_len hok.len]; simp) fun s6 P => ⟨rfl, ⟨hok.len, r, ?_, g.isSlc.2, g.isSlc.1, ?_⟩, g.chg.trans P.mut⟩)
    · have : wrs ((compact v ex).1.map (AV.int .u64) ++ [w]) (0 + 16) [r] = (compact v ex).1.map (AV.int .u64) ++ [r] := by
        rw [wrs_one, List.set_append_right _ _ (by simp [hok.len])]
        simp [hok.len]
      rw [this] at P
      exact P.at
    · exact (g.wr hsp P.mut).sl dotC_len
  · have hc := h2.at
    refine ⟨fun m vs s' => ∃ (i : Nat) (left : AV), vs = [left, .int .i64 (i : Nat)] ∧ i ≤ ex.length ∧ m = ex.length - i ∧ WFs s' ∧ GroN dotC 2 [p] s s' left (cst i).2 ∧ Own s' p ((cst i).1.map (.int .u64) ++ [w]), ex.length, ⟨0, _, rfl, by omega, rfl, hw, GroN.nil, h2⟩, ?_⟩
    rintro m left n s16 ⟨i, left', hi, h6, rfl, hw16, g, ho⟩
    simp only [List.cons.injEq, AV.int.injEq, true_and, and_true] at hi
    obtain ⟨rfl, rfl⟩ := hi
    have hvi := hcok i
    have hw16' : rd1 s16 p (0 + 16) = some w := by rw [ho.at.rd1]; exact ref_16 hvi.len w
    refine ⟨w, hw16', _, h4.lenB u_s_Dot _, bsplit.dec (fun hlt => ?_) (fun hge => ?_)⟩
    · obtain ⟨x, hx⟩ := get_lt (l := ex) (i := i) (by omega)
      have hd := dots_keep h4 hc hx2 g.chg
      obtain ⟨la, o, h8, h9⟩ := hd.ix (by decide) dotC_len u_s_Dot z_Dot hx
      have hmx := Dot.may_iff.1 (hm x (List.mem_of_getElem? hx))
      have ht : cst (i + 1) = cstep (cst i) x := by simp only [cst]; rw [List.take_add_one, hx, Option.toList_some, List.foldl_append]; rfl
      refine ⟨w, hw16', la, o, h8 _, _, (h9 _ (Ext.refl _)).2, NewSt hw16 rfl rfl rfl fun l20 s22 F => ?_⟩
      have ho22 := ho.ext F.ext
      have gg := g.step F.ext
      have hidx : (x.r - 1).toNat < 16 := by omega
      have hbd := hvi.get (x.r - 1).toNat
      have f0 : rd1 s22 l20 0 = some (.int .i64 x.r) := by rw [F.own.at.rd1]; rfl
      have f1 : rd1 s22 l20 1 = some (.int .u64 x.c) := by rw [F.own.at.rd1]; rfl
      have fv : rd1 s22 p (0 + (x.r - 1).toNat * 1) = some (.int .u64 ((cst i).1.getD (x.r - 1).toNat 0)) := by rw [ho22.at.rd1, Nat.zero_add, Nat.mul_one]; exact ref_at hvi.len w hidx
      refine ⟨_, f1, _, f0, ?_⟩
      dsimp only
      rw [wrap_i' (by omega)]
      refine ⟨_, _, vix' (by omega), _, fv, ?_⟩
      dsimp only
      rw [wrap_u (by omega)]
      have cont : ∀ (r : AV) (s' : AS), WFs s' → GroN dotC 2 [p] s s' r (cst (i + 1)).2 → Own s' p ((cst (i + 1)).1.map (.int .u64) ++ [w]) →
          ∃ m', m' < ex.length - i ∧ ∃ (j : Nat) (left : AV), [r, AV.int .i64 (IntKind.wrap .i64 ((i : Int) + 1))] = [left, .int .i64 (j : Nat)] ∧ j ≤ ex.length ∧ m' = ex.length - j ∧ WFs s' ∧ GroN dotC 2 [p] s s' left (cst j).2 ∧ Own s' p ((cst j).1.map (.int .u64) ++ [w]) :=
        fun r s' a b c => ⟨ex.length - (i + 1), by omega, i + 1, r, by rw [wrap_i (by omega)]; rfl, by omega, rfl, a, b, c⟩
      refine bsplit.mk (fun hq => ?_) (fun hq => ?_)
      · have hq' : x.c = (cst i).1.getD (x.r - 1).toNat 0 + 1 := by simpa using hq
        have hs : cst (i + 1) = ((cst i).1.set (x.r - 1).toNat x.c, (cst i).2) := by rw [ht]; unfold cstep; rw [if_neg (by omega), if_pos hq']
        refine ⟨_, f0, _, f1, ?_⟩
        dsimp only
        rw [wrap_i' (by omega)]
        refine ⟨_, _, vix' (by omega), StQ.own F.wf ho22 (by rw [ref_set_len hvi.len]; simp; omega) fun s33 P => ?_⟩
        refine cont _ _ P.wf (by rw [hs]; exact g.wr hsp (F.ext.mut.trans P.mut)) ?_
        rw [hs]
        have := P.at
        rw [wrs_one, Nat.zero_add, Nat.mul_one, vec_set _ _ _ _ (by rw [hvi.len]; exact hidx)] at this
        exact this
      · have hq' : ¬ x.c = (cst i).1.getD (x.r - 1).toNat 0 + 1 := by simpa using hq
        refine ⟨_, f1, _, f0, ?_⟩
        dsimp only
        rw [wrap_i' (by omega)]
        refine ⟨_, _, vix' (by omega), _, fv, bsplit.dec (fun hgt => ?_) (fun hle => ?_)⟩
        · have hs : cst (i + 1) = ((cst i).1, (cst i).2 ++ [x]) := by rw [ht]; unfold cstep; rw [if_neg (by omega), if_neg hq']
          have hM : ∀ y ∈ [p], s22.h y ≠ none := by
            intro y hy; obtain rfl : y = p := by simpa using hy
            rw [ho22]; simp
          refine ⟨_, F.own.at.rdc (by simp [dotC]), GroN.append1 sl_s_Dot dotC_len dotC_one F.wf gg hM x (by have := hclen i; omega) fun r s' g' hw' mm => ?_⟩
          exact cont _ _ hw' (by rw [hs]; exact g') (by rw [hs]; exact ho22.mut mm (hnew g))
        · have hs : cst (i + 1) = cst i := by rw [ht]; unfold cstep; rw [if_pos (by omega)]
          exact cont _ _ F.wf (by rw [hs]; exact gg) (by rw [hs]; exact ho22)
    · obtain rfl : i = ex.length := by omega
      have hs : cst ex.length = compact v ex := by simp only [cst, List.take_length]; rfl
      rw [hs] at g ho
      exact ⟨left, rfl, hw16, g, ho⟩
end Go.Proofs.Ytbfchlimonimkaa
