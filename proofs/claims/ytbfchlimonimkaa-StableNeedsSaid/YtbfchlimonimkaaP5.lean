/-
  A part of the proof: an abstract machine over the model, and contracts of functions of this program over it.
-/
import Derived.Test.YtbfchlimonimkaaRows
import Derived.KernelRfl
import Derived.Test.YtbfchlimonimkaaP4
section
set_option linter.unusedSimpArgs false
set_option linter.unusedVariables false
namespace Go.Proofs.Ytbfchlimonimkaa
open Go.Am Go.Minster

/-- the reference's set in memory -/
structure RefAt (s : AS) (p : Nat) (v : List Int) (ex : List Dot) : Prop where
  len : v.length = 16
  mem : ∃ w, Own s p (v.map (.int .u64) ++ [w]) ∧ w.one = true ∧ w ≠ .emp ∧ Dots s w ex
theorem RefAt.ext {s s' : AS} {p : Nat} {v : List Int} {ex : List Dot} (h : RefAt s p v ex) (e : Ext s s') : RefAt s' p v ex := by
  obtain ⟨h1, w, h2, h3, h5, h4⟩ := h
  exact ⟨h1, w, h2.ext e, h3, h5, h4.ext e⟩
theorem ref_at {v : List Int} (h : v.length = 16) (w : AV) {i : Nat} (hi : i < 16) : (v.map (AV.int .u64) ++ [w])[i]? = some (.int .u64 (v.getD i 0)) := by
  rw [List.getElem?_append_left (by simp [h]; omega), List.getElem?_map, List.getElem?_eq_getElem (by omega), List.getD_eq_getElem?_getD, List.getElem?_eq_getElem (by omega)]; rfl
theorem ref_16 {v : List Int} (h : v.length = 16) (w : AV) : (v.map (AV.int .u64) ++ [w])[16]? = some w := by
  rw [List.getElem?_append_right (by simp [h])]; simp [h]

theorem get_lt {α : Type} {l : List α} {i : Nat} (h : i < l.length) : ∃ x, l[i]? = some x := ⟨_, List.getElem?_eq_getElem h⟩

theorem ref_Has_ok {s : AS} {p : Nat} {v : List Int} {ex : List Dot} (h : RefAt s p v ex) (hn : ex.length ≤ 2 ^ 30) (d : Dot) : ACalls Try.prog F_ref04iSet_Has [.ptr (some (p, 0)), .agg (dotC d)] s fun r s' => r = .bool (hasD v ex d) ∧ Ext s s' := by
  refine ACalls.pre fun hw => q_ref04iSet_Has _ _ _ _ ⟨rfl, NewQ.intro hw rfl fun l s1 F => ?_⟩
  refine ⟨_, F.own.at.rdc (by simp [dotC]), ?_⟩
  refine (ref04iMay_ok d _).mono ?_
  rintro r s3 ⟨rfl, e3⟩
  have e := F.ext.trans e3
  refine ⟨_, rfl, bsplit.mk (fun hm => ?_) (fun hm => ?_)⟩
  · simp only [Bool.not_eq_true'] at hm
    exact ⟨by simp [hasD, hm], e⟩
  · simp only [Bool.not_eq_false'] at hm
    obtain ⟨h1, w, h2, h3, h5, h4⟩ := h
    refine ⟨fun vs s' => Ext s3 s' ∧ d ∉ ex, ?_, fun m vs s' => ∃ i : Nat, vs = [.int .i64 (i : Nat)] ∧ i ≤ ex.length ∧ m = ex.length - i ∧ Ext s3 s' ∧ ∀ (k : Nat), k < i → ex[k]? ≠ some d, ex.length, ⟨0, rfl, by omega, rfl, Ext.refl _, by omega⟩, ?_⟩
    · rintro s8 ⟨e8, hd⟩
      have hm' := Dot.may_iff.1 hm
      have hat := (F.own.ext (e3.trans e8)).at
      have hc := (h2.ext (e.trans e8)).at
      refine ⟨_, by rw [hat.rd1]; rfl, _, by rw [hat.rd1]; rfl, ?_⟩
      dsimp only
      rw [wrap_i' (by omega)]
      refine ⟨_, _, vix' (by omega), _, by rw [hc.rd1, Nat.zero_add, Nat.mul_one]; exact ref_at h1 w (by omega), ?_, e.trans e8⟩
      simp [hasD, hm, hd]
    · rintro m n s20 ⟨i, hi, h6, rfl, e20, h7⟩
      simp only [List.cons.injEq, AV.int.injEq, true_and, and_true] at hi
      subst hi
      have hc := (h2.ext (e.trans e20)).at
      have hw16 : rd1 s20 p (0 + 16) = some w := by rw [hc.rd1]; exact ref_16 h1 w
      refine ⟨w, hw16, _, h4.lenB u_s_Dot _, bsplit.dec (fun hlt => ?_) (fun hge => ?_)⟩
      · obtain ⟨x, hx⟩ := get_lt (l := ex) (i := i) (by omega)
        obtain ⟨la', o, h8, h9⟩ := (h4.ext (e.trans e20)).ix (by decide) dotC_len u_s_Dot z_Dot hx
        refine ⟨w, hw16, la', o, h8 _, _, (h9 _ (Ext.refl _)).2, _, (F.own.ext (e3.trans e20)).at.rdc (by simp [dotC]), _, dot_eq x d, bsplit.dec (fun hq => ?_) (fun hq => ?_)⟩
        · refine ⟨?_, e.trans e20⟩
          subst hq
          simp [hasD, hm, List.mem_of_getElem? hx]
        · refine ⟨ex.length - (i + 1), by omega, i + 1, by rw [wrap_i (by omega)]; rfl, by omega, rfl, e20, fun k hk hk' => ?_⟩
          rcases Nat.lt_or_ge k i with h | h
          · exact h7 k h hk'
          · obtain rfl : k = i := by omega
            rw [hx] at hk'; exact hq (Option.some.inj hk')
      · refine ⟨e20, fun hd => ?_⟩
        obtain ⟨k, hk⟩ := List.mem_iff_getElem?.1 hd
        have : k < ex.length := by
          rcases Nat.lt_or_ge k ex.length with h' | h'
          · exact h'
          · rw [List.getElem?_eq_none h'] at hk; cases hk
        exact h7 k (by omega) hk

theorem SameDots_ok {s : AS} {v v' : AV} {l l' : List Dot} (h : Dots s v l) (h' : Dots s v' l') (hn : l.length ≤ 2 ^ 40) : ACalls Try.prog F_ref04iSameDots [v, v'] s fun r s' => r = .bool (decide (l = l')) ∧ s' = s := by
  refine q_ref04iSameDots _ _ _ _ ⟨_, h.lenB u_s_Dot _, _, h'.lenB u_s_Dot _, bsplit.mk (fun hq => ?_) (fun hq => ?_)⟩
  · refine ⟨?_, rfl⟩
    have hq' : ¬ (l.length : Int) = (l'.length : Int) := by simpa using hq
    have : l.length ≠ l'.length := by omega
    have : l ≠ l' := fun e => this (by rw [e])
    simp [this]
  · have hlen : l.length = l'.length := by
      have : (l.length : Int) = (l'.length : Int) := by simpa using hq
      omega
    refine ⟨fun m vs s' => ∃ i : Nat, vs = [.int .i64 (i : Nat)] ∧ i ≤ l.length ∧ m = l.length - i ∧ s' = s ∧ l.take i = l'.take i, l.length, ⟨0, rfl, by omega, rfl, rfl, by simp⟩, ?_⟩
    rintro m n s20 ⟨i, hi, h6, rfl, rfl, h7⟩
    simp only [List.cons.injEq, AV.int.injEq, true_and, and_true] at hi
    subst hi
    refine ⟨_, h.lenB u_s_Dot _, bsplit.dec (fun hlt => ?_) (fun hge => ?_)⟩
    · obtain ⟨x, hx⟩ := get_lt (l := l) (i := i) (by omega)
      obtain ⟨y, hy⟩ := get_lt (l := l') (i := i) (by omega)
      obtain ⟨la, o, h8, h9⟩ := h.ix (by decide) dotC_len u_s_Dot z_Dot hx
      obtain ⟨la', o', h8', h9'⟩ := h'.ix (by decide) dotC_len u_s_Dot z_Dot hy
      refine ⟨la, o, h8 _, _, (h9 _ (Ext.refl _)).2, la', o', h8' _, _, (h9' _ (Ext.refl _)).2, _, dot_eq x y, bsplit.mk (fun hq => ?_) (fun hq => ?_)⟩
      · refine ⟨?_, rfl⟩
        have hne : x ≠ y := by simpa using hq
        have : l ≠ l' := fun e => hne (by subst e; rw [hx] at hy; exact Option.some.inj hy)
        simp [this]
      · have he : x = y := by simpa using hq
        subst he
        refine ⟨l.length - (i + 1), by omega, i + 1, by rw [wrap_i (by omega)]; rfl, by omega, rfl, rfl, ?_⟩
        rw [List.take_add_one, List.take_add_one, h7, hx, hy]
    · refine ⟨?_, rfl⟩
      rw [List.take_of_length_le (by omega), List.take_of_length_le (by omega)] at h7
      simp [h7]

theorem same_ok {s : AS} {p q : Nat} {v v' : List Int} {ex ex' : List Dot} (h : CtxAt s p v ex) (h' : RefAt s q v' ex') (hn : ex.length ≤ 2 ^ 30) : ACalls Try.prog F_law04isame [.ptr (some (p, 0)), .ptr (some (q, 0))] s fun r s' => r = .bool (decide (v = v') && decide (ex = ex')) ∧ Ext s s' := by
  obtain ⟨h1', w', h2', h3', h5', h4'⟩ := h'
  have hq16 : ∀ s', Ext s s' → rd1 s' q (0 + 16) = some w' := fun s' e => by rw [(h2'.ext e).at.rd1]; exact ref_16 h1' w'
  refine q_law04isame _ _ _ _ ⟨fun i _ r s' => i = 13 → Dots s' r ex, fun i _ r => i = 4 → r = .agg (v.map (.int .u64)), ?_, ?_⟩
  · exact fun i k r s s' e hs hi => (hs hi).ext e
  · refine ⟨_, aeqPtrNil u_p_ctx_Ctx _, bsplit.yes rfl ⟨fun s2 e2 _ _ => ?_, ⟨_, fun _ => rfl⟩, ?_⟩⟩
    · refine (ctx_Vector_ok (h.ext e2)).mono ?_
      rintro r s4 ⟨rfl, e4⟩
      exact ⟨_, rfl, e4, (fun h => by cases h), (fun _ => rfl)⟩
    · intro r hr
      obtain rfl := hr rfl
      refine ⟨_, rfl, _, h2'.at.rdc (by simp [h1']), ?_⟩
      have ht : List.take 16 (List.drop 0 (v'.map (AV.int .u64) ++ [w'])) = v'.map (AV.int .u64) := by
        rw [List.drop_zero, List.take_append_of_le_length (by simp [h1']), List.take_of_length_le (by simp [h1'])]
      rw [ht]
      refine ⟨_, vec_eq h.len h1', bsplit.dec (fun hv => ?_) (fun hv => ?_)⟩
      · refine ⟨fun s12 e12 _ _ => ?_, ⟨.undef, (fun h => by cases h)⟩, fun r _ => ⟨w', hq16 _ (Ext.refl _), fun s19 e19 _ hS => ?_⟩⟩
        · refine (ctx_Extra_ok (h.ext e12) hn).mono fun r s' g => ⟨g.chg.ext, (fun _ => g.sl dotC_len), (fun h => by cases h)⟩
        · have hd := hS.2.1 rfl
          refine (SameDots_ok hd (h4'.ext e19) (by omega)).mono ?_
          rintro r s' ⟨rfl, rfl⟩
          refine ⟨_, rfl, ?_, e19⟩
          simp [hv]
      · intro s24 e24 _ _
        refine ⟨?_, e24⟩
        simp [hv]

/-- the greatest count of a region -/
def top (v : List Int) (ex : List Dot) (r : Int) : Int := ex.foldl (fun n d => if d.r = r then (if d.c > n then d.c else n) else n) (v.getD (r - 1).toNat 0)
theorem amax2 (a b : Int) : amax true [.int .u64 a, .int .u64 b] = some (.int .u64 (if b > a then b else a)) := rfl

theorem ref_Next_ok {s : AS} {p : Nat} {v : List Int} {ex : List Dot} (h : RefAt s p v ex) (hn : ex.length ≤ 2 ^ 30) {r : Int} (hr : 1 ≤ r ∧ r ≤ 16) : ACalls Try.prog F_ref04iSet_Next [.ptr (some (p, 0)), .int .i64 r] s fun x s' => x = .int .u64 (top v ex r) ∧ s' = s := by
  obtain ⟨h1, w, h2, h3, h5, h4⟩ := h
  have hc := h2.at
  have hw16 : rd1 s p (0 + 16) = some w := by rw [hc.rd1]; exact ref_16 h1 w
  refine q_ref04iSet_Next _ _ _ _ ?_
  unfold Q_ref04iSet_Next
  rw [wrap_i' (by omega)]
  refine ⟨_, _, vix' (by omega), _, by rw [hc.rd1, Nat.zero_add, Nat.mul_one]; exact ref_at h1 w (by omega), fun m vs s' => ∃ i : Nat, vs = [.int .u64 ((ex.take i).foldl (fun n d => if d.r = r then (if d.c > n then d.c else n) else n) (v.getD (r - 1).toNat 0)), .int .i64 (i : Nat)] ∧ i ≤ ex.length ∧ m = ex.length - i ∧ s' = s, ex.length, ⟨0, rfl, by omega, rfl, rfl⟩, ?_⟩
  rintro m n9 n10 s20 ⟨i, hi, h6, rfl, rfl⟩
  simp only [List.cons.injEq, AV.int.injEq, true_and, and_true] at hi
  obtain ⟨rfl, rfl⟩ := hi
  refine ⟨w, hw16, _, h4.lenB u_s_Dot _, bsplit.dec (fun hlt => ?_) (fun hge => ?_)⟩
  · obtain ⟨x, hx⟩ := get_lt (l := ex) (i := i) (by omega)
    obtain ⟨la, o, h8, h9⟩ := h4.ix (by decide) dotC_len u_s_Dot z_Dot hx
    have g0 : rd1 s20 la o = some (.int .i64 x.r) := (h9 _ (Ext.refl _)).1 0 (by decide)
    have g1 : rd1 s20 la (o + 1) = some (.int .u64 x.c) := (h9 _ (Ext.refl _)).1 1 (by decide)
    have ht : ex.take (i + 1) = ex.take i ++ [x] := by rw [List.take_add_one, hx]; rfl
    have step : ∀ y, y = (ex.take (i + 1)).foldl (fun n d => if d.r = r then (if d.c > n then d.c else n) else n) (v.getD (r - 1).toNat 0) → ∃ m', m' < ex.length - i ∧ ∃ j : Nat, [AV.int .u64 y, .int .i64 (IntKind.wrap .i64 ((i : Int) + 1))] = [.int .u64 ((ex.take j).foldl (fun n d => if d.r = r then (if d.c > n then d.c else n) else n) (v.getD (r - 1).toNat 0)), .int .i64 (j : Nat)] ∧ j ≤ ex.length ∧ m' = ex.length - j ∧ s20 = s20 := by
      rintro y rfl
      exact ⟨ex.length - (i + 1), by omega, i + 1, by rw [wrap_i (by omega)]; rfl, by omega, rfl, rfl⟩
    refine ⟨fun vs s' => vs = [.bool (decide (x.r = r) && decide (x.c > (ex.take i).foldl (fun n d => if d.r = r then (if d.c > n then d.c else n) else n) (v.getD (r - 1).toNat 0)))] ∧ s' = s20, ?_, w, hw16, la, o, h8 _, _, g0, bsplit.mk (fun hq => ?_) (fun hq => ?_)⟩
    · rintro b s18 ⟨hb, rfl⟩
      simp only [List.cons.injEq, AV.bool.injEq, and_true] at hb
      subst hb
      refine bsplit.mk (fun hb => ⟨w, hw16, la, o, h8 _, _, g1, step _ ?_⟩) (fun hb => step _ ?_)
      · simp only [Bool.and_eq_true, decide_eq_true_eq] at hb
        rw [ht, List.foldl_append, List.foldl_cons, List.foldl_nil]
        rw [if_pos hb.1, if_pos hb.2]
      · rw [ht, List.foldl_append, List.foldl_cons, List.foldl_nil]
        simp only [Bool.and_eq_false_iff, decide_eq_false_iff_not] at hb
        rcases hb with hb | hb
        · rw [if_neg hb]
        · rw [if_neg hb]; split <;> rfl
    · refine ⟨w, hw16, la, o, h8 _, _, g1, ?_, rfl⟩
      have : x.r = r := by simpa using hq
      simp [this]
    · refine ⟨?_, rfl⟩
      have : ¬ x.r = r := by simpa using hq
      simp [this]
  · refine ⟨?_, rfl⟩
    rw [List.take_of_length_le (by omega)]; rfl
end Go.Proofs.Ytbfchlimonimkaa
end

section
set_option linter.unusedSimpArgs false
set_option linter.unusedVariables false
namespace Go.Proofs.Ytbfchlimonimkaa
open Go.Am Go.Minster

theorem dots_not_int {s : AS} {w : AV} {l : List Dot} (h : Dots s w l) : ∀ k n, w ≠ .int k n := by
  rintro k n rfl
  rcases h with ⟨h, _⟩ | ⟨_, _, _, h, _⟩ <;> cases h
theorem vec_set (v : List Int) (x : List AV) (i : Nat) (c : Int) (hi : i < v.length) : (v.map (AV.int .u64) ++ x).set i (.int .u64 c) = (v.set i c).map (AV.int .u64) ++ x := by
  rw [List.set_append_left _ _ (by simpa using hi), List.map_set]
/-- slices of dots stay where a struct of a vector is written -/
theorem dots_keep {s s' : AS} {p : Nat} {v : List Int} {x : List AV} {w : AV} {l : List Dot} (h : Dots s w l) (hp : At s p (v.map (AV.int .u64) ++ x)) (hx : ∀ y ∈ x, ∀ n, y ≠ .int .i64 n) (e : Mut [p] s s') : Dots s' w l := by
  refine Sl.mut h e dotC_len (by decide) fun q hq C hC d hd i c hc he => ?_
  obtain rfl : q = p := by simpa using hq
  obtain rfl := hC.inj hp
  simp only [dotC, List.getElem?_cons_zero, Option.some.injEq] at hc
  subst hc
  have := List.mem_of_getElem? he
  rcases List.mem_append.1 this with h | h
  · obtain ⟨y, _, hy⟩ := List.mem_map.1 h
    cases hy
  · exact hx _ h _ rfl

/-- a context whose exceptions lie in memory that is new since s0 -/
structure CtxG (s0 s : AS) (p : Nat) (v : List Int) (ex : List Dot) : Prop where
  len : v.length = 16
  mem : ∃ w, Own s p (v.map (.int .u64) ++ [w, .bool true]) ∧ w.one = true ∧ Gro dotC 2 s w ex ∧ ∀ la ∈ labOf w, s0.h la = none
theorem CtxG.at {s0 s : AS} {p : Nat} {v : List Int} {ex : List Dot} (h : CtxG s0 s p v ex) : CtxAt s p v ex := by
  obtain ⟨h1, w, h2, h3, h4, h5⟩ := h
  exact ⟨h1, w, h2, h3, h4.sl dotC_len⟩
theorem CtxG.mut {s0 s s' : AS} {L : List Nat} {p : Nat} {v : List Int} {ex : List Dot} (h : CtxG s0 s p v ex) (m : Mut L s s') (hp : p ∉ L) (hL : ∀ x ∈ L, s0.h x ≠ none ∨ s.h x = none) : CtxG s0 s' p v ex := by
  obtain ⟨h1, w, h2, h3, h4, h5⟩ := h
  refine ⟨h1, w, h2.mut m hp, h3, h4.mut m fun x hx hm => ?_, h5⟩
  rcases hL x hm with h | h
  · exact h (h5 x hx)
  · rcases h4 with ⟨_, a, rfl⟩ | ⟨la, rfl, ho⟩
    · simp [labOf] at hx
    · obtain rfl : x = la := by simpa [labOf] using hx
      rw [h] at ho; cases ho
theorem CtxG.ext {s0 s s' : AS} {p : Nat} {v : List Int} {ex : List Dot} (h : CtxG s0 s p v ex) (e : Ext s s') : CtxG s0 s' p v ex := h.mut (L := []) e.mut (by simp) (by simp)
theorem CtxG.back {s0 s1 s : AS} {p : Nat} {v : List Int} {ex : List Dot} (h : CtxG s1 s p v ex) (e : Ext s0 s1) : CtxG s0 s p v ex := by
  obtain ⟨h1, w, h2, h3, h4, h5⟩ := h
  exact ⟨h1, w, h2, h3, h4, fun x hx => e.none (h5 x hx)⟩
theorem ctx_compact_ok2 {s : AS} {p : Nat} {v : List Int} {ex : List Dot} (h : CtxAt s p v ex) (hv : VOk v) (hm : ∀ d ∈ ex, d.may = true) (hn : ex.length < 2 ^ 30) :
    ACalls Try.prog F_ctx_Ctx_compact [.ptr (some (p, 0))] s fun r s' => r = .tup [] ∧ CtxG s s' p (compact v ex).1 (compact v ex).2 ∧ Mut [p] s s' := by
  refine ACalls.pre fun hw => q_ctx_Ctx_compact _ _ _ ?_
  obtain ⟨h1, w, h2, h3, h4⟩ := h
  have hsp : ∀ x ∈ [p], s.h x ≠ none := by
    intro x hx; obtain rfl : x = p := by simpa using hx
    rw [h2]; simp
  have hnew : ∀ {r : AV} {s' : AS} {l : List Dot}, GroN dotC 2 [p] s s' r l → p ∉ labOf r := fun g hm => hsp p (by simp) (g.new p hm)
  have hx2 : ∀ y ∈ [w, AV.bool true], ∀ n, y ≠ .int .i64 n := by
    intro y hy n
    rcases List.mem_cons.1 hy with rfl | hy
    · exact dots_not_int h4 _ _
    · obtain rfl : y = .bool true := by simpa using hy
      intro h; cases h
  let cst : Nat → List Int × List Dot := fun i => (ex.take i).foldl cstep (v, [])
  have hcok : ∀ i, VOk (cst i).1 := fun i => fold_ok _ _ hv fun d hd => hm d (List.mem_of_mem_take hd)
  have hclen : ∀ i, (cst i).2.length ≤ i := fun i => by have := fold_len (ex.take i) (v, []); simp only [List.length_nil, Nat.zero_add] at this; have h2 := List.length_take_le i ex; exact Nat.le_trans this h2
  refine ⟨fun vs s' => ∃ left, vs = [left] ∧ WFs s' ∧ GroN dotC 2 [p] s s' left (compact v ex).2 ∧ Own s' p ((compact v ex).1.map (.int .u64) ++ [w, .bool true]), ?_, ?_⟩
  · rintro r s3 ⟨left, hl, hw3, g, ho⟩
    simp only [List.cons.injEq, and_true] at hl
    subst hl
    have hok : VOk (compact v ex).1 := by have := hcok ex.length; simp only [cst, List.take_length] at this; exact this
    refine qstore_one g.isSlc.2 z_s_Dot (StQ.own hw3 ho (by rw [ctx_len hok.len]; simp) fun s6 P => ⟨rfl, ⟨hok.len, r, ?_, g.isSlc.2, (g.wr hsp P.mut).gro, (g.wr hsp P.mut).new⟩, g.chg.trans P.mut⟩)
    · have : wrs ((compact v ex).1.map (AV.int .u64) ++ [w, .bool true]) (0 + 16) [r] = (compact v ex).1.map (AV.int .u64) ++ [r, .bool true] := by
        rw [wrs_one, List.set_append_right _ _ (by simp [hok.len])]
        simp [hok.len]
      rw [this] at P
      exact P.at
  · have hc := h2.at
    refine ⟨w, by rw [hc.rd1]; exact ctx_16 h1 w, _, h4.lenB u_s_Dot _, fun m vs s' => ∃ (i : Nat) (left : AV), vs = [left, .int .i64 (i : Nat)] ∧ i ≤ ex.length ∧ m = ex.length - i ∧ WFs s' ∧ GroN dotC 2 [p] s s' left (cst i).2 ∧ Own s' p ((cst i).1.map (.int .u64) ++ [w, .bool true]), ex.length, ⟨0, _, rfl, by omega, rfl, hw, GroN.nil, h2⟩, ?_⟩
    rintro m left n s16 ⟨i, left', hi, h6, rfl, hw16, g, ho⟩
    simp only [List.cons.injEq, AV.int.injEq, true_and, and_true] at hi
    obtain ⟨rfl, rfl⟩ := hi
    refine bsplit.dec (fun hlt => ?_) (fun hge => ?_)
    · obtain ⟨x, hx⟩ := get_lt (l := ex) (i := i) (by omega)
      have hd := dots_keep h4 hc hx2 g.chg
      have hvi := hcok i
      obtain ⟨la, o, h8, h9⟩ := hd.ix (by decide) dotC_len u_s_Dot z_Dot hx
      have hmx := Dot.may_iff.1 (hm x (List.mem_of_getElem? hx))
      have ht : cst (i + 1) = cstep (cst i) x := by simp only [cst]; rw [List.take_add_one, hx, Option.toList_some, List.foldl_append]; rfl
      refine ⟨la, o, h8 _, _, (h9 _ (Ext.refl _)).2, NewSt hw16 rfl rfl rfl fun l20 s22 F => ?_⟩
      have ho22 := ho.ext F.ext
      have gg := g.step F.ext
      have hidx : (x.r - 1).toNat < 16 := by omega
      have hbd := hvi.get (x.r - 1).toNat
      refine ⟨_, by rw [F.own.at.rd1]; rfl, ?_⟩
      dsimp only
      rw [wrap_i' (by omega)]
      refine ⟨_, _, vix (by omega), _, by rw [F.own.at.rd1]; rfl, _, by rw [ho22.at.rd1, Nat.zero_add, Nat.mul_one]; exact ctx_at hvi.len w hidx, ?_⟩
      have cont : ∀ (r : AV) (s' : AS), WFs s' → GroN dotC 2 [p] s s' r (cst (i + 1)).2 → Own s' p ((cst (i + 1)).1.map (.int .u64) ++ [w, .bool true]) →
          ∃ m', m' < ex.length - i ∧ ∃ (j : Nat) (left : AV), [r, AV.int .i64 (IntKind.wrap .i64 ((i : Int) + 1))] = [left, .int .i64 (j : Nat)] ∧ j ≤ ex.length ∧ m' = ex.length - j ∧ WFs s' ∧ GroN dotC 2 [p] s s' left (cst j).2 ∧ Own s' p ((cst j).1.map (.int .u64) ++ [w, .bool true]) :=
        fun r s' a b c => ⟨ex.length - (i + 1), by omega, i + 1, r, by rw [wrap_i (by omega)]; rfl, by omega, rfl, a, b, c⟩
      refine bsplit.dec (fun hle => ?_) (fun hgt => ?_)
      · have hs : cst (i + 1) = cst i := by rw [ht]; unfold cstep; rw [if_pos hle]
        exact cont _ _ F.wf (by rw [hs]; exact gg) (by rw [hs]; exact ho22)
      · refine ⟨_, by rw [F.own.at.rd1]; rfl, _, by rw [ho22.at.rd1, Nat.zero_add, Nat.mul_one]; exact ctx_at hvi.len w hidx, ?_⟩
        dsimp only
        rw [wrap_u (by omega)]
        refine bsplit.mk (fun hq => ?_) (fun hq => ?_)
        · have hq' : x.c = (cst i).1.getD (x.r - 1).toNat 0 + 1 := by simpa using hq
          have hs : cst (i + 1) = ((cst i).1.set (x.r - 1).toNat x.c, (cst i).2) := by rw [ht]; unfold cstep; rw [if_neg hgt, if_pos hq']
          refine ⟨_, by rw [F.own.at.rd1]; rfl, StQ.own F.wf ho22 (by rw [ctx_len hvi.len]; simp; omega) fun s33 P => ?_⟩
          refine cont _ _ P.wf (by rw [hs]; exact g.wr hsp (F.ext.mut.trans P.mut)) ?_
          rw [hs]
          have := P.at
          rw [wrs_one, Nat.zero_add, Nat.mul_one, vec_set _ _ _ _ (by rw [hvi.len]; exact hidx)] at this
          exact this
        · have hq' : ¬ x.c = (cst i).1.getD (x.r - 1).toNat 0 + 1 := by simpa using hq
          have hs : cst (i + 1) = ((cst i).1, (cst i).2 ++ [x]) := by rw [ht]; unfold cstep; rw [if_neg hgt, if_neg hq']
          have hM : ∀ y ∈ [p], s22.h y ≠ none := by
            intro y hy; obtain rfl : y = p := by simpa using hy
            rw [ho22]; simp
          refine ⟨_, F.own.at.rdc (by simp [dotC]), GroN.append1 sl_s_Dot dotC_len dotC_one F.wf gg hM x (by have := hclen i; omega) fun r s' g' hw' mm => ?_⟩
          exact cont _ _ hw' (by rw [hs]; exact g') (by rw [hs]; exact ho22.mut mm (hnew g))
    · obtain rfl : i = ex.length := by omega
      have hs : cst ex.length = compact v ex := by simp only [cst, List.take_length]; rfl
      rw [hs] at g ho
      exact ⟨left, rfl, hw16, g, ho⟩

theorem ctx_compact_ok {s : AS} {p : Nat} {v : List Int} {ex : List Dot} (h : CtxAt s p v ex) (hv : VOk v) (hm : ∀ d ∈ ex, d.may = true) (hn : ex.length < 2 ^ 30) :
    ACalls Try.prog F_ctx_Ctx_compact [.ptr (some (p, 0))] s fun r s' => r = .tup [] ∧ CtxAt s' p (compact v ex).1 (compact v ex).2 ∧ Mut [p] s s' :=
  (ctx_compact_ok2 h hv hm hn).mono fun _ _ ⟨a, b, c⟩ => ⟨a, b.at, c⟩

theorem ref_set_len {v : List Int} (h : v.length = 16) (w : AV) : (v.map (AV.int .u64) ++ [w]).length = 17 := by simp [h]

theorem ref_compact_ok {s : AS} {p : Nat} {v : List Int} {ex : List Dot} (h : RefAt s p v ex) (hv : VOk v) (hm : ∀ d ∈ ex, d.may = true) (hn : ex.length < 2 ^ 30) :
    ACalls Try.prog F_ref04iSet_compact [.ptr (some (p, 0))] s fun r s' => r = .tup [] ∧ RefAt s' p (compact v ex).1 (compact v ex).2 ∧ Mut [p] s s' := by
  refine ACalls.pre fun hw => q_ref04iSet_compact _ _ _ ?_
  obtain ⟨h1, w, h2, h3, h5, h4⟩ := h
  have hsp : ∀ x ∈ [p], s.h x ≠ none := by
    intro x hx; obtain rfl : x = p := by simpa using hx
    rw [h2]; simp
  have hnew : ∀ {r : AV} {s' : AS} {l : List Dot}, GroN dotC 2 [p] s s' r l → p ∉ labOf r := fun g hm => hsp p (by simp) (g.new p hm)
  have hx2 : ∀ y ∈ [w], ∀ n, y ≠ .int .i64 n := by
    intro y hy n
    obtain rfl : y = w := by simpa using hy
    exact dots_not_int h4 _ _
  let cst : Nat → List Int × List Dot := fun i => (ex.take i).foldl cstep (v, [])
  have hcok : ∀ i, VOk (cst i).1 := fun i => fold_ok _ _ hv fun d hd => hm d (List.mem_of_mem_take hd)
  have hclen : ∀ i, (cst i).2.length ≤ i := fun i => by have := fold_len (ex.take i) (v, []); simp only [List.length_nil, Nat.zero_add] at this; have h2 := List.length_take_le i ex; exact Nat.le_trans this h2
  refine ⟨fun vs s' => ∃ left, vs = [left] ∧ WFs s' ∧ GroN dotC 2 [p] s s' left (compact v ex).2 ∧ Own s' p ((compact v ex).1.map (.int .u64) ++ [w]), ?_, ?_⟩
  · rintro r s3 ⟨left, hl, hw3, g, ho⟩
    simp only [List.cons.injEq, and_true] at hl
    subst hl
    have hok : VOk (compact v ex).1 := by have := hcok ex.length; simp only [cst, List.take_length] at this; exact this
    refine qstore_one g.isSlc.2 z_s_Dot (StQ.own hw3 ho (by rw [ref_set_len hok.len]; simp) fun s6 P => ⟨rfl, ⟨hok.len, r, ?_, g.isSlc.2, g.isSlc.1, ?_⟩, g.chg.trans P.mut⟩)
    · have : wrs ((compact v ex).1.map (AV.int .u64) ++ [w]) (0 + 16) [r] = (compact v ex).1.map (AV.int .u64) ++ [r] := by
        rw [wrs_one, List.set_append_right _ _ (by simp [hok.len])]
        simp [hok.len]
      rw [this] at P
      exact P.at
    · exact (g.wr hsp P.mut).sl dotC_len
  · have hc := h2.at
    refine ⟨fun m vs s' => ∃ (i : Nat) (left : AV), vs = [left, .int .i64 (i : Nat)] ∧ i ≤ ex.length ∧ m = ex.length - i ∧ WFs s' ∧ GroN dotC 2 [p] s s' left (cst i).2 ∧ Own s' p ((cst i).1.map (.int .u64) ++ [w]), ex.length, ⟨0, _, rfl, by omega, rfl, hw, GroN.nil, h2⟩, ?_⟩
    rintro m left n s16 ⟨i, left', hi, h6, rfl, hw16, g, ho⟩
    simp only [List.cons.injEq, AV.int.injEq, true_and, and_true] at hi
    obtain ⟨rfl, rfl⟩ := hi
    have hvi := hcok i
    have hw16' : rd1 s16 p (0 + 16) = some w := by rw [ho.at.rd1]; exact ref_16 hvi.len w
    refine ⟨w, hw16', _, h4.lenB u_s_Dot _, bsplit.dec (fun hlt => ?_) (fun hge => ?_)⟩
    · obtain ⟨x, hx⟩ := get_lt (l := ex) (i := i) (by omega)
      have hd := dots_keep h4 hc hx2 g.chg
      obtain ⟨la, o, h8, h9⟩ := hd.ix (by decide) dotC_len u_s_Dot z_Dot hx
      have hmx := Dot.may_iff.1 (hm x (List.mem_of_getElem? hx))
      have ht : cst (i + 1) = cstep (cst i) x := by simp only [cst]; rw [List.take_add_one, hx, Option.toList_some, List.foldl_append]; rfl
      refine ⟨w, hw16', la, o, h8 _, _, (h9 _ (Ext.refl _)).2, NewSt hw16 rfl rfl rfl fun l20 s22 F => ?_⟩
      have ho22 := ho.ext F.ext
      have gg := g.step F.ext
      have hidx : (x.r - 1).toNat < 16 := by omega
      have hbd := hvi.get (x.r - 1).toNat
      have f0 : rd1 s22 l20 0 = some (.int .i64 x.r) := by rw [F.own.at.rd1]; rfl
      have f1 : rd1 s22 l20 1 = some (.int .u64 x.c) := by rw [F.own.at.rd1]; rfl
      have fv : rd1 s22 p (0 + (x.r - 1).toNat * 1) = some (.int .u64 ((cst i).1.getD (x.r - 1).toNat 0)) := by rw [ho22.at.rd1, Nat.zero_add, Nat.mul_one]; exact ref_at hvi.len w hidx
      refine ⟨_, f1, _, f0, ?_⟩
      dsimp only
      rw [wrap_i' (by omega)]
      refine ⟨_, _, vix' (by omega), _, fv, ?_⟩
      dsimp only
      rw [wrap_u (by omega)]
      have cont : ∀ (r : AV) (s' : AS), WFs s' → GroN dotC 2 [p] s s' r (cst (i + 1)).2 → Own s' p ((cst (i + 1)).1.map (.int .u64) ++ [w]) →
          ∃ m', m' < ex.length - i ∧ ∃ (j : Nat) (left : AV), [r, AV.int .i64 (IntKind.wrap .i64 ((i : Int) + 1))] = [left, .int .i64 (j : Nat)] ∧ j ≤ ex.length ∧ m' = ex.length - j ∧ WFs s' ∧ GroN dotC 2 [p] s s' left (cst j).2 ∧ Own s' p ((cst j).1.map (.int .u64) ++ [w]) :=
        fun r s' a b c => ⟨ex.length - (i + 1), by omega, i + 1, r, by rw [wrap_i (by omega)]; rfl, by omega, rfl, a, b, c⟩
      refine bsplit.mk (fun hq => ?_) (fun hq => ?_)
      · have hq' : x.c = (cst i).1.getD (x.r - 1).toNat 0 + 1 := by simpa using hq
        have hs : cst (i + 1) = ((cst i).1.set (x.r - 1).toNat x.c, (cst i).2) := by rw [ht]; unfold cstep; rw [if_neg (by omega), if_pos hq']
        refine ⟨_, f0, _, f1, ?_⟩
        dsimp only
        rw [wrap_i' (by omega)]
        refine ⟨_, _, vix' (by omega), StQ.own F.wf ho22 (by rw [ref_set_len hvi.len]; simp; omega) fun s33 P => ?_⟩
        refine cont _ _ P.wf (by rw [hs]; exact g.wr hsp (F.ext.mut.trans P.mut)) ?_
        rw [hs]
        have := P.at
        rw [wrs_one, Nat.zero_add, Nat.mul_one, vec_set _ _ _ _ (by rw [hvi.len]; exact hidx)] at this
        exact this
      · have hq' : ¬ x.c = (cst i).1.getD (x.r - 1).toNat 0 + 1 := by simpa using hq
        refine ⟨_, f1, _, f0, ?_⟩
        dsimp only
        rw [wrap_i' (by omega)]
        refine ⟨_, _, vix' (by omega), _, fv, bsplit.dec (fun hgt => ?_) (fun hle => ?_)⟩
        · have hs : cst (i + 1) = ((cst i).1, (cst i).2 ++ [x]) := by rw [ht]; unfold cstep; rw [if_neg (by omega), if_neg hq']
          have hM : ∀ y ∈ [p], s22.h y ≠ none := by
            intro y hy; obtain rfl : y = p := by simpa using hy
            rw [ho22]; simp
          refine ⟨_, F.own.at.rdc (by simp [dotC]), GroN.append1 sl_s_Dot dotC_len dotC_one F.wf gg hM x (by have := hclen i; omega) fun r s' g' hw' mm => ?_⟩
          exact cont _ _ hw' (by rw [hs]; exact g') (by rw [hs]; exact ho22.mut mm (hnew g))
        · have hs : cst (i + 1) = cst i := by rw [ht]; unfold cstep; rw [if_pos (by omega)]
          exact cont _ _ F.wf (by rw [hs]; exact gg) (by rw [hs]; exact ho22)
    · obtain rfl : i = ex.length := by omega
      have hs : cst ex.length = compact v ex := by simp only [cst, List.take_length]; rfl
      rw [hs] at g ho
      exact ⟨left, rfl, hw16, g, ho⟩
end Go.Proofs.Ytbfchlimonimkaa
end

section
set_option linter.unusedSimpArgs false
set_option linter.unusedVariables false
namespace Go.Proofs.Ytbfchlimonimkaa
open Go.Am Go.Minster

theorem abound1_nat {y i : Nat} {k : IntKind} (h : i ≤ y) : abound1 y (.int k (i : Nat)) = some i := by
  unfold abound1
  simp [h]
theorem asl_lo {a o n c i : Nat} (h1 : i ≤ n) (h2 : n ≤ c) (h3 : i < c) : aslice T Y_s_Dot (.slc (some (a, o)) n c true) (some (.int .i64 (i : Nat))) none none = some (.slc (some (a, o + i * 2)) (n - i) (c - i) true) := by
  have e1 : ¬ ((i : Int) < 0 ∨ (n : Int) < i) := by omega
  have e2 : ¬ c = i := by omega
  simp [aslice, u_s_Dot, z_Dot, abounds, aopt, ahigh, abound1_nat, e2, h1, h2]
theorem asl_lof {a o n c i : Nat} (h1 : i ≤ n) (h2 : n ≤ c) (h3 : i < c) : aslice T Y_s_Dot (.slc (some (a, o)) n c false) (some (.int .i64 (i : Nat))) none none = some (.slc (some (a, o + i * 2)) (n - i) (c - i) false) := by
  have e2 : ¬ c = i := by omega
  simp [aslice, u_s_Dot, z_Dot, abounds, aopt, ahigh, abound1_nat, e2, h1, h2]
theorem asl_hi {a o n c i : Nat} (h1 : i ≤ c) : aslice T Y_s_Dot (.slc (some (a, o)) n c true) none (some (.int .i64 (i : Nat))) none = some (.slc (some (a, o)) i c true) := by
  simp [aslice, u_s_Dot, z_Dot, abounds, aopt, ahigh, abound1_nat, h1]
theorem acopy_eq {a b o o2 n n2 c c2 g : Nat} {e e2 : Bool} {cs new : List AV} {s : AS} (hd : s.h a = some (.cells cs g false)) (hs : rdc s b o2 (min n2 n * 2) = some new) (hne : new ≠ []) (hfit : o + new.length ≤ cs.length) :
    acopy T Y_s_Dot (.slc (some (a, o)) n c e) (.slc (some (b, o2)) n2 c2 e2) s = some (.int .i64 ((min n2 n : Nat) : Int), s.put a (.cells (wrs cs o new) g false)) := by
  have hs2 : asrc 2 (min n2 n) s (.slc (some (b, o2)) n2 c2 e2) = some new := by
    by_cases h0 : min n2 n = 0
    · exfalso
      rw [h0] at hs
      unfold rdc at hs
      split at hs
      · split at hs
        · simp at hs; exact hne (by first | exact hs | exact hs.symm)
        · cases hs
      · cases hs
    · simp only [asrc, if_neg h0]; exact hs
  simp only [acopy, u_s_Dot, z_Dot, alen, Option.bind_some, hs2, if_neg hne, awr, hd, if_pos hfit, Option.map_some]
theorem appz {a n c k g : Nat} {ro : Bool} {cs : List AV} {s : AS} (h : s.h a = some (.cells cs g ro)) (hle : n * 2 ≤ cs.length) (hbig : n + k ≤ 2 ^ 30) (hroom : c < n + k) :
    aappend T Y_s_Dot Y_int (.slc (some (a, 0)) n c true) (.int .i64 (k : Nat)) s = some (.slc (some (s.nl, 0)) (n + k) (n + k) false, s.new (.cells (cs.take (n * 2) ++ rep k [.int .i64 0, .int .u64 0]) 2 false)) := by
  have h1 : ¬ ((2 : Nat) ≠ 2 ∨ (k : Int) < 0 ∨ 2 ^ 40 < n + k ∨ 2 * ((n + k + 256) * 16) > 2 ^ 48 ∨ n + k ≤ c) := by omega
  have h2 : asrc 2 n s (.slc (some (a, 0)) n c true) = some (cs.take (n * 2)) := by
    by_cases hn : n = 0
    · subst hn; simp [asrc]
    · simp only [asrc, if_neg hn]
      rw [rdc_of h (by omega), List.drop_zero]
  simp only [aappend, u_s_Dot, u_int, if_true, aappendZ, z_Dot, b_Dot, zr_Dot, acells, AV.cells, Option.bind_some, Int.toNat_natCast, h2, Option.map_some, List.length_cons, List.length_nil, List.all_cons, List.all_nil, one_int, Bool.and_self, Nat.zero_add, Nat.reduceAdd]
  rw [if_neg h1]
theorem find71 : Extern.find Try.f71 = some (Extern.SlicesOverlaps.overlaps #[22, 22] #[4]) := by kernel_rfl
theorem next71 : Extern.findNext Try.f71 = none := by kernel_rfl
theorem name71 : (Try.f71.name == "runtime.NumGoroutine") = false := by kernel_rfl
theorem body71 : Try.f71.body.isNone = true := by kernel_rfl

theorem wadd40 {a b : Nat} (h : a + b ≤ 2 ^ 40) : IntKind.i64.wrap ((a : Int) + (b : Int)) = ((a + b : Nat) : Int) := by
  rw [IntWalk.i64_in _ (by omega)]; rfl
theorem wsub40 {a b : Nat} (h : a ≤ 2 ^ 40) (hb : b ≤ a) : IntKind.i64.wrap ((a : Int) - (b : Int)) = ((a - b : Nat) : Int) := by
  rw [IntWalk.i64_in _ (by omega)]; omega

/-- what Insert makes -/
def insd (cs V : List AV) (i len : Nat) : List AV := cs.take (i * 2) ++ V ++ (cs.drop (i * 2)).take ((len - i) * 2)

set_option maxRecDepth 20000 in
theorem insert_mid {s : AS} {l lb cap len i m mc ob gb : Nat} {cs bs : List AV} {eb : Bool} (hl : s.h l = some (.cells cs 2 false)) (hcap : cap * 2 = cs.length) (hlen : len ≤ cap) (hi : i < len) (hm : 0 < m) (hlb : l ≠ lb)
    (hb : s.h lb = some (.cells bs gb false)) (hgb : gb ≠ 1) (hob : ob + m * 2 ≤ bs.length) (hbig : len + m ≤ 2 ^ 30) (hst : 1 ≤ s.st) :
    ACalls Try.prog F_slices_Insert__s_Dot_Dot [.slc (some (l, 0)) len cap false, .int .i64 (i : Nat), .slc (some (lb, ob)) m mc eb] s
      fun v s' => v = .slc (some (s.nl + 2 * s.st, 0)) (len + m) (len + m) false ∧ s' = s.gave l 2 (.cells (insd cs ((bs.drop ob).take (m * 2)) i len) 2 false) := by
  refine ACalls.reveal (sz := 2) hl (by decide) (by omega) ?_
  intro x js hjs hj1 hnone
  have hN : s.h s.nl = none := by have := hnone 0; simpa using this
  have hN2 : s.h (s.nl + s.st) = none := by have := hnone 1; simpa using this
  have hlbN : lb ≠ s.nl := fun e => by rw [e, hN] at hb; cases hb
  have hlbN2 : lb ≠ s.nl + s.st := fun e => by rw [e, hN2] at hb; cases hb
  have hlN : l ≠ s.nl := fun e => by rw [e, hN] at hl; cases hl
  generalize hS : (s.kill l).new (.cells (cs ++ js) 2 false) = S
  have hSL : S.h s.nl = some (.cells (cs ++ js) 2 false) := by rw [← hS, AS.new_h _ rfl]; simp [AS.kill_nl]
  have hSb : S.h lb = some (.cells bs gb false) := by rw [← hS, AS.new_h _ rfl, AS.kill_h]; simp [AS.kill_nl, hlbN, Ne.symm hlb, hb]
  have hSk : ∀ k ob, k ≠ l → s.h k = some ob → S.h k = some ob := by
    intro k p hk hp
    rw [← hS, AS.new_h _ rfl, AS.kill_h, AS.kill_nl]
    rw [if_neg (fun e => by rw [e, hN] at hp; cases hp), if_neg hk]
    exact hp
  have hSnl : S.nl = s.nl + s.st := by rw [← hS]; rfl
  have hSst : S.st = s.st := by rw [← hS]; rfl
  have hCl : (cs ++ js).length = (cap + x) * 2 := by rw [List.length_append, hjs]; omega
  generalize hC : cs ++ js = C at hSL hCl
  generalize hV : (bs.drop ob).take (m * 2) = V
  have hVl : V.length = m * 2 := by rw [← hV, List.length_take, List.length_drop]; omega
  have hVne : V ≠ [] := by intro e; rw [e] at hVl; simp at hVl; omega
  have f1 := asl_lo (a := s.nl) (o := 0) (n := len) (c := cap + x) (i := i) (by omega) (by omega) (by omega)
  simp only [Nat.zero_add] at f1
  have f2 : ((m : Int) == 0) = false := by simp; omega
  have f3 : ((i : Int) == (len : Int)) = false := by simp; omega
  have f4 : IntKind.i64.wrap ((len : Int) + (m : Int)) = ((len + m : Nat) : Int) := wadd40 (by omega)
  have lB : ∀ (a : Option (Nat × Nat)) (n c : Nat) (e : Bool) (s' : AS), alenB T Y_s_Dot (.slc a n c e) s' = some (.int .i64 (n : Nat)) := by intros; simp [alenB, u_s_Dot]
  have cB : acapB T Y_s_Dot (.slc (some (s.nl, 0)) len (cap + x) true) = some (.int .i64 ((cap + x : Nat) : Int)) := by simp [acapB, u_s_Dot]
  refine q_slices_Insert__s_Dot_Dot _ _ _ _ _ ⟨_, f1, _, lB _ _ _ _ _, bsplit.no f2 ⟨_, lB _ _ _ _ _, bsplit.no f3 ⟨_, cB, ?_⟩⟩⟩
  dsimp only
  rw [f4]
  have hTl : rdc S s.nl (i * 2) ((len - i) * 2) = some ((C.drop (i * 2)).take ((len - i) * 2)) := rdc_of hSL (by omega)
  generalize hTle : (C.drop (i * 2)).take ((len - i) * 2) = Tl at hTl
  have hTll : Tl.length = (len - i) * 2 := by rw [← hTle, List.length_take, List.length_drop]; omega
  have hTlne : Tl ≠ [] := by intro e; rw [e] at hTll; simp at hTll; omega
  have hVr : rdc S lb ob (m * 2) = some V := by rw [rdc_of hSb hob, hV]
  have hCt : ∀ k, k < len * 2 → C[k]? = cs[k]? := by
    intro k hk
    rw [← hC, List.getElem?_append_left (by omega)]
  have hTlc : Tl = (cs.drop (i * 2)).take ((len - i) * 2) := by
    rw [← hTle]
    apply List.ext_getElem?
    intro k
    rw [List.getElem?_take, List.getElem?_take, List.getElem?_drop, List.getElem?_drop]
    split
    · exact hCt _ (by omega)
    · rfl
  refine bsplit.dec (fun hroom0 => ?_) (fun hroom0 => ?_)
  · have hroom : cap + x < len + m := by omega
    have fA1 := asl_hi (a := s.nl) (o := 0) (n := len) (c := cap + x) (i := i) (by omega)
    have fA2 : IntKind.i64.wrap (((len + m : Nat) : Int) - (i : Int)) = ((len + m - i : Nat) : Int) := wsub40 (by omega) (by omega)
    have fA3 := appz (k := len + m - i) (n := i) (c := cap + x) hSL (by omega) (by omega) (by omega)
    rw [show i + (len + m - i) = len + m by omega] at fA3
    generalize hZ : C.take (i * 2) ++ rep (len + m - i) [AV.int .i64 0, AV.int .u64 0] = Z at fA3
    have hZl : Z.length = (len + m) * 2 := by rw [← hZ, List.length_append, List.length_take, rep_length]; simp; omega
    generalize hS3 : S.new (.cells Z 2 false) = S3 at fA3
    have h3N : S3.h S.nl = some (.cells Z 2 false) := by rw [← hS3, AS.new_h _ rfl, if_pos rfl]
    have hne3 : s.nl ≠ S.nl := by rw [hSnl]; omega
    have h3L : S3.h s.nl = some (.cells C 2 false) := by rw [← hS3, AS.new_h _ rfl, if_neg hne3]; exact hSL
    have h3b : S3.h lb = some (.cells bs gb false) := by rw [← hS3, AS.new_h _ rfl, if_neg (by rw [hSnl]; exact hlbN2)]; exact hSb
    have fA4 := asl_lof (a := S.nl) (o := 0) (n := len + m) (c := len + m) (i := i) (by omega) (by omega) (by omega)
    have fA5 := acopy_eq (a := S.nl) (b := lb) (o := i * 2) (o2 := ob) (n := len + m - i) (n2 := m) (c := len + m - i) (c2 := mc) (e := false) (e2 := eb) (new := V) h3N (by rw [show min m (len + m - i) = m by omega, rdc_of h3b hob, hV]) hVne (by omega)
    generalize hS4 : S3.put S.nl (.cells (wrs Z (i * 2) V) 2 false) = S4 at fA5
    have h4N : S4.h S.nl = some (.cells (wrs Z (i * 2) V) 2 false) := by rw [← hS4, AS.put_h _ _ rfl, if_pos rfl]
    have h4L : S4.h s.nl = some (.cells C 2 false) := by rw [← hS4, AS.put_h _ _ rfl, if_neg hne3]; exact h3L
    have fA6 : IntKind.i64.wrap ((i : Int) + (m : Int)) = ((i + m : Nat) : Int) := wadd40 (by omega)
    have fA7 := asl_lof (a := S.nl) (o := 0) (n := len + m) (c := len + m) (i := i + m) (by omega) (by omega) (by omega)
    have fA8 := acopy_eq (a := S.nl) (b := s.nl) (o := (i + m) * 2) (o2 := i * 2) (n := len + m - (i + m)) (n2 := len - i) (c := len + m - (i + m)) (c2 := cap + x - i) (e := false) (e2 := true) (new := Tl) h4N (by rw [show min (len - i) (len + m - (i + m)) = len - i by omega, rdc_of h4L (by omega), hTle]) hTlne (by rw [wrs_length]; omega)
    simp only [Nat.zero_add] at fA4 fA7
    generalize hS5 : S4.put S.nl (.cells (wrs (wrs Z (i * 2) V) ((i + m) * 2) Tl) 2 false) = S5 at fA8
    refine ⟨_, fA1, ?_⟩
    dsimp only
    rw [fA2]
    refine ⟨_, _, fA3, _, fA4, _, _, fA5, ?_⟩
    dsimp only
    rw [fA6]
    refine ⟨_, fA7, _, f1, _, _, fA8, ?_⟩
    have h5N : S5.h S.nl = some (.cells (wrs (wrs Z (i * 2) V) ((i + m) * 2) Tl) 2 false) := by rw [← hS5, AS.put_h _ _ rfl, if_pos rfl]
    have hkeep : ∀ k ob, k ≠ l → s.h k = some ob → S5.h k = some ob := by
      intro k p hk hp
      have hkN : k ≠ S.nl := fun e => by rw [e, hSnl, hN2] at hp; cases hp
      rw [← hS5, AS.put_h _ _ rfl, if_neg hkN, ← hS4, AS.put_h _ _ rfl, if_neg hkN, ← hS3, AS.new_h _ rfl, if_neg hkN]
      exact hSk k p hk hp
    refine ⟨⟨2, Nat.le_refl 2, ?_⟩, hkeep, .inr ⟨S.nl, rfl, by rw [hSnl]; exact hN2, ?_, ?_⟩⟩
    · rw [← hS5, AS.put_nl, ← hS4, AS.put_nl, ← hS3, AS.new_nl, hSnl, hSst]; omega
    · rw [h5N]
      congr 2
      unfold insd
      rw [← hTlc]
      apply List.ext_getElem?
      intro k
      rw [wrs_get _ _ _ _ (by rw [wrs_length]; omega), wrs_get _ _ _ _ (by omega), hTll, hVl]
      rw [List.getElem?_append, List.getElem?_append, List.length_append, List.length_take, hVl]
      by_cases k1 : k < i * 2
      · rw [if_neg (by omega), if_neg (by omega), if_pos (by omega), if_pos (by omega), ← hZ, List.getElem?_append_left (by rw [List.length_take]; omega), List.getElem?_take, List.getElem?_take, if_pos k1, if_pos k1]
        exact hCt k (by omega)
      · by_cases k2 : k < (i + m) * 2
        · rw [if_neg (by omega), if_pos (by omega), if_pos (by omega), if_neg (by omega)]
          congr 1; omega
        · by_cases k3 : k < (len + m) * 2
          · rw [if_pos (by omega), if_neg (by omega)]
            congr 1; omega
          · rw [if_neg (by omega), if_neg (by omega), if_neg (by omega), List.getElem?_eq_none (by omega), List.getElem?_eq_none (by omega)]
    · unfold insd
      rw [← hTlc, List.length_append, List.length_append, List.length_take, hVl, hTll]; omega
  · have hroom : ¬ cap + x < len + m := by omega
    have fB1 := asl_hi (a := s.nl) (o := 0) (n := len) (c := cap + x) (i := len + m) (by omega)
    have fB2 : IntKind.i64.wrap ((i : Int) + (m : Int)) = ((i + m : Nat) : Int) := wadd40 (by omega)
    have fB3 := asl_lo (a := s.nl) (o := 0) (n := len + m) (c := cap + x) (i := i + m) (by omega) (by omega) (by omega)
    have fB4 := asl_lo (a := s.nl) (o := 0) (n := len + m) (c := cap + x) (i := i) (by omega) (by omega) (by omega)
    simp only [Nat.zero_add] at fB3 fB4
    have hCS : rdc S s.nl (i * 2) (min (len + m - i) (len + m - (i + m)) * 2) = some Tl := by rw [show min (len + m - i) (len + m - (i + m)) = len - i by omega]; exact hTl
    have fB5 := acopy_eq (a := s.nl) (b := s.nl) (o := (i + m) * 2) (o2 := i * 2) (n := len + m - (i + m)) (n2 := len + m - i) (c := cap + x - (i + m)) (c2 := cap + x - i) (e := true) (e2 := true) (new := Tl) hSL hCS hTlne (by omega)
    generalize hS4 : S.put s.nl (.cells (wrs C ((i + m) * 2) Tl) 2 false) = S4 at fB5
    have h4N : S4.h s.nl = some (.cells (wrs C ((i + m) * 2) Tl) 2 false) := by rw [← hS4, AS.put_h _ _ rfl, if_pos rfl]
    have h4b : S4.h lb = some (.cells bs gb false) := by rw [← hS4, AS.put_h _ _ rfl, if_neg hlbN]; exact hSb
    have fB6 := acopy_eq (a := s.nl) (b := lb) (o := i * 2) (o2 := ob) (n := len + m - i) (n2 := m) (c := cap + x - i) (c2 := mc) (e := true) (e2 := eb) (new := V) h4N (by rw [show min m (len + m - i) = m by omega, rdc_of h4b hob, hV]) hVne (by rw [wrs_length]; omega)
    generalize hS5 : S4.put s.nl (.cells (wrs (wrs C ((i + m) * 2) Tl) (i * 2) V) 2 false) = S5 at fB6
    have hov := acalls_overlaps (g := F_slices_overlaps__Dot) (tR := 4) (na := m) (ca := mc) (ea := eb) (oa := ob) (ob := (i + m) * 2) (nb := len + m - (i + m)) (cb := cap + x - (i + m)) (eb := true) hT Try.func71 name71 body71 next71 find71 u_s_Dot z_Dot hSb hgb hSL (by intro e; rw [e] at hCl; simp at hCl; omega) hlbN
    refine ⟨_, fB1, ?_⟩
    dsimp only
    rw [fB2]
    refine ⟨_, fB3, hov.mono ?_⟩
    rintro v s' ⟨rfl, rfl⟩
    refine ⟨_, rfl, bsplit.yes rfl ⟨_, fB3, _, fB4, _, _, fB5, _, fB4, _, _, fB6, ?_⟩⟩
    have h5N : S5.h s.nl = some (.cells (wrs (wrs C ((i + m) * 2) Tl) (i * 2) V) 2 false) := by rw [← hS5, AS.put_h _ _ rfl, if_pos rfl]
    have hkeep : ∀ k ob, k ≠ l → s.h k = some ob → S5.h k = some ob := by
      intro k p hk hp
      have hkN : k ≠ s.nl := fun e => by rw [e, hN] at hp; cases hp
      rw [← hS5, AS.put_h _ _ rfl, if_neg hkN, ← hS4, AS.put_h _ _ rfl, if_neg hkN]
      exact hSk k p hk hp
    refine ⟨⟨1, by omega, ?_⟩, hkeep, .inl ⟨rfl, by omega, _, h5N, ?_, ?_⟩⟩
    · rw [← hS5, AS.put_nl, ← hS4, AS.put_nl, hSnl]; omega
    · rw [wrs_length, wrs_length, hCl]; omega
    · unfold insd
      rw [← hTlc]
      apply List.ext_getElem?
      intro k
      rw [List.getElem?_take, List.drop_zero, wrs_get _ _ _ _ (by rw [wrs_length]; omega), wrs_get _ _ _ _ (by omega), hTll, hVl]
      rw [List.getElem?_append, List.getElem?_append, List.length_append, List.length_take, hVl]
      by_cases k1 : k < i * 2
      · rw [if_pos (by omega), if_neg (by omega), if_neg (by omega), if_pos (by omega), if_pos (by omega), List.getElem?_take, if_pos k1]
        exact hCt k (by omega)
      · by_cases k2 : k < (i + m) * 2
        · rw [if_pos (by omega), if_pos (by omega), if_pos (by omega), if_neg (by omega)]
          congr 1; omega
        · by_cases k3 : k < (len + m) * 2
          · rw [if_pos (by omega), if_neg (by omega), if_pos (by omega), if_neg (by omega)]
            congr 1; omega
          · rw [if_neg (by omega), if_neg (by omega), List.getElem?_eq_none (by omega)]


end Go.Proofs.Ytbfchlimonimkaa
end

section
set_option linter.unusedSimpArgs false
set_option linter.unusedVariables false
namespace Go.Proofs.Ytbfchlimonimkaa
open Go.Am Go.Minster

theorem insert_ok {s : AS} {v : AV} {l : List Dot} {d : Dot} {i lb : Nat} (g : Gro dotC 2 s v l) (hb : s.h lb = some (.cells (dotC d) 0 false)) (hi : i ≤ l.length) (hn : l.length + 1 ≤ 2 ^ 30) :
    ACalls Try.prog F_slices_Insert__s_Dot_Dot [v, .int .i64 (i : Nat), .slc (some (lb, 0)) 1 1 true] s fun r s' => Gro dotC 2 s' r (l.take i ++ d :: l.drop i) ∧ Mut (labOf v) s s' ∧ (∀ la ∈ labOf r, la ∈ labOf v ∨ s.h la = none) := by
  refine ACalls.pre fun hw => ?_
  have hsl := g.sl dotC_len
  have hlb : Dots s (.slc (some (lb, 0)) 1 1 true) [d] := SlAt.mk ⟨_, _, hb⟩ rfl rfl
  by_cases he : i = l.length
  · subst he
    have hne : v ≠ .emp := by rcases g with ⟨_, a, rfl⟩ | ⟨la, rfl, _⟩ <;> (intro h; cases h)
    obtain ⟨w, h1, _⟩ := hsl.from dotC_len u_s_Dot z_Dot hne (Nat.le_refl _) .i64
    obtain ⟨v', s', h2, h3, h4, h5, h6⟩ := Gro.append sl_s_Dot dotC_len dotC_one hw g hlb (by simpa using hn) u_s_Dot
    refine q_slices_Insert__s_Dot_Dot _ _ _ _ _ ⟨_, h1, _, hlb.lenB u_s_Dot _, bsplit.no rfl ⟨_, hsl.lenB u_s_Dot _, bsplit.yes (by simp) ⟨_, _, h2, ?_, h4, h6⟩⟩⟩
    rw [List.take_of_length_le (Nat.le_refl _), List.drop_of_length_le (Nat.le_refl _)]
    exact h3
  · rcases g with ⟨rfl, _⟩ | ⟨la, rfl, hla⟩
    · simp at hi; subst hi; exact absurd rfl he
    · have hne : la ≠ lb := by
        rintro rfl
        rw [hb] at hla
        simp at hla
      refine (insert_mid (i := i) hla (by rw [flat_len dotC_len]) (Nat.le_refl _) (by omega) (by omega) hne hb (by decide) (by simp [dotC]) hn hw.1).mono ?_
      rintro r s' ⟨rfl, rfl⟩
      have hnl : s.h (s.nl + 2 * s.st) = none := hw.2 2
      have hcs : insd (l.flatMap dotC) (((dotC d).drop 0).take (1 * 2)) i l.length = (l.take i ++ d :: l.drop i).flatMap dotC := by
        unfold insd
        rw [flat_take dotC_len, flat_drop dotC_len, show ((l.drop i).flatMap dotC).take ((l.length - i) * 2) = (l.drop i).flatMap dotC from List.take_of_length_le (by rw [flat_len dotC_len, List.length_drop]; exact Nat.le_refl _)]
        simp [dotC]
      refine ⟨.inr ⟨s.nl + 2 * s.st, ?_, ?_⟩, ⟨fun x o hx ho => ?_, ?_⟩, fun y hy => ?_⟩
      · have : (l.take i ++ d :: l.drop i).length = l.length + 1 := by simp; omega
        rw [this]
      · rw [AS.gave_h _ _ _ rfl, if_pos rfl, hcs]
      · rw [AS.gave_h _ _ _ rfl, if_neg (fun e => by rw [e, hnl] at ho; cases ho), if_neg (by simpa [labOf] using hx)]; exact ho
      · show s.nl ≤ s.nl + 2 * s.st + s.st; omega
      · simp only [labOf, List.mem_singleton] at hy
        subst hy; exact .inr hnl

/-- what adding a dot comes to -/
def addD (v : List Int) (ex : List Dot) (d : Dot) : Bool × Int × List Int × List Dot :=
  if d.may = false then (false, 2, v, ex)
  else if hasD v ex d then (false, 0, v, ex)
  else if 4096 < (compact v (ins ex d)).2.length then (false, 5, v, ex)
  else (true, 0, compact v (ins ex d))

theorem ctx_Add_ok2 {s : AS} {p : Nat} {v : List Int} {ex : List Dot} (h : CtxAt s p v ex) (hv : VOk v) (hr : Rising ex) (hm : ∀ d ∈ ex, d.may = true) (hn : ex.length + 1 < 2 ^ 30) (d : Dot) :
    ACalls Try.prog F_ctx_Ctx_Add [.ptr (some (p, 0)), .agg (dotC d)] s fun r s' => r = .tup [.bool (addD v ex d).1, .int .i64 (addD v ex d).2.1] ∧ CtxAt s' p (addD v ex d).2.2.1 (addD v ex d).2.2.2 ∧ Mut [p] s s' ∧ ((addD v ex d).1 = false → Ext s s') := by
  refine ACalls.pre fun hw => q_ctx_Ctx_Add _ _ _ _ ⟨rfl, NewQ.intro hw rfl fun l1 s2 F1 => ?_⟩
  refine ACalls.use (ctx_there_ok (h.ext F1.ext)) ?_
  rintro r s4 ⟨rfl, rfl⟩ hw4
  refine ⟨_, rfl, bsplit.no rfl ⟨_, F1.own.at.rdc (by simp [dotC]), ?_⟩⟩
  refine ACalls.use (ctx_May_ok d _) ?_
  rintro r s8 ⟨rfl, e8⟩ hw8
  have E8 := F1.ext.trans e8
  refine ⟨_, rfl, bsplit.mk (fun hd => ?_) (fun hd => ?_)⟩
  · simp only [Bool.not_eq_true'] at hd
    have : addD v ex d = (false, 2, v, ex) := by simp [addD, hd]
    rw [this]
    exact ⟨rfl, h.ext E8, E8.mut, fun _ => E8⟩
  simp only [Bool.not_eq_false'] at hd
  refine ⟨_, (F1.own.ext e8).at.rdc (by simp [dotC]), ?_⟩
  refine ACalls.use (ctx_Has_ok (h.ext E8) hr (by omega) d) ?_
  rintro r s12 ⟨rfl, e12⟩ hw12
  have E12 := E8.trans e12
  refine ⟨_, rfl, bsplit.mk (fun hh => ?_) (fun hh => ?_)⟩
  · have : addD v ex d = (false, 0, v, ex) := by simp [addD, hd, hh]
    rw [this]
    exact ⟨rfl, h.ext E12, E12.mut, fun _ => E12⟩
  have hnin : d ∉ ex := by
    intro hin
    simp [hasD, hd, hin] at hh
  obtain ⟨h1, w, h2, h3, h4⟩ := h
  have hlen := ctx_len h1 w
  refine ⟨_, (h2.ext E12).at.rdc (by rw [hlen]; omega), ?_⟩
  have hg : ((v.map (AV.int .u64) ++ [w, .bool true]).drop 0).take 18 = v.map (AV.int .u64) ++ [w, .bool true] := by
    rw [List.drop_zero, List.take_of_length_le (by rw [hlen]; exact Nat.le_refl _)]
  rw [hg]
  refine NewSt hw12 hlen rfl (by simp [h3]) fun l17 s19 F17 => ?_
  have E19 := E12.trans F17.ext
  refine ⟨fun _ _ _ _ => True, fun _ _ r => r = .tup [.int .i64 (pos ex d : Nat), .bool (decide (d ∈ ex))], fun _ _ _ _ _ _ _ => trivial, w, by rw [(h2.ext E19).at.rd1]; exact ctx_16 h1 w, _, (F1.own.ext (e8.trans (e12.trans F17.ext))).at.rdc (by simp [dotC]), fun s24 e24 _ _ => ?_, ⟨_, rfl⟩, ?_⟩
  · refine (bsearch_ok (h4.ext (E19.trans e24)) (by omega) hr d).mono ?_
    rintro r s' ⟨rfl, e⟩
    exact ⟨_, _, rfl, e, trivial, rfl⟩
  rintro r rfl
  refine ⟨_, _, rfl, fun s32 e32 _ _ => ?_⟩
  have E32 := E19.trans e32
  have o17 := F17.own.ext e32
  refine ⟨fun i _ r s' => (i = 4 → GroN dotC 2 [] s32 s' r ex) ∧ (i = 7 → ∃ lb, r = .slc (some (lb, 0)) 1 1 true ∧ s'.h lb = some (.cells (dotC d) 0 false)), fun i _ r => i = 7 → ∃ lb, r = .slc (some (lb, 0)) 1 1 true, ?_, w, by rw [(h2.ext E32).at.rd1]; exact ctx_16 h1 w, fun s37 e37 _ _ => ?_, ⟨.undef, (fun h => by cases h)⟩, fun v40 _ => ⟨_, (F1.own.ext (e8.trans (e12.trans (F17.ext.trans e32)))).at.rdc (by simp [dotC]), ?_⟩⟩
  · rintro i k r s s' e ⟨ha, hb⟩
    refine ⟨fun hi => (ha hi).step e, fun hi => ?_⟩
    obtain ⟨lb, h1, h2⟩ := hb hi
    exact ⟨lb, h1, e.1 _ _ h2⟩
  · refine (clone_ok (h4.ext (E32.trans e37)) (by omega)).mono fun r s' g => ⟨g.chg.ext, ⟨(fun _ => ⟨g.gro, e37.mut.trans g.chg, fun la hla => e37.none (g.new la hla)⟩), (fun h => by cases h)⟩, (fun h => by cases h)⟩
  refine ⟨fun s42 e42 w42 _ => ⟨_, absl_agg sl_s_Dot (c := dotC d) rfl rfl, ?_⟩, ⟨.slc (some (0, 0)) 1 1 true, fun _ => ⟨0, rfl⟩⟩, fun v46 hv46 s47 e47 _ hS => ?_⟩
  · exact NewQ.intro w42 rfl fun l s45 F => ⟨F.ext, ⟨(fun h => by cases h), fun _ => ⟨l, rfl, F.at⟩⟩, fun _ => ⟨l, rfl⟩⟩
  obtain ⟨g40, lb, rfl, hlb⟩ : GroN dotC 2 [] s32 s47 v40 ex ∧ ∃ lb, v46 = .slc (some (lb, 0)) 1 1 true ∧ s47.h lb = some (.cells (dotC d) 0 false) := ⟨hS.1.1 rfl, hS.2.1.2 rfl⟩
  refine ACalls.use (insert_ok g40.gro hlb (pos_le ex d) (by omega)) ?_
  rintro r s50 ⟨g50, m50, n50⟩ hw50
  have hnot : ∀ x, (∃ o, s32.h x = some o) → x ∉ labOf v40 := by
    rintro x ⟨o, ho⟩ hx
    rw [g40.new x hx] at ho; cases ho
  have hnot2 : ∀ x, (∃ o, s32.h x = some o) → x ∉ labOf r := by
    rintro x ⟨o, ho⟩ hx
    rcases n50 x hx with h | h
    · exact hnot x ⟨o, ho⟩ h
    · rw [e47.1 _ _ ho] at h; cases h
  have o17' := (o17.ext e47).mut m50 (hnot l17 ⟨_, o17⟩)
  have hone : r.one = true := by rcases g50 with ⟨_, a, rfl⟩ | ⟨la, rfl, _⟩ <;> rfl
  refine qstore_one hone z_s_Dot (StQ.own hw50 o17' (by rw [hlen]; simp) fun s51 P => ?_)
  have hins : (ex.take (pos ex d) ++ d :: ex.drop (pos ex d)) = ins ex d := rfl
  rw [hins] at g50
  have hP := P.at
  rw [wrs_one, List.set_append_right _ _ (by simp [h1])] at hP
  simp only [List.length_map, h1, Nat.sub_self, List.set_cons_zero] at hP
  have c51 : CtxAt s51 l17 v (ins ex d) := ⟨h1, r, hP, hone, (g50.mut (L := [l17]) P.mut (fun x hx => by simp only [List.mem_singleton]; rintro rfl; exact hnot2 _ ⟨_, o17⟩ hx)).sl dotC_len⟩
  have hmi : ∀ x ∈ ins ex d, x.may = true := by
    intro x hx
    rcases mem_ins.1 hx with rfl | hx
    · exact hd
    · exact hm x hx
  refine ACalls.use (ctx_compact_ok c51 hv hmi (by rw [ins_len]; omega)) ?_
  rintro r2 s53 ⟨rfl, c53, m53⟩ hw53
  -- the old one is still there
  have hp : Own s53 p (v.map (.int .u64) ++ [w, .bool true]) := by
    have hp32 := h2.ext E32
    have hne : p ∉ [l17] := by
      simp only [List.mem_singleton]
      rintro rfl
      have := F17.no
      rw [h2.ext E12] at this; cases this
    exact ((((hp32.ext e47).mut m50 (hnot p ⟨_, hp32⟩)).mut P.mut hne).mut m53 hne)
  have hall : Mut [p] s s53 := by
    refine ⟨fun x o hx ho => ?_, ?_⟩
    · have h32 := E32.1 _ _ ho
      have hne : x ∉ [l17] := by
        simp only [List.mem_singleton]
        rintro rfl
        have := F17.no
        rw [E12.1 _ _ ho] at this; cases this
      exact m53.1 _ _ hne (P.mut.1 _ _ hne (m50.1 _ _ (hnot x ⟨_, h32⟩) (e47.1 _ _ h32)))
    · exact Nat.le_trans E32.2 (Nat.le_trans e47.2 (Nat.le_trans m50.2 (Nat.le_trans P.mut.2 m53.2)))
  obtain ⟨k1, w', k2, k3, k4⟩ := c53
  refine ⟨rfl, w', by rw [k2.at.rd1]; exact ctx_16 k1 w', _, k4.lenB u_s_Dot _, bsplit.dec (fun hgt => ?_) (fun hle => ?_)⟩
  · have : addD v ex d = (false, 5, v, ex) := by
      simp only [addD, hd, hh, Bool.true_eq_false, Bool.false_eq_true, if_false]
      rw [if_pos (by omega)]
    rw [this]
    refine ⟨rfl, ⟨h1, w, hp, h3, ?_⟩, hall, fun _ => ⟨fun x o ho => ?_, hall.2⟩⟩
    rotate_left
    · by_cases hx : x = p
      · subst hx
        rw [show s.h x = _ from h2] at ho
        rw [← ho]
        exact hp
      · exact hall.1 x o (by simpa using hx) ho
    refine Sl.mut h4 hall dotC_len (by decide) fun q hq C hC x hx i c hc he => ?_
    obtain rfl : q = p := by simpa using hq
    obtain rfl := hC.inj h2.at
    simp only [dotC, List.getElem?_cons_zero, Option.some.injEq] at hc
    subst hc
    rcases List.mem_append.1 (List.mem_of_getElem? he) with h | h
    · obtain ⟨y, _, hy⟩ := List.mem_map.1 h
      cases hy
    · rcases List.mem_cons.1 h with rfl | h
      · exact dots_not_int h4 _ _ rfl
      · simp at h
  · have : addD v ex d = (true, 0, compact v (ins ex d)) := by
      simp only [addD, hd, hh, Bool.true_eq_false, Bool.false_eq_true, if_false]
      rw [if_neg (by omega)]
    rw [this]
    have hlen' := ctx_len k1 w'
    have hg' : (((compact v (ins ex d)).1.map (AV.int .u64) ++ [w', .bool true]).drop 0).take 18 = (compact v (ins ex d)).1.map (AV.int .u64) ++ [w', .bool true] := by
      rw [List.drop_zero, List.take_of_length_le (by rw [hlen']; exact Nat.le_refl _)]
    refine ⟨_, k2.at.rdc (by rw [hlen']; omega), ?_⟩
    rw [hg']
    refine ⟨⟨by simp [k3], by rw [hlen']⟩, StQ.own hw53 hp (by rw [hlen, hlen']; omega) fun s59 P2 => ⟨rfl, ⟨k1, w', ?_, k3, ?_⟩, hall.trans P2.mut, fun h => absurd h (by simp)⟩⟩
    · have := P2.at
      rw [wrs_all0 (by rw [hlen, hlen'])] at this
      exact this
    · refine dots_keep k4 hp.at (x := [w, .bool true]) ?_ P2.mut
      intro y hy n
      rcases List.mem_cons.1 hy with rfl | hy
      · exact dots_not_int h4 _ _
      · obtain rfl : y = .bool true := by simpa using hy
        intro h; cases h

theorem ctx_Add_ok {s : AS} {p : Nat} {v : List Int} {ex : List Dot} (h : CtxAt s p v ex) (hv : VOk v) (hr : Rising ex) (hm : ∀ d ∈ ex, d.may = true) (hn : ex.length + 1 < 2 ^ 30) (d : Dot) :
    ACalls Try.prog F_ctx_Ctx_Add [.ptr (some (p, 0)), .agg (dotC d)] s fun r s' => r = .tup [.bool (addD v ex d).1, .int .i64 (addD v ex d).2.1] ∧ CtxAt s' p (addD v ex d).2.2.1 (addD v ex d).2.2.2 ∧ Mut [p] s s' :=
  (ctx_Add_ok2 h hv hr hm hn d).mono fun _ _ ⟨a, b, c, _⟩ => ⟨a, b, c⟩
end Go.Proofs.Ytbfchlimonimkaa
end

section
set_option linter.unusedSimpArgs false
set_option linter.unusedVariables false
namespace Go.Proofs.Ytbfchlimonimkaa
open Go.Am Go.Minster

/-- what adding a dot that may be comes to, plainly -/
def addR (v : List Int) (ex : List Dot) (d : Dot) : List Int × List Dot := if hasD v ex d then (v, ex) else compact v (ins ex d)

theorem ref_Add_ok {s : AS} {q : Nat} {v : List Int} {ex : List Dot} (h : RefAt s q v ex) (hv : VOk v) (hr : Rising ex) (hm : ∀ d ∈ ex, d.may = true) (hn : ex.length + 1 < 2 ^ 30) {d : Dot} (hd : d.may = true) :
    ACalls Try.prog F_ref04iSet_Add [.ptr (some (q, 0)), .agg (dotC d)] s fun r s' => r = .bool (!hasD v ex d) ∧ RefAt s' q (addR v ex d).1 (addR v ex d).2 ∧ Mut [q] s s' := by
  refine ACalls.pre fun hw => q_ref04iSet_Add _ _ _ _ ⟨rfl, NewQ.intro hw rfl fun l1 s2 F1 => ⟨_, F1.own.at.rdc (by simp [dotC]), ?_⟩⟩
  refine ACalls.use (ref_Has_ok (h.ext F1.ext) (by omega) d) ?_
  rintro r s5 ⟨rfl, e5⟩ hw5
  have E5 := F1.ext.trans e5
  refine ⟨_, rfl, bsplit.mk (fun hh => ?_) (fun hh => ?_)⟩
  · have : addR v ex d = (v, ex) := by simp [addR, hh]
    rw [this]
    exact ⟨by simp [hh], h.ext E5, E5.mut⟩
  have hnin : d ∉ ex := by
    intro hin
    simp [hasD, hd, hin] at hh
  have hadd : addR v ex d = compact v (ins ex d) := by simp [addR, hh]
  rw [hadd]
  obtain ⟨h1, w, h2, h3, h5, h4⟩ := h
  have hq16 : ∀ s', Ext s s' → rd1 s' q (0 + 16) = some w := fun s' e => by rw [(h2.ext e).at.rd1]; exact ref_16 h1 w
  refine ⟨fun vs s' => ∃ left, vs = [left, .int .i64 (pos ex d : Nat)] ∧ WFs s' ∧ GroN dotC 2 [] s5 s' left (ex.take (pos ex d)), ?_, fun m vs s' => ∃ (i : Nat) (left : AV), vs = [left, .int .i64 (i : Nat)] ∧ i ≤ ex.length ∧ m = ex.length - i ∧ WFs s' ∧ GroN dotC 2 [] s5 s' left (ex.take i) ∧ ∀ (k : Nat) x, k < i → ex[k]? = some x → x.lt d = true, ex.length, ⟨0, _, rfl, by omega, rfl, hw5, by simpa using GroN.nil, fun k x hk => by omega⟩, ?_⟩
  · rintro v8 n9 s10 ⟨left, hl, hw10, g⟩
    simp only [List.cons.injEq, AV.int.injEq, true_and, and_true] at hl
    obtain ⟨rfl, rfl⟩ := hl
    have hpl := pos_le ex d
    refine ⟨_, (F1.own.ext (e5.trans g.chg.ext)).at.rdc (by simp [dotC]), GroN.append1 sl_s_Dot dotC_len dotC_one hw10 g (by simp) d (by rw [List.length_take]; omega) fun v15 s16 g16 hw16 _ => ?_⟩
    have E16 := E5.trans g16.chg.ext
    obtain ⟨v20, k1, k2⟩ := (h4.ext E16).from dotC_len u_s_Dot z_Dot h5 hpl .i64
    refine ⟨w, hq16 _ E16, v20, k1, GroN.appendS sl_s_Dot dotC_len dotC_one hw16 g16 (by simp) k2 (by simp; omega) u_s_Dot fun v21 s22 g22 hw22 _ => ?_⟩
    have E22 := E5.trans g22.chg.ext
    have hins : ex.take (pos ex d) ++ [d] ++ ex.drop (pos ex d) = ins ex d := by simp [ins]
    rw [hins] at g22
    refine qstore_one g22.isSlc.2 z_s_Dot (StQ.own hw22 (h2.ext E22) (by rw [ref_set_len h1]; simp) fun s25 P => ?_)
    have hP := P.at
    rw [wrs_one, List.set_append_right _ _ (by simp [h1])] at hP
    simp only [List.length_map, h1, Nat.zero_add, Nat.sub_self, List.set_cons_zero] at hP
    have hsp : ∀ x ∈ [q], s5.h x ≠ none := by
      intro x hx; obtain rfl : x = q := by simpa using hx
      rw [h2.ext E5]; simp
    have hnq : ∀ x ∈ labOf v21, x ∉ [q] := fun x hx hm => hsp x hm (g22.new x hx)
    have c25 : RefAt s25 q v (ins ex d) := ⟨h1, v21, hP, g22.isSlc.2, g22.isSlc.1, (g22.gro.mut P.mut hnq).sl dotC_len⟩
    have hmi : ∀ x ∈ ins ex d, x.may = true := by
      intro x hx
      rcases mem_ins.1 hx with rfl | hx
      · exact hd
      · exact hm x hx
    refine (ref_compact_ok c25 hv hmi (by rw [ins_len]; omega)).mono ?_
    rintro r s27 ⟨rfl, c27, m27⟩
    exact ⟨rfl, by simp [hh], c27, E22.mut.trans (P.mut.trans m27)⟩
  · rintro m left n s33 ⟨i, left', hi, h6, rfl, hw33, g, hlt⟩
    simp only [List.cons.injEq, AV.int.injEq, true_and, and_true] at hi
    obtain ⟨rfl, rfl⟩ := hi
    have E33 := E5.trans g.chg.ext
    refine ⟨w, hq16 _ E33, _, h4.lenB u_s_Dot _, bsplit.dec (fun hl => ?_) (fun hge => ?_)⟩
    · obtain ⟨x, hx⟩ := get_lt (l := ex) (i := i) (by omega)
      obtain ⟨la, o, h8, h9⟩ := (h4.ext E33).ix (by decide) dotC_len u_s_Dot z_Dot hx
      refine ⟨w, hq16 _ E33, la, o, h8 _, _, (h9 _ (Ext.refl _)).2, _, (F1.own.ext (e5.trans g.chg.ext)).at.rdc (by simp [dotC]), ?_⟩
      refine ACalls.use (ref04iLess_ok x d _) ?_
      rintro r s46 ⟨rfl, e46⟩ hw46
      refine ⟨_, rfl, bsplit.mk (fun hb => ?_) (fun hb => ?_)⟩
      · have ht : ex.take (i + 1) = ex.take i ++ [x] := by rw [List.take_add_one, hx]; rfl
        refine ⟨w, hq16 _ (E33.trans e46), la, o, h8 _, _, (h9 _ e46).2, GroN.append1 sl_s_Dot dotC_len dotC_one hw46 (g.step e46) (by simp) x (by rw [List.length_take]; omega) fun v' s' g' hw' _ => ?_⟩
        refine ⟨ex.length - (i + 1), by omega, i + 1, v', by rw [wrap_i (by omega)]; rfl, by omega, rfl, hw', by rw [ht]; exact g', fun k y hk hy => ?_⟩
        rcases Nat.lt_or_ge k i with h | h
        · exact hlt k y h hy
        · obtain rfl : k = i := by omega
          rw [hx] at hy; obtain rfl := Option.some.inj hy; exact hb
      · have hp : pos ex d = i := pos_eq h6 hlt fun y hy => by rw [hx] at hy; obtain rfl := Option.some.inj hy; exact hb
        exact ⟨left, by rw [hp], hw46, by rw [hp]; exact g.step e46⟩
    · have hp : pos ex d = i := pos_eq h6 hlt fun y hy => by rw [List.getElem?_eq_none (by omega)] at hy; cases hy
      exact ⟨left, by rw [hp], hw33, by rw [hp]; exact g⟩

/-- the next count -/
def nextD (v : List Int) (ex : List Dot) (r : Int) : Int × Int :=
  if 1 ≤ r ∧ r ≤ 16 then (if top v ex r ≥ 4611686018427387904 then (0, 5) else (top v ex r + 1, 0)) else (0, 2)

theorem top_rng {v : List Int} {ex : List Dot} (hv : VOk v) (hm : ∀ d ∈ ex, d.may = true) (r : Int) : 0 ≤ top v ex r ∧ top v ex r ≤ 4611686018427387904 := by
  unfold top
  have := hv.get (r - 1).toNat
  revert this
  generalize v.getD (r - 1).toNat 0 = n
  induction ex generalizing n with
  | nil => exact fun h => h
  | cons d l ih =>
    intro h
    have hd := Dot.may_iff.1 (hm d (by simp))
    simp only [List.foldl_cons]
    refine ih (fun x hx => hm x (by simp [hx])) _ ?_
    split
    · split <;> omega
    · exact h

theorem ctx_Next_ok {s : AS} {p : Nat} {v : List Int} {ex : List Dot} (h : CtxAt s p v ex) (hv : VOk v) (hm : ∀ d ∈ ex, d.may = true) (hn : ex.length < 2 ^ 30) (r : Int) :
    ACalls Try.prog F_ctx_Ctx_Next [.ptr (some (p, 0)), .int .i64 r] s fun x s' => x = .tup [.int .u64 (nextD v ex r).1, .int .i64 (nextD v ex r).2] ∧ Ext s s' := by
  refine q_ctx_Ctx_Next _ _ _ _ ?_
  refine ACalls.use (ctx_there_ok h) ?_
  rintro x s2 ⟨rfl, rfl⟩ hw2
  have hrng := top_rng hv hm r
  obtain ⟨h1, w, h2, h3, h4⟩ := h
  refine ⟨_, rfl, bsplit.no rfl ⟨fun vs s' => s' = s2 ∧ ∃ b, vs = [.bool b] ∧ (b = true ↔ ¬ (1 ≤ r ∧ r ≤ 16)), ?_, bsplit.dec (fun hl => ⟨rfl, _, rfl, by simp; omega⟩) (fun hl => ⟨rfl, _, rfl, by simp; omega⟩)⟩⟩
  rintro b s6 ⟨rfl, b', hb, hiff⟩
  simp only [List.cons.injEq, AV.bool.injEq, and_true] at hb
  subst hb
  refine bsplit.mk (fun hb => ?_) (fun hb => ?_)
  · refine ⟨?_, Ext.refl _⟩
    simp only [nextD, if_neg (hiff.1 hb)]
  · have hr : 1 ≤ r ∧ r ≤ 16 := by
      apply Decidable.byContradiction
      intro hc
      rw [hiff.2 hc] at hb; cases hb
    refine AsSome_some.2 ?_
    rw [wrap_i' (by omega)]
    refine ⟨_, _, vix (by omega), _, by rw [h2.at.rd1, Nat.zero_add, Nat.mul_one]; exact ctx_at h1 w (by omega), fun vs s' => vs = [.int .u64 (top v ex r)] ∧ Ext s6 s', ?_, w, by rw [h2.at.rd1]; exact ctx_16 h1 w, _, h4.lenB u_s_Dot _, fun m vs s' => ∃ i : Nat, vs = [.int .u64 ((ex.take i).foldl (fun n d => if d.r = r then (if d.c > n then d.c else n) else n) (v.getD (r - 1).toNat 0)), .int .i64 (i : Nat)] ∧ i ≤ ex.length ∧ m = ex.length - i ∧ Ext s6 s' ∧ WFs s', ex.length, ⟨0, rfl, by omega, rfl, Ext.refl _, hw2⟩, ?_⟩
    · rintro n s14 ⟨hn', e14⟩
      simp only [List.cons.injEq, AV.int.injEq, true_and, and_true] at hn'
      subst hn'
      refine bsplit.dec (fun hge => ?_) (fun hlt => ?_)
      · refine ⟨?_, e14⟩
        simp only [nextD, if_pos hr, if_pos hge]
      · refine ⟨?_, e14⟩
        simp only [nextD, if_pos hr, if_neg hlt]
        rw [wrap_u (by omega)]
    · rintro m n22 n23 s24 ⟨i, hi, h6, rfl, e24, hw24⟩
      simp only [List.cons.injEq, AV.int.injEq, true_and, and_true] at hi
      obtain ⟨rfl, rfl⟩ := hi
      refine bsplit.dec (fun hl => ?_) (fun hge => ?_)
      · obtain ⟨x, hx⟩ := get_lt (l := ex) (i := i) (by omega)
        obtain ⟨la, o, h8, h9⟩ := (h4.ext e24).ix (by decide) dotC_len u_s_Dot z_Dot hx
        have ht : ex.take (i + 1) = ex.take i ++ [x] := by rw [List.take_add_one, hx]; rfl
        refine ⟨la, o, h8 _, _, (h9 _ (Ext.refl _)).2, NewSt hw24 rfl rfl rfl fun l28 s30 F => ?_⟩
        have f0 : rd1 s30 l28 0 = some (.int .i64 x.r) := by rw [F.own.at.rd1]; rfl
        have f1 : rd1 s30 l28 1 = some (.int .u64 x.c) := by rw [F.own.at.rd1]; rfl
        have step : ∀ y, y = (ex.take (i + 1)).foldl (fun n d => if d.r = r then (if d.c > n then d.c else n) else n) (v.getD (r - 1).toNat 0) → ∃ m', m' < ex.length - i ∧ ∃ j : Nat, [AV.int .u64 y, .int .i64 (IntKind.wrap .i64 ((i : Int) + 1))] = [.int .u64 ((ex.take j).foldl (fun n d => if d.r = r then (if d.c > n then d.c else n) else n) (v.getD (r - 1).toNat 0)), .int .i64 (j : Nat)] ∧ j ≤ ex.length ∧ m' = ex.length - j ∧ Ext s6 s30 ∧ WFs s30 := by
          rintro y rfl
          exact ⟨ex.length - (i + 1), by omega, i + 1, by rw [wrap_i (by omega)]; rfl, by omega, rfl, e24.trans F.ext, F.wf⟩
        refine ⟨_, f0, bsplit.mk (fun hq => ⟨_, f1, _, amax2 _ _, step _ ?_⟩) (fun hq => step _ ?_)⟩
        · have : x.r = r := by simpa using hq
          rw [ht, List.foldl_append, List.foldl_cons, List.foldl_nil, if_pos this]
        · have : ¬ x.r = r := by simpa using hq
          rw [ht, List.foldl_append, List.foldl_cons, List.foldl_nil, if_neg this]
      · refine ⟨?_, e24⟩
        rw [List.take_of_length_le (by omega)]; rfl
end Go.Proofs.Ytbfchlimonimkaa
end

section
set_option linter.unusedSimpArgs false
set_option linter.unusedVariables false
namespace Go.Proofs.Ytbfchlimonimkaa
open Go.Am Go.Minster

theorem insert_end {s s1 : AS} {base : Option (Nat × Nat)} {lb cap len m mc ob : Nat} {ex eb : Bool} {w v : AV} (hm : 0 < m) (f1 : aslice T Y_s_Dot (.slc base len cap ex) (some (.int .i64 (len : Nat))) none none = some w)
    (wt : aappend T Y_s_Dot Y_s_Dot (.slc base len cap ex) (.slc (some (lb, ob)) m mc eb) s = some (v, s1)) :
    ACalls Try.prog F_slices_Insert__s_Dot_Dot [.slc base len cap ex, .int .i64 (len : Nat), .slc (some (lb, ob)) m mc eb] s fun v2 s2 => v2 = v ∧ s2 = s1 := by
  have lB : ∀ (a : Option (Nat × Nat)) (n c : Nat) (e : Bool) (s' : AS), alenB T Y_s_Dot (.slc a n c e) s' = some (.int .i64 (n : Nat)) := by intros; simp [alenB, u_s_Dot]
  exact q_slices_Insert__s_Dot_Dot _ _ _ _ _ ⟨_, f1, _, lB _ _ _ _ _, bsplit.no (by simp; omega) ⟨_, lB _ _ _ _ _, bsplit.yes (by simp) ⟨_, _, wt, rfl, rfl⟩⟩⟩

/-- slices.Insert, as the abstract machine runs it -/
def ainsert (T : TT) (t : TypeId) (args : List AV) (s : AS) : Option (AV × AS) :=
  match args with
  | [.slc base len cap ex, .int .i64 i, .slc (some (lb, ob)) m mc eb] =>
    if m = 0 then none else
    if i = (len : Int) then
      (match aslice T t (.slc base len cap ex) (some (.int .i64 i)) none none with
        | some _ => aappend T t t (.slc base len cap ex) (.slc (some (lb, ob)) m mc eb) s
        | none => none)
    else match base, ex with
      | some (l, 0), false => (match s.h l, s.h lb with
        | some (.cells cs 2 false), some (.cells bs gb false) =>
          if 0 ≤ i ∧ i < (len : Int) ∧ cap * 2 = cs.length ∧ len ≤ cap ∧ l ≠ lb ∧ gb ≠ 1 ∧ ob + m * 2 ≤ bs.length ∧ len + m ≤ 2 ^ 30 ∧ 1 ≤ s.st then
            some (.slc (some (s.nl + 2 * s.st, 0)) (len + m) (len + m) false, s.gave l 2 (.cells (insd cs ((bs.drop ob).take (m * 2)) i.toNat len) 2 false))
          else none
        | _, _ => none)
      | _, _ => none
  | _ => none

theorem ainsert_ok {args : List AV} {s s' : AS} {v : AV} (h : ainsert T Y_s_Dot args s = some (v, s')) : ACalls Try.prog F_slices_Insert__s_Dot_Dot args s fun v2 s2 => v2 = v ∧ s2 = s' := by
  unfold ainsert at h
  split at h
  · rename_i base len cap ex i lb ob m mc eb
    split at h
    · cases h
    · rename_i hm
      split at h
      · rename_i hi
        subst hi
        split at h
        · rename_i w hw
          exact insert_end (by omega) hw h
        · cases h
      · split at h
        · split at h
          · rename_i cs bs gb hl hb
            split at h
            · rename_i hc
              obtain ⟨h0, h1, h2, h3, h4, h5, h6, h7, h8⟩ := hc
              obtain ⟨rfl, rfl⟩ : _ ∧ _ := by simpa using h
              obtain ⟨k, rfl⟩ := Int.eq_ofNat_of_zero_le h0
              exact insert_mid hl h2 h3 (by omega) (by omega) h4 hb h5 h6 h7 h8
            · cases h
          · cases h
        · cases h
  · cases h

noncomputable def X1 : XP := XP.ofP Try.prog T fun g args s => if g = F_slices_Insert__s_Dot_Dot then ainsert T Y_s_Dot args s else none
theorem names1 : (Try.prog.funcs.all fun fn => !(fn.name == "runtime.NumGoroutine")) = true := by kernel_rfl
theorem X1_ok : XOk Try.prog X1 := by
  refine XOk.ofP hT hmx names1 fun g args s v s' h => ?_
  split at h
  · rename_i hg; subst hg; exact ainsert_ok h
  · cases h

def isT : Option (AV × AS) → Bool
  | some (.bool true, _) => true
  | _ => false
theorem of_isT {g : FuncId} {k : Nat} (h : isT (xcall X1 k g [] s0) = true) : ACalls Try.prog g [] s0 fun v s' => v = .bool true := by
  unfold isT at h
  split at h
  · rename_i s' he
    exact (xcall_sound X1_ok _ _ _ _ _ _ he).mono fun v s ⟨e, _⟩ => e
  · cases h

theorem own : ownKnob Try.prog.godebug = none := by kernel_rfl

set_option maxRecDepth 100000
theorem known_run : isT (xcall X1 100000 F_law04iknown [] s0) = true := by decide +kernel
theorem known_ok (s : AS) : ACalls Try.prog F_law04iknown [] s fun v s' => v = .bool true ∧ s' = s := ACalls.closed (by kernel_rfl) (of_isT known_run)

theorem laid : laidOutB Try.prog = true := by kernel_rfl
theorem flat_Dot : flatT Try.prog 5 Y_Dot = some [.int .i64, .int .u64] := by kernel_rfl

theorem min_i64 : IntKind.min .i64 = -9223372036854775808 := by decide
theorem max_i64 : IntKind.max .i64 = 9223372036854775807 := by decide
theorem min_u64 : IntKind.min .u64 = 0 := by decide
theorem max_u64 : IntKind.max .u64 = 18446744073709551615 := by decide
/-- a dot as it may come -/
def DotIn (d : Dot) : Prop := (-9223372036854775808 ≤ d.r ∧ d.r ≤ 9223372036854775807) ∧ (0 ≤ d.c ∧ d.c ≤ 18446744073709551615)
theorem dots_arg {H : Type} {enc : TypeId × Value → H} {W : World} {base : Nat} {v : Value} (hv : Value.okWide Try.prog W .any base Y_s_Dot v) (h : ∃ (d : DataW H) (p : List MemPlace), DataW.Trod enc Try.prog W 0 (fun _ => true) true Y_s_Dot v d p) :
    ∃ l : List Dot, Dots (sW W) (absV W.heap.size (MW W) v) l ∧ ∀ d ∈ l, DotIn d := by
  obtain ⟨d, p, h⟩ := h
  obtain ⟨C, h1, h2, _⟩ := slice_arg (d := 5) (ks := [.int .i64, .int .u64]) (hT.und _ _ u_s_Dot) flat_Dot (by kernel_rfl) (by decide) hv h
  obtain ⟨l, e1, e2, e3⟩ := cells_dec (f := dotC) (Q := DotIn) C fun c hc => by
    obtain ⟨a, c1, rfl, ⟨r, rfl, hr1, hr2⟩, g1⟩ := (h2 c hc).cons
    obtain ⟨b, c2, rfl, ⟨n, rfl, hn1, hn2⟩, g2⟩ := g1.cons
    obtain rfl := g2.nil
    rw [min_i64] at hr1
    rw [max_i64] at hr2
    rw [min_u64] at hn1
    rw [max_u64] at hn2
    exact ⟨⟨r, n⟩, rfl, ⟨hr1, hr2⟩, hn1, hn2⟩
  rw [e1, e2] at h1
  exact ⟨l, h1, e3⟩
end Go.Proofs.Ytbfchlimonimkaa
end

section
set_option linter.unusedSimpArgs false
set_option linter.unusedVariables false
namespace Go.Proofs.Ytbfchlimonimkaa
open Go.Am Go.Minster Go.ChangeShapes Go.WideShapes Go.ChangeAt Go.RowKit

/-- what holds of each context that the laws make -/
structure COk (v : List Int) (ex : List Dot) : Prop where
  v : VOk v
  r : Rising ex
  m : ∀ d ∈ ex, d.may = true
theorem COk.add {v : List Int} {ex : List Dot} (h : COk v ex) {d : Dot} (hd : d.may = true) : COk (addR v ex d).1 (addR v ex d).2 := by
  unfold addR
  split
  · exact h
  · rename_i hh
    have hnin : d ∉ ex := fun hin => hh (by simp [hasD, hd, hin])
    have hmi : ∀ x ∈ ins ex d, x.may = true := by
      intro x hx
      rcases mem_ins.1 hx with rfl | hx
      · exact hd
      · exact h.m x hx
    have hs := compact_sub v (ins ex d)
    exact ⟨compact_ok h.v hmi, (h.r.ins hnin).sub hs, fun x hx => hmi x (hs.subset hx)⟩
theorem addR_len {v : List Int} {ex : List Dot} {d : Dot} : (addR v ex d).2.length ≤ ex.length + 1 := by
  unfold addR
  split
  · simp
  · have := (compact_sub v (ins ex d)).length_le
    rw [ins_len] at this
    exact this
theorem addD_few {v : List Int} {ex : List Dot} {d : Dot} (hd : d.may = true) (hn : ex.length < 4096) : addD v ex d = (!hasD v ex d, 0, addR v ex d) := by
  have h1 := (compact_sub v (ins ex d)).length_le
  rw [ins_len] at h1
  unfold addD addR
  rw [hd]
  simp only [Bool.true_eq_false, if_false]
  cases hasD v ex d with
  | true => simp
  | false => simp only [Bool.false_eq_true, if_false, Bool.not_false]; rw [if_neg (by omega)]

theorem COk.zero : COk zeros [] := ⟨⟨rfl, by decide⟩, List.Pairwise.nil, by simp⟩

theorem neq_ctx_ref {s : AS} {p q : Nat} {v v' : List Int} {ex ex' : List Dot} (h : CtxAt s p v ex) (h' : RefAt s q v' ex') : p ≠ q := by
  rintro rfl
  obtain ⟨h1, w, h2, _⟩ := h
  obtain ⟨h1', w', h2', _⟩ := h'
  have := congrArg List.length (h2.at.inj h2'.at)
  rw [ctx_len h1, ref_set_len h1'] at this
  omega
theorem RefAt.keep {s s' : AS} {p q : Nat} {v v' : List Int} {ex ex' : List Dot} (h' : RefAt s q v' ex') (h : CtxAt s p v ex) (m : Mut [p] s s') : RefAt s' q v' ex' := by
  have hne := neq_ctx_ref h h'
  obtain ⟨h1, w, h2, h3, h4⟩ := h
  obtain ⟨h1', w', h2', h3', h5', h4'⟩ := h'
  refine ⟨h1', w', h2'.mut m (by simpa using Ne.symm hne), h3', h5', dots_keep h4' h2.at (x := [w, .bool true]) ?_ m⟩
  intro y hy n
  rcases List.mem_cons.1 hy with rfl | hy
  · exact dots_not_int h4 _ _
  · obtain rfl : y = .bool true := by simpa using hy
    intro h; cases h
theorem CtxAt.keep {s s' : AS} {p q : Nat} {v v' : List Int} {ex ex' : List Dot} (h : CtxAt s p v ex) (h' : RefAt s q v' ex') (m : Mut [q] s s') : CtxAt s' p v ex := by
  have hne := neq_ctx_ref h h'
  obtain ⟨h1, w, h2, h3, h4⟩ := h
  obtain ⟨h1', w', h2', h3', h5', h4'⟩ := h'
  refine ⟨h1, w, h2.mut m (by simpa using hne), h3, dots_keep h4 h2'.at (x := [w']) ?_ m⟩
  intro y hy n
  obtain rfl : y = w' := by simpa using hy
  exact dots_not_int h4' _ _
/-- what was there before stays where new objects are written -/
theorem Ext.wr {s s1 s2 : AS} {p : Nat} (e : Ext s s1) (hp : s.h p = none) (m : Mut [p] s1 s2) : Ext s s2 :=
  ⟨fun x o ho => m.1 x o (by simp only [List.mem_singleton]; rintro rfl; rw [hp] at ho; cases ho) (e.1 x o ho), Nat.le_trans e.2 m.2⟩

theorem set_new {s : AS} (hw : WFs s) {K : AS → Nat → Prop} (h : ∀ q s', s.h q = none → RefAt s' q zeros [] → Ext s s' → WFs s' → K s' q) :
    RdG (abuild T Y_minsterref04iSet []) fun g => One1 g (NewQ (.cells g 0 false) s fun l s' => K s' l) := by
  have hb : abuild T Y_minsterref04iSet [] = some (.agg (zeros.map (.int .u64) ++ [.slc none 0 0 true])) := by kernel_rfl
  refine ⟨_, hb, rfl, NewQ.intro hw rfl fun l s' F => h l s' F.no ⟨rfl, _, F.own, rfl, (fun h => by cases h), Sl.nil⟩ F.ext F.wf⟩

theorem ctxPlays_ok {s : AS} {a b : AV} {la lb : List Dot} (ha : Dots s a la) (hb : Dots s b lb) : ACalls Try.prog F_law04iCtxPlays [a, b] s fun r s' => r = .bool true := by
  refine ACalls.pre fun hw => q_law04iCtxPlays _ _ _ _ ⟨fun vs s' => s' = s ∧ ∃ t, vs = [.bool t] ∧ (t = false → la.length ≤ 200 ∧ lb.length ≤ 200), ?_, _, ha.lenB u_s_Dot _, bsplit.dec (fun h => ⟨rfl, _, rfl, by simp⟩) (fun h => ⟨_, hb.lenB u_s_Dot _, rfl, _, rfl, fun h2 => by simp at h2; omega⟩)⟩
  rintro t s3 ⟨rfl, t', ht, hsmall⟩
  simp only [List.cons.injEq, AV.bool.injEq, and_true] at ht
  subst ht
  refine bsplit.mk (fun hb => ?_) (fun hf => ?_)
  · refine (known_ok _).mono ?_
    rintro r s' ⟨rfl, rfl⟩
    exact ⟨_, rfl, rfl⟩
  obtain ⟨hla, hlb⟩ := hsmall hf
  refine ACalls.use (ctx_New_ok _) ?_
  rintro r s8 ⟨p, rfl, hp, hc, e8⟩ hw8
  refine ⟨_, rfl, set_new hw8 fun q s12 hq hr e12 hw12 => ?_⟩
  have hq3 := e8.none hq
  have E12 := e8.trans e12
  refine ⟨fun vs s' => ∃ v ex, COk v ex ∧ ex.length ≤ 200 ∧ Ext s3 s' ∧ WFs s' ∧ CtxAt s' p v ex ∧ RefAt s' q v ex, ?_, fun m vs s' => ∃ (i : Nat) (v : List Int) (ex : List Dot), vs = [.int .i64 (i : Nat)] ∧ i ≤ la.length ∧ m = la.length - i ∧ COk v ex ∧ ex.length ≤ i ∧ Ext s3 s' ∧ WFs s' ∧ CtxAt s' p v ex ∧ RefAt s' q v ex, la.length, ⟨0, _, _, rfl, by omega, rfl, COk.zero, by simp, E12, hw12, hc.ext e12, hr⟩, ?_⟩
  · rintro s14 ⟨v, ex, ok, hlen, e14, hw14, c14, r14⟩
    refine ⟨fun vs s' => Ext s3 s' ∧ WFs s' ∧ CtxAt s' p v ex ∧ RefAt s' q v ex, ?_, fun m vs s' => ∃ (i : Nat), vs = [.int .i64 (i : Nat)] ∧ i ≤ lb.length ∧ m = lb.length - i ∧ Ext s3 s' ∧ WFs s' ∧ CtxAt s' p v ex ∧ RefAt s' q v ex, lb.length, ⟨0, rfl, by omega, rfl, e14, hw14, c14, r14⟩, ?_⟩
    · rintro s16 ⟨e16, hw16, c16, r16⟩
      refine ⟨fun m vs s' => ∃ (i : Nat), vs = [.int .i64 ((i : Int) - 1)] ∧ i ≤ 20 ∧ m = 20 - i ∧ Ext s3 s' ∧ WFs s' ∧ CtxAt s' p v ex ∧ RefAt s' q v ex, 20, ⟨0, rfl, by omega, rfl, e16, hw16, c16, r16⟩, ?_⟩
      rintro m n s21 ⟨i, hi, hi20, rfl, e21, hw21, c21, r21⟩
      simp only [List.cons.injEq, AV.int.injEq, true_and, and_true] at hi
      subst hi
      refine bsplit.dec (fun hlt => ?_) (fun hge => ?_)
      · refine ACalls.use (ctx_Next_ok c21 ok.v ok.m (by omega) _) ?_
        rintro r s23 ⟨rfl, e23⟩ hw23
        have cont : ∀ s', Ext s3 s' → WFs s' → CtxAt s' p v ex → RefAt s' q v ex → ∃ m', m' < 20 - i ∧ ∃ j : Nat, [AV.int .i64 (IntKind.wrap .i64 (((i : Int) - 1) + 1))] = [.int .i64 ((j : Int) - 1)] ∧ j ≤ 20 ∧ m' = 20 - j ∧ Ext s3 s' ∧ WFs s' ∧ CtxAt s' p v ex ∧ RefAt s' q v ex := by
          intro s' a b c d
          refine ⟨20 - (i + 1), by omega, i + 1, ?_, by omega, rfl, a, b, c, d⟩
          rw [wrap_i' (by omega)]
          congr 2; omega
        refine ⟨_, _, rfl, fun vs s' => s' = s23 ∧ ∃ t, vs = [.bool t] ∧ (t = true ↔ ¬ (1 ≤ (i : Int) - 1 ∧ (i : Int) - 1 ≤ 16)), ?_, bsplit.dec (fun hl => ⟨rfl, _, rfl, by simp; omega⟩) (fun hl => ⟨rfl, _, rfl, by simp; omega⟩)⟩
        rintro t s28 ⟨rfl, t', ht, hiff⟩
        simp only [List.cons.injEq, AV.bool.injEq, and_true] at ht
        subst ht
        refine bsplit.mk (fun ht => ?_) (fun ht => ?_)
        · have hr := hiff.1 ht
          simp only [nextD, if_neg hr]
          exact bsplit.no rfl (bsplit.no rfl (cont _ (e21.trans e23) hw23 (c21.ext e23) (r21.ext e23)))
        · have hr : 1 ≤ (i : Int) - 1 ∧ (i : Int) - 1 ≤ 16 := by
            apply Decidable.byContradiction
            intro hc
            rw [hiff.2 hc] at ht; cases ht
          have hrng := top_rng ok.v ok.m ((i : Int) - 1)
          refine ACalls.use (ref_Next_ok (r21.ext e23) (by omega) hr) ?_
          rintro r s30 ⟨rfl, rfl⟩ hw30
          refine ⟨_, rfl, bsplit.mk (fun htop => ?_) (fun htop => ?_)⟩
          · have htop' : top v ex ((i : Int) - 1) = 4611686018427387904 := by simpa using htop
            simp only [nextD, if_pos hr, htop', Int.le_refl, ge_iff_le, if_true]
            exact bsplit.no rfl (bsplit.no rfl (cont _ (e21.trans e23) hw23 (c21.ext e23) (r21.ext e23)))
          · have htop' : ¬ top v ex ((i : Int) - 1) = 4611686018427387904 := by simpa using htop
            have hlt : ¬ top v ex ((i : Int) - 1) ≥ 4611686018427387904 := by omega
            simp only [nextD, if_pos hr, if_neg hlt]
            rw [wrap_u (by omega)]
            exact bsplit.no rfl (bsplit.no (by simp) (cont _ (e21.trans e23) hw23 (c21.ext e23) (r21.ext e23)))
      · refine (known_ok _).mono ?_
        rintro r s' ⟨rfl, rfl⟩
        exact ⟨_, rfl, rfl⟩
    · rintro m n s39 ⟨i, hi, h6, rfl, e39, hw39, c39, r39⟩
      simp only [List.cons.injEq, AV.int.injEq, true_and, and_true] at hi
      subst hi
      refine ⟨_, hb.lenB u_s_Dot _, bsplit.dec (fun hlt => ?_) (fun hge => ⟨e39, hw39, c39, r39⟩)⟩
      obtain ⟨x, hx⟩ := get_lt (l := lb) (i := i) (by omega)
      obtain ⟨lx, o, h8, h9⟩ := hb.ix (by decide) dotC_len u_s_Dot z_Dot hx
      have gx := fun s' e => (h9 s' e).2
      have cont : ∀ s', Ext s39 s' → WFs s' → ∃ m', m' < lb.length - i ∧ ∃ j : Nat, [AV.int .i64 (IntKind.wrap .i64 ((i : Int) + 1))] = [.int .i64 (j : Nat)] ∧ j ≤ lb.length ∧ m' = lb.length - j ∧ Ext s3 s' ∧ WFs s' ∧ CtxAt s' p v ex ∧ RefAt s' q v ex :=
        fun s' e hw => ⟨lb.length - (i + 1), by omega, i + 1, by rw [wrap_i (by omega)]; rfl, by omega, rfl, e39.trans e, hw, c39.ext e, r39.ext e⟩
      refine ⟨fun _ _ _ _ => True, fun k _ r => (k = 5 ∨ k = 11 → r = .bool (hasD v ex x)) ∧ (k = 26 → ∀ y, lb[i - 1]? = some y → r = .bool (y.lt x)), fun _ _ _ _ _ _ _ => trivial, lx, o, h8 _, _, gx _ e39, fun s44 e44 w44 _ => ?_, ⟨.bool (hasD v ex x), (fun _ => rfl), (fun h => by cases h)⟩, ?_⟩
      · refine (ctx_Has_ok (c39.ext e44) ok.r (by omega) x).mono ?_
        rintro r s' ⟨rfl, e⟩
        exact ⟨_, rfl, e, trivial, (fun _ => rfl), (fun h => by cases h)⟩
      rintro r ⟨hr, _⟩
      obtain rfl := hr (.inl rfl)
      refine ⟨_, rfl, lx, o, h8 _, _, gx _ e39, fun s53 e53 w53 _ => ?_, ⟨.bool (hasD v ex x), (fun _ => rfl), (fun h => by cases h)⟩, ?_⟩
      · refine (ref_Has_ok (r39.ext e53) (by omega) x).mono ?_
        rintro r s' ⟨rfl, e⟩
        exact ⟨_, rfl, e, trivial, (fun _ => rfl), (fun h => by cases h)⟩
      rintro r ⟨hr, _⟩
      obtain rfl := hr (.inr rfl)
      refine ⟨_, rfl, bsplit.no (by simp) (bsplit.dec (fun hpos => ?_) (fun hz => ?_))⟩
      · obtain ⟨y, hy⟩ := get_lt (l := lb) (i := i - 1) (by omega)
        obtain ⟨ly, o', k8, k9⟩ := hb.ix (by decide) dotC_len u_s_Dot z_Dot hy
        have gy := fun s' e => (k9 s' e).2
        rw [wrap_i' (by omega), show (i : Int) - 1 = ((i - 1 : Nat) : Int) by omega]
        refine ⟨ly, o', k8 _, _, gy _ e39, lx, o, h8 _, _, gx _ e39, fun s67 e67 w67 _ => ?_, ⟨.bool (y.lt x), (fun h => by rcases h with h | h <;> cases h), (fun _ y' hy' => by rw [hy] at hy'; obtain rfl := Option.some.inj hy'; rfl)⟩, ?_⟩
        · refine (ctx_Less_ok y x _).mono ?_
          rintro r s' ⟨rfl, e⟩
          exact ⟨_, rfl, e, trivial, (fun h => by rcases h with h | h <;> cases h), (fun _ y' hy' => by rw [hy] at hy'; obtain rfl := Option.some.inj hy'; rfl)⟩
        rintro r ⟨_, hr⟩
        obtain rfl := hr rfl y hy
        refine ⟨_, rfl, ly, o', k8 _, _, gy _ e39, lx, o, h8 _, _, gx _ e39, fun s79 e79 w79 _ => ?_⟩
        refine ACalls.use (ref04iLess_ok y x _) ?_
        rintro r s' ⟨rfl, e⟩ hw'
        exact ⟨_, rfl, bsplit.no (by simp) (cont _ (e79.trans e) hw')⟩
      · exact fun s84 e84 w84 _ => cont _ e84 w84
  · rintro m n s90 ⟨i, v, ex, hi, h6, rfl, ok, hlen, e90, hw90, c90, r90⟩
    simp only [List.cons.injEq, AV.int.injEq, true_and, and_true] at hi
    subst hi
    refine ⟨_, ha.lenB u_s_Dot _, bsplit.dec (fun hlt => ?_) (fun hge => ⟨v, ex, ok, by omega, e90, hw90, c90, r90⟩)⟩
    obtain ⟨x, hx⟩ := get_lt (l := la) (i := i) (by omega)
    obtain ⟨lx, o, h8, h9⟩ := ha.ix (by decide) dotC_len u_s_Dot z_Dot hx
    have gx := fun s' e => (h9 s' e).2
    have cont : ∀ s' v' ex', COk v' ex' → ex'.length ≤ ex.length + 1 → Ext s3 s' → WFs s' → CtxAt s' p v' ex' → RefAt s' q v' ex' → ∃ m', m' < la.length - i ∧ ∃ (j : Nat) (v : List Int) (ex : List Dot), [AV.int .i64 (IntKind.wrap .i64 ((i : Int) + 1))] = [.int .i64 (j : Nat)] ∧ j ≤ la.length ∧ m' = la.length - j ∧ COk v ex ∧ ex.length ≤ j ∧ Ext s3 s' ∧ WFs s' ∧ CtxAt s' p v ex ∧ RefAt s' q v ex :=
      fun s' v' ex' a b c d e f => ⟨la.length - (i + 1), by omega, i + 1, v', ex', by rw [wrap_i (by omega)]; rfl, by omega, rfl, a, by omega, c, d, e, f⟩
    refine ⟨lx, o, h8 _, _, gx _ e90, ?_⟩
    refine ACalls.use (ctx_Add_ok c90 ok.v ok.r ok.m (by omega) x) ?_
    rintro r s96 ⟨rfl, c96, m96⟩ hw96
    have e96 := Ext.wr e90 hp m96
    have r96 := r90.keep c90 m96
    refine ⟨_, _, rfl, lx, o, h8 _, _, gx _ e96, ?_⟩
    refine ACalls.use (ref04iMay_ok x _) ?_
    rintro r s103 ⟨rfl, e103⟩ hw103
    have E103 := e96.trans e103
    refine ⟨_, rfl, bsplit.mk (fun hm => ?_) (fun hm => ?_)⟩
    · simp only [Bool.not_eq_true'] at hm
      have hadd : addD v ex x = (false, 2, v, ex) := by simp [addD, hm]
      rw [hadd] at c96 ⊢
      refine bsplit.no rfl (bsplit.no rfl ⟨lx, o, h8 _, _, gx _ E103, ?_⟩)
      refine ACalls.use (ctx_May_ok x _) ?_
      rintro r s109 ⟨rfl, e109⟩ hw109
      exact ⟨_, rfl, bsplit.no hm (cont _ v ex ok (by omega) (E103.trans e109) hw109 ((c96.ext e103).ext e109) ((r96.ext e103).ext e109))⟩
    · simp only [Bool.not_eq_false'] at hm
      have hadd := addD_few (v := v) (ex := ex) hm (by omega)
      rw [hadd] at c96 ⊢
      change CtxAt s96 p (addR v ex x).1 (addR v ex x).2 at c96
      refine bsplit.no rfl ⟨lx, o, h8 _, _, gx _ E103, ?_⟩
      refine ACalls.use (ctx_May_ok x _) ?_
      rintro r s115 ⟨rfl, e115⟩ hw115
      have E115 := E103.trans e115
      have c115 := (c96.ext e103).ext e115
      have r115 := (r96.ext e103).ext e115
      refine ⟨_, rfl, bsplit.no (by simp [hm]) ⟨lx, o, h8 _, _, gx _ E115, ?_⟩⟩
      refine ACalls.use (ref_Add_ok r115 ok.v ok.r ok.m (by omega) hm) ?_
      rintro r s121 ⟨rfl, r121, m121⟩ hw121
      have c121 := c115.keep r115 m121
      have E121 := Ext.wr E115 hq3 m121
      have hl := addR_len (v := v) (ex := ex) (d := x)
      refine ⟨_, rfl, bsplit.no (by simp) ?_⟩
      refine ACalls.use (same_ok c121 r121 (by omega)) ?_
      rintro r s124 ⟨rfl, e124⟩ hw124
      refine ⟨_, rfl, bsplit.no (by simp) (cont _ _ _ (ok.add hm) hl (E121.trans e124) hw124 (c121.ext e124) (r121.ext e124))⟩

set_option maxRecDepth 100000 in
theorem ctxPlays_lifted (os : Os) (started : os.Started) (H : Type) (enc : TypeId × Value → H) :
    ReturnsInHanded {} Try.checked os F_law04iCtxPlays .any (Rows.ctxPlaysSpec.pre6 enc Try.prog Try.f3 Rows.ctxPlaysRow.domain false) (Rows.ctxPlaysSpec.post enc Try.prog Try.f3 false true false false) := by
  refine law_open (C := Try.checked) (rt := 4) own started (by kernel_rfl) Try.func3
    (ChangeSpec.witness6 (enc := enc) (C := Try.checked) false ⟨#[], #[.slice none 0 0, .slice none 0 0], []⟩ 8 (by kernel_rfl) (by kernel_rfl) (by kernel_rfl) (by kernel_rfl)) (by kernel_rfl) rfl (by kernel_rfl) Try.underlying4 laid (by kernel_rfl) ?_ ?_
  · intro ds hds
    rw [Try.params3] at hds
    match ds, hds with
    | [d1, d2], _ => rfl
  · intro W base args hlen hargs
    rw [Try.params3] at hlen hargs
    match args, hlen with
    | [a, b], _ =>
      obtain ⟨la, ha, _⟩ := dots_arg (hargs 0 _ a rfl rfl).1 (hargs 0 _ a rfl rfl).2
      obtain ⟨lb, hb, _⟩ := dots_arg (hargs 1 _ b rfl rfl).1 (hargs 1 _ b rfl rfl).2
      exact ctxPlays_ok ha hb

theorem ctxPlays_holds : Rows.CtxPlaysSaid :=
  OpenClaim.holds_of_wide 3 Try.f3 rfl rfl rfl rfl rfl rfl rfl ⟨rfl, rfl, rfl, rfl, rfl⟩ rfl rfl rfl rfl rfl (by kernel_rfl) Try.func3 (by kernel_rfl)
    (of_decide_eq_true (by kernel_rfl)) (by unfold Func.isWrapper; rw [if_neg (by decide +kernel)]; exact ⟨rfl, rfl⟩)
    (fun os started H enc _ => ctxPlays_lifted os started H enc)
end Go.Proofs.Ytbfchlimonimkaa
end

section
set_option linter.unusedSimpArgs false
set_option linter.unusedVariables false
namespace Go.Proofs.Ytbfchlimonimkaa
open Go.Am Go.Minster Go.ChangeShapes Go.WideShapes Go.ChangeAt Go.RowKit

theorem Equal_ok {s : AS} {v v' : AV} {l l' : List Dot} (h : Dots s v l) (h' : Dots s v' l') (hn : l.length ≤ 2 ^ 40) : ACalls Try.prog F_slices_Equal__s_Dot_Dot [v, v'] s fun r s' => r = .bool (decide (l = l')) ∧ s' = s := by
  refine q_slices_Equal__s_Dot_Dot _ _ _ _ ⟨_, h.lenB u_s_Dot _, _, h'.lenB u_s_Dot _, bsplit.mk (fun hq => ?_) (fun hq => ?_)⟩
  · refine ⟨?_, rfl⟩
    have hq' : ¬ (l.length : Int) = (l'.length : Int) := by simpa using hq
    have : l.length ≠ l'.length := by omega
    have : l ≠ l' := fun e => this (by rw [e])
    simp [this]
  · have hlen : l.length = l'.length := by
      have : (l.length : Int) = (l'.length : Int) := by simpa using hq
      omega
    refine ⟨_, h.lenB u_s_Dot _, fun m vs s' => ∃ i : Nat, vs = [.int .i64 (i : Nat)] ∧ i ≤ l.length ∧ m = l.length - i ∧ s' = s ∧ l.take i = l'.take i, l.length, ⟨0, rfl, by omega, rfl, rfl, by simp⟩, ?_⟩
    rintro m n s20 ⟨i, hi, h6, rfl, rfl, h7⟩
    simp only [List.cons.injEq, AV.int.injEq, true_and, and_true] at hi
    subst hi
    refine bsplit.dec (fun hlt => ?_) (fun hge => ?_)
    · obtain ⟨x, hx⟩ := get_lt (l := l) (i := i) (by omega)
      obtain ⟨y, hy⟩ := get_lt (l := l') (i := i) (by omega)
      obtain ⟨la, o, h8, h9⟩ := h.ix (by decide) dotC_len u_s_Dot z_Dot hx
      obtain ⟨la', o', h8', h9'⟩ := h'.ix (by decide) dotC_len u_s_Dot z_Dot hy
      refine ⟨la, o, h8 _, _, (h9 _ (Ext.refl _)).2, la', o', h8' _, _, (h9' _ (Ext.refl _)).2, _, dot_eq x y, bsplit.mk (fun hq => ?_) (fun hq => ?_)⟩
      · refine ⟨?_, rfl⟩
        have hne : x ≠ y := by simpa using hq
        have : l ≠ l' := fun e => hne (by subst e; rw [hx] at hy; exact Option.some.inj hy)
        simp [this]
      · have he : x = y := by simpa using hq
        subst he
        refine ⟨l.length - (i + 1), by omega, i + 1, by rw [wrap_i (by omega)]; rfl, by omega, rfl, rfl, ?_⟩
        rw [List.take_add_one, List.take_add_one, h7, hx, hy]
    · refine ⟨?_, rfl⟩
      rw [List.take_of_length_le (by omega), List.take_of_length_le (by omega)] at h7
      simp [h7]

theorem Same_ok {s : AS} {p q : Nat} {v v' : List Int} {ex ex' : List Dot} (h : CtxAt s p v ex) (h' : CtxAt s q v' ex') (hn : ex.length ≤ 2 ^ 40) : ACalls Try.prog F_ctx_Ctx_Same [.ptr (some (p, 0)), .ptr (some (q, 0))] s fun r s' => r = .bool (decide (v = v') && decide (ex = ex')) ∧ s' = s := by
  refine q_ctx_Ctx_Same _ _ _ _ ⟨fun vs s' => vs = [.bool false] ∧ s' = s, ?_, ?_⟩
  · rintro b s3 ⟨hb, rfl⟩
    simp only [List.cons.injEq, AV.bool.injEq, and_true] at hb
    subst hb
    obtain ⟨h1, w, h2, h3, h4⟩ := h
    obtain ⟨h1', w', h2', h3', h4'⟩ := h'
    refine bsplit.no rfl ⟨_, h2.at.rdc (by rw [ctx_len h1]; omega), _, h2'.at.rdc (by rw [ctx_len h1']; omega), ?_⟩
    rw [ctx_take h1, ctx_take h1']
    refine ⟨_, vec_eq h1 h1', bsplit.dec (fun hv => ?_) (fun hv => ?_)⟩
    · refine ⟨w, by rw [h2.at.rd1]; exact ctx_16 h1 w, w', by rw [h2'.at.rd1]; exact ctx_16 h1' w', ?_⟩
      refine (Equal_ok h4 h4' hn).mono ?_
      rintro r s' ⟨rfl, rfl⟩
      exact ⟨_, rfl, by simp [hv], rfl⟩
    · exact ⟨by simp [hv], rfl⟩
  · refine (ctx_there_ok h).mono ?_
    rintro r s' ⟨rfl, rfl⟩
    refine ⟨_, rfl, bsplit.no rfl ?_⟩
    refine (ctx_there_ok h').mono ?_
    rintro r s'' ⟨rfl, rfl⟩
    exact ⟨_, rfl, rfl, rfl⟩

/-- may a vector and exceptions be a context? -/
structure OfOk (v : List Int) (l : List Dot) : Prop where
  hv : ∀ x ∈ v, x ≤ 4611686018427387904
  hl : ∀ (i : Nat) x, l[i]? = some x → x.may = true ∧ (∀ y, 0 < i → l[i - 1]? = some y → y.lt x = true) ∧ v.getD (x.r - 1).toNat 0 + 1 < x.c
/-- a vector as it may come -/
structure VIn (v : List Int) : Prop where
  len : v.length = 16
  rng : ∀ x ∈ v, 0 ≤ x ∧ x ≤ 18446744073709551615
theorem VIn.get {v : List Int} (h : VIn v) (i : Nat) : 0 ≤ v.getD i 0 ∧ v.getD i 0 ≤ 18446744073709551615 := by
  rw [List.getD_eq_getElem?_getD]
  cases hq : v[i]? with
  | none => simp
  | some x => exact h.rng x (List.mem_of_getElem? hq)

theorem pl_Ctx : places T Y_ctx_Ctx = some [(0, 16), (16, 1), (17, 1)] := by kernel_rfl
theorem pl_Set : places T Y_minsterref04iSet = some [(0, 16), (16, 1)] := by kernel_rfl
theorem acells_all {l : List AV} (h : l.all AV.one = true) : acells (.agg l) = some l := by rw [acells_agg, if_pos h]
theorem acells_1 {v : AV} (h : v.one = true) : acells v = some [v] := by cases v <;> first | rfl | cases h
theorem build_Ctx {v : List Int} (h : v.length = 16) {w : AV} (hw : w.one = true) : abuild T Y_ctx_Ctx [(0, .agg (v.map (.int .u64))), (1, w), (2, .bool true)] = some (.agg (v.map (.int .u64) ++ [w, .bool true])) := by
  rw [abuild_pl pl_Ctx zr_ctx_Ctx rfl]
  have e0 := afill_step (pl := fun i => [(0, 16), (16, 1), (17, 1)][i]?) (pre := []) (mid := zeros.map (.int .u64)) (post := [.slc none 0 0 true, .bool false]) (c := v.map (.int .u64)) (i := 0) (sz := 16) (v := .agg (v.map (.int .u64))) (rest := [(1, w), (2, .bool true)]) rfl (acells_all (ints_one _ _)) (by simp [h]) rfl
  have e1 := afill_step (pl := fun i => [(0, 16), (16, 1), (17, 1)][i]?) (pre := v.map (.int .u64)) (mid := [.slc none 0 0 true]) (post := [.bool false]) (c := [w]) (i := 1) (sz := 1) (v := w) (rest := [(2, .bool true)]) (by simp [h]) (acells_1 hw) rfl rfl
  have e2 := afill_step (pl := fun i => [(0, 16), (16, 1), (17, 1)][i]?) (pre := v.map (.int .u64) ++ [w]) (mid := [.bool false]) (post := []) (c := [.bool true]) (i := 2) (sz := 1) (v := .bool true) (rest := []) (by simp [h]) rfl rfl rfl
  refine (congrArg (Option.map AV.agg) e0).trans ?_
  simp only [List.nil_append]
  rw [show v.map (AV.int .u64) ++ [.slc none 0 0 true, .bool false] = v.map (AV.int .u64) ++ [.slc none 0 0 true] ++ [.bool false] by simp, e1]
  rw [show v.map (AV.int .u64) ++ [w] ++ [.bool false] = v.map (AV.int .u64) ++ [w] ++ [.bool false] ++ [] by simp, e2]
  simp [afill]
theorem build_Set {v : List Int} (h : v.length = 16) {w : AV} (hw : w.one = true) : abuild T Y_minsterref04iSet [(0, .agg (v.map (.int .u64))), (1, w)] = some (.agg (v.map (.int .u64) ++ [w])) := by
  rw [abuild_pl pl_Set zr_minsterref04iSet rfl]
  have e0 := afill_step (pl := fun i => [(0, 16), (16, 1)][i]?) (pre := []) (mid := zeros.map (.int .u64)) (post := [.slc none 0 0 true]) (c := v.map (.int .u64)) (i := 0) (sz := 16) (v := .agg (v.map (.int .u64))) (rest := [(1, w)]) rfl (acells_all (ints_one _ _)) (by simp [h]) rfl
  have e1 := afill_step (pl := fun i => [(0, 16), (16, 1)][i]?) (pre := v.map (.int .u64)) (mid := [.slc none 0 0 true]) (post := []) (c := [w]) (i := 1) (sz := 1) (v := w) (rest := []) (by simp [h]) (acells_1 hw) rfl rfl
  refine (congrArg (Option.map AV.agg) e0).trans ?_
  simp only [List.nil_append]
  rw [show v.map (AV.int .u64) ++ [.slc none 0 0 true] = v.map (AV.int .u64) ++ [.slc none 0 0 true] ++ [] by simp, e1]
  simp [afill]

theorem aix_vec {v : List Int} (h : v.length = 16) {i : Nat} (hi : i < 16) : aindex T Y_Vector (.agg (v.map (.int .u64))) (.int .i64 (i : Nat)) = some (.int .u64 (v.getD i 0)) := by
  have : (0 : Int) ≤ (i : Int) ∧ (i : Int) < ((16 : Nat) : Int) := by omega
  simp only [aindex, u_Vector, z_uint64, Option.bind_some, if_pos this, part_s ag_uint64, Int.toNat_natCast, Nat.mul_one, List.getElem?_map]
  rw [List.getElem?_eq_getElem (by omega), List.getD_eq_getElem?_getD, List.getElem?_eq_getElem (by omega)]; rfl
theorem vec_at {v : List Int} (h : v.length = 16) {i : Nat} (hi : i < 16) : (v.map (AV.int .u64))[i]? = some (.int .u64 (v.getD i 0)) := by
  rw [List.getElem?_map, List.getElem?_eq_getElem (by omega), List.getD_eq_getElem?_getD, List.getElem?_eq_getElem (by omega)]; rfl
theorem vec_some {v : List Int} (h : v.length = 16) {i : Nat} (hi : i < 16) : v[i]? = some (v.getD i 0) := by
  rw [List.getD_eq_getElem?_getD, List.getElem?_eq_getElem (by omega)]; rfl

theorem ref_Of_ok {s : AS} {a : AV} {v : List Int} {l : List Dot} (hv : VIn v) (hl : Dots s a l) (ha : a ≠ .emp ∧ a.one = true) (hn : l.length ≤ 4096) :
    ACalls Try.prog F_ref04iOf [.agg (v.map (.int .u64)), a] s fun r s' => Ext s s' ∧ ((¬ OfOk v l ∧ r = .tup [.ptr none, .bool false]) ∨ (OfOk v l ∧ ∃ q, s.h q = none ∧ r = .tup [.ptr (some (q, 0)), .bool true] ∧ Own s' q (v.map (AV.int .u64) ++ [a]))) := by
  have hlen := hv.len
  refine ACalls.pre fun hw => q_ref04iOf _ _ _ _ ⟨ints_one _ _, NewQ.intro hw rfl fun l1 s2 F => ?_⟩
  have hat := F.own.at
  refine ⟨fun vs s' => s' = s2 ∧ ∀ x ∈ v, x ≤ 4611686018427387904, ?_, fun m vs s' => ∃ i : Nat, vs = [.int .i64 (i : Nat)] ∧ i ≤ 16 ∧ m = 16 - i ∧ s' = s2 ∧ ∀ (k : Nat) x, k < i → v[k]? = some x → x ≤ 4611686018427387904, 16, ⟨0, rfl, by omega, rfl, rfl, by omega⟩, ?_⟩
  · rintro s4 ⟨rfl, hvm⟩
    have cont : ∀ (i : Nat), i < l.length → ∀ s', Ext s4 s' → WFs s' → (∀ (k : Nat) x, k < i + 1 → l[k]? = some x → x.may = true ∧ (∀ y, 0 < k → l[k - 1]? = some y → y.lt x = true) ∧ v.getD (x.r - 1).toNat 0 + 1 < x.c) → ∃ m', m' < l.length - i ∧ ∃ j : Nat, [AV.int .i64 (IntKind.wrap .i64 ((i : Int) + 1))] = [.int .i64 (j : Nat)] ∧ j ≤ l.length ∧ m' = l.length - j ∧ Ext s4 s' ∧ WFs s' ∧ (∀ (k : Nat) x, k < j → l[k]? = some x → x.may = true ∧ (∀ y, 0 < k → l[k - 1]? = some y → y.lt x = true) ∧ v.getD (x.r - 1).toNat 0 + 1 < x.c) :=
      fun i hi s' e w h => ⟨l.length - (i + 1), by omega, i + 1, by rw [wrap_i (by omega)]; rfl, by omega, rfl, e, w, h⟩
    refine ⟨fun vs s' => Ext s4 s' ∧ WFs s' ∧ OfOk v l, ?_, fun m vs s' => ∃ i : Nat, vs = [.int .i64 (i : Nat)] ∧ i ≤ l.length ∧ m = l.length - i ∧ Ext s4 s' ∧ WFs s' ∧ (∀ (k : Nat) x, k < i → l[k]? = some x → x.may = true ∧ (∀ y, 0 < k → l[k - 1]? = some y → y.lt x = true) ∧ v.getD (x.r - 1).toNat 0 + 1 < x.c), l.length, ⟨0, rfl, by omega, rfl, Ext.refl _, F.wf, by omega⟩, ?_⟩
    · rintro s6 ⟨e6, w6, ok⟩
      refine ⟨_, (hat.ext e6).rdc (by simp [hlen]), ?_⟩
      rw [List.drop_zero, List.take_of_length_le (by simp [hlen])]
      refine ⟨_, build_Set hlen ha.2, by simp [ha.2], NewQ.intro w6 rfl fun q s10 F10 => ⟨F.ext.trans (e6.trans F10.ext), .inr ⟨ok, q, (F.ext.trans e6).none F10.no, rfl, F10.own⟩⟩⟩
    · rintro m n s15 ⟨i, hi, h6, rfl, e15, w15, hk⟩
      simp only [List.cons.injEq, AV.int.injEq, true_and, and_true] at hi
      subst hi
      have E15 := F.ext.trans e15
      refine ⟨_, hl.lenB u_s_Dot _, bsplit.dec (fun hlt => ?_) (fun hge => ⟨e15, w15, hvm, fun k x hx => hk k x (by
        rcases Nat.lt_or_ge k l.length with h | h
        · omega
        · rw [List.getElem?_eq_none h] at hx; cases hx) hx⟩)⟩
      obtain ⟨x, hx⟩ := get_lt (l := l) (i := i) (by omega)
      obtain ⟨lx, o, h8, h9⟩ := hl.ix (by decide) dotC_len u_s_Dot z_Dot hx
      have gx := fun s' e => (h9 s' e).2
      have gx0 : ∀ s', Ext s s' → rd1 s' lx o = some (.int .i64 x.r) := fun s' e => (h9 s' e).1 0 (by decide)
      have gx1 : ∀ s', Ext s s' → rd1 s' lx (o + 1) = some (.int .u64 x.c) := fun s' e => (h9 s' e).1 1 (by decide)
      have bad : ∀ (s' : AS), Ext s15 s' → (OfOk v l → False) → Ext s s' ∧ ((¬ OfOk v l ∧ AV.tup [.ptr none, .bool false] = .tup [.ptr none, .bool false]) ∨ (OfOk v l ∧ ∃ q, s.h q = none ∧ AV.tup [.ptr none, .bool false] = .tup [.ptr (some (q, 0)), .bool true] ∧ Own s' q (v.map (AV.int .u64) ++ [a]))) :=
        fun s' e h => ⟨E15.trans e, .inl ⟨h, rfl⟩⟩
      refine ⟨fun vs s' => Ext s15 s' ∧ WFs s' ∧ ∃ t, vs = [.bool t] ∧ (t = true → ¬ OfOk v l) ∧ (t = false → x.may = true ∧ (∀ y, 0 < i → l[i - 1]? = some y → y.lt x = true) ∧ v.getD (x.r - 1).toNat 0 + 1 < x.c), ?_, ?_⟩
      · rintro b s19 ⟨e19, w19, t, ht, h1, h2⟩
        simp only [List.cons.injEq, AV.bool.injEq, and_true] at ht
        subst ht
        refine bsplit.mk (fun hb => bad _ e19 (h1 hb)) (fun hb => cont i (by omega) _ (e15.trans e19) w19 fun k y hk' hy => ?_)
        rcases Nat.lt_or_ge k i with h | h
        · exact hk k y h hy
        · obtain rfl : k = i := by omega
          rw [hx] at hy; obtain rfl := Option.some.inj hy; exact h2 hb
      · have last : x.may = true → ∀ (s' : AS), Ext s15 s' → WFs s' → (∀ y, 0 < i → l[i - 1]? = some y → y.lt x = true) → ∃ t, [AV.bool (decide (x.c ≤ v.getD (x.r - 1).toNat 0 + 1))] = [.bool t] ∧ (t = true → ¬ OfOk v l) ∧ (t = false → x.may = true ∧ (∀ y, 0 < i → l[i - 1]? = some y → y.lt x = true) ∧ v.getD (x.r - 1).toNat 0 + 1 < x.c) := by
          intro hm s' e w hy
          refine ⟨_, rfl, fun h ok => ?_, fun h => ⟨hm, hy, ?_⟩⟩
          · exact absurd (of_decide_eq_true h) (Int.not_le.2 (ok.hl i x hx).2.2)
          · exact Int.not_le.1 (of_decide_eq_false h)
        have hbd := hv.get (x.r - 1).toNat
        have hvle : v.getD (x.r - 1).toNat 0 ≤ 4611686018427387904 := by
          rw [List.getD_eq_getElem?_getD]
          cases hq : v[(x.r - 1).toNat]? with
          | none => simp
          | some y => exact hvm y (List.mem_of_getElem? hq)
        refine ⟨fun _ _ _ _ => True, fun k _ r => (k = 4 → r = .bool x.may) ∧ (k = 19 → ∀ y, l[i - 1]? = some y → r = .bool (y.lt x)), fun _ _ _ _ _ _ _ => trivial, lx, o, h8 _, _, gx _ E15, fun s23 e23 w23 _ => ?_, ⟨.bool x.may, (fun _ => rfl), (fun h => by cases h)⟩, ?_⟩
        · refine (ref04iMay_ok x _).mono ?_
          rintro r s' ⟨rfl, e⟩
          exact ⟨_, rfl, e, trivial, (fun _ => rfl), (fun h => by cases h)⟩
        rintro r ⟨hr, _⟩
        obtain rfl := hr rfl
        refine ⟨_, rfl, bsplit.mk (fun hm => ?_) (fun hm => ?_)⟩
        · intro s29 e29 w29 _
          refine ⟨e29, w29, true, rfl, fun _ ok => ?_, (fun h => by cases h)⟩
          have := (ok.hl i x hx).1
          rw [this] at hm; cases hm
        have hmay : x.may = true := by simpa using hm
        have hmm := Dot.may_iff.1 hmay
        refine bsplit.dec (fun hpos => ?_) (fun hz => ?_)
        · obtain ⟨y, hy⟩ := get_lt (l := l) (i := i - 1) (by omega)
          obtain ⟨ly, o', k8, k9⟩ := hl.ix (by decide) dotC_len u_s_Dot z_Dot hy
          have gy := fun s' e => (k9 s' e).2
          rw [wrap_i' (by omega), show (i : Int) - 1 = ((i - 1 : Nat) : Int) by omega]
          refine ⟨ly, o', k8 _, _, gy _ E15, lx, o, h8 _, _, gx _ E15, fun s37 e37 w37 _ => ?_, ⟨.bool (y.lt x), (fun h => by cases h), (fun _ y' hy' => by rw [hy] at hy'; obtain rfl := Option.some.inj hy'; rfl)⟩, ?_⟩
          · refine (ref04iLess_ok y x _).mono ?_
            rintro r s' ⟨rfl, e⟩
            exact ⟨_, rfl, e, trivial, (fun h => by cases h), (fun _ y' hy' => by rw [hy] at hy'; obtain rfl := Option.some.inj hy'; rfl)⟩
          rintro r ⟨_, hr⟩
          obtain rfl := hr rfl y hy
          refine ⟨_, rfl, bsplit.mk (fun hb => ?_) (fun hb => ?_)⟩
          · intro s43 e43 w43 _
            refine ⟨e43, w43, true, rfl, fun _ ok => ?_, (fun h => by cases h)⟩
            have := (ok.hl i x hx).2.1 y (by omega) hy
            rw [this] at hb; cases hb
          · refine ⟨lx, o, h8 _, _, gx1 _ E15, lx, o, h8 _, _, gx0 _ E15, ?_⟩
            dsimp only
            rw [wrap_i' (by omega)]
            refine ⟨_, _, vix (by omega), _, by rw [(hat.ext e15).rd1, Nat.zero_add, Nat.mul_one]; exact vec_at hlen (by omega), fun s54 e54 w54 _ => ⟨e54, w54, ?_⟩⟩
            rw [wrap_u (by omega)]
            exact last hmay s54 e54 w54 fun y' _ hy' => by rw [hy] at hy'; obtain rfl := Option.some.inj hy'; simpa using hb
        · refine ⟨lx, o, h8 _, _, gx1 _ E15, lx, o, h8 _, _, gx0 _ E15, ?_⟩
          dsimp only
          rw [wrap_i' (by omega)]
          refine ⟨_, _, vix (by omega), _, by rw [(hat.ext e15).rd1, Nat.zero_add, Nat.mul_one]; exact vec_at hlen (by omega), fun s65 e65 w65 _ => ⟨e65, w65, ?_⟩⟩
          rw [wrap_u (by omega)]
          exact last hmay s65 e65 w65 fun y' h0 _ => by omega
  · rintro m n s71 ⟨i, hi, h6, rfl, rfl, hk⟩
    simp only [List.cons.injEq, AV.int.injEq, true_and, and_true] at hi
    subst hi
    refine bsplit.dec (fun hlt => ?_) (fun hge => ⟨rfl, fun x hx => ?_⟩)
    · have hi16 : i < 16 := by omega
      refine ⟨_, _, vix (by omega), _, by rw [hat.rd1, Nat.zero_add, Nat.mul_one, Int.toNat_natCast]; exact vec_at hlen hi16, bsplit.dec (fun hgt => ?_) (fun hle => ?_)⟩
      · refine ⟨F.ext, .inl ⟨fun ok => ?_, rfl⟩⟩
        have := ok.hv _ (List.mem_of_getElem? (vec_some hlen hi16))
        omega
      · refine ⟨16 - (i + 1), by omega, i + 1, by rw [wrap_i (by omega)]; rfl, by omega, rfl, rfl, fun k y hk' hy => ?_⟩
        rcases Nat.lt_or_ge k i with h | h
        · exact hk k y h hy
        · obtain rfl : k = i := by omega
          rw [vec_some hlen hi16] at hy; obtain rfl := Option.some.inj hy; omega
    · obtain ⟨k, hkx⟩ := List.mem_iff_getElem?.1 hx
      refine hk k x ?_ hkx
      rcases Nat.lt_or_ge k v.length with h | h
      · omega
      · rw [List.getElem?_eq_none h] at hkx; cases hkx
end Go.Proofs.Ytbfchlimonimkaa
end

section
set_option linter.unusedSimpArgs false
set_option linter.unusedVariables false
namespace Go.Proofs.Ytbfchlimonimkaa
open Go.Am Go.Minster Go.ChangeShapes Go.WideShapes Go.ChangeAt Go.RowKit

/-- a context whose exceptions are nobody else's -/
def CtxOwn (s s' : AS) (p : Nat) (v : List Int) (l : List Dot) : Prop := CtxAt s' p v l ∧ ∀ lo s'', s.h lo ≠ none → Mut [lo] s' s'' → CtxAt s'' p v l

theorem clone_S {s s9 : AS} {v : AV} {l : List Dot} (e : Ext s s9) (h : Dots s9 v l) (hn : l.length ≤ 2 ^ 30) : ACalls Try.prog F_slices_Clone__s_Dot_Dot [v] s9 fun r s' => Ext s9 s' ∧ (Gro dotC 2 s' r l ∧ (∀ la ∈ labOf r, s.h la = none) ∧ r ≠ .emp ∧ r.one = true) := by
  refine (clone_ok h hn).mono ?_
  intro r s' g
  exact ⟨g.chg.ext, g.gro, fun la hla => e.none (g.new la hla), g.isSlc⟩

theorem ctx_Of_ok {s : AS} {a : AV} {v : List Int} {l : List Dot} (hv : VIn v) (hl : Dots s a l) (hn : l.length ≤ 4096) :
    ACalls Try.prog F_ctx_Of [.agg (v.map (.int .u64)), a] s fun r s' => Ext s s' ∧ ((¬ OfOk v l ∧ r = .tup [.ptr none, .int .i64 2]) ∨ (OfOk v l ∧ ∃ p, s.h p = none ∧ r = .tup [.ptr (some (p, 0)), .int .i64 0] ∧ CtxOwn s s' p v l)) := by
  have hlen := hv.len
  refine ACalls.pre fun hw => q_ctx_Of _ _ _ _ ⟨ints_one _ _, NewQ.intro hw rfl fun l1 s2 F => ?_⟩
  have hat := F.own.at
  refine ⟨fun vs s' => s' = s2 ∧ ∀ x ∈ v, x ≤ 4611686018427387904, ?_, _, hat.rdc (by simp [hlen]), ?_⟩
  · rintro s4 ⟨rfl, hvm⟩
    have cont : ∀ (i : Nat), i < l.length → ∀ s', Ext s4 s' → WFs s' → (∀ (k : Nat) x, k < i + 1 → l[k]? = some x → x.may = true ∧ (∀ y, 0 < k → l[k - 1]? = some y → y.lt x = true) ∧ v.getD (x.r - 1).toNat 0 + 1 < x.c) → ∃ m', m' < l.length - i ∧ ∃ j : Nat, [AV.int .i64 (IntKind.wrap .i64 ((i : Int) + 1))] = [.int .i64 (j : Nat)] ∧ j ≤ l.length ∧ m' = l.length - j ∧ Ext s4 s' ∧ WFs s' ∧ (∀ (k : Nat) x, k < j → l[k]? = some x → x.may = true ∧ (∀ y, 0 < k → l[k - 1]? = some y → y.lt x = true) ∧ v.getD (x.r - 1).toNat 0 + 1 < x.c) :=
      fun i hi s' e w h => ⟨l.length - (i + 1), by omega, i + 1, by rw [wrap_i (by omega)]; rfl, by omega, rfl, e, w, h⟩
    refine ⟨fun vs s' => Ext s4 s' ∧ WFs s' ∧ OfOk v l, ?_, _, hl.lenB u_s_Dot _, fun m vs s' => ∃ i : Nat, vs = [.int .i64 (i : Nat)] ∧ i ≤ l.length ∧ m = l.length - i ∧ Ext s4 s' ∧ WFs s' ∧ (∀ (k : Nat) x, k < i → l[k]? = some x → x.may = true ∧ (∀ y, 0 < k → l[k - 1]? = some y → y.lt x = true) ∧ v.getD (x.r - 1).toNat 0 + 1 < x.c), l.length, ⟨0, rfl, by omega, rfl, Ext.refl _, F.wf, by omega⟩, ?_⟩
    · rintro s6 ⟨e6, w6, ok⟩
      have E6 := F.ext.trans e6
      refine ⟨_, hl.lenB u_s_Dot _, bsplit.no (by simp; omega) ?_⟩
      refine ⟨fun k _ r s' => k = 2 → Gro dotC 2 s' r l ∧ (∀ la ∈ labOf r, s.h la = none) ∧ r ≠ .emp ∧ r.one = true, fun _ _ _ => True, fun _ _ _ _ _ e h hk => ⟨(h hk).1.ext e, (h hk).2⟩, _, (hat.ext e6).rdc (by simp [hlen]), fun s9 e9 w9 _ => ?_, ⟨.emp, trivial⟩, ?_⟩
      · refine (clone_S (s := s) (E6.trans e9) (hl.ext (E6.trans e9)) (by omega)).mono ?_
        rintro r s' ⟨e, h⟩
        exact ⟨e, fun _ => h, trivial⟩
      rintro r _ s13 e13 w13 ⟨hr, _⟩
      obtain ⟨g, hnew, hne, hone⟩ := hr rfl
      rw [List.drop_zero, List.take_of_length_le (by simp [hlen])]
      refine ⟨_, build_Ctx hlen hone, by simp [hone], NewQ.intro w13 rfl fun p s17 F17 => ?_⟩
      have E13 := E6.trans e13
      refine ⟨E13.trans F17.ext, .inr ⟨ok, p, E13.none F17.no, rfl, ⟨hlen, r, F17.own, hone, (g.ext F17.ext).sl dotC_len⟩, fun lo s'' hlo m => ⟨hlen, r, F17.own.mut m ?_, hone, ?_⟩⟩⟩
      · simp only [List.mem_singleton]
        rintro rfl
        exact hlo (E13.none F17.no)
      · refine ((g.ext F17.ext).mut m fun x hx => ?_).sl dotC_len
        simp only [List.mem_singleton]
        rintro rfl
        exact hlo (hnew _ hx)
    · rintro m n s15 ⟨i, hi, h6, rfl, e15, w15, hk⟩
      simp only [List.cons.injEq, AV.int.injEq, true_and, and_true] at hi
      subst hi
      have E15 := F.ext.trans e15
      refine bsplit.dec (fun hlt => ?_) (fun hge => ⟨e15, w15, hvm, fun k x hx => hk k x (by
        rcases Nat.lt_or_ge k l.length with h | h
        · omega
        · rw [List.getElem?_eq_none h] at hx; cases hx) hx⟩)
      obtain ⟨x, hx⟩ := get_lt (l := l) (i := i) (by omega)
      obtain ⟨lx, o, h8, h9⟩ := hl.ix (by decide) dotC_len u_s_Dot z_Dot hx
      have gx := fun s' e => (h9 s' e).2
      have bad : ∀ (s' : AS), Ext s s' → (OfOk v l → False) → Ext s s' ∧ ((¬ OfOk v l ∧ AV.tup [.ptr none, .int .i64 2] = .tup [.ptr none, .int .i64 2]) ∨ (OfOk v l ∧ ∃ p, s.h p = none ∧ AV.tup [.ptr none, .int .i64 2] = .tup [.ptr (some (p, 0)), .int .i64 0] ∧ CtxOwn s s' p v l)) :=
        fun s' e h => ⟨e, .inl ⟨h, rfl⟩⟩
      refine ⟨lx, o, h8 _, _, gx _ E15, NewSt w15 rfl rfl rfl fun l27 s29 F29 => ?_⟩
      have E29 := E15.trans F29.ext
      have e29 := e15.trans F29.ext
      have d29 : At s29 l27 (dotC x) := F29.own.at
      refine ⟨fun vs s' => Ext s29 s' ∧ WFs s' ∧ ∃ t, vs = [.bool t] ∧ (t = true → ¬ OfOk v l) ∧ (t = false → x.may = true ∧ (∀ y, 0 < i → l[i - 1]? = some y → y.lt x = true) ∧ v.getD (x.r - 1).toNat 0 + 1 < x.c), ?_, ?_⟩
      · rintro b s19 ⟨e19, w19, t, ht, h1, h2⟩
        simp only [List.cons.injEq, AV.bool.injEq, and_true] at ht
        subst ht
        refine bsplit.mk (fun hb => bad _ (E29.trans e19) (h1 hb)) (fun hb => cont i (by omega) _ (e29.trans e19) w19 fun k y hk' hy => ?_)
        rcases Nat.lt_or_ge k i with h | h
        · exact hk k y h hy
        · obtain rfl : k = i := by omega
          rw [hx] at hy; obtain rfl := Option.some.inj hy; exact h2 hb
      · have last : x.may = true → ∀ (s' : AS), Ext s29 s' → WFs s' → (∀ y, 0 < i → l[i - 1]? = some y → y.lt x = true) → ∃ t, [AV.bool (decide (x.c ≤ v.getD (x.r - 1).toNat 0 + 1))] = [.bool t] ∧ (t = true → ¬ OfOk v l) ∧ (t = false → x.may = true ∧ (∀ y, 0 < i → l[i - 1]? = some y → y.lt x = true) ∧ v.getD (x.r - 1).toNat 0 + 1 < x.c) := by
          intro hm s' e w hy
          refine ⟨_, rfl, fun h ok => ?_, fun h => ⟨hm, hy, ?_⟩⟩
          · exact absurd (of_decide_eq_true h) (Int.not_le.2 (ok.hl i x hx).2.2)
          · exact Int.not_le.1 (of_decide_eq_false h)
        have hbd := hv.get (x.r - 1).toNat
        have hvle : v.getD (x.r - 1).toNat 0 ≤ 4611686018427387904 := by
          rw [List.getD_eq_getElem?_getD]
          cases hq : v[(x.r - 1).toNat]? with
          | none => simp
          | some y => exact hvm y (List.mem_of_getElem? hq)
        have dc0 : rdc s29 l27 0 2 = some (dotC x) := d29.rdc (by simp [dotC])
        have d0 : rd1 s29 l27 0 = some (.int .i64 x.r) := by rw [d29.rd1]; rfl
        have d1 : rd1 s29 l27 1 = some (.int .u64 x.c) := by rw [d29.rd1]; rfl
        refine ⟨fun _ _ _ _ => True, fun k _ r => (k = 1 → r = .bool x.may) ∧ (k = 13 → ∀ y, l[i - 1]? = some y → r = .bool (y.lt x)), fun _ _ _ _ _ _ _ => trivial, _, dc0, fun s34 e34 w34 _ => ?_, ⟨.bool x.may, (fun _ => rfl), (fun h => by cases h)⟩, ?_⟩
        · refine (ctx_May_ok x _).mono ?_
          rintro r s' ⟨rfl, e⟩
          exact ⟨_, rfl, e, trivial, (fun _ => rfl), (fun h => by cases h)⟩
        rintro r ⟨hr, _⟩
        obtain rfl := hr rfl
        refine ⟨_, rfl, bsplit.mk (fun hm => ?_) (fun hm => ?_)⟩
        · intro s40 e40 w40 _
          refine ⟨e40, w40, true, rfl, fun _ ok => ?_, (fun h => by cases h)⟩
          have := (ok.hl i x hx).1
          rw [this] at hm; cases hm
        have hmay : x.may = true := by simpa using hm
        have hmm := Dot.may_iff.1 hmay
        refine bsplit.dec (fun hpos => ?_) (fun hz => ?_)
        · obtain ⟨y, hy⟩ := get_lt (l := l) (i := i - 1) (by omega)
          obtain ⟨ly, o', k8, k9⟩ := hl.ix (by decide) dotC_len u_s_Dot z_Dot hy
          have gy := fun s' e => (k9 s' e).2
          rw [wrap_i' (by omega), show (i : Int) - 1 = ((i - 1 : Nat) : Int) by omega]
          refine ⟨ly, o', k8 _, _, gy _ E29, _, dc0, fun s46 e46 w46 _ => ?_, ⟨.bool (y.lt x), (fun h => by cases h), (fun _ y' hy' => by rw [hy] at hy'; obtain rfl := Option.some.inj hy'; rfl)⟩, ?_⟩
          · refine (ctx_Less_ok y x _).mono ?_
            rintro r s' ⟨rfl, e⟩
            exact ⟨_, rfl, e, trivial, (fun h => by cases h), (fun _ y' hy' => by rw [hy] at hy'; obtain rfl := Option.some.inj hy'; rfl)⟩
          rintro r ⟨_, hr⟩
          obtain rfl := hr rfl y hy
          refine ⟨_, rfl, bsplit.mk (fun hb => ?_) (fun hb => ?_)⟩
          · intro s52 e52 w52 _
            refine ⟨e52, w52, true, rfl, fun _ ok => ?_, (fun h => by cases h)⟩
            have := (ok.hl i x hx).2.1 y (by omega) hy
            rw [this] at hb; cases hb
          · refine ⟨_, d1, _, d0, ?_⟩
            dsimp only
            rw [wrap_i' (by omega)]
            refine ⟨_, _, vix (by omega), _, by rw [(hat.ext e29).rd1, Nat.zero_add, Nat.mul_one]; exact vec_at hlen (by omega), fun s54 e54 w54 _ => ⟨e54, w54, ?_⟩⟩
            rw [wrap_u (by omega)]
            exact last hmay s54 e54 w54 fun y' _ hy' => by rw [hy] at hy'; obtain rfl := Option.some.inj hy'; simpa using hb
        · refine ⟨_, d1, _, d0, ?_⟩
          dsimp only
          rw [wrap_i' (by omega)]
          refine ⟨_, _, vix (by omega), _, by rw [(hat.ext e29).rd1, Nat.zero_add, Nat.mul_one]; exact vec_at hlen (by omega), fun s65 e65 w65 _ => ⟨e65, w65, ?_⟩⟩
          rw [wrap_u (by omega)]
          exact last hmay s65 e65 w65 fun y' h0 _ => by omega
  rw [List.drop_zero, List.take_of_length_le (by simp [hlen])]
  refine ⟨fun m vs s' => ∃ i : Nat, vs = [.int .i64 (i : Nat)] ∧ i ≤ 16 ∧ m = 16 - i ∧ s' = s2 ∧ ∀ (k : Nat) x, k < i → v[k]? = some x → x ≤ 4611686018427387904, 16, ⟨0, rfl, by omega, rfl, rfl, by omega⟩, ?_⟩
  rintro m n s71 ⟨i, hi, h6, rfl, rfl, hk⟩
  simp only [List.cons.injEq, AV.int.injEq, true_and, and_true] at hi
  subst hi
  refine bsplit.dec (fun hlt => ?_) (fun hge => ⟨rfl, fun x hx => ?_⟩)
  · have hi16 : i < 16 := by omega
    refine ⟨_, aix_vec hlen hi16, bsplit.dec (fun hgt => ?_) (fun hle => ?_)⟩
    · refine ⟨F.ext, .inl ⟨fun ok => ?_, rfl⟩⟩
      have := ok.hv _ (List.mem_of_getElem? (vec_some hlen hi16))
      omega
    · refine ⟨16 - (i + 1), by omega, i + 1, by rw [wrap_i (by omega)]; rfl, by omega, rfl, rfl, fun k y hk' hy => ?_⟩
      rcases Nat.lt_or_ge k i with h | h
      · exact hk k y h hy
      · obtain rfl : k = i := by omega
        rw [vec_some hlen hi16] at hy; obtain rfl := Option.some.inj hy; omega
  · obtain ⟨k, hkx⟩ := List.mem_iff_getElem?.1 hx
    refine hk k x ?_ hkx
    rcases Nat.lt_or_ge k v.length with h | h
    · omega
    · rw [List.getElem?_eq_none h] at hkx; cases hkx
end Go.Proofs.Ytbfchlimonimkaa
end

section
set_option linter.unusedSimpArgs false
set_option linter.unusedVariables false
namespace Go.Proofs.Ytbfchlimonimkaa
open Go.Am Go.Minster Go.ChangeShapes Go.WideShapes Go.ChangeAt Go.RowKit

theorem fold_gap : ∀ (l : List Dot) (st : List Int × List Dot), VOk st.1 → Rising l → (∀ d ∈ l, d.may = true) →
    (∀ y ∈ st.2, y.may = true ∧ st.1.getD (y.r - 1).toNat 0 + 1 < y.c ∧ ∀ d ∈ l, y.lt d = true) →
    ∀ y ∈ (l.foldl cstep st).2, (l.foldl cstep st).1.getD (y.r - 1).toNat 0 + 1 < y.c
  | [], st, hv, hr, hm, h => fun y hy => (h y hy).2.1
  | d :: l, st, hv, hr, hm, h => by
    have hd := Dot.may_iff.1 (hm d (by simp))
    obtain ⟨hr1, hr2⟩ := List.pairwise_cons.1 hr
    refine fold_gap l (cstep st d) (cstep_ok hv (hm d (by simp))) hr2 (fun x hx => hm x (by simp [hx])) ?_
    intro y hy
    unfold cstep at hy ⊢
    split at hy
    · rename_i hc
      rw [if_pos hc]
      exact ⟨(h y hy).1, (h y hy).2.1, fun x hx => (h y hy).2.2 x (by simp [hx])⟩
    · rename_i hc
      rw [if_neg hc]
      split at hy
      · rename_i hc2
        rw [if_pos hc2]
        obtain ⟨h1, h2, h3⟩ := h y hy
        refine ⟨h1, ?_, fun x hx => h3 x (by simp [hx])⟩
        have hym := Dot.may_iff.1 h1
        have hlt := Dot.lt_iff.1 (h3 d (by simp))
        have hne : (d.r - 1).toNat ≠ (y.r - 1).toNat := by
          intro e
          have : y.r = d.r := by omega
          rw [this] at h2
          omega
        simp only [List.getD_eq_getElem?_getD] at h2 ⊢
        rw [List.getElem?_set_ne hne]
        exact h2
      · rename_i hc2
        rw [if_neg hc2]
        simp only [List.mem_append, List.mem_singleton] at hy
        rcases hy with hy | rfl
        · exact ⟨(h y hy).1, (h y hy).2.1, fun x hx => (h y hy).2.2 x (by simp [hx])⟩
        · refine ⟨hm y (by simp), ?_, hr1⟩
          show st.1.getD (y.r - 1).toNat 0 + 1 < y.c
          omega

/-- the exceptions stand apart from the vector -/
def Gap (v : List Int) (ex : List Dot) : Prop := ∀ y ∈ ex, v.getD (y.r - 1).toNat 0 + 1 < y.c
theorem Gap.add {v : List Int} {ex : List Dot} (h : COk v ex) (g : Gap v ex) {d : Dot} (hd : d.may = true) : Gap (addR v ex d).1 (addR v ex d).2 := by
  unfold addR
  split
  · exact g
  · rename_i hh
    have hnin : d ∉ ex := fun hin => hh (by simp [hasD, hd, hin])
    have hmi : ∀ x ∈ ins ex d, x.may = true := by
      intro x hx
      rcases mem_ins.1 hx with rfl | hx
      · exact hd
      · exact h.m x hx
    exact fold_gap (ins ex d) (v, []) h.v (h.r.ins hnin) hmi (by simp)
theorem ofOk {v : List Int} {ex : List Dot} (h : COk v ex) (g : Gap v ex) : OfOk v ex := by
  refine ⟨fun x hx => (h.v.rng x hx).2, fun i x hx => ⟨h.m x (List.mem_of_getElem? hx), fun y h0 hy => h.r.lt (by omega) hy hx, g x (List.mem_of_getElem? hx)⟩⟩

theorem law_of_ok {s : AS} {a : AV} {la : List Dot} (ha : Dots s a la) (hn : la.length ≤ 200) : ACalls Try.prog F_law04iof [a] s fun r s' => ∃ p q v ex, r = .tup [.ptr (some (p, 0)), .ptr (some (q, 0))] ∧ s.h p = none ∧ s.h q = none ∧ COk v ex ∧ Gap v ex ∧ ex.length ≤ la.length ∧ Ext s s' ∧ CtxAt s' p v ex ∧ RefAt s' q v ex := by
  refine q_law04iof _ _ _ ?_
  refine ACalls.use (ctx_New_ok _) ?_
  rintro r s2 ⟨p, rfl, hp, hc, e2⟩ hw2
  refine ⟨_, rfl, set_new hw2 fun q s6 hq hr e6 hw6 => ?_⟩
  have hq0 := e2.none hq
  have E6 := e2.trans e6
  refine ⟨fun vs s' => ∃ v ex, COk v ex ∧ Gap v ex ∧ ex.length ≤ la.length ∧ Ext s s' ∧ CtxAt s' p v ex ∧ RefAt s' q v ex, ?_, fun m vs s' => ∃ (i : Nat) (v : List Int) (ex : List Dot), vs = [.int .i64 (i : Nat)] ∧ i ≤ la.length ∧ m = la.length - i ∧ COk v ex ∧ Gap v ex ∧ ex.length ≤ i ∧ Ext s s' ∧ WFs s' ∧ CtxAt s' p v ex ∧ RefAt s' q v ex, la.length, ⟨0, _, _, rfl, by omega, rfl, COk.zero, (fun y hy => by cases hy), by simp, E6, hw6, hc.ext e6, hr⟩, ?_⟩
  · rintro s8 ⟨v, ex, h1, h2, h3, h4, h5, h6⟩
    exact ⟨p, q, v, ex, rfl, hp, hq0, h1, h2, h3, h4, h5, h6⟩
  · rintro m n s13 ⟨i, v, ex, hi, h6, rfl, ok, gap, hlen, e13, w13, c13, r13⟩
    simp only [List.cons.injEq, AV.int.injEq, true_and, and_true] at hi
    subst hi
    refine ⟨_, ha.lenB u_s_Dot _, bsplit.dec (fun hlt => ?_) (fun hge => ⟨v, ex, ok, gap, by omega, e13, c13, r13⟩)⟩
    have cont : ∀ s' v' ex', COk v' ex' → Gap v' ex' → ex'.length ≤ ex.length + 1 → Ext s s' → WFs s' → CtxAt s' p v' ex' → RefAt s' q v' ex' → ∃ m', m' < la.length - i ∧ ∃ (j : Nat) (v : List Int) (ex : List Dot), [AV.int .i64 (IntKind.wrap .i64 ((i : Int) + 1))] = [.int .i64 (j : Nat)] ∧ j ≤ la.length ∧ m' = la.length - j ∧ COk v ex ∧ Gap v ex ∧ ex.length ≤ j ∧ Ext s s' ∧ WFs s' ∧ CtxAt s' p v ex ∧ RefAt s' q v ex := by
      intro s' v' ex' a b c d e f g
      exact ⟨la.length - (i + 1), by omega, i + 1, v', ex', by rw [wrap_i (by omega)]; rfl, by omega, rfl, a, b, by omega, d, e, f, g⟩
    obtain ⟨x, hx⟩ := get_lt (l := la) (i := i) (by omega)
    obtain ⟨lx, o, h8, h9⟩ := ha.ix (by decide) dotC_len u_s_Dot z_Dot hx
    have gx := fun s' e => (h9 s' e).2
    refine ⟨lx, o, h8 _, _, gx _ e13, ?_⟩
    refine ACalls.use (ref04iMay_ok x _) ?_
    rintro r s19 ⟨rfl, e19⟩ hw19
    have E19 := e13.trans e19
    have c19 := c13.ext e19
    have r19 := r13.ext e19
    refine ⟨_, rfl, bsplit.mk (fun hm => ?_) (fun hm => ?_)⟩
    · refine ⟨lx, o, h8 _, _, gx _ E19, ?_⟩
      refine ACalls.use (ctx_Add_ok c19 ok.v ok.r ok.m (by omega) x) ?_
      rintro r s25 ⟨rfl, c25, m25⟩ hw25
      have e25 := Ext.wr E19 hp m25
      have r25 := r19.keep c19 m25
      have hadd := addD_few (v := v) (ex := ex) hm (by omega)
      rw [hadd] at c25 ⊢
      change CtxAt s25 p (addR v ex x).1 (addR v ex x).2 at c25
      refine ⟨_, _, rfl, lx, o, h8 _, _, gx _ e25, ?_⟩
      refine ACalls.use (ref_Add_ok r25 ok.v ok.r ok.m (by omega) hm) ?_
      rintro r s32 ⟨rfl, r32, m32⟩ hw32
      have c32 := c25.keep r25 m32
      exact ⟨_, rfl, cont _ _ _ (ok.add hm) (Gap.add ok gap hm) addR_len (Ext.wr e25 hq0 m32) hw32 c32 r32⟩
    · exact cont _ v ex ok gap (by omega) E19 hw19 c19 r19
end Go.Proofs.Ytbfchlimonimkaa
end

section
set_option linter.unusedSimpArgs false
set_option linter.unusedVariables false
namespace Go.Proofs.Ytbfchlimonimkaa
open Go.Am Go.Minster

theorem hasD_iff {v : List Int} {ex : List Dot} {d : Dot} : hasD v ex d = true ↔ d.may = true ∧ (d ∈ ex ∨ d.c ≤ v.getD (d.r - 1).toNat 0) := by
  simp [hasD]

theorem rising_eq : ∀ {l l' : List Dot}, Rising l → Rising l' → (∀ d, d ∈ l ↔ d ∈ l') → l = l'
  | [], [], _, _, _ => rfl
  | [], d :: l', _, _, h => absurd ((h d).2 (by simp)) (by simp)
  | d :: l, [], _, _, h => absurd ((h d).1 (by simp)) (by simp)
  | d :: l, d' :: l', h1, h2, h => by
    obtain ⟨a1, a2⟩ := List.pairwise_cons.1 h1
    obtain ⟨b1, b2⟩ := List.pairwise_cons.1 h2
    have hd : d = d' := by
      rcases List.mem_cons.1 ((h d).1 (by simp)) with e | hm
      · exact e
      · rcases List.mem_cons.1 ((h d').2 (by simp)) with e | hm'
        · exact e.symm
        · exact absurd (Dot.lt_trans (a1 d' hm') (b1 d hm)) (Dot.lt_irrefl d)
    subst hd
    rw [rising_eq a2 b2 fun x => ?_]
    constructor
    · intro hx
      rcases List.mem_cons.1 ((h x).1 (by simp [hx])) with e | hm
      · subst e; exact absurd (a1 x hx) (Dot.lt_irrefl x)
      · exact hm
    · intro hx
      rcases List.mem_cons.1 ((h x).2 (by simp [hx])) with e | hm
      · subst e; exact absurd (b1 x hx) (Dot.lt_irrefl x)
      · exact hm

theorem norm_le {v v' : List Int} {ex ex' : List Dot} (h : COk v ex) (h' : COk v' ex') (g' : Gap v' ex') (hh : ∀ d, hasD v ex d = true → hasD v' ex' d = true) {i : Nat} (hi : i < 16) : v.getD i 0 ≤ v'.getD i 0 := by
  have b := h.v.get i
  have b' := h'.v.get i
  by_cases hle : v.getD i 0 ≤ v'.getD i 0
  · exact hle
  exfalso
  have hr : (((i : Int) + 1) - 1).toNat = i := by omega
  have hm : (Dot.mk ((i : Int) + 1) (v'.getD i 0 + 1)).may = true := Dot.may_iff.2 ⟨by show (1 : Int) ≤ (i : Int) + 1; omega, by show (i : Int) + 1 ≤ 16; omega, by show 1 ≤ v'.getD i 0 + 1; omega, by show v'.getD i 0 + 1 ≤ _; omega⟩
  have := hasD_iff.1 (hh ⟨(i : Int) + 1, v'.getD i 0 + 1⟩ (hasD_iff.2 ⟨hm, .inr (by show v'.getD i 0 + 1 ≤ v.getD (((i : Int) + 1) - 1).toNat 0; rw [hr]; omega)⟩))
  rcases this.2 with hin | hc
  · have := g' _ hin
    have e : v'.getD (((i : Int) + 1) - 1).toNat 0 + 1 < v'.getD i 0 + 1 := this
    rw [hr] at e; omega
  · have e : v'.getD i 0 + 1 ≤ v'.getD (((i : Int) + 1) - 1).toNat 0 := hc
    rw [hr] at e; omega

/-- two contexts that have the same dots are one -/
theorem norm_eq {v v' : List Int} {ex ex' : List Dot} (h : COk v ex) (g : Gap v ex) (h' : COk v' ex') (g' : Gap v' ex') (hh : ∀ d, hasD v ex d = hasD v' ex' d) : v = v' ∧ ex = ex' := by
  have hv : v = v' := by
    refine List.ext_getElem (by rw [h.v.len, h'.v.len]) fun i hi hi' => ?_
    have h16 : i < 16 := by have := h.v.len; omega
    have e := Int.le_antisymm (norm_le h h' g' (fun d hd => by rw [← hh d]; exact hd) h16) (norm_le h' h g (fun d hd => by rw [hh d]; exact hd) h16)
    simp only [List.getD_eq_getElem?_getD, List.getElem?_eq_getElem hi, List.getElem?_eq_getElem hi'] at e
    exact e
  subst hv
  refine ⟨rfl, rising_eq h.r h'.r fun d => ?_⟩
  have key : ∀ {e1 e2 : List Dot}, COk v e1 → Gap v e1 → (∀ d, hasD v e1 d = hasD v e2 d) → d ∈ e1 → d ∈ e2 := by
    intro e1 e2 k1 k2 k3 hd
    have := k3 d
    rw [hasD_iff.2 ⟨k1.m d hd, .inl hd⟩] at this
    rcases (hasD_iff.1 this.symm).2 with hin | hc
    · exact hin
    · have := k2 d hd; omega
  exact ⟨key h g hh, key h' g' fun d => (hh d).symm⟩

/-- what compacting leaves has just what was there -/
theorem fold_has (x : Dot) (hx : x.may = true) : ∀ (l : List Dot) (st : List Int × List Dot), VOk st.1 → (∀ d ∈ l, d.may = true) →
    ((x ∈ (l.foldl cstep st).2 ∨ x.c ≤ (l.foldl cstep st).1.getD (x.r - 1).toNat 0) ↔ (x ∈ l ∨ x ∈ st.2 ∨ x.c ≤ st.1.getD (x.r - 1).toNat 0))
  | [], st, _, _ => by simp
  | d :: l, st, hv, hm => by
    have hd := hm d (by simp)
    have ih := fold_has x hx l (cstep st d) (cstep_ok hv hd) (fun y hy => hm y (by simp [hy]))
    rw [List.foldl_cons, ih]
    have hdm := Dot.may_iff.1 hd
    have hxm := Dot.may_iff.1 hx
    have hlen := hv.len
    simp only [List.mem_cons]
    unfold cstep
    split
    · rename_i hc
      constructor
      · rintro (h | h | h)
        · exact .inl (.inr h)
        · exact .inr (.inl h)
        · exact .inr (.inr h)
      · rintro ((h | h) | h | h)
        · subst h; exact .inr (.inr hc)
        · exact .inl h
        · exact .inr (.inl h)
        · exact .inr (.inr h)
    · rename_i hc
      split
      · rename_i hc2
        have hg : (st.1.set (d.r - 1).toNat d.c).getD (x.r - 1).toNat 0 = if x.r = d.r then d.c else st.1.getD (x.r - 1).toNat 0 := by
          simp only [List.getD_eq_getElem?_getD, List.getElem?_set]
          by_cases e : x.r = d.r
          · rw [if_pos (by rw [e]), if_pos e, if_pos (by omega)]; rfl
          · rw [if_neg (by omega), if_neg e]
        show (x ∈ l ∨ x ∈ st.2 ∨ x.c ≤ (st.1.set (d.r - 1).toNat d.c).getD (x.r - 1).toNat 0) ↔ _
        rw [hg]
        by_cases e : x.r = d.r
        · rw [if_pos e]
          have hxd : x = d ↔ x.c = d.c := ⟨fun h => by rw [h], fun h => by cases x; cases d; simp_all⟩
          rw [hxd]
          rw [← e] at hc2
          constructor
          · rintro (h | h | h)
            · exact .inl (.inr h)
            · exact .inr (.inl h)
            · by_cases h2 : x.c = d.c
              · exact .inl (.inl h2)
              · exact .inr (.inr (by omega))
          · rintro ((h | h) | h | h)
            · exact .inr (.inr (by omega))
            · exact .inl h
            · exact .inr (.inl h)
            · exact .inr (.inr (by omega))
        · rw [if_neg e]
          have hne : x ≠ d := fun h => e (by rw [h])
          simp [hne]
      · show (x ∈ l ∨ x ∈ st.2 ++ [d] ∨ x.c ≤ st.1.getD (x.r - 1).toNat 0) ↔ _
        simp only [List.mem_append, List.mem_singleton]
        constructor
        · rintro (h | (h | h) | h)
          · exact .inl (.inr h)
          · exact .inr (.inl h)
          · exact .inl (.inl h)
          · exact .inr (.inr h)
        · rintro ((h | h) | h | h)
          · exact .inr (.inl (.inr h))
          · exact .inl h
          · exact .inr (.inl (.inl h))
          · exact .inr (.inr h)
theorem compact_has {v : List Int} {l : List Dot} (hv : VOk v) (hm : ∀ d ∈ l, d.may = true) (x : Dot) : hasD (compact v l).1 (compact v l).2 x = true ↔ x.may = true ∧ (x ∈ l ∨ x.c ≤ v.getD (x.r - 1).toNat 0) := by
  rw [hasD_iff]
  constructor
  · rintro ⟨h1, h2⟩
    have := (fold_has x h1 l (v, []) hv hm).1 h2
    exact ⟨h1, by simpa using this⟩
  · rintro ⟨h1, h2⟩
    exact ⟨h1, (fold_has x h1 l (v, []) hv hm).2 (by simpa using h2)⟩
theorem addR_has {v : List Int} {ex : List Dot} (h : COk v ex) {d : Dot} (hd : d.may = true) (x : Dot) : hasD (addR v ex d).1 (addR v ex d).2 x = true ↔ hasD v ex x = true ∨ x = d := by
  unfold addR
  split
  · rename_i hh
    constructor
    · exact .inl
    · rintro (h | rfl)
      · exact h
      · exact hh
  · have hmi : ∀ x ∈ ins ex d, x.may = true := by
      intro x hx
      rcases mem_ins.1 hx with rfl | hx
      · exact hd
      · exact h.m x hx
    rw [compact_has h.v hmi, hasD_iff, mem_ins]
    constructor
    · rintro ⟨h1, (rfl | h2) | h2⟩
      · exact .inr rfl
      · exact .inl ⟨h1, .inl h2⟩
      · exact .inl ⟨h1, .inr h2⟩
    · rintro (⟨h1, h2 | h2⟩ | rfl)
      · exact ⟨h1, .inl (.inr h2)⟩
      · exact ⟨h1, .inr h2⟩
      · exact ⟨hd, .inl (.inl rfl)⟩
end Go.Proofs.Ytbfchlimonimkaa
end

section
set_option linter.unusedVariables false
set_option maxRecDepth 100000
set_option maxHeartbeats 4000000
namespace Go.Proofs.Ytbfchlimonimkaa
open Go.Am

/-- what (*minster/ctx.Ctx).Join asks -/
def Q_ctx_Ctx_Join (a0 : Option (Nat × Nat)) (a1 : Option (Nat × Nat)) (s : AS) (R : AV → AS → Prop) : Prop :=
 ACalls Try.prog F_ctx_Ctx_there [(.ptr a0)] s fun v1 s2 => ∃ b3 : Bool, v1 = .bool b3 ∧ (bsplit (!b3) (R (.int .i64 1) s2) (ACalls Try.prog F_ctx_Ctx_there [(.ptr a1)] s2 fun v4 s5 => ∃ b6 : Bool, v4 = .bool b6 ∧ (bsplit (!b6)
 (R (.int .i64 1) s5)
 (DrawQ fun S V => AsSome a0 fun l7 o8 => RdL (rdc s5 l7 o8 16) fun g9 => AsSome a0 fun l10 o11 => RdA (rd1 s5 l10 (o11 + 16)) fun v12 => AsSome a1 fun l13 o14 => RdA (rd1 s5 l13 (o14 + 16)) fun v15 => (∀ s16 : AS, Ext s5 s16 → WFs s16 → (True) → RdL (absl T Y_s__Dot 2 [(0, v12), (1, v15)]) fun g17 => NewQ (.cells g17 0 false) s16 fun l18 s19 => (Ext s16 s19 ∧ S 12 [v12, v15] (.slc (some (l18, 0)) 2 2 true) s19 ∧ V 12 [v12, v15] (.slc (some (l18, 0)) 2 2 true))) ∧ (∃ v, V 12 [v12, v15] v) ∧ ∀ v20 : AV, V 12 [v12, v15] v20 → (∀ s21 : AS, Ext s5 s21 → WFs s21 → (S 12 [v12, v15] v20 s21 ∧ True) → ACalls Try.prog F_slices_Concat__s_Dot_Dot [v20] s21 fun v22 s23 => (Ext s21 s23 ∧ S 13 [(.func F_slices_Concat__s_Dot_Dot []), v20] v22 s23 ∧ V 13 [(.func F_slices_Concat__s_Dot_Dot []), v20] v22)) ∧ (∃ v, V 13 [(.func F_slices_Concat__s_Dot_Dot []), v20] v) ∧ ∀ v24 : AV, V 13 [(.func F_slices_Concat__s_Dot_Dot []), v20] v24 → RdG (abuild T Y_ctx_Ctx [(0, (.agg g9)), (1, v24), (2, (.bool true))]) fun g25 => (∀ s26 : AS, Ext s5 s26 → WFs s26 → (True) → NewQ (.cells [.int .u64 0, .int .u64 0, .int .u64 0, .int .u64 0, .int .u64 0, .int .u64 0, .int .u64 0, .int .u64 0, .int .u64 0, .int .u64 0, .int .u64 0, .int .u64 0, .int .u64 0, .int .u64 0, .int .u64 0, .int .u64 0, .slc none 0 0 true, .bool false] 0 false) s26 fun l27 s28 => (Ext s26 s28 ∧ S 15 [] (.ptr (some (l27, 0))) s28 ∧ V 15 [] (.ptr (some (l27, 0))))) ∧ (∃ v, V 15 [] v) ∧ ∀ v29 : AV, V 15 [] v29 → ∃ p30 : Option (Nat × Nat), v29 = .ptr p30 ∧ (∀ s31 : AS, Ext s5 s31 → WFs s31 → (S 12 [v12, v15] v20 s31 ∧ (S 13 [(.func F_slices_Concat__s_Dot_Dot []), v20] v24 s31 ∧ (S 15 [] (.ptr p30) s31 ∧ True))) → AsSome p30 fun l33 o34 => OkC (some 18) g25 (StQ (awr s31 l33 o34 g25) fun s35 => JoinQ fun J36 =>
 (∀ s37 : AS, J36 [] s37 →
 AsSome p30 fun l38 o39 => RdA (rd1 s37 l38 (o39 + 16)) fun v40 => ACalls Try.prog F_slices_SortFunc__s_Dot_Dot [v40, (.func F_ctx_order [])] s37 fun v41 s42 => v41 = .tup [] ∧ (AsSome p30 fun l43 o44 => RdA (rd1 s42 l43 (o44 + 16)) fun v45 => ACalls Try.prog F_slices_Compact__s_Dot_Dot [v45] s42 fun v46 s47 => AsSome p30 fun l48 o49 => qstore T Y_s_Dot s47 l48 (o49 + 16) v46 fun s50 => ACalls Try.prog F_ctx_Ctx_compact [(.ptr p30)] s50 fun v51 s52 => v51 = .tup [] ∧ (AsSome p30 fun l53 o54 => RdA (rd1 s52 l53 (o54 + 16)) fun v55 => RdI .i64 (alenB T Y_s_Dot v55 s52) fun n56 => bsplit (decide ((n56 : Int) > 4096))
 (R (.int .i64 5) s52)
 (AsSome p30 fun l57 o58 => RdL (rdc s52 l57 o58 18) fun g59 => AsSome a0 fun l60 o61 => OkC (some 18) g59 (StQ (awr s52 l60 o61 g59) fun s62 => R (.int .i64 0) s62))))) ∧
 (AsSome a1 fun l63 o64 => RdL (rdc s35 l63 o64 16) fun g65 => LoopQ fun I66 m67 => I66 m67 [(.int .i64 0)] s35 ∧
 ∀ m68 : Nat, ∀ n69 : Int, ∀ s70 : AS, I66 m68 [(.int .i64 n69)] s70 →
 bsplit (decide ((n69 : Int) < 16))
 (RdI .u64 (aindex T Y_Vector (.agg g65) (.int .i64 n69)) fun n71 => AsSome p30 fun l72 o73 => IxQ (aindexAddr T Y_Vector (.ptr (some (l72, o73))) (.int .i64 n69)) fun l74 o75 => RdI .u64 (rd1 s70 l74 o75) fun n76 => RdI .u64 (amax true [(.int .u64 n76), (.int .u64 n71)]) fun n77 => AsSome p30 fun l78 o79 => IxQ (aindexAddr T Y_Vector (.ptr (some (l78, o79))) (.int .i64 n69)) fun l80 o81 => StQ (awr s70 l80 o81 [(.int .u64 n77)]) fun s82 => ∃ m', m' < m68 ∧ I66 m' [(.int .i64 (IntKind.wrap .i64 (n69 + 1)))] s82)
 (J36 [] s70))))))))

def A_ctx_Ctx_Join : QA := (.seq .leaf (.seq (.seq .leaf (.cond (.seq .leaf .leaf) .leaf)) (.seq (.drawH 16 [[], [], [], [], [], [], [], [], [], [], [], [], [], [12], [], []] [12, 13, 15]) (.join [] [(6, 7), (31, 48)] (.seq .leaf (.wrap (.loop [(35, .int .i64)] [(6, 7), (35, 48)] (.seq .leaf (.seq (.cond .leaf .leaf) (.seq (.wrap (.seq .leaf .leaf)) .leaf)))))) (.seq .leaf (.seq .leaf (.seq .leaf (.seq (.seq .leaf (.cond (.seq .leaf .leaf) .leaf)) (.seq .leaf (.seq .leaf .leaf))))))))))

theorem q_ctx_Ctx_Join (a0 : Option (Nat × Nat)) (a1 : Option (Nat × Nat)) (s : AS) (R : AV → AS → Prop) (h : Q_ctx_Ctx_Join a0 a1 s R) : ACalls Try.prog F_ctx_Ctx_Join [(.ptr a0), (.ptr a1)] s R :=
  ACalls.q (n := 64) (rs := [.tmp 4]) (A := A_ctx_Ctx_Join) hT hmx Try.func36 (by kernel_rfl) rfl rfl rfl (by kernel_rfl) (by kernel_rfl) h

end Go.Proofs.Ytbfchlimonimkaa
end

section
set_option linter.unusedSimpArgs false
set_option linter.unusedVariables false
namespace Go.Proofs.Ytbfchlimonimkaa
open Go.Am Go.Minster

theorem absl_two {w1 w2 : AV} (h1 : w1.one = true) (h2 : w2.one = true) : absl T Y_s__Dot 2 [(0, w1), (1, w2)] = some [w1, w2] := by
  have hz : acells (.slc none 0 0 true) = some [.slc none 0 0 true] := rfl
  simp only [absl, u_s__Dot, z_s_Dot, zr_s_Dot, Option.bind_some, hz]
  rw [if_pos ⟨rfl, by decide⟩]
  simp [afill, acells_1 h1, acells_1 h2, rep, wrs]
theorem amaxM (a b : Int) : amax true [.int .u64 a, .int .u64 b] = some (.int .u64 (max a b)) := by
  simp only [amax, amaxL, Am.amax2, Option.bind_some, if_true]
  congr 2
  by_cases h : b > a
  · rw [if_pos h, Int.max_eq_right (by omega)]
  · rw [if_neg h, Int.max_eq_left (by omega)]
/-- the greater of two vectors, place by place, up to a place -/
def vup (v1 v2 : List Int) (i : Nat) : List Int := (List.range 16).map fun j => if j < i then max (v1.getD j 0) (v2.getD j 0) else v1.getD j 0
theorem vup_len (v1 v2 : List Int) (i : Nat) : (vup v1 v2 i).length = 16 := by simp [vup]
theorem vup_get {v1 v2 : List Int} {i j : Nat} (h : j < 16) : (vup v1 v2 i).getD j 0 = if j < i then max (v1.getD j 0) (v2.getD j 0) else v1.getD j 0 := by
  simp [vup, List.getD_eq_getElem?_getD, h]
theorem vec_ext {v w : List Int} (h : v.length = 16) (h' : w.length = 16) (he : ∀ j, j < 16 → v.getD j 0 = w.getD j 0) : v = w := by
  refine List.ext_getElem (by omega) fun j hj hj' => ?_
  have := he j (by omega)
  simp only [List.getD_eq_getElem?_getD, List.getElem?_eq_getElem hj, List.getElem?_eq_getElem hj'] at this
  exact this
theorem vup_zero {v1 v2 : List Int} (h : v1.length = 16) : vup v1 v2 0 = v1 := vec_ext (vup_len _ _ _) h fun j hj => by rw [vup_get hj, if_neg (by omega)]
theorem vup_step {v1 v2 : List Int} {i : Nat} (hi : i < 16) : (vup v1 v2 i).set i (max ((vup v1 v2 i).getD i 0) (v2.getD i 0)) = vup v1 v2 (i + 1) := by
  refine vec_ext (by simp [vup_len]) (vup_len _ _ _) fun j hj => ?_
  rw [vup_get hj, vup_get hi, if_neg (by omega), List.getD_eq_getElem?_getD, List.getElem?_set]
  by_cases e : i = j
  · subst e; rw [if_pos rfl, if_pos (by rw [vup_len]; exact hi), if_pos (by omega)]; rfl
  · rw [if_neg e, ← List.getD_eq_getElem?_getD, vup_get hj]
    by_cases h : j < i
    · rw [if_pos h, if_pos (by omega)]
    · rw [if_neg h, if_neg (by omega)]
/-- the greater of two vectors -/
def vmx (v1 v2 : List Int) : List Int := vup v1 v2 16
theorem vmx_get {v1 v2 : List Int} {j : Nat} (h : j < 16) : (vmx v1 v2).getD j 0 = max (v1.getD j 0) (v2.getD j 0) := by rw [vmx, vup_get h, if_pos h]
theorem VOk.of {v : List Int} (h : v.length = 16) (hb : ∀ j, j < 16 → 0 ≤ v.getD j 0 ∧ v.getD j 0 ≤ 4611686018427387904) : VOk v := by
  refine ⟨h, fun x hx => ?_⟩
  obtain ⟨j, hj, rfl⟩ := List.mem_iff_getElem.1 hx
  have := hb j (by omega)
  simpa [List.getD_eq_getElem?_getD, List.getElem?_eq_getElem hj] using this
theorem vmx_ok {v1 v2 : List Int} (h1 : VOk v1) (h2 : VOk v2) : VOk (vmx v1 v2) := VOk.of (vup_len _ _ _) fun j hj => by
  rw [vmx_get hj]
  have a := h1.get j
  have b := h2.get j
  omega
/-- dots joined, sorted, taken in: the same dots -/
theorem join_plain {v1 v2 : List Int} {e1 e2 l : List Dot} (h1 : COk v1 e1) (h2 : COk v2 e2) (hp : l.Perm (e1 ++ e2)) (hs : Srt l 0 l.length) :
    COk (compact (vmx v1 v2) (dd l)).1 (compact (vmx v1 v2) (dd l)).2 ∧ Gap (compact (vmx v1 v2) (dd l)).1 (compact (vmx v1 v2) (dd l)).2 ∧ ∀ x, hasD (compact (vmx v1 v2) (dd l)).1 (compact (vmx v1 v2) (dd l)).2 x = (hasD v1 e1 x || hasD v2 e2 x) := by
  have hr := dd_rising l (srt_pair hs)
  have hm : ∀ d ∈ dd l, d.may = true := by
    intro d hd
    rw [dd_mem] at hd
    rcases List.mem_append.1 (hp.mem_iff.1 hd) with h | h
    · exact h1.m d h
    · exact h2.m d h
  have hv := vmx_ok h1.v h2.v
  have hsub := compact_sub (vmx v1 v2) (dd l)
  refine ⟨⟨compact_ok hv hm, hr.sub hsub, fun x hx => hm x (hsub.subset hx)⟩, fold_gap (dd l) (vmx v1 v2, []) hv hr hm (by simp), fun x => ?_⟩
  rw [Bool.eq_iff_iff, compact_has hv hm, Bool.or_eq_true, hasD_iff, hasD_iff, dd_mem, hp.mem_iff, List.mem_append]
  constructor
  · rintro ⟨hmx, h⟩
    have := Dot.may_iff.1 hmx
    rw [vmx_get (by omega)] at h
    rcases h with (h | h) | h
    · exact .inl ⟨hmx, .inl h⟩
    · exact .inr ⟨hmx, .inl h⟩
    · rcases Int.le_total (v1.getD (x.r - 1).toNat 0) (v2.getD (x.r - 1).toNat 0) with hle | hle
      · exact .inr ⟨hmx, .inr (by omega)⟩
      · exact .inl ⟨hmx, .inr (by omega)⟩
  · rintro (⟨hmx, h⟩ | ⟨hmx, h⟩)
    · have := Dot.may_iff.1 hmx
      refine ⟨hmx, ?_⟩
      rw [vmx_get (by omega)]
      rcases h with h | h
      · exact .inl (.inl h)
      · exact .inr (by omega)
    · have := Dot.may_iff.1 hmx
      refine ⟨hmx, ?_⟩
      rw [vmx_get (by omega)]
      rcases h with h | h
      · exact .inl (.inr h)
      · exact .inr (by omega)

/-- what a join comes to -/
structure JoinTo (v1 : List Int) (e1 : List Dot) (v2 : List Int) (e2 : List Dot) (v : List Int) (ex : List Dot) : Prop where
  ok : COk v ex
  gap : Gap v ex
  has : ∀ x, hasD v ex x = (hasD v1 e1 x || hasD v2 e2 x)
  len : ex.length ≤ e1.length + e2.length

theorem ctx_x2 {s : AS} {w : AV} {l : List Dot} (h : Dots s w l) : ∀ y ∈ [w, AV.bool true], ∀ n, y ≠ .int .i64 n := by
  intro y hy n
  rcases List.mem_cons.1 hy with rfl | hy
  · exact dots_not_int h _ _
  · obtain rfl : y = .bool true := by simpa using hy
    intro h; cases h

theorem ctx_Join_ok2 {s : AS} {p1 p2 : Nat} {v1 v2 : List Int} {e1 e2 : List Dot} (h1 : CtxAt s p1 v1 e1) (h2 : CtxAt s p2 v2 e2) (o1 : COk v1 e1) (o2 : COk v2 e2) (n1 : e1.length ≤ 4096) (n2 : e2.length ≤ 4096) :
    ACalls Try.prog F_ctx_Ctx_Join [.ptr (some (p1, 0)), .ptr (some (p2, 0))] s fun r s' => ∃ v ex, JoinTo v1 e1 v2 e2 v ex ∧ Mut [p1] s s' ∧ ((ex.length ≤ 4096 ∧ r = .int .i64 0 ∧ CtxG s s' p1 v ex) ∨ (4096 < ex.length ∧ r = .int .i64 5 ∧ Ext s s')) := by
  refine ACalls.pre fun hw => q_ctx_Ctx_Join _ _ _ _ ?_
  refine ACalls.use (ctx_there_ok h1) ?_
  rintro r s2 ⟨rfl, rfl⟩ _
  refine ⟨_, rfl, bsplit.no rfl ?_⟩
  refine ACalls.use (ctx_there_ok h2) ?_
  rintro r s5 ⟨rfl, rfl⟩ _
  refine ⟨_, rfl, bsplit.no rfl ?_⟩
  obtain ⟨l1, w1, m1, ow1, d1⟩ := h1
  obtain ⟨l2, w2, m2, ow2, d2⟩ := h2
  have hn : e1.length + e2.length ≤ 2 ^ 20 := by omega
  refine ⟨fun i _ r s' => (i = 12 → ∃ l, r = .slc (some (l, 0)) 2 2 true ∧ At s' l [w1, w2]) ∧ (i = 13 → r.one = true ∧ ∃ lo, Room s' r (e1.length + e2.length) (e1 ++ e2) lo ∧ ∀ x, lo = some x → s5.h x = none) ∧ (i = 15 → ∃ q, r = .ptr (some (q, 0)) ∧ s5.h q = none ∧ ∃ cs, Own s' q cs ∧ cs.length = 18), fun i _ r => (i = 13 → r.one = true) ∧ (i = 15 → ∃ q, r = .ptr (some (q, 0))), ?_, ?_⟩
  · rintro i k r s' s'' e ⟨ha, hb, hc⟩
    refine ⟨fun hi => ?_, fun hi => ?_, fun hi => ?_⟩
    · obtain ⟨l, h, h'⟩ := ha hi
      exact ⟨l, h, h'.ext e⟩
    · obtain ⟨h0, lo, h, h'⟩ := hb hi
      refine ⟨h0, lo, ?_, h'⟩
      cases lo with
      | none => exact h
      | some lo => obtain ⟨a, b, rest, c, d⟩ := h; exact ⟨a, b, rest, e.1 _ _ c, d⟩
    · obtain ⟨q, h, h', cs, h2, h3⟩ := hc hi
      exact ⟨q, h, h', cs, h2.ext e, h3⟩
  refine ⟨_, m1.at.rdc (by rw [ctx_len l1]; omega), w1, by rw [m1.at.rd1]; exact ctx_16 l1 w1, w2, by rw [m2.at.rd1]; exact ctx_16 l2 w2, fun s16 e16 w16 _ => ?_, ⟨.bool true, (fun h => by cases h), (fun h => by cases h)⟩, fun v20 _ => ⟨fun s21 e21 w21 h21 => ?_, ⟨.bool true, (fun _ => rfl), (fun h => by cases h)⟩, fun v24 hv24 => ?_⟩⟩
  · refine ⟨_, absl_two ow1 ow2, NewQ.intro w16 rfl fun l18 s19 F => ⟨F.ext, ⟨(fun _ => ⟨l18, rfl, F.own.at⟩), (fun h => by cases h), (fun h => by cases h)⟩, (fun h => by cases h), (fun h => by cases h)⟩⟩
  · obtain ⟨l, rfl, hat⟩ := h21.1.1 rfl
    refine (concat_ok hat (d1.ext e21) (d2.ext e21) hn).mono ?_
    rintro r s23 ⟨lo, rm, hlo, e23⟩
    have hone : r.one = true := by
      cases lo with
      | none => obtain ⟨rfl, _⟩ := rm; rfl
      | some lo => obtain ⟨rfl, _⟩ := rm; rfl
    exact ⟨e23, ⟨(fun h => by cases h), (fun _ => ⟨hone, lo, rm, fun x hx => e21.none (hlo x hx)⟩), (fun h => by cases h)⟩, (fun _ => hone), (fun h => by cases h)⟩
  have hone := hv24.1 rfl
  rw [ctx_take l1]
  refine ⟨_, build_Ctx l1 hone, fun s26 e26 w26 _ => ?_, ⟨.ptr (some (0, 0)), (fun h => by cases h), (fun _ => ⟨0, rfl⟩)⟩, fun v29 hv29 => ?_⟩
  · refine NewQ.intro w26 rfl fun q s28 F => ⟨F.ext, ⟨(fun h => by cases h), (fun h => by cases h), (fun _ => ⟨q, rfl, e26.none F.no, _, F.own, rfl⟩)⟩, (fun h => by cases h), (fun _ => ⟨q, rfl⟩)⟩
  obtain ⟨q, rfl⟩ := hv29.2 rfl
  refine ⟨_, rfl, fun s31 e31 w31 hS => ?_⟩
  obtain ⟨_, hS13, hS15, _⟩ := hS
  obtain ⟨_, lo, rm, hlo⟩ := hS13.2.1 rfl
  obtain ⟨q', hq', hq0, cs, oq, hcs⟩ := hS15.2.2 rfl
  simp only [AV.ptr.injEq, Option.some.injEq, Prod.mk.injEq, and_true] at hq'
  subst hq'
  have hqlo : ∀ x, lo = some x → x ≠ q := by
    rintro x rfl rfl
    obtain ⟨_, _, rest, c, _⟩ := rm
    rw [oq] at c
    simp at c
  have hp1q : p1 ≠ q := by rintro rfl; rw [m1] at hq0; cases hq0
  have hp2q : p2 ≠ q := by rintro rfl; rw [m2] at hq0; cases hq0
  refine ⟨⟨by simp [hone], by rw [ctx_len l1]⟩, StQ.own w31 oq (by rw [ctx_len l1]; omega) fun s35 P35 => ?_⟩
  have c35 : Own s35 q (v1.map (AV.int .u64) ++ [v24, .bool true]) := by have := P35.at; rw [wrs_all0 (by rw [ctx_len l1, hcs])] at this; exact this
  have rm35 : Room s35 v24 (e1 ++ e2).length (e1 ++ e2) lo := by
    rw [List.length_append]
    cases lo with
    | none => exact rm
    | some lo => obtain ⟨a, b, rest, c, d⟩ := rm; exact ⟨a, b, rest, P35.mut.1 _ _ (by simpa using hqlo lo rfl) c, d⟩
  have E35 : Mut [q] s5 s35 := e31.mut.trans P35.mut
  refine ⟨fun vs s' => Own s' q ((vmx v1 v2).map (AV.int .u64) ++ [v24, .bool true]) ∧ Mut [q] s35 s' ∧ WFs s', ?_, ?_⟩
  · rintro s37 ⟨c37, m37, w37⟩
    have hvm := vmx_ok o1.v o2.v
    have rm37 : Room s37 v24 (e1 ++ e2).length (e1 ++ e2) lo := by
      cases lo with
      | none => exact rm35
      | some lo => obtain ⟨a, b, rest, c, d⟩ := rm35; exact ⟨a, b, rest, m37.1 _ _ (by simpa using hqlo lo rfl) c, d⟩
    have hqn : q ∉ lo.toList := by
      cases lo with
      | none => simp
      | some lo => simpa using (hqlo lo rfl).symm
    have hnew : ∀ x ∈ lo.toList, s5.h x = none := by
      intro x hx
      cases lo with
      | none => simp at hx
      | some lo => obtain rfl : x = lo := by simpa using hx
                   exact hlo x rfl
    refine ⟨v24, by rw [c37.at.rd1]; exact ctx_16 hvm.len v24, ?_⟩
    refine ACalls.use (sortDd_ok rm37 (by simp; omega)) ?_
    rintro r s42 ⟨rfl, m42, hdd⟩ w42
    have c42 := c37.mut m42 hqn
    refine ⟨rfl, v24, by rw [c42.at.rd1]; exact ctx_16 hvm.len v24, ?_⟩
    refine ACalls.use hdd ?_
    rintro r s47 ⟨r1, m47, l', hp, hs, d47⟩ w47
    have c47 := c37.mut m47 hqn
    obtain ⟨ok, gap, has⟩ := join_plain o1 o2 hp hs
    have hll := hp.length_eq
    rw [List.length_append] at hll
    have hdl := dd_len l'
    refine qstore_one r1 z_s_Dot (StQ.own w47 c47 (by rw [ctx_len hvm.len]; simp) fun s50 P50 => ?_)
    have c50 : Own s50 q ((vmx v1 v2).map (AV.int .u64) ++ [r, .bool true]) := by
      have := P50.at
      rw [wrs_one, Nat.zero_add, List.set_append_right _ _ (by simp [hvm.len])] at this
      simpa [hvm.len, Own] using this
    have hx : ∀ y ∈ [v24, AV.bool true], ∀ n, y ≠ .int .i64 n := by
      intro y hy n
      rcases List.mem_cons.1 hy with rfl | hy
      · rintro rfl
        cases lo with
        | none => cases rm37.1
        | some lo => cases rm37.1
      · obtain rfl : y = .bool true := by simpa using hy
        intro h; cases h
    have C50 : CtxAt s50 q (vmx v1 v2) (dd l') := ⟨hvm.len, r, c50, r1, dots_keep d47 c47.at hx P50.mut⟩
    have hmm : ∀ d ∈ dd l', d.may = true := by
      intro d hd
      rw [dd_mem] at hd
      rcases List.mem_append.1 (hp.mem_iff.1 hd) with h | h
      · exact o1.m d h
      · exact o2.m d h
    refine ACalls.use (ctx_compact_ok2 C50 hvm hmm (by omega)) ?_
    rintro r s52 ⟨rfl, C52, m52⟩ w52
    refine ⟨rfl, ?_⟩
    have hcl := (compact_sub (vmx v1 v2) (dd l')).length_le
    generalize hres : compact (vmx v1 v2) (dd l') = res at ok gap has C52 hcl
    obtain ⟨v, ex⟩ := res
    simp only at ok gap has C52 hcl
    have J : JoinTo v1 e1 v2 e2 v ex := ⟨ok, gap, has, by omega⟩
    obtain ⟨lv, wv, cv, owv, gv, nv⟩ := C52
    have dv : Dots s52 wv ex := gv.sl dotC_len
    -- all that was there is as it was
    have E52 : Ext s5 s52 := by
      refine ⟨fun x o ho => ?_, ?_⟩
      · have hxq : x ≠ q := by rintro rfl; rw [hq0] at ho; cases ho
        have hxl : x ∉ lo.toList := fun hx => by rw [hnew x hx] at ho; cases ho
        exact m52.1 x o (by simpa using hxq) (P50.mut.1 x o (by simpa using hxq) (m47.1 x o hxl (m37.1 x o (by simpa using hxq) (E35.1 x o (by simpa using hxq) ho))))
      · exact Nat.le_trans E35.2 (Nat.le_trans m37.2 (Nat.le_trans m47.2 (Nat.le_trans P50.mut.2 m52.2)))
    refine ⟨wv, by rw [cv.at.rd1]; exact ctx_16 lv wv, _, dv.lenB u_s_Dot _, bsplit.dec (fun hgt => ?_) (fun hle => ?_)⟩
    · exact ⟨v, ex, J, E52.mut, .inr ⟨by omega, rfl, E52⟩⟩
    · refine ⟨_, cv.at.rdc (by rw [ctx_len lv]; omega), ?_⟩
      rw [List.drop_zero, List.take_of_length_le (by rw [ctx_len lv]; omega)]
      refine ⟨⟨by simp [owv], by rw [ctx_len lv]⟩, StQ.own w52 (m1.ext E52) (by rw [ctx_len lv, ctx_len l1]; omega) fun s62 P62 => ?_⟩
      have c62 : Own s62 p1 (v.map (AV.int .u64) ++ [wv, .bool true]) := by have := P62.at; rw [wrs_all0 (by rw [ctx_len lv, ctx_len l1])] at this; exact this
      have E50 : Ext s5 s50 := by
        refine ⟨fun x o ho => ?_, ?_⟩
        · have hxq : x ≠ q := by rintro rfl; rw [hq0] at ho; cases ho
          have hxl : x ∉ lo.toList := fun hx => by rw [hnew x hx] at ho; cases ho
          exact P50.mut.1 x o (by simpa using hxq) (m47.1 x o hxl (m37.1 x o (by simpa using hxq) (E35.1 x o (by simpa using hxq) ho)))
        · exact Nat.le_trans E35.2 (Nat.le_trans m37.2 (Nat.le_trans m47.2 P50.mut.2))
      have hnv : ∀ la ∈ labOf wv, s5.h la = none := fun la hla => E50.none (nv la hla)
      exact ⟨v, ex, J, E52.mut.trans P62.mut, .inl ⟨by omega, rfl, lv, wv, c62, owv, gv.mut P62.mut (fun x hx hm => by
        obtain rfl : x = p1 := by simpa using hm
        have hn := hnv x hx
        rw [m1] at hn
        cases hn), hnv⟩⟩
  · have m2' := m2.mut E35 (by simpa using hp2q)
    refine ⟨_, m2'.at.rdc (by rw [ctx_len l2]; omega), ?_⟩
    rw [ctx_take l2]
    refine ⟨fun m vs s' => ∃ i : Nat, vs = [.int .i64 (i : Nat)] ∧ i ≤ 16 ∧ m = 16 - i ∧ Own s' q ((vup v1 v2 i).map (AV.int .u64) ++ [v24, .bool true]) ∧ Mut [q] s35 s' ∧ WFs s', 16, ⟨0, rfl, by omega, rfl, by rw [vup_zero l1]; exact c35, Mut.refl _ _, P35.wf⟩, ?_⟩
    rintro m n s70 ⟨i, hi, h6, rfl, c70, m70, w70⟩
    simp only [List.cons.injEq, AV.int.injEq, true_and, and_true] at hi
    subst hi
    refine bsplit.dec (fun hlt => ?_) (fun hge => ?_)
    · have hi16 : i < 16 := by omega
      refine ⟨_, aix_vec l2 hi16, _, _, vix (by omega), _, by rw [c70.at.rd1, Nat.zero_add, Nat.mul_one, Int.toNat_natCast]; exact ctx_at (vup_len _ _ _) v24 hi16, _, amaxM _ _, _, _, vix (by omega), StQ.own w70 c70 (by rw [ctx_len (vup_len _ _ _)]; simp; omega) fun s82 P82 => ⟨16 - (i + 1), by omega, i + 1, by rw [wadd1 (by omega)], by omega, rfl, ?_, m70.trans P82.mut, P82.wf⟩⟩
      have := P82.at
      rw [wrs_one, Nat.zero_add, Nat.mul_one, Int.toNat_natCast, vec_set _ _ _ _ (by rw [vup_len]; exact hi16), vup_step hi16] at this
      exact this
    · obtain rfl : i = 16 := by omega
      exact ⟨c70, m70, w70⟩

theorem ctx_Join_ok {s : AS} {p1 p2 : Nat} {v1 v2 : List Int} {e1 e2 : List Dot} (h1 : CtxAt s p1 v1 e1) (h2 : CtxAt s p2 v2 e2) (o1 : COk v1 e1) (o2 : COk v2 e2) (n1 : e1.length ≤ 4096) (n2 : e2.length ≤ 4096) :
    ACalls Try.prog F_ctx_Ctx_Join [.ptr (some (p1, 0)), .ptr (some (p2, 0))] s fun r s' => ∃ v ex, JoinTo v1 e1 v2 e2 v ex ∧ Mut [p1] s s' ∧ ((ex.length ≤ 4096 ∧ r = .int .i64 0 ∧ CtxAt s' p1 v ex) ∨ (4096 < ex.length ∧ r = .int .i64 5 ∧ Ext s s')) :=
  (ctx_Join_ok2 h1 h2 o1 o2 n1 n2).mono fun _ _ ⟨v, ex, a, b, c⟩ => ⟨v, ex, a, b, c.imp (fun ⟨x, y, z⟩ => ⟨x, y, z.at⟩) id⟩
end Go.Proofs.Ytbfchlimonimkaa
end

section
set_option linter.unusedSimpArgs false
set_option linter.unusedVariables false
namespace Go.Proofs.Ytbfchlimonimkaa
open Go.Am Go.Minster

/-! ### many at once -/
/-- a context, or a set of the reference -/
structure Ob where
  ref : Bool
  p : Nat
  v : List Int
  ex : List Dot
def Ob.at (s : AS) (o : Ob) : Prop := match o.ref with
  | true => RefAt s o.p o.v o.ex
  | false => CtxAt s o.p o.v o.ex
theorem CtxAt.there {s : AS} {p : Nat} {v : List Int} {ex : List Dot} (h : CtxAt s p v ex) : s.h p ≠ none := by
  obtain ⟨_, w, h, _⟩ := h; rw [h]; simp
theorem RefAt.there {s : AS} {p : Nat} {v : List Int} {ex : List Dot} (h : RefAt s p v ex) : s.h p ≠ none := by
  obtain ⟨_, w, h, _⟩ := h; rw [h]; simp
theorem CtxAt.keepC {s s' : AS} {p q : Nat} {v v' : List Int} {ex ex' : List Dot} (h : CtxAt s p v ex) (h' : CtxAt s q v' ex') (hne : p ≠ q) (m : Mut [q] s s') : CtxAt s' p v ex := by
  obtain ⟨h1, w, h2, h3, h4⟩ := h
  obtain ⟨h1', w', h2', h3', h4'⟩ := h'
  exact ⟨h1, w, h2.mut m (by simpa using hne), h3, dots_keep h4 h2'.at (ctx_x2 h4') m⟩
theorem RefAt.keepR {s s' : AS} {p q : Nat} {v v' : List Int} {ex ex' : List Dot} (h : RefAt s p v ex) (h' : RefAt s q v' ex') (hne : p ≠ q) (m : Mut [q] s s') : RefAt s' p v ex := by
  obtain ⟨h1, w, h2, h3, h5, h4⟩ := h
  obtain ⟨h1', w', h2', h3', h5', h4'⟩ := h'
  refine ⟨h1, w, h2.mut m (by simpa using hne), h3, h5, dots_keep h4 h2'.at (x := [w']) ?_ m⟩
  intro y hy n
  obtain rfl : y = w' := by simpa using hy
  exact dots_not_int h4' _ _
theorem Ob.at.ext {s s' : AS} {o : Ob} (h : o.at s) (e : Ext s s') : o.at s' := by
  unfold Ob.at at *
  split at h
  · exact RefAt.ext h e
  · exact CtxAt.ext h e
theorem Ob.at.there {s : AS} {o : Ob} (h : o.at s) : s.h o.p ≠ none := by
  unfold Ob.at at h
  split at h
  · exact RefAt.there h
  · exact CtxAt.there h
theorem Ob.at.keep {s s' : AS} {o o2 : Ob} (h : o.at s) (h2 : o2.at s) (hne : o.p ≠ o2.p) (m : Mut [o2.p] s s') : o.at s' := by
  unfold Ob.at at *
  split at h
  · split at h2
    · exact RefAt.keepR h h2 hne m
    · exact RefAt.keep h h2 m
  · split at h2
    · exact CtxAt.keep h h2 m
    · exact CtxAt.keepC h h2 hne m

/-- all of them are there, apart -/
structure Obs (s : AS) (L : List Ob) : Prop where
  al : ∀ o ∈ L, o.at s
  ne : L.Pairwise fun o o' => o.p ≠ o'.p
theorem Obs.nil {s : AS} : Obs s [] := ⟨by simp, List.Pairwise.nil⟩
theorem Obs.ext {s s' : AS} {L : List Ob} (h : Obs s L) (e : Ext s s') : Obs s' L := ⟨fun o ho => (h.al o ho).ext e, h.ne⟩
theorem Obs.add {s s' : AS} {L : List Ob} (h : Obs s L) (e : Ext s s') (o : Ob) (hn : s.h o.p = none) (ho : o.at s') : Obs s' (o :: L) := by
  refine ⟨fun x hx => ?_, List.pairwise_cons.2 ⟨fun x hx he => ?_, h.ne⟩⟩
  · rcases List.mem_cons.1 hx with rfl | hx
    · exact ho
    · exact (h.al x hx).ext e
  · exact (h.al x hx).there (by rw [← he]; exact hn)
theorem Obs.mut {s s' : AS} (L1 : List Ob) {L2 : List Ob} {o : Ob} (h : Obs s (L1 ++ o :: L2)) (o' : Ob) (m : Mut [o.p] s s') (hp : o'.p = o.p) (ho : o'.at s') : Obs s' (L1 ++ o' :: L2) := by
  obtain ⟨n1, n2, n3⟩ := List.pairwise_append.1 h.ne
  obtain ⟨n4, n5⟩ := List.pairwise_cons.1 n2
  have hoat := h.al o (by simp)
  refine ⟨fun x hx => ?_, List.pairwise_append.2 ⟨n1, List.pairwise_cons.2 ⟨fun x hx => by rw [hp]; exact n4 x hx, n5⟩, fun a ha b hb => ?_⟩⟩
  · rcases List.mem_append.1 hx with hx | hx
    · exact (h.al x (by simp [hx])).keep hoat (n3 x hx o (by simp)) m
    · rcases List.mem_cons.1 hx with rfl | hx
      · exact ho
      · exact (h.al x (by simp [hx])).keep hoat (Ne.symm (n4 x hx)) m
  · rcases List.mem_cons.1 hb with rfl | hb
    · rw [hp]; exact n3 a ha o (by simp)
    · exact n3 a ha b (by simp [hb])

/-! ### contracts -/
theorem ctx_Copy_G {s : AS} {p : Nat} {v : List Int} {ex : List Dot} (h : CtxAt s p v ex) (hn : ex.length ≤ 2 ^ 30) : ACalls Try.prog F_ctx_Ctx_Copy [.ptr (some (p, 0))] s fun r s' => ∃ q, r = .ptr (some (q, 0)) ∧ s.h q = none ∧ CtxG s s' q v ex ∧ Ext s s' := by
  refine q_ctx_Ctx_Copy _ _ _ ?_
  refine ACalls.use (ctx_there_ok h) ?_
  rintro r s2 ⟨rfl, rfl⟩ _
  obtain ⟨h1, w, h2, h3, h4⟩ := h
  refine ⟨_, rfl, bsplit.no rfl ⟨fun k _ r s' => k = 8 → Gro dotC 2 s' r ex ∧ (∀ la ∈ labOf r, s2.h la = none) ∧ r ≠ .emp ∧ r.one = true, fun k _ r => k = 8 → r.one = true, fun _ _ _ _ _ e h hk => ⟨(h hk).1.ext e, (h hk).2⟩, _, h2.at.rdc (by rw [ctx_len h1]; omega), w, by rw [h2.at.rd1]; exact ctx_16 h1 w, fun s10 e10 w10 _ => ?_, ⟨.bool true, fun _ => rfl⟩, ?_⟩⟩
  · refine (clone_S (s := s2) e10 (h4.ext e10) hn).mono ?_
    rintro r s' ⟨e, h⟩
    exact ⟨e, fun _ => h, fun _ => h.2.2.2⟩
  rintro r hr s14 e14 w14 ⟨hr2, _⟩
  obtain ⟨g, hnew, hne, hone⟩ := hr2 rfl
  rw [ctx_take h1]
  refine ⟨_, build_Ctx h1 hone, by simp [One1, hone], NewQ.intro w14 rfl fun q s18 F => ⟨q, rfl, e14.none F.no, ⟨h1, r, F.own, hone, g.ext F.ext, hnew⟩, e14.trans F.ext⟩⟩

theorem ctx_Copy_ok {s : AS} {p : Nat} {v : List Int} {ex : List Dot} (h : CtxAt s p v ex) (hn : ex.length ≤ 2 ^ 30) : ACalls Try.prog F_ctx_Ctx_Copy [.ptr (some (p, 0))] s fun r s' => ∃ q, r = .ptr (some (q, 0)) ∧ s.h q = none ∧ CtxAt s' q v ex ∧ Ext s s' :=
  (ctx_Copy_G h hn).mono fun _ _ ⟨q, a, b, c, d⟩ => ⟨q, a, b, c.at, d⟩

/-- has a context all of another one? -/
def Cov (v : List Int) (ex : List Dot) (v' : List Int) (ex' : List Dot) : Prop := ∀ x, hasD v' ex' x = true → hasD v ex x = true
theorem JoinTo.cov {v1 v2 v : List Int} {e1 e2 ex : List Dot} (j : JoinTo v1 e1 v2 e2 v ex) (o : COk v1 e1) (g : Gap v1 e1) : (v = v1 ∧ ex = e1) ↔ Cov v1 e1 v2 e2 := by
  constructor
  · rintro ⟨rfl, rfl⟩ x hx
    rw [j.has x, hx, Bool.or_true]
  · intro h
    refine norm_eq j.ok j.gap o g fun d => ?_
    rw [j.has]
    cases hq : hasD v2 e2 d with
    | false => simp
    | true => rw [h d hq]; rfl
theorem JoinTo.uniq {v1 v2 v v' w1 w2 : List Int} {e1 e2 ex ex' f1 f2 : List Dot} (j : JoinTo v1 e1 v2 e2 v ex) (j' : JoinTo w1 f1 w2 f2 v' ex') (hh : ∀ x, (hasD v1 e1 x || hasD v2 e2 x) = (hasD w1 f1 x || hasD w2 f2 x)) : v = v' ∧ ex = ex' :=
  norm_eq j.ok j.gap j'.ok j'.gap fun d => by rw [j.has, j'.has, hh]

theorem ctx_Covers_ok {s : AS} {p1 p2 : Nat} {v1 v2 : List Int} {e1 e2 : List Dot} (h1 : CtxAt s p1 v1 e1) (h2 : CtxAt s p2 v2 e2) (o1 : COk v1 e1) (g1 : Gap v1 e1) (o2 : COk v2 e2) (n1 : e1.length ≤ 4096) (n2 : e2.length ≤ 4096) :
    ACalls Try.prog F_ctx_Ctx_Covers [.ptr (some (p1, 0)), .ptr (some (p2, 0))] s fun r s' => Ext s s' ∧ ∃ b, r = .bool b ∧ (b = true ↔ Cov v1 e1 v2 e2) := by
  refine q_ctx_Ctx_Covers _ _ _ _ ?_
  refine ACalls.use (ctx_there_ok h2) ?_
  rintro r s2 ⟨rfl, rfl⟩ _
  refine ⟨_, rfl, bsplit.no rfl ?_⟩
  refine ACalls.use (ctx_there_ok h1) ?_
  rintro r s5 ⟨rfl, rfl⟩ _
  refine ⟨_, rfl, bsplit.no rfl ?_⟩
  refine ACalls.use (ctx_Copy_ok h1 (by omega)) ?_
  rintro r s17 ⟨q, rfl, hq, c17, e17⟩ w17
  refine ⟨_, rfl, ?_⟩
  refine ACalls.use (ctx_Join_ok c17 (h2.ext e17) o1 o2 n1 n2) ?_
  rintro r s20 ⟨v, ex, j, m20, hj⟩ w20
  have e20 := Ext.wr e17 hq m20
  have hc := j.cov o1 g1
  rcases hj with ⟨hlen, rfl, c20⟩ | ⟨hlen, rfl, _⟩
  · refine ⟨_, rfl, bsplit.yes rfl ?_⟩
    refine ACalls.use (Same_ok c20 (h1.ext e20) (by omega)) ?_
    rintro r s23 ⟨rfl, rfl⟩ _
    refine ⟨_, rfl, e20, _, rfl, ?_⟩
    rw [Bool.and_eq_true, decide_eq_true_eq, decide_eq_true_eq]
    exact hc
  · refine ⟨_, rfl, bsplit.no rfl ⟨e20, _, rfl, ?_⟩⟩
    rw [← hc]
    constructor
    · intro h; cases h
    · rintro ⟨_, rfl⟩; omega

/-! ### the reference -/
theorem ref_Copy_ok {s : AS} {p : Nat} {v : List Int} {ex : List Dot} (h : RefAt s p v ex) (hn : ex.length ≤ 2 ^ 30) : ACalls Try.prog F_ref04iSet_Copy [.ptr (some (p, 0))] s fun r s' => ∃ q, r = .ptr (some (q, 0)) ∧ s.h q = none ∧ RefAt s' q v ex ∧ Ext s s' := by
  obtain ⟨h1, w, h2, h3, h5, h4⟩ := h
  refine q_ref04iSet_Copy _ _ _ ⟨fun k _ r s' => k = 8 → Gro dotC 2 s' r ex ∧ (∀ la ∈ labOf r, s.h la = none) ∧ r ≠ .emp ∧ r.one = true, fun k _ r => k = 8 → r.one = true, fun _ _ _ _ _ e h hk => ⟨(h hk).1.ext e, (h hk).2⟩, _, h2.at.rdc (by rw [ref_set_len h1]; omega), w, by rw [h2.at.rd1]; exact ref_16 h1 w, fun s7 e7 w7 _ => ?_, ⟨.bool true, fun _ => rfl⟩, ?_⟩
  · refine GroN.appendS sl_s_Dot dotC_len dotC_one w7 (GroN.nil (M := [])) (by simp) (h4.ext e7) (by simpa using hn) u_s_Dot fun v' s' g _ _ => ?_
    rw [List.nil_append] at g
    exact ⟨g.chg.ext, fun _ => ⟨g.gro, fun la hla => e7.none (g.new la hla), g.isSlc⟩, fun _ => g.isSlc.2⟩
  rintro r hr s11 e11 w11 ⟨hr2, _⟩
  obtain ⟨g, hnew, hne, hone⟩ := hr2 rfl
  have ht : List.take 16 (List.drop 0 (v.map (AV.int .u64) ++ [w])) = v.map (AV.int .u64) := by
    rw [List.drop_zero, List.take_append_of_le_length (by simp [h1]), List.take_of_length_le (by simp [h1])]
  rw [ht]
  refine ⟨_, build_Set h1 hone, by simp [One1, hone], NewQ.intro w11 rfl fun q s18 F => ⟨q, rfl, e11.none F.no, ⟨h1, r, F.own, hone, hne, (g.ext F.ext).sl dotC_len⟩, e11.trans F.ext⟩⟩

theorem vec_eq' {v v' : List Int} (h : v.length = 16) (h' : v'.length = 16) : aeq T 100 Y_a16iuint64 (.agg (v.map (.int .u64))) (.agg (v'.map (.int .u64))) = some (decide (v = v')) :=
  aeq_arr_int u_a16iuint64 z_uint64 u_uint64 98 h h'
theorem refSame_ok {s : AS} {p q : Nat} {v v' : List Int} {ex ex' : List Dot} (h : RefAt s p v ex) (h' : RefAt s q v' ex') (hn : ex.length ≤ 2 ^ 40) : ACalls Try.prog F_ref04iSame [.ptr (some (p, 0)), .ptr (some (q, 0))] s fun r s' => r = .bool (decide (v = v') && decide (ex = ex')) ∧ s' = s := by
  obtain ⟨h1, w, h2, h3, h5, h4⟩ := h
  obtain ⟨h1', w', h2', h3', h5', h4'⟩ := h'
  have ht : ∀ {v : List Int} {w : AV}, v.length = 16 → List.take 16 (List.drop 0 (v.map (AV.int .u64) ++ [w])) = v.map (AV.int .u64) := by
    intro v w h1
    rw [List.drop_zero, List.take_append_of_le_length (by simp [h1]), List.take_of_length_le (by simp [h1])]
  refine q_ref04iSame _ _ _ _ ⟨_, h2.at.rdc (by rw [ref_set_len h1]; omega), _, h2'.at.rdc (by rw [ref_set_len h1']; omega), ?_⟩
  rw [ht h1, ht h1']
  refine ⟨_, vec_eq' h1 h1', bsplit.dec (fun hv => ?_) (fun hv => ?_)⟩
  · refine ⟨w, by rw [h2.at.rd1]; exact ref_16 h1 w, w', by rw [h2'.at.rd1]; exact ref_16 h1' w', ?_⟩
    refine (SameDots_ok h4 h4' hn).mono ?_
    rintro r s' ⟨rfl, rfl⟩
    exact ⟨_, rfl, by simp [hv], rfl⟩
  · exact ⟨by simp [hv], rfl⟩

theorem ref_Join_ok {s : AS} {p1 p2 : Nat} {v1 v2 : List Int} {e1 e2 : List Dot} (h1 : RefAt s p1 v1 e1) (h2 : RefAt s p2 v2 e2) (hne : p2 ≠ p1) (o1 : COk v1 e1) (o2 : COk v2 e2) (n1 : e1.length ≤ 2 ^ 20) (n2 : e2.length ≤ 2 ^ 20) :
    ACalls Try.prog F_ref04iSet_Join [.ptr (some (p1, 0)), .ptr (some (p2, 0))] s fun r s' => r = .tup [] ∧ ∃ v ex, JoinTo v1 e1 v2 e2 v ex ∧ Mut [p1] s s' ∧ RefAt s' p1 v ex := by
  refine ACalls.pre fun hw => q_ref04iSet_Join _ _ _ _ ⟨fun vs s' => RefAt s' p1 (vmx v1 v2) e1 ∧ Mut [p1] s s' ∧ WFs s', ?_, fun m vs s' => ∃ i : Nat, vs = [.int .i64 (i : Nat)] ∧ i ≤ 16 ∧ m = 16 - i ∧ RefAt s' p1 (vup v1 v2 i) e1 ∧ Mut [p1] s s' ∧ WFs s', 16, ⟨0, rfl, by omega, rfl, by rw [vup_zero h1.len]; exact h1, Mut.refl _ _, hw⟩, ?_⟩
  · rintro s2 ⟨r2, m2, w2⟩
    have hv := vmx_ok o1.v o2.v
    refine ACalls.use (ref_compact_ok r2 hv o1.m (by omega)) ?_
    rintro r s4 ⟨rfl, r4, m4⟩ w4
    have hcl := (compact_sub (vmx v1 v2) e1).length_le
    have hsub := compact_sub (vmx v1 v2) e1
    have ok0 : COk (compact (vmx v1 v2) e1).1 (compact (vmx v1 v2) e1).2 := ⟨compact_ok hv o1.m, o1.r.sub hsub, fun x hx => o1.m x (hsub.subset hx)⟩
    have gap0 : Gap (compact (vmx v1 v2) e1).1 (compact (vmx v1 v2) e1).2 := fold_gap e1 (vmx v1 v2, []) hv o1.r o1.m (by simp)
    have has0 : ∀ x, hasD (compact (vmx v1 v2) e1).1 (compact (vmx v1 v2) e1).2 x = true ↔ x.may = true ∧ (x ∈ e1 ∨ x.c ≤ (vmx v1 v2).getD (x.r - 1).toNat 0) := fun x => compact_has hv o1.m x
    refine ⟨rfl, fun m vs s' => ∃ (i : Nat) (v : List Int) (ex : List Dot), vs = [.int .i64 (i : Nat)] ∧ i ≤ e2.length ∧ m = e2.length - i ∧ COk v ex ∧ Gap v ex ∧ ex.length ≤ e1.length + i ∧ (∀ x, hasD v ex x = true ↔ (x.may = true ∧ (x ∈ e1 ∨ x.c ≤ (vmx v1 v2).getD (x.r - 1).toNat 0)) ∨ x ∈ e2.take i) ∧ RefAt s' p1 v ex ∧ Mut [p1] s s' ∧ WFs s', e2.length, ⟨0, _, _, rfl, by omega, rfl, ok0, gap0, by omega, fun x => by simp [has0], r4, m2.trans m4, w4⟩, ?_⟩
    rintro m n s9 ⟨i, v, ex, hi, hil, rfl, ok, gap, hel, has, r9, m9, w9⟩
    simp only [List.cons.injEq, AV.int.injEq, true_and, and_true] at hi
    subst hi
    obtain ⟨l2, w2, a2, b2, c2, d2⟩ := h2.keepR h1 hne m9
    have hw16 : rd1 s9 p2 (0 + 16) = some w2 := by rw [a2.at.rd1]; exact ref_16 l2 w2
    refine ⟨w2, hw16, _, d2.lenB u_s_Dot _, bsplit.dec (fun hlt => ?_) (fun hge => ?_)⟩
    · obtain ⟨x, hx⟩ := get_lt (l := e2) (i := i) (by omega)
      have hmx := o2.m x (List.mem_of_getElem? hx)
      obtain ⟨la, o, h8, h9⟩ := d2.ix (by decide) dotC_len u_s_Dot z_Dot hx
      refine ⟨w2, hw16, la, o, h8 _, _, (h9 _ (Ext.refl _)).2, ?_⟩
      refine ACalls.use (ref_Add_ok r9 ok.v ok.r ok.m (by omega) hmx) ?_
      rintro r s21 ⟨rfl, r21, m21⟩ w21
      refine ⟨_, rfl, e2.length - (i + 1), by omega, i + 1, _, _, by rw [wadd1 (by omega)], by omega, rfl, ok.add hmx, gap.add ok hmx, Nat.le_trans addR_len (by omega), fun y => ?_, r21, m9.trans m21, w21⟩
      rw [addR_has ok hmx, has, List.take_add_one, hx, Option.toList_some, List.mem_append, List.mem_singleton, or_assoc]
    · obtain rfl : i = e2.length := by omega
      refine ⟨rfl, v, ex, ⟨ok, gap, fun x => ?_, by omega⟩, m9, r9⟩
      rw [Bool.eq_iff_iff, has, Bool.or_eq_true, hasD_iff, hasD_iff, List.take_length]
      constructor
      · rintro (⟨hm, h⟩ | h)
        · have := Dot.may_iff.1 hm
          rw [vmx_get (by omega)] at h
          rcases h with h | h
          · exact .inl ⟨hm, .inl h⟩
          · rcases Int.le_total (v1.getD (x.r - 1).toNat 0) (v2.getD (x.r - 1).toNat 0) with hle | hle
            · exact .inr ⟨hm, .inr (by omega)⟩
            · exact .inl ⟨hm, .inr (by omega)⟩
        · exact .inr ⟨o2.m x h, .inl h⟩
      · rintro (⟨hm, h⟩ | ⟨hm, h⟩)
        · have := Dot.may_iff.1 hm
          refine .inl ⟨hm, ?_⟩
          rw [vmx_get (by omega)]
          rcases h with h | h
          · exact .inl h
          · exact .inr (by omega)
        · rcases h with h | h
          · exact .inr h
          · have := Dot.may_iff.1 hm
            refine .inl ⟨hm, .inr ?_⟩
            rw [vmx_get (by omega)]; omega
  · rintro m n s27 ⟨i, hi, hi16, rfl, r27, m27, w27⟩
    simp only [List.cons.injEq, AV.int.injEq, true_and, and_true] at hi
    subst hi
    refine bsplit.dec (fun hlt => ?_) (fun hge => ?_)
    · have h16 : i < 16 := by omega
      have r2 := h2.keepR h1 hne m27
      obtain ⟨l2, w2, a2, b2, c2, d2⟩ := r2
      obtain ⟨l1, w1, a1, b1, c1, d1⟩ := r27
      have g2 : rd1 s27 p2 (0 + (i : Int).toNat * 1) = some (.int .u64 (v2.getD i 0)) := by rw [a2.at.rd1, Nat.zero_add, Nat.mul_one, Int.toNat_natCast]; exact ref_at l2 w2 h16
      have g1 : rd1 s27 p1 (0 + (i : Int).toNat * 1) = some (.int .u64 ((vup v1 v2 i).getD i 0)) := by rw [a1.at.rd1, Nat.zero_add, Nat.mul_one, Int.toNat_natCast]; exact ref_at l1 w1 h16
      have hst := vup_step (v1 := v1) (v2 := v2) h16
      refine ⟨_, _, vix' (by omega), _, g2, _, _, vix' (by omega), _, g1, bsplit.dec (fun hgt => ?_) (fun hle => ?_)⟩
      · refine ⟨_, _, vix' (by omega), _, g2, _, _, vix' (by omega), StQ.own w27 a1 (by rw [ref_set_len l1]; simp; omega) fun s47 P => ⟨16 - (i + 1), by omega, i + 1, by rw [wadd1 (by omega)], by omega, rfl, ⟨vup_len _ _ _, w1, ?_, b1, c1, ?_⟩, m27.trans P.mut, P.wf⟩⟩
        · have := P.at
          rw [wrs_one, Nat.zero_add, Nat.mul_one, Int.toNat_natCast, vec_set _ _ _ _ (by rw [vup_len]; exact h16)] at this
          rw [Int.max_eq_right (by omega)] at hst
          rw [hst] at this
          exact this
        · refine dots_keep d1 a1.at (x := [w1]) (fun y hy n => ?_) P.mut
          obtain rfl : y = w1 := by simpa using hy
          exact dots_not_int d1 _ _
      · rw [Int.max_eq_left (by omega)] at hst
        have : vup v1 v2 (i + 1) = vup v1 v2 i := by
          rw [← hst]
          refine vec_ext (by simp [vup_len]) (vup_len _ _ _) fun j hj => ?_
          rw [List.getD_eq_getElem?_getD, List.getElem?_set]
          by_cases e : i = j
          · subst e; rw [if_pos rfl, if_pos (by rw [vup_len]; exact h16)]; rfl
          · rw [if_neg e, ← List.getD_eq_getElem?_getD]
        exact ⟨16 - (i + 1), by omega, i + 1, by rw [wadd1 (by omega)], by omega, rfl, by rw [this]; exact ⟨l1, w1, a1, b1, c1, d1⟩, m27, w27⟩
    · obtain rfl : i = 16 := by omega
      exact ⟨r27, m27, w27⟩

theorem ref_Covers_ok {s : AS} {p1 p2 : Nat} {v1 v2 : List Int} {e1 e2 : List Dot} (h1 : RefAt s p1 v1 e1) (h2 : RefAt s p2 v2 e2) (o1 : COk v1 e1) (g1 : Gap v1 e1) (o2 : COk v2 e2) (n1 : e1.length ≤ 2 ^ 20) (n2 : e2.length ≤ 2 ^ 20) :
    ACalls Try.prog F_ref04iSet_Covers [.ptr (some (p1, 0)), .ptr (some (p2, 0))] s fun r s' => Ext s s' ∧ ∃ b, r = .bool b ∧ (b = true ↔ Cov v1 e1 v2 e2) := by
  refine q_ref04iSet_Covers _ _ _ _ ?_
  refine ACalls.use (ref_Copy_ok h1 (by omega)) ?_
  rintro r s2 ⟨q, rfl, hq, r2, e2'⟩ w2
  refine ⟨_, rfl, ?_⟩
  have hne : p2 ≠ q := by rintro rfl; exact h2.there hq
  refine ACalls.use (ref_Join_ok r2 (h2.ext e2') hne o1 o2 n1 n2) ?_
  rintro r s5 ⟨rfl, v, ex, j, m5, r5⟩ w5
  have e5 := Ext.wr e2' hq m5
  have hjl := j.len
  refine ⟨rfl, ?_⟩
  refine ACalls.use (refSame_ok r5 (h1.ext e5) (by omega)) ?_
  rintro r s7 ⟨rfl, rfl⟩ _
  refine ⟨_, rfl, e5, _, rfl, ?_⟩
  rw [Bool.and_eq_true, decide_eq_true_eq, decide_eq_true_eq]
  exact j.cov o1 g1
end Go.Proofs.Ytbfchlimonimkaa
end

section
set_option linter.unusedSimpArgs false
set_option linter.unusedVariables false
namespace Go.Proofs.Ytbfchlimonimkaa
open Go.Am Go.Minster Go.ChangeShapes Go.WideShapes Go.ChangeAt Go.RowKit

set_option maxRecDepth 100000 in
theorem flat_int : flatT Try.prog 5 Y_int = some [.int .i64] := by kernel_rfl
abbrev Ints := Sl (fun n : Int => [AV.int .i64 n]) 1
set_option maxRecDepth 100000 in
theorem ints_arg {H : Type} {enc : TypeId × Value → H} {W : World} {base : Nat} {v : Value} (hv : Value.okWide Try.prog W .any base Y_s_int v) (h : ∃ (d : DataW H) (p : List MemPlace), DataW.Trod enc Try.prog W 0 (fun _ => true) true Y_s_int v d p) :
    ∃ l : List Int, Ints (sW W) (absV W.heap.size (MW W) v) l ∧ ∀ n ∈ l, -9223372036854775808 ≤ n ∧ n ≤ 9223372036854775807 := by
  obtain ⟨d, p, h⟩ := h
  obtain ⟨C, h1, h2, _⟩ := slice_arg (d := 5) (ks := [.int .i64]) (hT.und _ _ u_s_int) flat_int (by kernel_rfl) (by decide) hv h
  obtain ⟨l, e1, e2, e3⟩ := cells_dec (f := fun n : Int => [AV.int .i64 n]) (Q := fun n => -9223372036854775808 ≤ n ∧ n ≤ 9223372036854775807) C fun c hc => by
    obtain ⟨a, c1, rfl, ⟨r, rfl, hr1, hr2⟩, g1⟩ := (h2 c hc).cons
    obtain rfl := g1.nil
    rw [min_i64] at hr1
    rw [max_i64] at hr2
    exact ⟨r, rfl, hr1, hr2⟩
  rw [e1, e2] at h1
  exact ⟨l, h1, e3⟩

theorem has_zero (x : Dot) : hasD zeros [] x = false := by
  cases hq : hasD zeros [] x with
  | false => rfl
  | true =>
    obtain ⟨hm, h⟩ := hasD_iff.1 hq
    have := Dot.may_iff.1 hm
    rcases h with h | h
    · cases h
    · have e : zeros.getD (x.r - 1).toNat 0 = 0 := by
        simp only [zeros, List.getD_eq_getElem?_getD, List.getElem?_replicate]
        split <;> rfl
      omega
theorem mem_take_succ {l : List Dot} {i : Nat} {x y : Dot} (hx : l[i]? = some x) : y ∈ l.take (i + 1) ↔ y ∈ l.take i ∨ y = x := by
  rw [List.take_add_one, hx, Option.toList_some, List.mem_append, List.mem_singleton]

/-- by both, with what is in it -/
theorem law_of_has {s : AS} {a : AV} {la : List Dot} (ha : Dots s a la) (hn : la.length ≤ 200) : ACalls Try.prog F_law04iof [a] s fun r s' => ∃ p q v ex, r = .tup [.ptr (some (p, 0)), .ptr (some (q, 0))] ∧ s.h p = none ∧ s.h q = none ∧ COk v ex ∧ Gap v ex ∧ ex.length ≤ la.length ∧ Ext s s' ∧ CtxAt s' p v ex ∧ RefAt s' q v ex ∧ ∀ x, hasD v ex x = true ↔ x.may = true ∧ x ∈ la := by
  refine q_law04iof _ _ _ ?_
  refine ACalls.use (ctx_New_ok _) ?_
  rintro r s2 ⟨p, rfl, hp, hc, e2⟩ hw2
  refine ⟨_, rfl, set_new hw2 fun q s6 hq hr e6 hw6 => ?_⟩
  have hq0 := e2.none hq
  have E6 := e2.trans e6
  refine ⟨fun vs s' => ∃ v ex, COk v ex ∧ Gap v ex ∧ ex.length ≤ la.length ∧ Ext s s' ∧ CtxAt s' p v ex ∧ RefAt s' q v ex ∧ ∀ x, hasD v ex x = true ↔ x.may = true ∧ x ∈ la, ?_, fun m vs s' => ∃ (i : Nat) (v : List Int) (ex : List Dot), vs = [.int .i64 (i : Nat)] ∧ i ≤ la.length ∧ m = la.length - i ∧ COk v ex ∧ Gap v ex ∧ ex.length ≤ i ∧ Ext s s' ∧ WFs s' ∧ CtxAt s' p v ex ∧ RefAt s' q v ex ∧ ∀ x, hasD v ex x = true ↔ x.may = true ∧ x ∈ la.take i, la.length, ⟨0, _, _, rfl, by omega, rfl, COk.zero, (fun y hy => by cases hy), by simp, E6, hw6, hc.ext e6, hr, fun x => by simp [has_zero]⟩, ?_⟩
  · rintro s8 ⟨v, ex, h1, h2, h3, h4, h5, h6, h7⟩
    exact ⟨p, q, v, ex, rfl, hp, hq0, h1, h2, h3, h4, h5, h6, h7⟩
  · rintro m n s13 ⟨i, v, ex, hi, h6, rfl, ok, gap, hlen, e13, w13, c13, r13, has⟩
    simp only [List.cons.injEq, AV.int.injEq, true_and, and_true] at hi
    subst hi
    refine ⟨_, ha.lenB u_s_Dot _, bsplit.dec (fun hlt => ?_) (fun hge => ⟨v, ex, ok, gap, by omega, e13, c13, r13, fun x => by rw [has, List.take_of_length_le (by omega)]⟩)⟩
    have cont : ∀ s' v' ex', COk v' ex' → Gap v' ex' → ex'.length ≤ ex.length + 1 → Ext s s' → WFs s' → CtxAt s' p v' ex' → RefAt s' q v' ex' → (∀ x, hasD v' ex' x = true ↔ x.may = true ∧ x ∈ la.take (i + 1)) → ∃ m', m' < la.length - i ∧ ∃ (j : Nat) (v : List Int) (ex : List Dot), [AV.int .i64 (IntKind.wrap .i64 ((i : Int) + 1))] = [.int .i64 (j : Nat)] ∧ j ≤ la.length ∧ m' = la.length - j ∧ COk v ex ∧ Gap v ex ∧ ex.length ≤ j ∧ Ext s s' ∧ WFs s' ∧ CtxAt s' p v ex ∧ RefAt s' q v ex ∧ ∀ x, hasD v ex x = true ↔ x.may = true ∧ x ∈ la.take j := by
      intro s' v' ex' a b c d e f g h
      exact ⟨la.length - (i + 1), by omega, i + 1, v', ex', by rw [wrap_i (by omega)]; rfl, by omega, rfl, a, b, by omega, d, e, f, g, h⟩
    obtain ⟨x, hx⟩ := get_lt (l := la) (i := i) (by omega)
    obtain ⟨lx, o, h8, h9⟩ := ha.ix (by decide) dotC_len u_s_Dot z_Dot hx
    have gx := fun s' e => (h9 s' e).2
    refine ⟨lx, o, h8 _, _, gx _ e13, ?_⟩
    refine ACalls.use (ref04iMay_ok x _) ?_
    rintro r s19 ⟨rfl, e19⟩ hw19
    have E19 := e13.trans e19
    have c19 := c13.ext e19
    have r19 := r13.ext e19
    refine ⟨_, rfl, bsplit.mk (fun hm => ?_) (fun hm => ?_)⟩
    · refine ⟨lx, o, h8 _, _, gx _ E19, ?_⟩
      refine ACalls.use (ctx_Add_ok c19 ok.v ok.r ok.m (by omega) x) ?_
      rintro r s25 ⟨rfl, c25, m25⟩ hw25
      have e25 := Ext.wr E19 hp m25
      have r25 := r19.keep c19 m25
      have hadd := addD_few (v := v) (ex := ex) hm (by omega)
      rw [hadd] at c25 ⊢
      change CtxAt s25 p (addR v ex x).1 (addR v ex x).2 at c25
      refine ⟨_, _, rfl, lx, o, h8 _, _, gx _ e25, ?_⟩
      refine ACalls.use (ref_Add_ok r25 ok.v ok.r ok.m (by omega) hm) ?_
      rintro r s32 ⟨rfl, r32, m32⟩ hw32
      have c32 := c25.keep r25 m32
      refine ⟨_, rfl, cont _ _ _ (ok.add hm) (Gap.add ok gap hm) addR_len (Ext.wr e25 hq0 m32) hw32 c32 r32 fun y => ?_⟩
      rw [addR_has ok hm, has, mem_take_succ hx]
      constructor
      · rintro (⟨h1, h2⟩ | rfl)
        · exact ⟨h1, .inl h2⟩
        · exact ⟨hm, .inr rfl⟩
      · rintro ⟨h1, h2 | h2⟩
        · exact .inl ⟨h1, h2⟩
        · exact .inr h2
    · refine cont _ v ex ok gap (by omega) E19 hw19 c19 r19 fun y => ?_
      rw [has, mem_take_succ hx]
      constructor
      · rintro ⟨h1, h2⟩; exact ⟨h1, .inl h2⟩
      · rintro ⟨h1, h2 | rfl⟩
        · exact ⟨h1, h2⟩
        · rw [hm] at h1; cases h1

/-- a dot is added, whatever it is -/
theorem addD_any {v : List Int} {ex : List Dot} (ok : COk v ex) (gap : Gap v ex) (hn : ex.length < 4096) (d : Dot) : COk (addD v ex d).2.2.1 (addD v ex d).2.2.2 ∧ Gap (addD v ex d).2.2.1 (addD v ex d).2.2.2 ∧ (addD v ex d).2.2.2.length ≤ ex.length + 1 ∧ ∀ x, hasD (addD v ex d).2.2.1 (addD v ex d).2.2.2 x = true ↔ hasD v ex x = true ∨ (x = d ∧ d.may = true) := by
  cases hm : d.may with
  | false =>
    have : addD v ex d = (false, 2, v, ex) := by simp [addD, hm]
    rw [this]
    exact ⟨ok, gap, by simp, fun x => by simp⟩
  | true =>
    rw [addD_few hm hn]
    exact ⟨ok.add hm, Gap.add ok gap hm, addR_len, fun x => by rw [addR_has ok hm]; simp⟩

/-- the place that is meant -/
theorem place {n : Int} {k : Nat} (hk : 0 < k) (hk2 : k ≤ 80) : ∃ j : Nat, j < k ∧ Int.tmod (IntKind.wrap .i64 (Int.tmod n (k : Int) + (k : Int))) (k : Int) = (j : Int) := by
  have h1 := Int.tmod_lt_of_pos n (show (0 : Int) < k by omega)
  have h2 : -(k : Int) < Int.tmod n k := by
    have := Int.tmod_lt_of_pos (-n) (show (0 : Int) < k by omega)
    rw [Int.neg_tmod] at this
    omega
  rw [wrap_i (by omega)]
  have h3 : 0 ≤ Int.tmod (Int.tmod n k + k) k := Int.tmod_nonneg _ (by omega)
  have h4 := Int.tmod_lt_of_pos (Int.tmod n k + k) (show (0 : Int) < k by omega)
  exact ⟨(Int.tmod (Int.tmod n k + k) k).toNat, by omega, by omega⟩

theorem ctxOrder_ok {s : AS} {a b d : AV} {la ld : List Dot} {lb : List Int} (ha : Dots s a la) (hb : Ints s b lb) (hd : Dots s d ld) : ACalls Try.prog F_law04iCtxOrder [a, b, d] s fun r s' => r = .bool true := by
  refine ACalls.pre fun hw => q_law04iCtxOrder _ _ _ _ _ ⟨fun vs s' => s' = s ∧ ∃ t, vs = [.bool t] ∧ (t = false → la.length ≤ 80 ∧ lb.length ≤ 160 ∧ ld.length ≤ 80), ?_, _, ha.lenB u_s_Dot _, bsplit.dec (fun h => ⟨rfl, _, rfl, by simp⟩) (fun h => ⟨_, hb.lenB u_s_int _, bsplit.dec (fun h => ⟨rfl, _, rfl, by simp⟩) (fun h => ⟨_, hd.lenB u_s_Dot _, rfl, _, rfl, fun h2 => by simp at h2; omega⟩)⟩)⟩
  rintro t s3 ⟨rfl, t', ht, hsmall⟩
  simp only [List.cons.injEq, AV.bool.injEq, and_true] at ht
  subst ht
  have kn : ∀ s', ACalls Try.prog F_law04iknown [] s' fun v4 s5 => ∃ b6 : Bool, v4 = .bool b6 ∧ (AV.bool b6 = .bool true) := by
    intro s'
    refine (known_ok _).mono ?_
    rintro r s' ⟨rfl, rfl⟩
    exact ⟨_, rfl, rfl⟩
  refine bsplit.mk (fun hb => kn _) (fun hf => ?_)
  obtain ⟨hla, hlb, hld⟩ := hsmall hf
  refine ACalls.use (law_of_has ha (by omega)) ?_
  rintro r s8 ⟨pa, pu, va, ea, rfl, hx0, hu0, oka, gapa, lena, e8, ca, ru, hasa⟩ w8
  refine ⟨_, _, rfl, ?_⟩
  refine ACalls.use (ctx_New_ok _) ?_
  rintro r s12 ⟨pb, rfl, hpb, cb, e12⟩ w12
  refine ⟨_, rfl, ?_⟩
  have hpb0 : s3.h pb = none := e8.none hpb
  have E12 := e8.trans e12
  have hne : pa ≠ pb := by rintro rfl; exact ca.there hpb
  -- what holds of b on the way
  let I : AS → List Int → List Dot → Prop := fun s' v ex => COk v ex ∧ Gap v ex ∧ Ext s3 s' ∧ WFs s' ∧ CtxAt s' pa va ea ∧ CtxAt s' pb v ex ∧ ∀ x, hasD v ex x = true → x.may = true ∧ x ∈ la
  have step : ∀ {s' v ex} {i : Nat} {x : Dot}, I s' v ex → ex.length < 4096 → x ∈ la → ACalls Try.prog F_ctx_Ctx_Add [.ptr (some (pb, 0)), .agg (dotC x)] s' fun r s'' => ∃ b n, r = .tup [.bool b, .int .i64 n] ∧ ∃ v' ex', I s'' v' ex' ∧ ex'.length ≤ ex.length + 1 ∧ ∀ y, hasD v' ex' y = true ↔ hasD v ex y = true ∨ (y = x ∧ x.may = true) := by
    intro s' v ex i x ⟨ok, gap, e, w, c1, c2, has⟩ hl hx
    refine ACalls.use (ctx_Add_ok c2 ok.v ok.r ok.m (by omega) x) ?_
    rintro r s'' ⟨rfl, c', m'⟩ w'
    obtain ⟨ok', gap', hl', has'⟩ := addD_any ok gap hl x
    refine ⟨_, _, rfl, _, _, ⟨ok', gap', Ext.wr e hpb0 m', w', c1.keepC c2 hne m', c', fun y hy => ?_⟩, hl', has'⟩
    rcases (has' y).1 hy with h | ⟨rfl, h⟩
    · exact has y h
    · exact ⟨h, hx⟩
  refine ⟨fun vs s' => ∃ v ex, I s' v ex ∧ ex.length ≤ 160, ?_, fun m vs s' => ∃ (i : Nat) (v : List Int) (ex : List Dot), vs = [.int .i64 (i : Nat)] ∧ i ≤ lb.length ∧ m = lb.length - i ∧ I s' v ex ∧ ex.length ≤ i, lb.length, ⟨0, zeros, [], rfl, by omega, rfl, ⟨COk.zero, (fun y hy => by cases hy), E12, w12, ca.ext e12, cb, fun x hx => by rw [has_zero] at hx; cases hx⟩, by simp⟩, ?_⟩
  · rintro s15 ⟨v, ex, i15, l15⟩
    refine ⟨fun vs s' => ∃ v ex, I s' v ex ∧ ex.length ≤ 240 ∧ ∀ x, x.may = true → x ∈ la → hasD v ex x = true, ?_, _, ha.lenB u_s_Dot _, fun m vs s' => ∃ (i : Nat) (v : List Int) (ex : List Dot), vs = [.int .i64 ((i : Int) - 1)] ∧ i ≤ la.length ∧ m = i + 1 ∧ I s' v ex ∧ ex.length ≤ 160 + (la.length - i) ∧ ∀ (k : Nat) x, i ≤ k → la[k]? = some x → x.may = true → hasD v ex x = true, la.length + 1, ⟨la.length, v, ex, by rw [wrap_i' (by omega)], by omega, rfl, i15, by omega, fun k x hk hx => by rw [List.getElem?_eq_none hk] at hx; cases hx⟩, ?_⟩
    · rintro s17 ⟨v, ex, ⟨ok, gap, e17, w17, ca17, cb17, has⟩, l17, all⟩
      refine ACalls.use (law_of_has (hd.ext e17) (by omega)) ?_
      rintro r s19 ⟨pc, pw, vc, ec, rfl, hpc, hpw, okc, gapc, lenc, e19, cc, rc, hasc⟩ w19
      refine ⟨_, _, rfl, ?_⟩
      have heq : va = v ∧ ea = ex := norm_eq oka gapa ok gap fun x => by
        rw [Bool.eq_iff_iff, hasa]
        exact ⟨fun h => all x h.1 h.2, has x⟩
      obtain ⟨rfl, rfl⟩ := heq
      refine ⟨fun vs s' => ∃ b, vs = [.bool b] ∧ Ext s19 s' ∧ (b = true ↔ Cov va ea vc ec), ?_, fun m vs s' => ∃ (i : Nat) (b : Bool), vs = [.bool b, .int .i64 (i : Nat)] ∧ i ≤ ld.length ∧ m = ld.length - i ∧ Ext s19 s' ∧ WFs s' ∧ (b = true ↔ ∀ (k : Nat) x, k < i → ld[k]? = some x → x.may = true → hasD va ea x = true), ld.length, ⟨0, true, rfl, by omega, rfl, Ext.refl _, w19, by simp⟩, ?_⟩
      · rintro b s24 ⟨b', hbb, e24, hcov⟩
        simp only [List.cons.injEq, AV.bool.injEq, and_true] at hbb
        subst hbb
        have ca24 := (ca17.ext e19).ext e24
        have cb24 := (cb17.ext e19).ext e24
        refine ACalls.use (Same_ok ca24 cb24 (by omega)) ?_
        rintro r s26 ⟨rfl, rfl⟩ _
        refine ⟨_, rfl, bsplit.yes (by simp) ?_⟩
        refine ACalls.use (Same_ok cb24 ca24 (by omega)) ?_
        rintro r s29 ⟨rfl, rfl⟩ _
        refine ⟨_, rfl, bsplit.yes (by simp) ?_⟩
        refine ACalls.use (ctx_Covers_ok ca24 (cc.ext e24) oka gapa okc (by omega) (by omega)) ?_
        rintro r s32 ⟨e32, b32, rfl, hb32⟩ _
        refine ⟨_, rfl, bsplit.yes ?_ (kn _)⟩
        have : b32 = b := by rw [Bool.eq_iff_iff, hb32, hcov]
        simp [this]
      · rintro m b n s42 ⟨i, b', hi, hil, rfl, e42, w42, hall⟩
        simp only [List.cons.injEq, AV.int.injEq, AV.bool.injEq, true_and, and_true] at hi
        obtain ⟨rfl, rfl⟩ := hi
        have E42 := (e17.trans e19).trans e42
        refine ⟨_, hd.lenB u_s_Dot _, bsplit.dec (fun hlt => ?_) (fun hge => ?_)⟩
        · obtain ⟨x, hx⟩ := get_lt (l := ld) (i := i) (by omega)
          obtain ⟨lx, o, h8, h9⟩ := hd.ix (by decide) dotC_len u_s_Dot z_Dot hx
          have gx := fun s' e => (h9 s' e).2
          have cont : ∀ (t : Bool) s', Ext s19 s' → WFs s' → (t = true ↔ b = true ∧ (x.may = true → hasD va ea x = true)) → ∃ m', m' < ld.length - i ∧ ∃ (j : Nat) (b : Bool), [AV.bool t, AV.int .i64 (IntKind.wrap .i64 ((i : Int) + 1))] = [.bool b, .int .i64 (j : Nat)] ∧ j ≤ ld.length ∧ m' = ld.length - j ∧ Ext s19 s' ∧ WFs s' ∧ (b = true ↔ ∀ (k : Nat) x, k < j → ld[k]? = some x → x.may = true → hasD va ea x = true) := by
            intro t s' e w ht
            refine ⟨ld.length - (i + 1), by omega, i + 1, t, by rw [wrap_i (by omega)]; rfl, by omega, rfl, e, w, ?_⟩
            rw [ht, hall]
            constructor
            · rintro ⟨h1, h2⟩ k y hk hy hm
              rcases Nat.lt_or_ge k i with h | h
              · exact h1 k y h hy hm
              · obtain rfl : k = i := by omega
                rw [hx] at hy; obtain rfl := Option.some.inj hy; exact h2 hm
            · intro h
              exact ⟨fun k y hk => h k y (by omega), h i x (by omega) hx⟩
          refine bsplit.mk (fun hbt => ?_) (fun hbf => cont false s42 e42 w42 (by simp [hbf]))
          refine ⟨lx, o, h8 _, _, gx _ E42, ?_⟩
          refine ACalls.use (ctx_Has_ok ((ca17.ext e19).ext e42) oka.r (by omega) x) ?_
          rintro r s48 ⟨rfl, e48⟩ w48
          refine ⟨_, rfl, bsplit.mk (fun hh => cont true s48 (e42.trans e48) w48 (by simp [hbt, hh])) (fun hh => ?_)⟩
          refine ⟨lx, o, h8 _, _, gx _ (E42.trans e48), ?_⟩
          refine ACalls.use (ref04iMay_ok x _) ?_
          rintro r s54 ⟨rfl, e54⟩ w54
          exact ⟨_, rfl, cont _ s54 ((e42.trans e48).trans e54) w54 (by simp [hbt, hh])⟩
        · refine ⟨b, rfl, e42, ?_⟩
          rw [hall]
          constructor
          · intro h x hx
            obtain ⟨hm, hin⟩ := (hasc x).1 hx
            obtain ⟨k, hk⟩ := List.mem_iff_getElem?.1 hin
            have : k < ld.length := by
              rcases Nat.lt_or_ge k ld.length with h' | h'
              · exact h'
              · rw [List.getElem?_eq_none h'] at hk; cases hk
            exact h k x (by omega) hk hm
          · intro h k x _ hx hm
            exact h x ((hasc x).2 ⟨hm, List.mem_of_getElem? hx⟩)
    · rintro m n s61 ⟨i, v, ex, hi, hil, rfl, i61, l61, all⟩
      simp only [List.cons.injEq, AV.int.injEq, true_and, and_true] at hi
      subst hi
      refine bsplit.dec (fun hge => ?_) (fun hlt => ?_)
      · obtain ⟨x, hx⟩ := get_lt (l := la) (i := i - 1) (by omega)
        obtain ⟨lx, o, h8, h9⟩ := ha.ix (by decide) dotC_len u_s_Dot z_Dot hx
        rw [show (i : Int) - 1 = ((i - 1 : Nat) : Int) by omega]
        refine ⟨lx, o, h8 _, _, (h9 _ i61.2.2.1).2, ?_⟩
        refine ACalls.use (step (i := 0) i61 (by omega) (List.mem_of_getElem? hx)) ?_
        rintro r s66 ⟨b67, n68, rfl, v', ex', i66, l66, has66⟩ w66
        refine ⟨_, _, rfl, i - 1 + 1, by omega, i - 1, v', ex', by rw [wrap_i' (by omega)], by omega, rfl, i66, by omega, fun k y hk hy hm => (has66 y).2 ?_⟩
        rcases Nat.lt_or_ge k i with h | h
        · obtain rfl : k = i - 1 := by omega
          rw [hx] at hy; obtain rfl := Option.some.inj hy
          exact .inr ⟨rfl, hm⟩
        · exact .inl (all k y h hy hm)
      · obtain rfl : i = 0 := by omega
        refine ⟨v, ex, i61, by omega, fun x hm hin => ?_⟩
        obtain ⟨k, hk⟩ := List.mem_iff_getElem?.1 hin
        exact all k x (by omega) hk hm
  · rintro m n s73 ⟨i, v, ex, hi, hil, rfl, i73, l73⟩
    simp only [List.cons.injEq, AV.int.injEq, true_and, and_true] at hi
    subst hi
    refine ⟨_, hb.lenB u_s_int _, bsplit.dec (fun hlt => ⟨_, ha.lenB u_s_Dot _, bsplit.dec (fun hpos => ?_) (fun _ => ⟨v, ex, i73, by omega⟩)⟩) (fun _ => ⟨v, ex, i73, by omega⟩)⟩
    obtain ⟨n, hn⟩ := get_lt (l := lb) (i := i) (by omega)
    obtain ⟨ln, o, h8, h9⟩ := hb.ix (sz := 1) (by decide) (fun _ => rfl) u_s_int z_int hn
    have hgn : rd1 s73 ln o = some (.int .i64 n) := by have := (h9 _ i73.2.2.1).1 0 (by decide); simpa using this
    obtain ⟨j, hj, hje⟩ := place (n := n) (k := la.length) (by omega) (by omega)
    refine ⟨ln, o, h8 _, _, hgn, _, ha.lenB u_s_Dot _, by omega, _, ha.lenB u_s_Dot _, _, ha.lenB u_s_Dot _, by omega, ?_⟩
    rw [hje]
    obtain ⟨x, hx⟩ := get_lt (l := la) (i := j) hj
    obtain ⟨lx, o', k8, k9⟩ := ha.ix (by decide) dotC_len u_s_Dot z_Dot hx
    refine ⟨lx, o', k8 _, _, (k9 _ i73.2.2.1).2, ?_⟩
    refine ACalls.use (step (i := 0) i73 (by omega) (List.mem_of_getElem? hx)) ?_
    rintro r s86 ⟨b87, n88, rfl, v', ex', i86, l86, has86⟩ w86
    exact ⟨_, _, rfl, lb.length - (i + 1), by omega, i + 1, v', ex', by rw [wrap_i (by omega)]; rfl, by omega, rfl, i86, by omega⟩

set_option maxRecDepth 100000 in
theorem ctxOrder_lifted (os : Os) (started : os.Started) (H : Type) (enc : TypeId × Value → H) :
    ReturnsInHanded {} Try.checked os F_law04iCtxOrder .any (Rows.ctxOrderSpec.pre6 enc Try.prog Try.f7 Rows.ctxOrderRow.domain false) (Rows.ctxOrderSpec.post enc Try.prog Try.f7 false true false false) := by
  refine law_open (C := Try.checked) (rt := 4) own started (by kernel_rfl) Try.func7
    (ChangeSpec.witness6 (enc := enc) (C := Try.checked) false ⟨#[], #[.slice none 0 0, .slice none 0 0, .slice none 0 0], []⟩ 8 (by kernel_rfl) (by kernel_rfl) (by kernel_rfl) (by kernel_rfl)) (by kernel_rfl) rfl (by kernel_rfl) Try.underlying4 laid (by kernel_rfl) ?_ ?_
  · intro ds hds
    rw [Try.params7] at hds
    match ds, hds with
    | [d1, d2, d3], _ => rfl
  · intro W base args hlen hargs
    rw [Try.params7] at hlen hargs
    match args, hlen with
    | [a, b, c], _ =>
      obtain ⟨la, ha, _⟩ := dots_arg (hargs 0 _ a rfl rfl).1 (hargs 0 _ a rfl rfl).2
      obtain ⟨lb, hb, _⟩ := ints_arg (hargs 1 _ b rfl rfl).1 (hargs 1 _ b rfl rfl).2
      obtain ⟨lc, hc, _⟩ := dots_arg (hargs 2 _ c rfl rfl).1 (hargs 2 _ c rfl rfl).2
      exact ctxOrder_ok ha hb hc

theorem ctxOrder_holds : Rows.CtxOrderSaid :=
  OpenClaim.holds_of_wide 7 Try.f7 rfl rfl rfl rfl rfl rfl rfl ⟨rfl, rfl, rfl, rfl, rfl⟩ rfl rfl rfl rfl rfl (by kernel_rfl) Try.func7 (by kernel_rfl)
    (of_decide_eq_true (by kernel_rfl)) (by unfold Func.isWrapper; rw [if_neg (by decide +kernel)]; exact ⟨rfl, rfl⟩)
    (fun os started H enc _ => ctxOrder_lifted os started H enc)
end Go.Proofs.Ytbfchlimonimkaa
end

section
set_option linter.unusedVariables false
set_option maxRecDepth 100000
set_option maxHeartbeats 4000000
namespace Go.Proofs.Ytbfchlimonimkaa
open Go.Am

/-- what minster/minsterlaw14.known asks -/
def Q_law14iknown  (s : AS) (R : AV → AS → Prop) : Prop :=
 ACalls Try.prog F_stable_New [(.int .i64 2), (.int .i64 1)] s fun v1 s2 => ∃ p3 : Option (Nat × Nat), ∃ n4 : Int, v1 = .tup [(.ptr p3), (.int .i64 n4)] ∧ (ACalls Try.prog F_ctx_New [] s2 fun v5 s6 => ∃ p7 : Option (Nat × Nat), v5 = .ptr p7 ∧ (RdG (abuild T Y_Dot [(0, (.int .i64 1)), (1, (.int .u64 1))]) fun g8 => RdG (abuild T Y_Dot [(0, (.int .i64 1)), (1, (.int .u64 2))]) fun g9 => NewQ (.cells [.int .i64 0, .int .u64 0] 0 false) s6 fun l10 s11 => NewQ (.cells [.int .i64 0, .int .u64 0] 0 false) s11 fun l12 s13 => OkC (some 2) g8 (StQ (awr s13 l10 0 g8) fun s14 => OkC (some 2) g9 (StQ (awr s14 l12 0 g9) fun s15 => RdL (rdc s15 l10 0 2) fun g16 => ACalls Try.prog F_ctx_Ctx_Add [(.ptr p7), (.agg g16)] s15 fun v17 s18 => ∃ b19 : Bool, ∃ n20 : Int, v17 = .tup [(.bool b19), (.int .i64 n20)] ∧ (RdL (rdc s18 l12 0 2) fun g21 => ACalls Try.prog F_ctx_Ctx_Add [(.ptr p7), (.agg g21)] s18 fun v22 s23 => ∃ b24 : Bool, ∃ n25 : Int, v22 = .tup [(.bool b24), (.int .i64 n25)] ∧ (RdL (rdc s23 l12 0 2) fun g26 => RdL (absl T Y_s_Dot 1 [(0, (.agg g26))]) fun g27 => NewQ (.cells g27 0 false) s23 fun l28 s29 => ACalls Try.prog F_stable_Matrix_Know [(.ptr p3), (.int .i64 2), (.ptr p7), (.slc (some (l28, 0)) 1 1 true)] s29 fun v30 s31 => ∃ n32 : Int, v30 = .int .i64 n32 ∧ (bsplit ((n4 : Int) == 0) (bsplit ((n32 : Int) == 0) (RdL (rdc s31 l10 0 2) fun g33 => ACalls Try.prog F_stable_Matrix_Stable [(.ptr p3), (.agg g33)] s31 fun v34 s35 => ∃ b36 : Bool, v34 = .bool b36 ∧ (bsplit b36 (RdL (rdc s35 l12 0 2) fun g37 => ACalls Try.prog F_stable_Matrix_Stable [(.ptr p3), (.agg g37)] s35 fun v38 s39 => ∃ b40 : Bool, v38 = .bool b40 ∧ (R (.bool (!b40)) s39)) (R (.bool false) s35))) (R (.bool false) s31)) (R (.bool false) s31))))))))

def A_law14iknown : QA := (.seq .leaf (.seq .leaf (.seq .leaf (.seq .leaf (.seq .leaf (.seq .leaf (.seq .leaf (.seq .leaf .leaf))))))))

theorem q_law14iknown  (s : AS) (R : AV → AS → Prop) (h : Q_law14iknown  s R) : ACalls Try.prog F_law14iknown [] s R :=
  ACalls.q (n := 42) (rs := [.tmp 0]) (A := A_law14iknown) hT hmx Try.func39 (by kernel_rfl) rfl rfl rfl (by kernel_rfl) (by kernel_rfl) h

/-- what minster/stable.New asks -/
def Q_stable_New (a0 : Int) (a1 : Int) (s : AS) (R : AV → AS → Prop) : Prop :=
 JoinQ fun J1 =>
 (∀ b2 : Bool, ∀ s3 : AS, J1 [(.bool b2)] s3 →
 bsplit b2
 (R (.tup [(.ptr none), (.int .i64 2)]) s3)
 (NewQ (.map [] 0 false) s3 fun l4 s5 => RdG (abuild T Y_stable_Matrix [(0, (.int .i64 a0)), (1, (.int .i64 a1)), (2, (.map (some l4)))]) fun g6 => One1 g6 (NewQ (.cells g6 0 false) s5 fun l7 s8 => R (.tup [(.ptr (some (l7, 0))), (.int .i64 0)]) s8))) ∧
 (bsplit (decide ((a0 : Int) < 1)) (J1 [(.bool true)] s) (bsplit (decide ((a0 : Int) > 16)) (J1 [(.bool true)] s) (bsplit (decide ((a1 : Int) < 1)) (J1 [(.bool true)] s) (J1 [(.bool (decide ((a1 : Int) > a0)))] s))))

def A_stable_New : QA := (.seq .leaf (.seq (.join [(20, .bool)] [(6, 20)] .leaf (.cond (.seq .leaf .leaf) .leaf)) (.seq .leaf .leaf)))

theorem q_stable_New (a0 : Int) (a1 : Int) (s : AS) (R : AV → AS → Prop) (h : Q_stable_New a0 a1 s R) : ACalls Try.prog F_stable_New [(.int .i64 a0), (.int .i64 a1)] s R :=
  ACalls.q (n := 26) (rs := [.tmp 4, .tmp 5]) (A := A_stable_New) hT hmx Try.func40 (by kernel_rfl) rfl rfl rfl (by kernel_rfl) (by kernel_rfl) h

/-- what (*minster/stable.Matrix).Stable asks -/
def Q_stable_Matrix_Stable (a0 : Option (Nat × Nat)) (a1 : List AV) (s : AS) (R : AV → AS → Prop) : Prop :=
 One1 a1 (NewQ (.cells a1 0 false) s fun l1 s2 => ACalls Try.prog F_stable_Matrix_there [(.ptr a0)] s2 fun v3 s4 => ∃ b5 : Bool, v3 = .bool b5 ∧ (bsplit (!b5) (R (.bool false) s4) (RdL (rdc s4 l1 0 2) fun g6 => ACalls Try.prog F_ctx_May [(.agg g6)] s4 fun v7 s8 => ∃ b9 : Bool, v7 = .bool b9 ∧ (bsplit (!b9)
 (R (.bool false) s8)
 (LoopQ fun I10 m11 => I10 m11 [(.int .i64 1)] s8 ∧
 ∀ m12 : Nat, ∀ n13 : Int, ∀ s14 : AS, I10 m12 [(.int .i64 n13)] s14 →
 AsSome a0 fun l15 o16 => RdI .i64 (rd1 s14 l15 o16) fun n17 => bsplit (decide ((n13 : Int) ≤ n17))
 (AsSome a0 fun l18 o19 => RdI .i64 (rd1 s14 l18 (o19 + 1)) fun n20 => bsplit ((n13 : Int) != n20) (RdL (rdc s14 l1 0 2) fun g21 => ACalls Try.prog F_stable_Matrix_Gone [(.ptr a0), (.int .i64 n13), (.agg g21)] s14 fun v22 s23 => ∃ b24 : Bool, v22 = .bool b24 ∧ (bsplit (!b24)
 (R (.bool false) s23)
 (∃ m', m' < m12 ∧ I10 m' [(.int .i64 (IntKind.wrap .i64 (n13 + 1)))] s23))) (∃ m', m' < m12 ∧ I10 m' [(.int .i64 (IntKind.wrap .i64 (n13 + 1)))] s14))
 (R (.bool true) s14))))))

def A_stable_Matrix_Stable : QA := (.seq .leaf (.seq (.seq .leaf (.cond (.seq .leaf .leaf) .leaf)) (.seq (.seq .leaf (.wrap (.loop [(5, .int .i64)] [(4, 5), (14, 34)] (.seq (.seq .leaf (.cond .leaf .leaf)) (.seq (.wrap (.seq .leaf (.cond (.seq .leaf .leaf) .leaf))) .leaf))))) (.seq .leaf .leaf))))

theorem q_stable_Matrix_Stable (a0 : Option (Nat × Nat)) (a1 : List AV) (s : AS) (R : AV → AS → Prop) (h : Q_stable_Matrix_Stable a0 a1 s R) : ACalls Try.prog F_stable_Matrix_Stable [(.ptr a0), (.agg a1)] s R :=
  ACalls.q (n := 35) (rs := [.tmp 4]) (A := A_stable_Matrix_Stable) hT hmx Try.func41 (by kernel_rfl) rfl rfl rfl (by kernel_rfl) (by kernel_rfl) h

/-- what (*minster/stable.Matrix).Know asks -/
def Q_stable_Matrix_Know (a0 : Option (Nat × Nat)) (a1 : Int) (a2 : Option (Nat × Nat)) (a3 : AV) (s : AS) (R : AV → AS → Prop) : Prop :=
 ACalls Try.prog F_stable_Matrix_there [(.ptr a0)] s fun v1 s2 => ∃ b3 : Bool, v1 = .bool b3 ∧ (bsplit (!b3)
 (R (.int .i64 1) s2)
 (ACalls Try.prog F_stable_Matrix_other [(.ptr a0), (.int .i64 a1)] s2 fun v4 s5 => ∃ b6 : Bool, v4 = .bool b6 ∧ (bsplit (!b6) (R (.int .i64 2) s5) (ACalls Try.prog F_ctx_Ctx_Copy [(.ptr a2)] s5 fun v7 s8 => ∃ p9 : Option (Nat × Nat), v7 = .ptr p9 ∧ (RdO (aeq T 100 Y_p_ctx_Ctx (.ptr p9) (.ptr none)) fun b10 => bsplit b10
 (R (.int .i64 2) s8)
 (NewQ (.map [] 0 false) s8 fun l11 s12 => JoinQ fun J13 =>
 (∀ s14 : AS, J13 [] s14 →
 AsSome a0 fun l15 o16 => RdM (rd1 s14 l15 (o16 + 2)) fun r17 => RdP (alookup T Y_m_int_p_stable_view (.map r17) (.int .i64 a1) false s14) fun p18 => RdO (aeq T 100 Y_p_stable_view (.ptr p18) (.ptr none)) fun b19 => bsplit b19
 (DrawQ fun S V => AsSome a0 fun l20 o21 => RdM (rd1 s14 l20 (o21 + 2)) fun r22 => (∀ s23 : AS, Ext s14 s23 → WFs s23 → (True) → ACalls Try.prog F_ctx_Ctx_Copy [(.ptr a2)] s23 fun v24 s25 => ∃ p26 : Option (Nat × Nat), v24 = .ptr p26 ∧ ((Ext s23 s25 ∧ S 6 [(.func F_ctx_Ctx_Copy []), (.ptr a2)] (.ptr p26) s25 ∧ V 6 [(.func F_ctx_Ctx_Copy []), (.ptr a2)] (.ptr p26)))) ∧ (∃ v, V 6 [(.func F_ctx_Ctx_Copy []), (.ptr a2)] v) ∧ ∀ v27 : AV, V 6 [(.func F_ctx_Ctx_Copy []), (.ptr a2)] v27 → ∃ p28 : Option (Nat × Nat), v27 = .ptr p28 ∧ (RdG (abuild T Y_stable_view [(0, (.ptr p28)), (1, (.map (some l11)))]) fun g29 => (∀ s30 : AS, Ext s14 s30 → WFs s30 → (S 6 [(.func F_ctx_Ctx_Copy []), (.ptr a2)] (.ptr p28) s30 ∧ True) → One1 g29 (NewQ (.cells g29 0 false) s30 fun l31 s32 => (Ext s30 s32 ∧ S 9 [(.agg g29)] (.ptr (some (l31, 0))) s32 ∧ V 9 [(.agg g29)] (.ptr (some (l31, 0)))))) ∧ (∃ v, V 9 [(.agg g29)] v) ∧ ∀ v33 : AV, V 9 [(.agg g29)] v33 → ∃ p34 : Option (Nat × Nat), v33 = .ptr p34 ∧ (∀ s35 : AS, Ext s14 s35 → WFs s35 → (S 6 [(.func F_ctx_Ctx_Copy []), (.ptr a2)] (.ptr p28) s35 ∧ (S 9 [(.agg g29)] (.ptr p34) s35 ∧ True)) → StQ (amapUpdate T Y_m_int_p_stable_view (.map r22) (.int .i64 a1) (.ptr p34) s35) fun s37 => R (.int .i64 0) s37)))
 (AsSome p18 fun l38 o39 => RdP (rd1 s14 l38 o39) fun p40 => ACalls Try.prog F_ctx_Ctx_Copy [(.ptr p40)] s14 fun v41 s42 => ∃ p43 : Option (Nat × Nat), v41 = .ptr p43 ∧ (ACalls Try.prog F_ctx_Ctx_Join [(.ptr p43), (.ptr a2)] s42 fun v44 s45 => ∃ n46 : Int, v44 = .int .i64 n46 ∧ (bsplit ((n46 : Int) != 0)
 (R (.int .i64 n46) s45)
 (NewQ (.map [] 0 false) s45 fun l47 s48 => JoinQ fun J49 =>
 (∀ s50 : AS, J49 [] s50 →
 JoinQ fun J51 =>
 (∀ s52 : AS, J51 [] s52 →
 AsSome a0 fun l53 o54 => RdM (rd1 s52 l53 (o54 + 2)) fun r55 => RdG (abuild T Y_stable_view [(0, (.ptr p43)), (1, (.map (some l47)))]) fun g56 => One1 g56 (NewQ (.cells g56 0 false) s52 fun l57 s58 => StQ (amapUpdate T Y_m_int_p_stable_view (.map r55) (.int .i64 a1) (.ptr (some (l57, 0))) s58) fun s59 => R (.int .i64 0) s59)) ∧
 (Bd2 (arange T Y_m_Dot_struct__is_bool__ (.map (some l11)) s50) fun v60 s61 => LoopQ fun I62 m63 => I62 m63 [] s61 ∧
 ∀ m64 : Nat, ∀ s65 : AS, I62 m64 [] s65 →
 JoinQ fun J66 =>
 (∀ b67 : Bool, ∀ s68 : AS, J66 [(.bool b67)] s68 →
 bsplit b67
 (RdE (aentry v60 s68) fun v69 v70 => ∃ g71 : List AV, v69 = .agg g71 ∧ (NewQ (.cells [.int .i64 0, .int .u64 0] 0 false) s68 fun l72 s73 => OkC (some 2) g71 (StQ (awr s73 l72 0 g71) fun s74 => JoinQ fun J75 =>
 (∀ b76 : Bool, ∀ s77 : AS, J75 [(.bool b76)] s77 →
 bsplit b76
 (RdL (rdc s77 l72 0 2) fun g78 => RdG (abuild T Y_struct__is_bool__ [(0, (.bool true))]) fun g79 => StQ (amapUpdate T Y_m_Dot_struct__is_bool__ (.map (some l47)) (.agg g78) (.agg g79) s77) fun s80 => ∃ m', m' < m64 ∧ I62 m' [] s80)
 (∃ m', m' < m64 ∧ I62 m' [] s77)) ∧
 (AsSome p18 fun l81 o82 => RdM (rd1 s74 l81 (o82 + 1)) fun r83 => RdL (rdc s74 l72 0 2) fun g84 => RdG (alookup T Y_m_Dot_struct__is_bool__ (.map r83) (.agg g84) false s74) fun g85 => RdB (g85[0]?) fun b86 => bsplit b86 (J75 [(.bool true)] s74) (AsSome p18 fun l87 o88 => RdP (rd1 s74 l87 o88) fun p89 => RdL (rdc s74 l72 0 2) fun g90 => ACalls Try.prog F_ctx_Ctx_Has [(.ptr p89), (.agg g90)] s74 fun v91 s92 => ∃ b93 : Bool, v91 = .bool b93 ∧ (J75 [(.bool (!b93))] s92))))))
 (J51 [] s68)) ∧
 (NextP (acandM v60 s65)
 (J66 [(.bool false)] s65)
 fun v94 v95 s96 => J66 [(.bool true)] s96))) ∧
 (AsSome p18 fun l97 o98 => RdM (rd1 s48 l97 (o98 + 1)) fun r99 => Bd2 (arange T Y_m_Dot_struct__is_bool__ (.map r99) s48) fun v100 s101 => LoopQ fun I102 m103 => I102 m103 [] s101 ∧
 ∀ m104 : Nat, ∀ s105 : AS, I102 m104 [] s105 →
 JoinQ fun J106 =>
 (∀ b107 : Bool, ∀ s108 : AS, J106 [(.bool b107)] s108 →
 bsplit b107
 (RdE (aentry v100 s108) fun v109 v110 => ∃ g111 : List AV, v109 = .agg g111 ∧ (NewQ (.cells [.int .i64 0, .int .u64 0] 0 false) s108 fun l112 s113 => OkC (some 2) g111 (StQ (awr s113 l112 0 g111) fun s114 => JoinQ fun J115 =>
 (∀ b116 : Bool, ∀ s117 : AS, J115 [(.bool b116)] s117 →
 bsplit b116
 (RdL (rdc s117 l112 0 2) fun g118 => RdG (abuild T Y_struct__is_bool__ [(0, (.bool true))]) fun g119 => StQ (amapUpdate T Y_m_Dot_struct__is_bool__ (.map (some l47)) (.agg g118) (.agg g119) s117) fun s120 => ∃ m', m' < m104 ∧ I102 m' [] s120)
 (∃ m', m' < m104 ∧ I102 m' [] s117)) ∧
 (RdL (rdc s114 l112 0 2) fun g121 => RdG (alookup T Y_m_Dot_struct__is_bool__ (.map (some l11)) (.agg g121) false s114) fun g122 => RdB (g122[0]?) fun b123 => bsplit b123 (J115 [(.bool true)] s114) (RdL (rdc s114 l112 0 2) fun g124 => ACalls Try.prog F_ctx_Ctx_Has [(.ptr a2), (.agg g124)] s114 fun v125 s126 => ∃ b127 : Bool, v125 = .bool b127 ∧ (J115 [(.bool (!b127))] s126))))))
 (J49 [] s108)) ∧
 (NextP (acandM v100 s105)
 (J106 [(.bool false)] s105)
 fun v128 v129 s130 => J106 [(.bool true)] s130))))))) ∧
 (RdI .i64 (alenB T Y_s_Dot a3 s12) fun n131 => LoopQ fun I132 m133 => I132 m133 [(.int .i64 0)] s12 ∧
 ∀ m134 : Nat, ∀ n135 : Int, ∀ s136 : AS, I132 m134 [(.int .i64 n135)] s136 →
 bsplit (decide ((n135 : Int) < n131))
 (IxQ (aindexAddr T Y_s_Dot a3 (.int .i64 n135)) fun l137 o138 => RdL (rdc s136 l137 o138 2) fun g139 => NewQ (.cells [.int .i64 0, .int .u64 0] 0 false) s136 fun l140 s141 => OkC (some 2) g139 (StQ (awr s141 l140 0 g139) fun s142 => JoinQ fun J143 =>
 (∀ s144 : AS, J143 [] s144 →
 RdL (rdc s144 l140 0 2) fun g145 => RdG (abuild T Y_struct__is_bool__ [(0, (.bool true))]) fun g146 => StQ (amapUpdate T Y_m_Dot_struct__is_bool__ (.map (some l11)) (.agg g145) (.agg g146) s144) fun s147 => ∃ m', m' < m134 ∧ I132 m' [(.int .i64 (IntKind.wrap .i64 (n135 + 1)))] s147) ∧
 (bsplit (decide ((n135 : Int) > 0)) (IxQ (aindexAddr T Y_s_Dot a3 (.int .i64 (IntKind.wrap .i64 (n135 - 1)))) fun l148 o149 => RdL (rdc s142 l148 o149 2) fun g150 => RdL (rdc s142 l140 0 2) fun g151 => ACalls Try.prog F_ctx_Less [(.agg g150), (.agg g151)] s142 fun v152 s153 => ∃ b154 : Bool, v152 = .bool b154 ∧ (bsplit (!b154) (R (.int .i64 2) s153) (RdL (rdc s153 l140 0 2) fun g155 => ACalls Try.prog F_ctx_Ctx_Has [(.ptr a2), (.agg g155)] s153 fun v156 s157 => ∃ b158 : Bool, v156 = .bool b158 ∧ (bsplit (!b158)
 (R (.int .i64 2) s157)
 (J143 [] s157))))) (RdL (rdc s142 l140 0 2) fun g159 => ACalls Try.prog F_ctx_Ctx_Has [(.ptr a2), (.agg g159)] s142 fun v160 s161 => ∃ b162 : Bool, v160 = .bool b162 ∧ (bsplit (!b162)
 (R (.int .i64 2) s161)
 (J143 [] s161))))))
 (J13 [] s136))))))))

def A_stable_Matrix_Know : QA := (.seq .leaf (.seq (.wrap (.seq .leaf (.cond (.seq .leaf .leaf) (.seq .leaf (.cond (.seq .leaf .leaf) .leaf))))) (.seq .leaf (.join [] [(8, 8), (10, 11), (33, 61)] (.seq .leaf (.wrap (.loop [(35, .int .i64)] [(8, 8), (10, 11), (35, 61)] (.seq .leaf (.seq (.cond .leaf .leaf) (.seq (.wrap (.seq .leaf (.join [] [(8, 8), (40, 57)] (.seq .calm (.cond (.seq .leaf .leaf) .leaf)) .leaf))) .leaf)))))) (.seq .leaf (.seq (.seq .leaf (.cond (.seq (.drawH 10 [[], [], [], [], [], [], [], [], [], [6]] [6, 9]) (.seq .leaf .leaf)) .leaf)) (.seq .leaf (.seq (.seq .leaf (.seq .leaf (.cond (.seq .leaf .leaf) .leaf))) (.seq .leaf (.join [] [(16, 16), (92, 113)] (.seq .leaf (.wrap (.loop [] [(16, 16), (97, 113)] (.join [(98, .bool)] [(97, 98)] .leaf (.seq (.cond .leaf .leaf) (.wrap (.seq .leaf (.join [(110, .bool)] [(101, 110)] .leaf (.cond .leaf .leaf))))))))) (.join [] [(17, 17), (114, 138)] (.seq .leaf (.wrap (.loop [] [(17, 17), (116, 138)] (.join [(117, .bool)] [(116, 117)] .leaf (.seq (.cond .leaf .leaf) (.wrap (.seq .leaf (.join [(135, .bool)] [(120, 135)] (.draw 13) (.cond .leaf .leaf))))))))) (.seq .leaf (.seq .leaf .leaf)))))))))))))

theorem q_stable_Matrix_Know (a0 : Option (Nat × Nat)) (a1 : Int) (a2 : Option (Nat × Nat)) (a3 : AV) (s : AS) (R : AV → AS → Prop) (h : Q_stable_Matrix_Know a0 a1 a2 a3 s R) : ACalls Try.prog F_stable_Matrix_Know [(.ptr a0), (.int .i64 a1), (.ptr a2), a3] s R :=
  ACalls.q (n := 148) (rs := [.tmp 8]) (A := A_stable_Matrix_Know) hT hmx Try.func42 (by kernel_rfl) rfl rfl rfl (by kernel_rfl) (by kernel_rfl) h

/-- what minster/minsterlaw14.of asks -/
def Q_law14iof (a0 : AV) (s : AS) (R : AV → AS → Prop) : Prop :=
 ACalls Try.prog F_ctx_New [] s fun v1 s2 => ∃ p3 : Option (Nat × Nat), v1 = .ptr p3 ∧ (LoopQ fun I4 m5 => I4 m5 [(.int .i64 0)] s2 ∧
 ∀ m6 : Nat, ∀ n7 : Int, ∀ s8 : AS, I4 m6 [(.int .i64 n7)] s8 →
 RdI .i64 (alenB T Y_s_Dot a0 s8) fun n9 => bsplit (decide ((n7 : Int) < n9))
 (IxQ (aindexAddr T Y_s_Dot a0 (.int .i64 n7)) fun l10 o11 => RdL (rdc s8 l10 o11 2) fun g12 => ACalls Try.prog F_ctx_Ctx_Add [(.ptr p3), (.agg g12)] s8 fun v13 s14 => ∃ b15 : Bool, ∃ n16 : Int, v13 = .tup [(.bool b15), (.int .i64 n16)] ∧ (∃ m', m' < m6 ∧ I4 m' [(.int .i64 (IntKind.wrap .i64 (n7 + 1)))] s14))
 (R (.ptr p3) s8))

def A_law14iof : QA := (.seq .leaf (.seq .leaf (.seq (.seq .leaf (.wrap (.loop [(4, .int .i64)] [(4, 4), (6, 17)] (.seq (.seq .leaf (.cond .leaf .leaf)) (.seq (.wrap .leaf) .leaf))))) (.seq .leaf .leaf))))

theorem q_law14iof (a0 : AV) (s : AS) (R : AV → AS → Prop) (h : Q_law14iof a0 s R) : ACalls Try.prog F_law14iof [a0] s R :=
  ACalls.q (n := 19) (rs := [.tmp 2]) (A := A_law14iof) hT hmx Try.func43 (by kernel_rfl) rfl rfl rfl (by kernel_rfl) (by kernel_rfl) h

/-- what minster/minsterlaw14.few asks -/
def Q_law14ifew (a0 : AV) (s : AS) (R : AV → AS → Prop) : Prop :=
 JoinQ fun J1 =>
 (∀ s2 : AS, J1 [] s2 →
 RdI .i64 (alenB T Y_s_minsterlaw14iAct a0 s2) fun n3 => R (.bool (decide ((n3 : Int) ≤ 40))) s2) ∧
 (LoopQ fun I4 m5 => I4 m5 [(.int .i64 0)] s ∧
 ∀ m6 : Nat, ∀ n7 : Int, ∀ s8 : AS, I4 m6 [(.int .i64 n7)] s8 →
 RdI .i64 (alenB T Y_s_minsterlaw14iAct a0 s8) fun n9 => bsplit (decide ((n7 : Int) < n9))
 (IxQ (aindexAddr T Y_s_minsterlaw14iAct a0 (.int .i64 n7)) fun l10 o11 => RdA (rd1 s8 l10 (o11 + 2)) fun v12 => RdI .i64 (alenB T Y_s_Dot v12 s8) fun n13 => bsplit (decide ((n13 : Int) > 40)) (R (.bool false) s8) (IxQ (aindexAddr T Y_s_minsterlaw14iAct a0 (.int .i64 n7)) fun l14 o15 => RdA (rd1 s8 l14 (o15 + 3)) fun v16 => RdI .i64 (alenB T Y_s_Dot v16 s8) fun n17 => bsplit (decide ((n17 : Int) > 40))
 (R (.bool false) s8)
 (∃ m', m' < m6 ∧ I4 m' [(.int .i64 (IntKind.wrap .i64 (n7 + 1)))] s8)))
 (J1 [] s8))

def A_law14ifew : QA := (.seq .leaf (.join [] [(2, 25)] (.seq .leaf (.wrap (.loop [(3, .int .i64)] [(2, 25)] (.seq (.seq .leaf (.cond .leaf .leaf)) (.seq (.wrap (.seq .leaf (.cond (.seq .leaf .leaf) .leaf))) .leaf))))) (.seq .leaf .leaf)))

theorem q_law14ifew (a0 : AV) (s : AS) (R : AV → AS → Prop) (h : Q_law14ifew a0 s R) : ACalls Try.prog F_law14ifew [a0] s R :=
  ACalls.q (n := 29) (rs := [.tmp 2]) (A := A_law14ifew) hT hmx Try.func44 (by kernel_rfl) rfl rfl rfl (by kernel_rfl) (by kernel_rfl) h

/-- what minster/minsterlaw14.may asks -/
def Q_law14imay (a0 : List AV) (s : AS) (R : AV → AS → Prop) : Prop :=
 One1 a0 (NewQ (.cells a0 0 false) s fun l1 s2 => LoopQ fun I3 m4 => I3 m4 [(.int .i64 0)] s2 ∧
 ∀ m5 : Nat, ∀ n6 : Int, ∀ s7 : AS, I3 m5 [(.int .i64 n6)] s7 →
 RdA (rd1 s7 l1 3) fun v8 => RdI .i64 (alenB T Y_s_Dot v8 s7) fun n9 => bsplit (decide ((n6 : Int) < n9))
 (JoinQ fun J10 =>
 (∀ b11 : Bool, ∀ s12 : AS, J10 [(.bool b11)] s12 →
 bsplit (!b11) (R (.bool false) s12) (bsplit (decide ((n6 : Int) > 0)) (RdA (rd1 s12 l1 3) fun v13 => IxQ (aindexAddr T Y_s_Dot v13 (.int .i64 (IntKind.wrap .i64 (n6 - 1)))) fun l14 o15 => RdL (rdc s12 l14 o15 2) fun g16 => RdA (rd1 s12 l1 3) fun v17 => IxQ (aindexAddr T Y_s_Dot v17 (.int .i64 n6)) fun l18 o19 => RdL (rdc s12 l18 o19 2) fun g20 => ACalls Try.prog F_ref04iLess [(.agg g16), (.agg g20)] s12 fun v21 s22 => ∃ b23 : Bool, v21 = .bool b23 ∧ (bsplit (!b23)
 (R (.bool false) s22)
 (∃ m', m' < m5 ∧ I3 m' [(.int .i64 (IntKind.wrap .i64 (n6 + 1)))] s22))) (∃ m', m' < m5 ∧ I3 m' [(.int .i64 (IntKind.wrap .i64 (n6 + 1)))] s12))) ∧
 (LoopQ fun I24 m25 => I24 m25 [(.bool false), (.int .i64 0)] s7 ∧
 ∀ m26 : Nat, ∀ b27 : Bool, ∀ n28 : Int, ∀ s29 : AS, I24 m26 [(.bool b27), (.int .i64 n28)] s29 →
 RdA (rd1 s29 l1 2) fun v30 => RdI .i64 (alenB T Y_s_Dot v30 s29) fun n31 => bsplit (decide ((n28 : Int) < n31))
 (bsplit b27 (∃ m', m' < m26 ∧ I24 m' [(.bool true), (.int .i64 (IntKind.wrap .i64 (n28 + 1)))] s29) (RdA (rd1 s29 l1 2) fun v32 => IxQ (aindexAddr T Y_s_Dot v32 (.int .i64 n28)) fun l33 o34 => RdL (rdc s29 l33 o34 2) fun g35 => RdA (rd1 s29 l1 3) fun v36 => IxQ (aindexAddr T Y_s_Dot v36 (.int .i64 n6)) fun l37 o38 => RdL (rdc s29 l37 o38 2) fun g39 => RdO (aeq T 100 Y_Dot (.agg g35) (.agg g39)) fun b40 => bsplit b40 (RdA (rd1 s29 l1 3) fun v41 => IxQ (aindexAddr T Y_s_Dot v41 (.int .i64 n6)) fun l42 o43 => RdL (rdc s29 l42 o43 2) fun g44 => ACalls Try.prog F_ref04iMay [(.agg g44)] s29 fun v45 s46 => ∃ b47 : Bool, v45 = .bool b47 ∧ (∃ m', m' < m26 ∧ I24 m' [(.bool b47), (.int .i64 (IntKind.wrap .i64 (n28 + 1)))] s46)) (∃ m', m' < m26 ∧ I24 m' [(.bool false), (.int .i64 (IntKind.wrap .i64 (n28 + 1)))] s29)))
 (J10 [(.bool b27)] s29)))
 (R (.bool true) s7))

def A_law14imay : QA := (.seq .leaf (.seq (.seq .leaf (.wrap (.loop [(3, .int .i64)] [(2, 62)] (.seq (.seq .leaf (.cond .leaf .leaf)) (.seq (.wrap (.seq .leaf (.join [(4, .bool)] [(4, 5), (13, 41)] (.seq .leaf (.wrap (.loop [(4, .bool), (5, .int .i64)] [(4, 5), (13, 41)] (.seq (.seq .leaf (.cond .leaf .leaf)) (.seq (.wrap (.draw 17)) .leaf))))) (.seq (.draw 17) (.cond (.seq .leaf .leaf) .leaf))))) .leaf))))) (.seq .leaf .leaf)))

theorem q_law14imay (a0 : List AV) (s : AS) (R : AV → AS → Prop) (h : Q_law14imay a0 s R) : ACalls Try.prog F_law14imay [(.agg a0)] s R :=
  ACalls.q (n := 63) (rs := [.tmp 2]) (A := A_law14imay) hT hmx Try.func45 (by kernel_rfl) rfl rfl rfl (by kernel_rfl) (by kernel_rfl) h

/-- what (*minster/stable.Matrix).Have asks -/
def Q_stable_Matrix_Have (a0 : Option (Nat × Nat)) (a1 : Int) (a2 : List AV) (s : AS) (R : AV → AS → Prop) : Prop :=
 One1 a2 (NewQ (.cells a2 0 false) s fun l1 s2 => ACalls Try.prog F_stable_Matrix_there [(.ptr a0)] s2 fun v3 s4 => ∃ b5 : Bool, v3 = .bool b5 ∧ (bsplit (!b5)
 (R (.int .i64 1) s4)
 (ACalls Try.prog F_stable_Matrix_other [(.ptr a0), (.int .i64 a1)] s4 fun v6 s7 => ∃ b8 : Bool, v6 = .bool b8 ∧ (bsplit (!b8)
 (R (.int .i64 2) s7)
 (RdL (rdc s7 l1 0 16) fun g9 => LoopQ fun I10 m11 => I10 m11 [(.int .i64 0)] s7 ∧
 ∀ m12 : Nat, ∀ n13 : Int, ∀ s14 : AS, I10 m12 [(.int .i64 n13)] s14 →
 bsplit (decide ((n13 : Int) < 16))
 (RdI .u64 (aindex T Y_Vector (.agg g9) (.int .i64 n13)) fun n15 => AsSome a0 fun l16 o17 => IxQ (aindexAddr T Y_a16iVector (.ptr (some (l16, (o17 + 3)))) (.int .i64 (IntKind.wrap .i64 (a1 - 1)))) fun l18 o19 => IxQ (aindexAddr T Y_Vector (.ptr (some (l18, o19))) (.int .i64 n13)) fun l20 o21 => RdI .u64 (rd1 s14 l20 o21) fun n22 => RdI .u64 (amax true [(.int .u64 n22), (.int .u64 n15)]) fun n23 => AsSome a0 fun l24 o25 => IxQ (aindexAddr T Y_a16iVector (.ptr (some (l24, (o25 + 3)))) (.int .i64 (IntKind.wrap .i64 (a1 - 1)))) fun l26 o27 => IxQ (aindexAddr T Y_Vector (.ptr (some (l26, o27))) (.int .i64 n13)) fun l28 o29 => StQ (awr s14 l28 o29 [(.int .u64 n23)]) fun s30 => ∃ m', m' < m12 ∧ I10 m' [(.int .i64 (IntKind.wrap .i64 (n13 + 1)))] s30)
 (R (.int .i64 0) s14))))))

def A_stable_Matrix_Have : QA := (.seq .leaf (.seq (.wrap (.seq .leaf (.cond (.seq .leaf .leaf) (.seq .leaf (.cond (.seq .leaf .leaf) .leaf))))) (.seq (.seq .leaf (.wrap (.loop [(19, .int .i64)] [(7, 8), (19, 42)] (.seq .leaf (.seq (.cond .leaf .leaf) (.seq (.wrap (.seq .leaf (.draw 18))) .leaf)))))) (.seq .leaf .leaf))))

theorem q_stable_Matrix_Have (a0 : Option (Nat × Nat)) (a1 : Int) (a2 : List AV) (s : AS) (R : AV → AS → Prop) (h : Q_stable_Matrix_Have a0 a1 a2 s R) : ACalls Try.prog F_stable_Matrix_Have [(.ptr a0), (.int .i64 a1), (.agg a2)] s R :=
  ACalls.q (n := 43) (rs := [.tmp 6]) (A := A_stable_Matrix_Have) hT hmx Try.func46 (by kernel_rfl) rfl rfl rfl (by kernel_rfl) (by kernel_rfl) h

/-- what (*minster/stable.Matrix).Copy asks -/
def Q_stable_Matrix_Copy (a0 : Option (Nat × Nat)) (s : AS) (R : AV → AS → Prop) : Prop :=
 ACalls Try.prog F_stable_Matrix_there [(.ptr a0)] s fun v1 s2 => ∃ b3 : Bool, v1 = .bool b3 ∧ (bsplit (!b3)
 (R (.ptr none) s2)
 (AsSome a0 fun l4 o5 => RdL (rdc s2 l4 o5 259) fun g6 => NewQ (.cells [.int .i64 0, .int .i64 0, .map none, .int .u64 0, .int .u64 0, .int .u64 0, .int .u64 0, .int .u64 0, .int .u64 0, .int .u64 0, .int .u64 0, .int .u64 0, .int .u64 0, .int .u64 0, .int .u64 0, .int .u64 0, .int .u64 0, .int .u64 0, .int .u64 0, .int .u64 0, .int .u64 0, .int .u64 0, .int .u64 0, .int .u64 0, .int .u64 0, .int .u64 0, .int .u64 0, .int .u64 0, .int .u64 0, .int .u64 0, .int .u64 0, .int .u64 0, .int .u64 0, .int .u64 0, .int .u64 0, .int .u64 0, .int .u64 0, .int .u64 0, .int .u64 0, .int .u64 0, .int .u64 0, .int .u64 0, .int .u64 0, .int .u64 0, .int .u64 0, .int .u64 0, .int .u64 0, .int .u64 0, .int .u64 0, .int .u64 0, .int .u64 0, .int .u64 0, .int .u64 0, .int .u64 0, .int .u64 0, .int .u64 0, .int .u64 0, .int .u64 0, .int .u64 0, .int .u64 0, .int .u64 0, .int .u64 0, .int .u64 0, .int .u64 0, .int .u64 0, .int .u64 0, .int .u64 0, .int .u64 0, .int .u64 0, .int .u64 0, .int .u64 0, .int .u64 0, .int .u64 0, .int .u64 0, .int .u64 0, .int .u64 0, .int .u64 0, .int .u64 0, .int .u64 0, .int .u64 0, .int .u64 0, .int .u64 0, .int .u64 0, .int .u64 0, .int .u64 0, .int .u64 0, .int .u64 0, .int .u64 0, .int .u64 0, .int .u64 0, .int .u64 0, .int .u64 0, .int .u64 0, .int .u64 0, .int .u64 0, .int .u64 0, .int .u64 0, .int .u64 0, .int .u64 0, .int .u64 0, .int .u64 0, .int .u64 0, .int .u64 0, .int .u64 0, .int .u64 0, .int .u64 0, .int .u64 0, .int .u64 0, .int .u64 0, .int .u64 0, .int .u64 0, .int .u64 0, .int .u64 0, .int .u64 0, .int .u64 0, .int .u64 0, .int .u64 0, .int .u64 0, .int .u64 0, .int .u64 0, .int .u64 0, .int .u64 0, .int .u64 0, .int .u64 0, .int .u64 0, .int .u64 0, .int .u64 0, .int .u64 0, .int .u64 0, .int .u64 0, .int .u64 0, .int .u64 0, .int .u64 0, .int .u64 0, .int .u64 0, .int .u64 0, .int .u64 0, .int .u64 0, .int .u64 0, .int .u64 0, .int .u64 0, .int .u64 0, .int .u64 0, .int .u64 0, .int .u64 0, .int .u64 0, .int .u64 0, .int .u64 0, .int .u64 0, .int .u64 0, .int .u64 0, .int .u64 0, .int .u64 0, .int .u64 0, .int .u64 0, .int .u64 0, .int .u64 0, .int .u64 0, .int .u64 0, .int .u64 0, .int .u64 0, .int .u64 0, .int .u64 0, .int .u64 0, .int .u64 0, .int .u64 0, .int .u64 0, .int .u64 0, .int .u64 0, .int .u64 0, .int .u64 0, .int .u64 0, .int .u64 0, .int .u64 0, .int .u64 0, .int .u64 0, .int .u64 0, .int .u64 0, .int .u64 0, .int .u64 0, .int .u64 0, .int .u64 0, .int .u64 0, .int .u64 0, .int .u64 0, .int .u64 0, .int .u64 0, .int .u64 0, .int .u64 0, .int .u64 0, .int .u64 0, .int .u64 0, .int .u64 0, .int .u64 0, .int .u64 0, .int .u64 0, .int .u64 0, .int .u64 0, .int .u64 0, .int .u64 0, .int .u64 0, .int .u64 0, .int .u64 0, .int .u64 0, .int .u64 0, .int .u64 0, .int .u64 0, .int .u64 0, .int .u64 0, .int .u64 0, .int .u64 0, .int .u64 0, .int .u64 0, .int .u64 0, .int .u64 0, .int .u64 0, .int .u64 0, .int .u64 0, .int .u64 0, .int .u64 0, .int .u64 0, .int .u64 0, .int .u64 0, .int .u64 0, .int .u64 0, .int .u64 0, .int .u64 0, .int .u64 0, .int .u64 0, .int .u64 0, .int .u64 0, .int .u64 0, .int .u64 0, .int .u64 0, .int .u64 0, .int .u64 0, .int .u64 0, .int .u64 0, .int .u64 0, .int .u64 0, .int .u64 0, .int .u64 0, .int .u64 0, .int .u64 0, .int .u64 0, .int .u64 0, .int .u64 0, .int .u64 0, .int .u64 0, .int .u64 0, .int .u64 0, .int .u64 0, .int .u64 0, .int .u64 0, .int .u64 0, .int .u64 0, .int .u64 0, .int .u64 0, .int .u64 0] 0 false) s2 fun l7 s8 => OkC (some 259) g6 (StQ (awr s8 l7 0 g6) fun s9 => NewQ (.map [] 0 false) s9 fun l10 s11 => StQ (awr s11 l7 2 [(.map (some l10))]) fun s12 => AsSome a0 fun l13 o14 => RdM (rd1 s12 l13 (o14 + 2)) fun r15 => Bd2 (arange T Y_m_int_p_stable_view (.map r15) s12) fun v16 s17 => LoopQ fun I18 m19 => I18 m19 [] s17 ∧
 ∀ m20 : Nat, ∀ s21 : AS, I18 m20 [] s21 →
 JoinQ fun J22 =>
 (∀ b23 : Bool, ∀ s24 : AS, J22 [(.bool b23)] s24 →
 bsplit b23
 (RdE (aentry v16 s24) fun v25 v26 => ∃ n27 : Int, v25 = .int .i64 n27 ∧ (∃ p28 : Option (Nat × Nat), v26 = .ptr p28 ∧ (RdM (rd1 s24 l7 2) fun r29 => StQ (amapUpdate T Y_m_int_p_stable_view (.map r29) (.int .i64 n27) (.ptr p28) s24) fun s30 => ∃ m', m' < m20 ∧ I18 m' [] s30)))
 (R (.ptr (some (l7, 0))) s24)) ∧
 (NextP (acandM v16 s21)
 (J22 [(.bool false)] s21)
 fun v31 v32 s33 => J22 [(.bool true)] s33))))

def A_stable_Matrix_Copy : QA := (.seq .leaf (.seq (.seq .leaf (.cond (.seq .leaf .leaf) .leaf)) (.seq .leaf (.seq .leaf (.seq (.seq .leaf (.wrap (.loop [] [(4, 5), (19, 27)] (.join [(20, .bool)] [(19, 20)] .leaf (.seq (.cond .leaf .leaf) (.wrap (.seq .leaf .leaf))))))) (.seq .leaf .leaf))))))

theorem q_stable_Matrix_Copy (a0 : Option (Nat × Nat)) (s : AS) (R : AV → AS → Prop) (h : Q_stable_Matrix_Copy a0 s R) : ACalls Try.prog F_stable_Matrix_Copy [(.ptr a0)] s R :=
  ACalls.q (n := 28) (rs := [.tmp 2]) (A := A_stable_Matrix_Copy) hT hmx Try.func47 (by kernel_rfl) rfl rfl rfl (by kernel_rfl) (by kernel_rfl) h

/-- what minster/minsterlaw14.gone asks -/
def Q_law14igone (a0 : AV) (a1 : Int) (a2 : List AV) (s : AS) (R : AV → AS → Prop) : Prop :=
 One1 a2 (NewQ (.cells a2 0 false) s fun l1 s2 => LoopQ fun I3 m4 => I3 m4 [(.int .i64 0)] s2 ∧
 ∀ m5 : Nat, ∀ n6 : Int, ∀ s7 : AS, I3 m5 [(.int .i64 n6)] s7 →
 RdI .i64 (alenB T Y_s_minsterlaw14iAct a0 s7) fun n8 => bsplit (decide ((n6 : Int) < n8))
 (IxQ (aindexAddr T Y_s_minsterlaw14iAct a0 (.int .i64 n6)) fun l9 o10 => RdI .i64 (rd1 s7 l9 o10) fun n11 => bsplit ((n11 : Int) != 1) (∃ m', m' < m5 ∧ I3 m' [(.int .i64 (IntKind.wrap .i64 (n6 + 1)))] s7) (IxQ (aindexAddr T Y_s_minsterlaw14iAct a0 (.int .i64 n6)) fun l12 o13 => RdI .i64 (rd1 s7 l12 (o13 + 1)) fun n14 => bsplit ((n14 : Int) != a1) (∃ m', m' < m5 ∧ I3 m' [(.int .i64 (IntKind.wrap .i64 (n6 + 1)))] s7) (IxQ (aindexAddr T Y_s_minsterlaw14iAct a0 (.int .i64 n6)) fun l15 o16 => RdL (rdc s7 l15 o16 20) fun g17 => ACalls Try.prog F_law14imay [(.agg g17)] s7 fun v18 s19 => ∃ b20 : Bool, v18 = .bool b20 ∧ (bsplit (!b20)
 (∃ m', m' < m5 ∧ I3 m' [(.int .i64 (IntKind.wrap .i64 (n6 + 1)))] s19)
 (JoinQ fun J21 =>
 (∀ b22 : Bool, ∀ s23 : AS, J21 [(.bool b22)] s23 →
 JoinQ fun J24 =>
 (∀ b25 : Bool, ∀ s26 : AS, J24 [(.bool b25)] s26 →
 bsplit b22 (bsplit (!b25)
 (R (.bool true) s26)
 (∃ m', m' < m5 ∧ I3 m' [(.int .i64 (IntKind.wrap .i64 (n6 + 1)))] s26)) (∃ m', m' < m5 ∧ I3 m' [(.int .i64 (IntKind.wrap .i64 (n6 + 1)))] s26)) ∧
 (LoopQ fun I27 m28 => I27 m28 [(.bool false), (.int .i64 0)] s23 ∧
 ∀ m29 : Nat, ∀ b30 : Bool, ∀ n31 : Int, ∀ s32 : AS, I27 m29 [(.bool b30), (.int .i64 n31)] s32 →
 IxQ (aindexAddr T Y_s_minsterlaw14iAct a0 (.int .i64 n6)) fun l33 o34 => RdA (rd1 s32 l33 (o34 + 3)) fun v35 => RdI .i64 (alenB T Y_s_Dot v35 s32) fun n36 => bsplit (decide ((n31 : Int) < n36))
 (bsplit b30 (∃ m', m' < m29 ∧ I27 m' [(.bool true), (.int .i64 (IntKind.wrap .i64 (n31 + 1)))] s32) (IxQ (aindexAddr T Y_s_minsterlaw14iAct a0 (.int .i64 n6)) fun l37 o38 => RdA (rd1 s32 l37 (o38 + 3)) fun v39 => IxQ (aindexAddr T Y_s_Dot v39 (.int .i64 n31)) fun l40 o41 => RdL (rdc s32 l40 o41 2) fun g42 => RdL (rdc s32 l1 0 2) fun g43 => RdO (aeq T 100 Y_Dot (.agg g42) (.agg g43)) fun b44 => ∃ m', m' < m29 ∧ I27 m' [(.bool b44), (.int .i64 (IntKind.wrap .i64 (n31 + 1)))] s32))
 (J24 [(.bool b30)] s32))) ∧
 (LoopQ fun I45 m46 => I45 m46 [(.bool false), (.int .i64 0)] s19 ∧
 ∀ m47 : Nat, ∀ b48 : Bool, ∀ n49 : Int, ∀ s50 : AS, I45 m47 [(.bool b48), (.int .i64 n49)] s50 →
 IxQ (aindexAddr T Y_s_minsterlaw14iAct a0 (.int .i64 n6)) fun l51 o52 => RdA (rd1 s50 l51 (o52 + 2)) fun v53 => RdI .i64 (alenB T Y_s_Dot v53 s50) fun n54 => bsplit (decide ((n49 : Int) < n54))
 (bsplit b48 (∃ m', m' < m47 ∧ I45 m' [(.bool true), (.int .i64 (IntKind.wrap .i64 (n49 + 1)))] s50) (IxQ (aindexAddr T Y_s_minsterlaw14iAct a0 (.int .i64 n6)) fun l55 o56 => RdA (rd1 s50 l55 (o56 + 2)) fun v57 => IxQ (aindexAddr T Y_s_Dot v57 (.int .i64 n49)) fun l58 o59 => RdL (rdc s50 l58 o59 2) fun g60 => RdL (rdc s50 l1 0 2) fun g61 => RdO (aeq T 100 Y_Dot (.agg g60) (.agg g61)) fun b62 => bsplit b62 (RdL (rdc s50 l1 0 2) fun g63 => ACalls Try.prog F_ref04iMay [(.agg g63)] s50 fun v64 s65 => ∃ b66 : Bool, v64 = .bool b66 ∧ (∃ m', m' < m47 ∧ I45 m' [(.bool b66), (.int .i64 (IntKind.wrap .i64 (n49 + 1)))] s65)) (∃ m', m' < m47 ∧ I45 m' [(.bool false), (.int .i64 (IntKind.wrap .i64 (n49 + 1)))] s50)))
 (J21 [(.bool b48)] s50)))))))
 (R (.bool false) s7))

def A_law14igone : QA := (.seq .leaf (.seq (.seq .leaf (.wrap (.loop [(7, .int .i64)] [(6, 95)] (.seq (.seq .leaf (.cond .leaf .leaf)) (.seq (.wrap (.seq (.seq .leaf (.cond .leaf .leaf)) (.seq .leaf (.join [(8, .bool)] [(8, 8), (10, 10), (41, 67)] (.seq .leaf (.wrap (.loop [(8, .bool), (10, .int .i64)] [(8, 8), (10, 10), (41, 67)] (.seq (.seq .leaf (.cond .leaf .leaf)) (.seq (.wrap (.draw 11)) .leaf))))) (.join [(9, .bool)] [(9, 9), (11, 11), (68, 90)] (.seq .leaf (.wrap (.loop [(9, .bool), (11, .int .i64)] [(9, 9), (11, 11), (68, 90)] (.seq (.seq .leaf (.cond .leaf .leaf)) (.seq (.wrap (.draw 11)) .leaf))))) (.seq .leaf (.cond (.seq .leaf .leaf) .leaf))))))) .leaf))))) (.seq .leaf .leaf)))

theorem q_law14igone (a0 : AV) (a1 : Int) (a2 : List AV) (s : AS) (R : AV → AS → Prop) (h : Q_law14igone a0 a1 a2 s R) : ACalls Try.prog F_law14igone [a0, (.int .i64 a1), (.agg a2)] s R :=
  ACalls.q (n := 96) (rs := [.tmp 6]) (A := A_law14igone) hT hmx Try.func48 (by kernel_rfl) rfl rfl rfl (by kernel_rfl) (by kernel_rfl) h

/-- what (*minster/stable.Matrix).Gone asks -/
def Q_stable_Matrix_Gone (a0 : Option (Nat × Nat)) (a1 : Int) (a2 : List AV) (s : AS) (R : AV → AS → Prop) : Prop :=
 One1 a2 (NewQ (.cells a2 0 false) s fun l1 s2 => ACalls Try.prog F_stable_Matrix_there [(.ptr a0)] s2 fun v3 s4 => ∃ b5 : Bool, v3 = .bool b5 ∧ (bsplit (!b5) (R (.bool false) s4) (AsSome a0 fun l6 o7 => RdM (rd1 s4 l6 (o7 + 2)) fun r8 => RdP (alookup T Y_m_int_p_stable_view (.map r8) (.int .i64 a1) false s4) fun p9 => RdO (aeq T 100 Y_p_stable_view (.ptr p9) (.ptr none)) fun b10 => bsplit b10
 (R (.bool false) s4)
 (DrawQ fun S V => AsSome a0 fun l11 o12 => RdM (rd1 s4 l11 (o12 + 2)) fun r13 => RdP (alookup T Y_m_int_p_stable_view (.map r13) (.int .i64 a1) false s4) fun p14 => AsSome p14 fun l15 o16 => RdP (rd1 s4 l15 o16) fun p17 => RdL (rdc s4 l1 0 2) fun g18 => (∀ s19 : AS, Ext s4 s19 → WFs s19 → (True) → ACalls Try.prog F_ctx_Ctx_Has [(.ptr p17), (.agg g18)] s19 fun v20 s21 => ∃ b22 : Bool, v20 = .bool b22 ∧ ((Ext s19 s21 ∧ S 10 [(.func F_ctx_Ctx_Has []), (.ptr p17), (.agg g18)] (.bool b22) s21 ∧ V 10 [(.func F_ctx_Ctx_Has []), (.ptr p17), (.agg g18)] (.bool b22)))) ∧ (∃ v, V 10 [(.func F_ctx_Ctx_Has []), (.ptr p17), (.agg g18)] v) ∧ ∀ v23 : AV, V 10 [(.func F_ctx_Ctx_Has []), (.ptr p17), (.agg g18)] v23 → ∃ b24 : Bool, v23 = .bool b24 ∧ (bsplit b24 (AsSome a0 fun l25 o26 => RdM (rd1 s4 l25 (o26 + 2)) fun r27 => RdP (alookup T Y_m_int_p_stable_view (.map r27) (.int .i64 a1) false s4) fun p28 => AsSome p28 fun l29 o30 => RdM (rd1 s4 l29 (o30 + 1)) fun r31 => RdL (rdc s4 l1 0 2) fun g32 => ∀ s33 : AS, Ext s4 s33 → WFs s33 → (S 10 [(.func F_ctx_Ctx_Has []), (.ptr p17), (.agg g18)] (.bool b24) s33 ∧ True) → RdG (alookup T Y_m_Dot_struct__is_bool__ (.map r31) (.agg g32) false s33) fun g35 => RdB (g35[0]?) fun b36 => R (.bool (!b36)) s33) (∀ s37 : AS, Ext s4 s37 → WFs s37 → (S 10 [(.func F_ctx_Ctx_Has []), (.ptr p17), (.agg g18)] (.bool b24) s37 ∧ True) → R (.bool false) s37))))))

def A_stable_Matrix_Gone : QA := (.seq .leaf (.seq (.seq .leaf (.cond (.seq .leaf .leaf) .leaf)) (.seq (.drawH 22 [[], [], [], [], [], [], [], [], [], [], [], [], [], [], [], [], [], [], [], [], [], []] [10]) .leaf)))

theorem q_stable_Matrix_Gone (a0 : Option (Nat × Nat)) (a1 : Int) (a2 : List AV) (s : AS) (R : AV → AS → Prop) (h : Q_stable_Matrix_Gone a0 a1 a2 s R) : ACalls Try.prog F_stable_Matrix_Gone [(.ptr a0), (.int .i64 a1), (.agg a2)] s R :=
  ACalls.q (n := 45) (rs := [.tmp 6]) (A := A_stable_Matrix_Gone) hT hmx Try.func49 (by kernel_rfl) rfl rfl rfl (by kernel_rfl) (by kernel_rfl) h

/-- what (*minster/stable.Matrix).All asks -/
def Q_stable_Matrix_All (a0 : Option (Nat × Nat)) (s : AS) (R : AV → AS → Prop) : Prop :=
 NewQ (.cells [.int .u64 0, .int .u64 0, .int .u64 0, .int .u64 0, .int .u64 0, .int .u64 0, .int .u64 0, .int .u64 0, .int .u64 0, .int .u64 0, .int .u64 0, .int .u64 0, .int .u64 0, .int .u64 0, .int .u64 0, .int .u64 0] 0 false) s fun l1 s2 => JoinQ fun J3 =>
 (∀ b4 : Bool, ∀ s5 : AS, J3 [(.bool b4)] s5 →
 bsplit b4
 (RdG (abuild T Y_Vector []) fun g6 => OkC (some 16) g6 (StQ (awr s5 l1 0 g6) fun s7 => RdL (rdc s7 l1 0 16) fun g8 => R (.agg g8) s7))
 (NewQ (.cells [.int .u64 0, .int .u64 0, .int .u64 0, .int .u64 0, .int .u64 0, .int .u64 0, .int .u64 0, .int .u64 0, .int .u64 0, .int .u64 0, .int .u64 0, .int .u64 0, .int .u64 0, .int .u64 0, .int .u64 0, .int .u64 0] 0 false) s5 fun l9 s10 => LoopQ fun I11 m12 => I11 m12 [(.int .i64 0)] s10 ∧
 ∀ m13 : Nat, ∀ n14 : Int, ∀ s15 : AS, I11 m13 [(.int .i64 n14)] s15 →
 bsplit (decide ((n14 : Int) < 16))
 (JoinQ fun J16 =>
 (∀ v17 : AV, ∀ s18 : AS, J16 [v17] s18 →
 ACalls Try.prog F_slices_Min__s_uint64iuint64 [v17] s18 fun v19 s20 => ∃ n21 : Int, v19 = .int .u64 n21 ∧ (IxQ (aindexAddr T Y_Vector (.ptr (some (l9, 0))) (.int .i64 n14)) fun l22 o23 => StQ (awr s20 l22 o23 [(.int .u64 n21)]) fun s24 => ∃ m', m' < m13 ∧ I11 m' [(.int .i64 (IntKind.wrap .i64 (n14 + 1)))] s24)) ∧
 (LoopQ fun I25 m26 => I25 m26 [(.slc none 0 0 true), (.int .i64 1)] s15 ∧
 ∀ m27 : Nat, ∀ v28 : AV, ∀ n29 : Int, ∀ s30 : AS, I25 m27 [v28, (.int .i64 n29)] s30 →
 AsSome a0 fun l31 o32 => RdI .i64 (rd1 s30 l31 o32) fun n33 => bsplit (decide ((n29 : Int) ≤ n33))
 (AsSome a0 fun l34 o35 => RdI .i64 (rd1 s30 l34 (o35 + 1)) fun n36 => bsplit ((n29 : Int) != n36)
 (AsSome a0 fun l37 o38 => IxQ (aindexAddr T Y_a16iVector (.ptr (some (l37, (o38 + 3)))) (.int .i64 (IntKind.wrap .i64 (n29 - 1)))) fun l39 o40 => IxQ (aindexAddr T Y_Vector (.ptr (some (l39, o40))) (.int .i64 n14)) fun l41 o42 => RdI .u64 (rd1 s30 l41 o42) fun n43 => RdL (absl T Y_s_uint64 1 [(0, (.int .u64 n43))]) fun g44 => NewQ (.cells g44 0 false) s30 fun l45 s46 => Bd2 (aappend T Y_s_uint64 Y_s_uint64 v28 (.slc (some (l45, 0)) 1 1 true) s46) fun v47 s48 => ∃ m', m' < m27 ∧ I25 m' [v47, (.int .i64 (IntKind.wrap .i64 (n29 + 1)))] s48)
 (∃ m', m' < m27 ∧ I25 m' [v28, (.int .i64 (IntKind.wrap .i64 (n29 + 1)))] s30))
 (J16 [v28] s30)))
 (RdL (rdc s15 l9 0 16) fun g49 => OkC (some 16) g49 (StQ (awr s15 l1 0 g49) fun s50 => RdL (rdc s50 l1 0 16) fun g51 => R (.agg g51) s50)))) ∧
 (ACalls Try.prog F_stable_Matrix_there [(.ptr a0)] s2 fun v52 s53 => ∃ b54 : Bool, v52 = .bool b54 ∧ (bsplit (!b54) (J3 [(.bool true)] s53) (AsSome a0 fun l55 o56 => RdI .i64 (rd1 s53 l55 o56) fun n57 => J3 [(.bool ((n57 : Int) == 1))] s53)))

def A_stable_Matrix_All : QA := (.seq .leaf (.seq (.join [(16, .bool)] [(7, 16)] .leaf (.cond (.seq .leaf .leaf) .leaf)) (.seq .leaf (.seq (.seq .leaf (.wrap (.loop [(18, .int .i64)] [(4, 6), (18, 51)] (.seq .leaf (.seq (.cond .leaf .leaf) (.seq (.wrap (.seq .leaf (.seq .leaf (.join [(5, .any)] [(5, 6), (21, 46)] (.seq .leaf (.wrap (.loop [(5, .any), (6, .int .i64)] [(5, 6), (21, 46)] (.seq (.seq .leaf (.cond .leaf .leaf)) (.seq (.wrap (.seq .leaf (.cond .leaf .leaf))) .leaf))))) .leaf)))) .leaf)))))) (.seq .leaf .leaf)))))

theorem q_stable_Matrix_All (a0 : Option (Nat × Nat)) (s : AS) (R : AV → AS → Prop) (h : Q_stable_Matrix_All a0 s R) : ACalls Try.prog F_stable_Matrix_All [(.ptr a0)] s R :=
  ACalls.q (n := 53) (rs := [.cell 2 43]) (A := A_stable_Matrix_All) hT hmx Try.func50 (by kernel_rfl) rfl rfl rfl (by kernel_rfl) (by kernel_rfl) h

/-- what (*minster/stable.Matrix).Of asks -/
def Q_stable_Matrix_Of (a0 : Option (Nat × Nat)) (a1 : Int) (s : AS) (R : AV → AS → Prop) : Prop :=
 NewQ (.cells [.int .u64 0, .int .u64 0, .int .u64 0, .int .u64 0, .int .u64 0, .int .u64 0, .int .u64 0, .int .u64 0, .int .u64 0, .int .u64 0, .int .u64 0, .int .u64 0, .int .u64 0, .int .u64 0, .int .u64 0, .int .u64 0] 0 false) s fun l1 s2 => JoinQ fun J3 =>
 (∀ b4 : Bool, ∀ s5 : AS, J3 [(.bool b4)] s5 →
 bsplit b4
 (RdG (abuild T Y_Vector []) fun g6 => OkC (some 16) g6 (StQ (awr s5 l1 0 g6) fun s7 => RdL (rdc s7 l1 0 16) fun g8 => R (.agg g8) s7))
 (AsSome a0 fun l9 o10 => IxQ (aindexAddr T Y_a16iVector (.ptr (some (l9, (o10 + 3)))) (.int .i64 (IntKind.wrap .i64 (a1 - 1)))) fun l11 o12 => RdL (rdc s5 l11 o12 16) fun g13 => OkC (some 16) g13 (StQ (awr s5 l1 0 g13) fun s14 => RdL (rdc s14 l1 0 16) fun g15 => R (.agg g15) s14))) ∧
 (ACalls Try.prog F_stable_Matrix_there [(.ptr a0)] s2 fun v16 s17 => ∃ b18 : Bool, v16 = .bool b18 ∧ (bsplit (!b18) (J3 [(.bool true)] s17) (ACalls Try.prog F_stable_Matrix_other [(.ptr a0), (.int .i64 a1)] s17 fun v19 s20 => ∃ b21 : Bool, v19 = .bool b21 ∧ (J3 [(.bool (!b21))] s20))))

def A_stable_Matrix_Of : QA := (.seq .leaf (.seq (.join [(13, .bool)] [(5, 13)] .leaf (.cond (.seq .leaf .leaf) .leaf)) (.seq .leaf .leaf)))

theorem q_stable_Matrix_Of (a0 : Option (Nat × Nat)) (a1 : Int) (s : AS) (R : AV → AS → Prop) (h : Q_stable_Matrix_Of a0 a1 s R) : ACalls Try.prog F_stable_Matrix_Of [(.ptr a0), (.int .i64 a1)] s R :=
  ACalls.q (n := 22) (rs := [.cell 4 43]) (A := A_stable_Matrix_Of) hT hmx Try.func51 (by kernel_rfl) rfl rfl rfl (by kernel_rfl) (by kernel_rfl) h

/-- what minster/minsterlaw14.StableGrows$1 asks -/
def Q_law14iStableGrows_1 (a0 : Option (Nat × Nat)) (a1 : List AV) (s : AS) (R : AV → AS → Prop) : Prop :=
 One1 a1 (NewQ (.cells a1 0 false) s fun l1 s2 => RdI .i64 (rd1 s2 l1 0) fun n3 => bsplit ((n3 : Int) == 1)
 (DrawQ fun S V => RdI .i64 (rd1 s2 l1 1) fun n4 => RdA (rd1 s2 l1 2) fun v5 => (∀ s6 : AS, Ext s2 s6 → WFs s6 → (True) → ACalls Try.prog F_law14iof [v5] s6 fun v7 s8 => ∃ p9 : Option (Nat × Nat), v7 = .ptr p9 ∧ ((Ext s6 s8 ∧ S 5 [(.func F_law14iof []), v5] (.ptr p9) s8 ∧ V 5 [(.func F_law14iof []), v5] (.ptr p9)))) ∧ (∃ v, V 5 [(.func F_law14iof []), v5] v) ∧ ∀ v10 : AV, V 5 [(.func F_law14iof []), v5] v10 → ∃ p11 : Option (Nat × Nat), v10 = .ptr p11 ∧ (RdA (rd1 s2 l1 3) fun v12 => ∀ s13 : AS, Ext s2 s13 → WFs s13 → (S 5 [(.func F_law14iof []), v5] (.ptr p11) s13 ∧ True) → ACalls Try.prog F_stable_Matrix_Know [(.ptr a0), (.int .i64 n4), (.ptr p11), v12] s13 fun v15 s16 => ∃ n17 : Int, v15 = .int .i64 n17 ∧ (R (.tup []) s16)))
 (RdI .i64 (rd1 s2 l1 0) fun n18 => bsplit ((n18 : Int) == 2)
 (RdI .i64 (rd1 s2 l1 1) fun n19 => RdL (rdc s2 l1 4 16) fun g20 => ACalls Try.prog F_stable_Matrix_Have [(.ptr a0), (.int .i64 n19), (.agg g20)] s2 fun v21 s22 => ∃ n23 : Int, v21 = .int .i64 n23 ∧ (R (.tup []) s22))
 (R (.tup []) s2)))

def A_law14iStableGrows_1 : QA := (.seq .leaf (.seq .leaf (.cond (.drawH 8 [[], [], [], [], [], [], [], []] [5]) (.seq .leaf (.cond .leaf .leaf)))))

theorem q_law14iStableGrows_1 (a0 : Option (Nat × Nat)) (a1 : List AV) (s : AS) (R : AV → AS → Prop) (h : Q_law14iStableGrows_1 a0 a1 s R) : ACalls Try.prog F_law14iStableGrows_1 [(.ptr a0), (.agg a1)] s R :=
  ACalls.q (n := 25) (rs := []) (A := A_law14iStableGrows_1) hT hmx Try.func52 (by kernel_rfl) rfl rfl rfl (by kernel_rfl) (by kernel_rfl) h

/-- what (*minster/stable.Matrix).there asks -/
def Q_stable_Matrix_there (a0 : Option (Nat × Nat)) (s : AS) (R : AV → AS → Prop) : Prop :=
 RdO (aeq T 100 Y_p_stable_Matrix (.ptr a0) (.ptr none)) fun b1 => bsplit (!b1) (AsSome a0 fun l2 o3 => RdM (rd1 s l2 (o3 + 2)) fun r4 => RdO (aeq T 100 Y_m_int_p_stable_view (.map r4) (.map none)) fun b5 => R (.bool (!b5)) s) (R (.bool false) s)

def A_stable_Matrix_there : QA := (.seq .leaf (.seq .leaf .leaf))

theorem q_stable_Matrix_there (a0 : Option (Nat × Nat)) (s : AS) (R : AV → AS → Prop) (h : Q_stable_Matrix_there a0 s R) : ACalls Try.prog F_stable_Matrix_there [(.ptr a0)] s R :=
  ACalls.q (n := 12) (rs := [.tmp 2]) (A := A_stable_Matrix_there) hT hmx Try.func65 (by kernel_rfl) rfl rfl rfl (by kernel_rfl) (by kernel_rfl) h

/-- what (*minster/stable.Matrix).other asks -/
def Q_stable_Matrix_other (a0 : Option (Nat × Nat)) (a1 : Int) (s : AS) (R : AV → AS → Prop) : Prop :=
 bsplit (decide ((a1 : Int) ≥ 1)) (AsSome a0 fun l1 o2 => RdI .i64 (rd1 s l1 o2) fun n3 => bsplit (decide ((a1 : Int) ≤ n3)) (AsSome a0 fun l4 o5 => RdI .i64 (rd1 s l4 (o5 + 1)) fun n6 => R (.bool ((a1 : Int) != n6)) s) (R (.bool false) s)) (R (.bool false) s)

def A_stable_Matrix_other : QA := (.seq .leaf (.seq .leaf .leaf))

theorem q_stable_Matrix_other (a0 : Option (Nat × Nat)) (a1 : Int) (s : AS) (R : AV → AS → Prop) (h : Q_stable_Matrix_other a0 a1 s R) : ACalls Try.prog F_stable_Matrix_other [(.ptr a0), (.int .i64 a1)] s R :=
  ACalls.q (n := 23) (rs := [.tmp 4]) (A := A_stable_Matrix_other) hT hmx Try.func66 (by kernel_rfl) rfl rfl rfl (by kernel_rfl) (by kernel_rfl) h

/-- what minster/minsterlaw14.StableNeeds asks -/
def Q_law14iStableNeeds (a0 : Int) (a1 : Int) (a2 : List AV) (a3 : AV) (s : AS) (R : AV → AS → Prop) : Prop :=
 One1 a2 (NewQ (.cells a2 0 false) s fun l1 s2 => JoinQ fun J3 =>
 (∀ b4 : Bool, ∀ s5 : AS, J3 [(.bool b4)] s5 →
 bsplit b4
 (ACalls Try.prog F_law14iknown [] s5 fun v6 s7 => ∃ b8 : Bool, v6 = .bool b8 ∧ (R (.bool b8) s7))
 (ACalls Try.prog F_stable_New [(.int .i64 a0), (.int .i64 a1)] s5 fun v9 s10 => ∃ p11 : Option (Nat × Nat), ∃ n12 : Int, v9 = .tup [(.ptr p11), (.int .i64 n12)] ∧ (bsplit ((n12 : Int) != 0)
 (R (.bool false) s10)
 (NewQ (.map [] 0 false) s10 fun l13 s14 => JoinQ fun J15 =>
 (∀ s16 : AS, J15 [] s16 →
 RdL (rdc s16 l1 0 2) fun g17 => ACalls Try.prog F_stable_Matrix_Stable [(.ptr p11), (.agg g17)] s16 fun v18 s19 => ∃ b20 : Bool, v18 = .bool b20 ∧ (RdI .i64 (alenB T Y_m_int_int (.map (some l13)) s19) fun n21 => bsplit ((b20 : Bool) == ((n21 : Int) == (IntKind.wrap .i64 (a0 - 1)))) (ACalls Try.prog F_law14iknown [] s19 fun v22 s23 => ∃ b24 : Bool, v22 = .bool b24 ∧ (R (.bool b24) s23)) (R (.bool false) s19))) ∧
 (LoopQ fun I25 m26 => I25 m26 [(.int .i64 0)] s14 ∧
 ∀ m27 : Nat, ∀ n28 : Int, ∀ s29 : AS, I25 m27 [(.int .i64 n28)] s29 →
 RdI .i64 (alenB T Y_s_int a3 s29) fun n30 => bsplit (decide ((n28 : Int) < n30))
 (RdL (rdc s29 l1 0 2) fun g31 => ACalls Try.prog F_stable_Matrix_Stable [(.ptr p11), (.agg g31)] s29 fun v32 s33 => ∃ b34 : Bool, v32 = .bool b34 ∧ (RdI .i64 (alenB T Y_m_int_int (.map (some l13)) s33) fun n35 => bsplit (!((b34 : Bool) == ((n35 : Int) == (IntKind.wrap .i64 (a0 - 1)))))
 (R (.bool false) s33)
 (IxQ (aindexAddr T Y_s_int a3 (.int .i64 n28)) fun l36 o37 => RdI .i64 (rd1 s33 l36 o37) fun n38 => NZ a0 (NZ a0 (bsplit ((IntKind.wrap .i64 (1 + (Int.tmod (IntKind.wrap .i64 ((Int.tmod n38 a0) + a0)) a0)) : Int) == a1)
 (∃ m', m' < m27 ∧ I25 m' [(.int .i64 (IntKind.wrap .i64 (n28 + 1)))] s33)
 (NZ 3 (bsplit ((Int.tmod n28 3 : Int) == 0)
 (DrawQ fun S V => RdL (rdc s33 l1 0 2) fun g39 => (∀ s40 : AS, Ext s33 s40 → WFs s40 → (True) → RdL (absl T Y_s_Dot 1 [(0, (.agg g39))]) fun g41 => NewQ (.cells g41 0 false) s40 fun l42 s43 => (Ext s40 s43 ∧ S 3 [(.agg g39)] (.slc (some (l42, 0)) 1 1 true) s43 ∧ V 3 [(.agg g39)] (.slc (some (l42, 0)) 1 1 true))) ∧ (∃ v, V 3 [(.agg g39)] v) ∧ ∀ v44 : AV, V 3 [(.agg g39)] v44 → (∀ s45 : AS, Ext s33 s45 → WFs s45 → (S 3 [(.agg g39)] v44 s45 ∧ True) → ACalls Try.prog F_law14iof [v44] s45 fun v46 s47 => ∃ p48 : Option (Nat × Nat), v46 = .ptr p48 ∧ ((Ext s45 s47 ∧ S 4 [(.func F_law14iof []), v44] (.ptr p48) s47 ∧ V 4 [(.func F_law14iof []), v44] (.ptr p48)))) ∧ (∃ v, V 4 [(.func F_law14iof []), v44] v) ∧ ∀ v49 : AV, V 4 [(.func F_law14iof []), v44] v49 → ∃ p50 : Option (Nat × Nat), v49 = .ptr p50 ∧ (RdL (rdc s33 l1 0 2) fun g51 => (∀ s52 : AS, Ext s33 s52 → WFs s52 → (True) → RdL (absl T Y_s_Dot 1 [(0, (.agg g51))]) fun g53 => NewQ (.cells g53 0 false) s52 fun l54 s55 => (Ext s52 s55 ∧ S 6 [(.agg g51)] (.slc (some (l54, 0)) 1 1 true) s55 ∧ V 6 [(.agg g51)] (.slc (some (l54, 0)) 1 1 true))) ∧ (∃ v, V 6 [(.agg g51)] v) ∧ ∀ v56 : AV, V 6 [(.agg g51)] v56 → ∀ s57 : AS, Ext s33 s57 → WFs s57 → (S 3 [(.agg g39)] v44 s57 ∧ (S 4 [(.func F_law14iof []), v44] (.ptr p50) s57 ∧ (S 6 [(.agg g51)] v56 s57 ∧ True))) → ACalls Try.prog F_stable_Matrix_Know [(.ptr p11), (.int .i64 (IntKind.wrap .i64 (1 + (Int.tmod (IntKind.wrap .i64 ((Int.tmod n38 a0) + a0)) a0)))), (.ptr p50), v56] s57 fun v59 s60 => ∃ n61 : Int, v59 = .int .i64 n61 ∧ (bsplit ((n61 : Int) != 0)
 (R (.bool false) s60)
 (∃ m', m' < m27 ∧ I25 m' [(.int .i64 (IntKind.wrap .i64 (n28 + 1)))] s60))))
 (RdL (rdc s33 l1 0 2) fun g62 => RdL (absl T Y_s_Dot 1 [(0, (.agg g62))]) fun g63 => NewQ (.cells g63 0 false) s33 fun l64 s65 => ACalls Try.prog F_law14iof [(.slc (some (l64, 0)) 1 1 true)] s65 fun v66 s67 => ∃ p68 : Option (Nat × Nat), v66 = .ptr p68 ∧ (ACalls Try.prog F_stable_Matrix_Know [(.ptr p11), (.int .i64 (IntKind.wrap .i64 (1 + (Int.tmod (IntKind.wrap .i64 ((Int.tmod n38 a0) + a0)) a0)))), (.ptr p68), (.slc none 0 0 true)] s67 fun v69 s70 => ∃ n71 : Int, v69 = .int .i64 n71 ∧ (bsplit ((n71 : Int) != 0)
 (R (.bool false) s70)
 (StQ (amapUpdate T Y_m_int_int (.map (some l13)) (.int .i64 (IntKind.wrap .i64 (1 + (Int.tmod (IntKind.wrap .i64 ((Int.tmod n38 a0) + a0)) a0)))) (.int .i64 1) s70) fun s72 => ∃ m', m' < m27 ∧ I25 m' [(.int .i64 (IntKind.wrap .i64 (n28 + 1)))] s72)))))))))))
 (J15 [] s29)))))) ∧
 (bsplit (decide ((a0 : Int) < 1)) (J3 [(.bool true)] s2) (bsplit (decide ((a0 : Int) > 16)) (J3 [(.bool true)] s2) (bsplit (decide ((a1 : Int) < 1)) (J3 [(.bool true)] s2) (bsplit (decide ((a1 : Int) > a0)) (J3 [(.bool true)] s2) (RdL (rdc s2 l1 0 2) fun g73 => ACalls Try.prog F_ref04iMay [(.agg g73)] s2 fun v74 s75 => ∃ b76 : Bool, v74 = .bool b76 ∧ (bsplit (!b76) (J3 [(.bool true)] s75) (RdI .i64 (alenB T Y_s_int a3 s75) fun n77 => J3 [(.bool (decide ((n77 : Int) > 60)))] s75))))))))

def A_law14iStableNeeds : QA := (.seq .leaf (.seq (.join [(38, .bool)] [(14, 38)] .leaf (.cond (.seq .leaf .leaf) .leaf)) (.seq .leaf (.seq (.seq .leaf (.cond (.seq .leaf .leaf) .leaf)) (.seq .leaf (.join [] [(8, 8), (12, 13), (49, 98)] (.seq .leaf (.wrap (.loop [(12, .int .i64)] [(8, 8), (12, 13), (49, 98)] (.seq (.seq .leaf (.cond .leaf .leaf)) (.seq (.wrap (.seq (.seq .leaf (.cond (.seq .leaf .leaf) .leaf)) (.seq .leaf (.seq (.seq .leaf (.cond .leaf .leaf)) (.seq (.seq .leaf (.cond (.seq (.seq (.drawH 7 [[], [], [], [], [3], [], []] [3, 4, 6]) (.cond (.seq .leaf .leaf) .leaf)) .leaf) .leaf)) (.seq (.seq .leaf (.cond (.seq .leaf .leaf) .leaf)) .leaf)))))) .leaf))))) (.seq .leaf .leaf)))))))

theorem q_law14iStableNeeds (a0 : Int) (a1 : Int) (a2 : List AV) (a3 : AV) (s : AS) (R : AV → AS → Prop) (h : Q_law14iStableNeeds a0 a1 a2 a3 s R) : ACalls Try.prog F_law14iStableNeeds [(.int .i64 a0), (.int .i64 a1), (.agg a2), a3] s R :=
  ACalls.q (n := 111) (rs := [.tmp 8]) (A := A_law14iStableNeeds) hT hmx Try.func9 (by kernel_rfl) rfl rfl rfl (by kernel_rfl) (by kernel_rfl) h

/-- what minster/minsterlaw14.StablePlays asks -/
def Q_law14iStablePlays (a0 : Int) (a1 : Int) (a2 : AV) (a3 : AV) (s : AS) (R : AV → AS → Prop) : Prop :=
 JoinQ fun J1 =>
 (∀ b2 : Bool, ∀ s3 : AS, J1 [(.bool b2)] s3 →
 bsplit b2
 (ACalls Try.prog F_law14iknown [] s3 fun v4 s5 => ∃ b6 : Bool, v4 = .bool b6 ∧ (R (.bool b6) s5))
 (ACalls Try.prog F_stable_New [(.int .i64 a0), (.int .i64 a1)] s3 fun v7 s8 => ∃ p9 : Option (Nat × Nat), ∃ n10 : Int, v7 = .tup [(.ptr p9), (.int .i64 n10)] ∧ (JoinQ fun J11 =>
 (∀ b12 : Bool, ∀ s13 : AS, J11 [(.bool b12)] s13 →
 bsplit b12
 (bsplit ((n10 : Int) == 2) (RdO (aeq T 100 Y_p_stable_Matrix (.ptr p9) (.ptr none)) fun b14 => bsplit b14 (ACalls Try.prog F_law14iknown [] s13 fun v15 s16 => ∃ b17 : Bool, v15 = .bool b17 ∧ (R (.bool b17) s16)) (R (.bool false) s13)) (R (.bool false) s13))
 (bsplit ((n10 : Int) != 0)
 (R (.bool false) s13)
 (NewQ (.cells [.int .u64 0, .int .u64 0, .int .u64 0, .int .u64 0, .int .u64 0, .int .u64 0, .int .u64 0, .int .u64 0, .int .u64 0, .int .u64 0, .int .u64 0, .int .u64 0, .int .u64 0, .int .u64 0, .int .u64 0, .int .u64 0, .int .u64 0, .int .u64 0, .int .u64 0, .int .u64 0, .int .u64 0, .int .u64 0, .int .u64 0, .int .u64 0, .int .u64 0, .int .u64 0, .int .u64 0, .int .u64 0, .int .u64 0, .int .u64 0, .int .u64 0, .int .u64 0, .int .u64 0, .int .u64 0, .int .u64 0, .int .u64 0, .int .u64 0, .int .u64 0, .int .u64 0, .int .u64 0, .int .u64 0, .int .u64 0, .int .u64 0, .int .u64 0, .int .u64 0, .int .u64 0, .int .u64 0, .int .u64 0, .int .u64 0, .int .u64 0, .int .u64 0, .int .u64 0, .int .u64 0, .int .u64 0, .int .u64 0, .int .u64 0, .int .u64 0, .int .u64 0, .int .u64 0, .int .u64 0, .int .u64 0, .int .u64 0, .int .u64 0, .int .u64 0, .int .u64 0, .int .u64 0, .int .u64 0, .int .u64 0, .int .u64 0, .int .u64 0, .int .u64 0, .int .u64 0, .int .u64 0, .int .u64 0, .int .u64 0, .int .u64 0, .int .u64 0, .int .u64 0, .int .u64 0, .int .u64 0, .int .u64 0, .int .u64 0, .int .u64 0, .int .u64 0, .int .u64 0, .int .u64 0, .int .u64 0, .int .u64 0, .int .u64 0, .int .u64 0, .int .u64 0, .int .u64 0, .int .u64 0, .int .u64 0, .int .u64 0, .int .u64 0, .int .u64 0, .int .u64 0, .int .u64 0, .int .u64 0, .int .u64 0, .int .u64 0, .int .u64 0, .int .u64 0, .int .u64 0, .int .u64 0, .int .u64 0, .int .u64 0, .int .u64 0, .int .u64 0, .int .u64 0, .int .u64 0, .int .u64 0, .int .u64 0, .int .u64 0, .int .u64 0, .int .u64 0, .int .u64 0, .int .u64 0, .int .u64 0, .int .u64 0, .int .u64 0, .int .u64 0, .int .u64 0, .int .u64 0, .int .u64 0, .int .u64 0, .int .u64 0, .int .u64 0, .int .u64 0, .int .u64 0, .int .u64 0, .int .u64 0, .int .u64 0, .int .u64 0, .int .u64 0, .int .u64 0, .int .u64 0, .int .u64 0, .int .u64 0, .int .u64 0, .int .u64 0, .int .u64 0, .int .u64 0, .int .u64 0, .int .u64 0, .int .u64 0, .int .u64 0, .int .u64 0, .int .u64 0, .int .u64 0, .int .u64 0, .int .u64 0, .int .u64 0, .int .u64 0, .int .u64 0, .int .u64 0, .int .u64 0, .int .u64 0, .int .u64 0, .int .u64 0, .int .u64 0, .int .u64 0, .int .u64 0, .int .u64 0, .int .u64 0, .int .u64 0, .int .u64 0, .int .u64 0, .int .u64 0, .int .u64 0, .int .u64 0, .int .u64 0, .int .u64 0, .int .u64 0, .int .u64 0, .int .u64 0, .int .u64 0, .int .u64 0, .int .u64 0, .int .u64 0, .int .u64 0, .int .u64 0, .int .u64 0, .int .u64 0, .int .u64 0, .int .u64 0, .int .u64 0, .int .u64 0, .int .u64 0, .int .u64 0, .int .u64 0, .int .u64 0, .int .u64 0, .int .u64 0, .int .u64 0, .int .u64 0, .int .u64 0, .int .u64 0, .int .u64 0, .int .u64 0, .int .u64 0, .int .u64 0, .int .u64 0, .int .u64 0, .int .u64 0, .int .u64 0, .int .u64 0, .int .u64 0, .int .u64 0, .int .u64 0, .int .u64 0, .int .u64 0, .int .u64 0, .int .u64 0, .int .u64 0, .int .u64 0, .int .u64 0, .int .u64 0, .int .u64 0, .int .u64 0, .int .u64 0, .int .u64 0, .int .u64 0, .int .u64 0, .int .u64 0, .int .u64 0, .int .u64 0, .int .u64 0, .int .u64 0, .int .u64 0, .int .u64 0, .int .u64 0, .int .u64 0, .int .u64 0, .int .u64 0, .int .u64 0, .int .u64 0, .int .u64 0, .int .u64 0, .int .u64 0, .int .u64 0, .int .u64 0, .int .u64 0, .int .u64 0, .int .u64 0, .int .u64 0, .int .u64 0, .int .u64 0, .int .u64 0, .int .u64 0, .int .u64 0, .int .u64 0, .int .u64 0, .int .u64 0, .int .u64 0, .int .u64 0, .int .u64 0, .int .u64 0, .int .u64 0, .int .u64 0, .int .u64 0, .int .u64 0, .int .u64 0, .int .u64 0, .int .u64 0, .int .u64 0, .int .u64 0, .int .u64 0, .int .u64 0, .int .u64 0, .int .u64 0] 0 false) s13 fun l18 s19 => JoinQ fun J20 =>
 (∀ s21 : AS, J20 [] s21 →
 NewQ (.cells [.int .u64 0, .int .u64 0, .int .u64 0, .int .u64 0, .int .u64 0, .int .u64 0, .int .u64 0, .int .u64 0, .int .u64 0, .int .u64 0, .int .u64 0, .int .u64 0, .int .u64 0, .int .u64 0, .int .u64 0, .int .u64 0] 0 false) s21 fun l22 s23 => JoinQ fun J24 =>
 (∀ s25 : AS, J24 [] s25 →
 DrawQ fun S V => (∀ s26 : AS, Ext s25 s26 → WFs s26 → (True) → ACalls Try.prog F_stable_Matrix_All [(.ptr p9)] s26 fun v27 s28 => ∃ g29 : List AV, v27 = .agg g29 ∧ ((Ext s26 s28 ∧ S 1 [(.func F_stable_Matrix_All []), (.ptr p9)] (.agg g29) s28 ∧ V 1 [(.func F_stable_Matrix_All []), (.ptr p9)] (.agg g29)))) ∧ (∃ v, V 1 [(.func F_stable_Matrix_All []), (.ptr p9)] v) ∧ ∀ v30 : AV, V 1 [(.func F_stable_Matrix_All []), (.ptr p9)] v30 → ∃ g31 : List AV, v30 = .agg g31 ∧ (RdL (rdc s25 l22 0 16) fun g32 => ∀ s33 : AS, Ext s25 s33 → WFs s33 → (S 1 [(.func F_stable_Matrix_All []), (.ptr p9)] (.agg g31) s33 ∧ True) → RdO (aeq T 100 Y_Vector (.agg g31) (.agg g32)) fun b35 => bsplit (!b35)
 (R (.bool false) s33)
 (LoopQ fun I36 m37 => I36 m37 [(.int .i64 0)] s33 ∧
 ∀ m38 : Nat, ∀ n39 : Int, ∀ s40 : AS, I36 m38 [(.int .i64 n39)] s40 →
 bsplit (decide ((n39 : Int) < 17))
 (DrawQ fun S V => (∀ s41 : AS, Ext s40 s41 → WFs s41 → (True) → ACalls Try.prog F_stable_Matrix_Of [(.ptr p9), (.int .i64 n39)] s41 fun v42 s43 => ∃ g44 : List AV, v42 = .agg g44 ∧ ((Ext s41 s43 ∧ S 2 [(.func F_stable_Matrix_Of []), (.ptr p9), (.int .i64 n39)] (.agg g44) s43 ∧ V 2 [(.func F_stable_Matrix_Of []), (.ptr p9), (.int .i64 n39)] (.agg g44)))) ∧ (∃ v, V 2 [(.func F_stable_Matrix_Of []), (.ptr p9), (.int .i64 n39)] v) ∧ ∀ v45 : AV, V 2 [(.func F_stable_Matrix_Of []), (.ptr p9), (.int .i64 n39)] v45 → ∃ g46 : List AV, v45 = .agg g46 ∧ (IxQ (aindexAddr T Y_a17iVector (.ptr (some (l18, 0))) (.int .i64 n39)) fun l47 o48 => RdL (rdc s40 l47 o48 16) fun g49 => ∀ s50 : AS, Ext s40 s50 → WFs s50 → (S 2 [(.func F_stable_Matrix_Of []), (.ptr p9), (.int .i64 n39)] (.agg g46) s50 ∧ True) → RdO (aeq T 100 Y_Vector (.agg g46) (.agg g49)) fun b52 => bsplit (!b52)
 (R (.bool false) s50)
 (∃ m', m' < m38 ∧ I36 m' [(.int .i64 (IntKind.wrap .i64 (n39 + 1)))] s50)))
 (ACalls Try.prog F_law14iknown [] s40 fun v53 s54 => ∃ b55 : Bool, v53 = .bool b55 ∧ (R (.bool b55) s54))))) ∧
 (LoopQ fun I56 m57 => I56 m57 [(.int .i64 0)] s23 ∧
 ∀ m58 : Nat, ∀ n59 : Int, ∀ s60 : AS, I56 m58 [(.int .i64 n59)] s60 →
 bsplit (decide ((n59 : Int) < 16)) (bsplit (decide ((a0 : Int) > 1))
 (LoopQ fun I61 m62 => I61 m62 [(.bool true), (.int .i64 1)] s60 ∧
 ∀ m63 : Nat, ∀ b64 : Bool, ∀ n65 : Int, ∀ s66 : AS, I61 m63 [(.bool b64), (.int .i64 n65)] s66 →
 bsplit (decide ((n65 : Int) ≤ a0))
 (JoinQ fun J67 =>
 (∀ b68 : Bool, ∀ s69 : AS, J67 [(.bool b68)] s69 →
 bsplit b68
 (IxQ (aindexAddr T Y_a17iVector (.ptr (some (l18, 0))) (.int .i64 n65)) fun l70 o71 => IxQ (aindexAddr T Y_Vector (.ptr (some (l70, o71))) (.int .i64 n59)) fun l72 o73 => RdI .u64 (rd1 s69 l72 o73) fun n74 => IxQ (aindexAddr T Y_Vector (.ptr (some (l22, 0))) (.int .i64 n59)) fun l75 o76 => StQ (awr s69 l75 o76 [(.int .u64 n74)]) fun s77 => ∃ m', m' < m63 ∧ I61 m' [(.bool false), (.int .i64 (IntKind.wrap .i64 (n65 + 1)))] s77)
 (∃ m', m' < m63 ∧ I61 m' [(.bool b64), (.int .i64 (IntKind.wrap .i64 (n65 + 1)))] s69)) ∧
 (bsplit ((n65 : Int) != a1) (bsplit b64 (J67 [(.bool true)] s66) (IxQ (aindexAddr T Y_a17iVector (.ptr (some (l18, 0))) (.int .i64 n65)) fun l78 o79 => IxQ (aindexAddr T Y_Vector (.ptr (some (l78, o79))) (.int .i64 n59)) fun l80 o81 => RdI .u64 (rd1 s66 l80 o81) fun n82 => IxQ (aindexAddr T Y_Vector (.ptr (some (l22, 0))) (.int .i64 n59)) fun l83 o84 => RdI .u64 (rd1 s66 l83 o84) fun n85 => J67 [(.bool (decide ((n82 : Int) < n85)))] s66)) (J67 [(.bool false)] s66)))
 (∃ m', m' < m58 ∧ I56 m' [(.int .i64 (IntKind.wrap .i64 (n59 + 1)))] s66))
 (J24 [] s60)) (J24 [] s60))) ∧
 (LoopQ fun I86 m87 => I86 m87 [(.int .i64 0)] s19 ∧
 ∀ m88 : Nat, ∀ n89 : Int, ∀ s90 : AS, I86 m88 [(.int .i64 n89)] s90 →
 RdI .i64 (alenB T Y_s_minsterlaw14iAct a2 s90) fun n91 => bsplit (decide ((n89 : Int) < n91))
 (IxQ (aindexAddr T Y_s_minsterlaw14iAct a2 (.int .i64 n89)) fun l92 o93 => RdL (rdc s90 l92 o93 20) fun g94 => NewQ (.cells [.int .i64 0, .int .i64 0, .slc none 0 0 true, .slc none 0 0 true, .int .u64 0, .int .u64 0, .int .u64 0, .int .u64 0, .int .u64 0, .int .u64 0, .int .u64 0, .int .u64 0, .int .u64 0, .int .u64 0, .int .u64 0, .int .u64 0, .int .u64 0, .int .u64 0, .int .u64 0, .int .u64 0] 0 false) s90 fun l95 s96 => OkC (some 20) g94 (StQ (awr s96 l95 0 g94) fun s97 => JoinQ fun J98 =>
 (∀ b99 : Bool, ∀ s100 : AS, J98 [(.bool b99)] s100 →
 JoinQ fun J101 =>
 (∀ s102 : AS, J101 [] s102 →
 ACalls Try.prog F_stable_Matrix_Copy [(.ptr p9)] s102 fun v103 s104 => ∃ p105 : Option (Nat × Nat), v103 = .ptr p105 ∧ (LoopQ fun I106 m107 => I106 m107 [(.int .i64 0)] s104 ∧
 ∀ m108 : Nat, ∀ n109 : Int, ∀ s110 : AS, I106 m108 [(.int .i64 n109)] s110 →
 RdI .i64 (alenB T Y_s_Dot a3 s110) fun n111 => bsplit (decide ((n109 : Int) < n111))
 (IxQ (aindexAddr T Y_s_Dot a3 (.int .i64 n109)) fun l112 o113 => RdL (rdc s110 l112 o113 2) fun g114 => ACalls Try.prog F_ref04iMay [(.agg g114)] s110 fun v115 s116 => ∃ b117 : Bool, v115 = .bool b117 ∧ (JoinQ fun J118 =>
 (∀ b119 : Bool, ∀ s120 : AS, J118 [(.bool b119)] s120 →
 IxQ (aindexAddr T Y_s_Dot a3 (.int .i64 n109)) fun l121 o122 => RdL (rdc s120 l121 o122 2) fun g123 => ACalls Try.prog F_stable_Matrix_Stable [(.ptr p9), (.agg g123)] s120 fun v124 s125 => ∃ b126 : Bool, v124 = .bool b126 ∧ (bsplit (!((b126 : Bool) == b119))
 (R (.bool false) s125)
 (∃ m', m' < m108 ∧ I106 m' [(.int .i64 (IntKind.wrap .i64 (n109 + 1)))] s125))) ∧
 (LoopQ fun I127 m128 => I127 m128 [(.bool b117), (.int .i64 (-1))] s116 ∧
 ∀ m129 : Nat, ∀ b130 : Bool, ∀ n131 : Int, ∀ s132 : AS, I127 m129 [(.bool b130), (.int .i64 n131)] s132 →
 bsplit (decide ((n131 : Int) < 18))
 (JoinQ fun J133 =>
 (∀ b134 : Bool, ∀ s135 : AS, J133 [(.bool b134)] s135 →
 IxQ (aindexAddr T Y_s_Dot a3 (.int .i64 n109)) fun l136 o137 => RdL (rdc s135 l136 o137 2) fun g138 => ACalls Try.prog F_stable_Matrix_Gone [(.ptr p9), (.int .i64 n131), (.agg g138)] s135 fun v139 s140 => ∃ b141 : Bool, v139 = .bool b141 ∧ (bsplit (!((b141 : Bool) == b134)) (R (.bool false) s140) (IxQ (aindexAddr T Y_s_Dot a3 (.int .i64 n109)) fun l142 o143 => RdL (rdc s140 l142 o143 2) fun g144 => ACalls Try.prog F_stable_Matrix_Gone [(.ptr p105), (.int .i64 n131), (.agg g144)] s140 fun v145 s146 => ∃ b147 : Bool, v145 = .bool b147 ∧ (bsplit (!((b147 : Bool) == b134))
 (R (.bool false) s146)
 (JoinQ fun J148 =>
 (∀ b149 : Bool, ∀ s150 : AS, J148 [(.bool b149)] s150 →
 bsplit b149
 (bsplit b130 (∃ m', m' < m129 ∧ I127 m' [(.bool b134), (.int .i64 (IntKind.wrap .i64 (n131 + 1)))] s150) (∃ m', m' < m129 ∧ I127 m' [(.bool false), (.int .i64 (IntKind.wrap .i64 (n131 + 1)))] s150))
 (∃ m', m' < m129 ∧ I127 m' [(.bool b130), (.int .i64 (IntKind.wrap .i64 (n131 + 1)))] s150)) ∧
 (bsplit (decide ((n131 : Int) ≥ 1)) (bsplit (decide ((n131 : Int) ≤ a0)) (J148 [(.bool ((n131 : Int) != a1))] s146) (J148 [(.bool false)] s146)) (J148 [(.bool false)] s146))))))) ∧
 (bsplit (decide ((n131 : Int) ≥ 1)) (bsplit (decide ((n131 : Int) ≤ a0)) (bsplit ((n131 : Int) != a1) (RdA (aslice T Y_s_minsterlaw14iAct a2 none (some (.int .i64 (IntKind.wrap .i64 (n89 + 1)))) none) fun v151 => IxQ (aindexAddr T Y_s_Dot a3 (.int .i64 n109)) fun l152 o153 => RdL (rdc s132 l152 o153 2) fun g154 => ACalls Try.prog F_law14igone [v151, (.int .i64 n131), (.agg g154)] s132 fun v155 s156 => ∃ b157 : Bool, v155 = .bool b157 ∧ (J133 [(.bool b157)] s156)) (J133 [(.bool false)] s132)) (J133 [(.bool false)] s132)) (J133 [(.bool false)] s132)))
 (J118 [(.bool b130)] s132))))
 (∃ m', m' < m88 ∧ I86 m' [(.int .i64 (IntKind.wrap .i64 (n89 + 1)))] s110))) ∧
 (RdI .i64 (rd1 s100 l95 0) fun n158 => bsplit ((n158 : Int) == 1)
 (DrawQ fun S V => RdI .i64 (rd1 s100 l95 1) fun n159 => RdA (rd1 s100 l95 2) fun v160 => (∀ s161 : AS, Ext s100 s161 → WFs s161 → (True) → ACalls Try.prog F_law14iof [v160] s161 fun v162 s163 => ∃ p164 : Option (Nat × Nat), v162 = .ptr p164 ∧ ((Ext s161 s163 ∧ S 5 [(.func F_law14iof []), v160] (.ptr p164) s163 ∧ V 5 [(.func F_law14iof []), v160] (.ptr p164)))) ∧ (∃ v, V 5 [(.func F_law14iof []), v160] v) ∧ ∀ v165 : AV, V 5 [(.func F_law14iof []), v160] v165 → ∃ p166 : Option (Nat × Nat), v165 = .ptr p166 ∧ (RdA (rd1 s100 l95 3) fun v167 => ∀ s168 : AS, Ext s100 s168 → WFs s168 → (S 5 [(.func F_law14iof []), v160] (.ptr p166) s168 ∧ True) → ACalls Try.prog F_stable_Matrix_Know [(.ptr p9), (.int .i64 n159), (.ptr p166), v167] s168 fun v170 s171 => ∃ n172 : Int, v170 = .int .i64 n172 ∧ (JoinQ fun J173 =>
 (∀ b174 : Bool, ∀ s175 : AS, J173 [(.bool b174)] s175 →
 bsplit (!((b174 : Bool) == ((n172 : Int) == 0))) (R (.bool false) s175) (bsplit (!b174) (bsplit ((n172 : Int) != 2)
 (R (.bool false) s175)
 (J101 [] s175)) (J101 [] s175))) ∧
 (bsplit b99 (RdL (rdc s171 l95 0 20) fun g176 => ACalls Try.prog F_law14imay [(.agg g176)] s171 fun v177 s178 => ∃ b179 : Bool, v177 = .bool b179 ∧ (J173 [(.bool b179)] s178)) (J173 [(.bool false)] s171)))))
 (bsplit ((n158 : Int) == 2)
 (RdI .i64 (rd1 s100 l95 1) fun n180 => RdL (rdc s100 l95 4 16) fun g181 => ACalls Try.prog F_stable_Matrix_Have [(.ptr p9), (.int .i64 n180), (.agg g181)] s100 fun v182 s183 => ∃ n184 : Int, v182 = .int .i64 n184 ∧ (JoinQ fun J185 =>
 (∀ s186 : AS, J185 [] s186 →
 LoopQ fun I187 m188 => I187 m188 [(.int .i64 0)] s186 ∧
 ∀ m189 : Nat, ∀ n190 : Int, ∀ s191 : AS, I187 m189 [(.int .i64 n190)] s191 →
 bsplit (decide ((n190 : Int) < 16)) (bsplit b99
 (IxQ (aindexAddr T Y_Vector (.ptr (some (l95, 4))) (.int .i64 n190)) fun l192 o193 => RdI .u64 (rd1 s191 l192 o193) fun n194 => RdI .i64 (rd1 s191 l95 1) fun n195 => IxQ (aindexAddr T Y_a17iVector (.ptr (some (l18, 0))) (.int .i64 n195)) fun l196 o197 => IxQ (aindexAddr T Y_Vector (.ptr (some (l196, o197))) (.int .i64 n190)) fun l198 o199 => RdI .u64 (rd1 s191 l198 o199) fun n200 => bsplit (decide ((n194 : Int) > n200))
 (RdI .i64 (rd1 s191 l95 1) fun n201 => IxQ (aindexAddr T Y_Vector (.ptr (some (l95, 4))) (.int .i64 n190)) fun l202 o203 => RdI .u64 (rd1 s191 l202 o203) fun n204 => IxQ (aindexAddr T Y_a17iVector (.ptr (some (l18, 0))) (.int .i64 n201)) fun l205 o206 => IxQ (aindexAddr T Y_Vector (.ptr (some (l205, o206))) (.int .i64 n190)) fun l207 o208 => StQ (awr s191 l207 o208 [(.int .u64 n204)]) fun s209 => ∃ m', m' < m189 ∧ I187 m' [(.int .i64 (IntKind.wrap .i64 (n190 + 1)))] s209)
 (∃ m', m' < m189 ∧ I187 m' [(.int .i64 (IntKind.wrap .i64 (n190 + 1)))] s191))
 (J101 [] s191)) (J101 [] s191)) ∧
 (bsplit (!((b99 : Bool) == ((n184 : Int) == 0))) (R (.bool false) s183) (bsplit (!b99) (bsplit ((n184 : Int) != 2)
 (R (.bool false) s183)
 (J185 [] s183)) (J185 [] s183)))))
 (J101 [] s100)))) ∧
 (RdI .i64 (rd1 s97 l95 1) fun n210 => bsplit (decide ((n210 : Int) ≥ 1)) (RdI .i64 (rd1 s97 l95 1) fun n211 => bsplit (decide ((n211 : Int) ≤ a0)) (RdI .i64 (rd1 s97 l95 1) fun n212 => J98 [(.bool ((n212 : Int) != a1))] s97) (J98 [(.bool false)] s97)) (J98 [(.bool false)] s97))))
 (J20 [] s90))))) ∧
 (bsplit (decide ((a0 : Int) < 1)) (J11 [(.bool true)] s8) (bsplit (decide ((a0 : Int) > 16)) (J11 [(.bool true)] s8) (bsplit (decide ((a1 : Int) < 1)) (J11 [(.bool true)] s8) (J11 [(.bool (decide ((a1 : Int) > a0)))] s8))))))) ∧
 (ACalls Try.prog F_law14ifew [a2] s fun v213 s214 => ∃ b215 : Bool, v213 = .bool b215 ∧ (bsplit (!b215) (J1 [(.bool true)] s214) (RdI .i64 (alenB T Y_s_Dot a3 s214) fun n216 => J1 [(.bool (decide ((n216 : Int) > 40)))] s214)))

def A_law14iStablePlays : QA := (.seq .leaf (.seq (.join [(36, .bool)] [(29, 36)] .leaf (.cond (.seq .leaf .leaf) .leaf)) (.seq .leaf (.seq (.join [(58, .bool)] [(44, 58)] .leaf (.cond (.seq .leaf .leaf) .leaf)) (.seq (.seq .leaf (.cond (.seq .leaf .leaf) .leaf)) (.seq .leaf (.join [] [(8, 8), (12, 23), (70, 256)] (.seq .leaf (.wrap (.loop [(12, .int .i64)] [(8, 8), (12, 23), (70, 256)] (.seq (.seq .leaf (.cond .leaf .leaf)) (.seq (.wrap (.seq .leaf (.join [(14, .bool)] [(14, 14), (80, 94)] .leaf (.join [] [(8, 8), (15, 18), (95, 171)] (.seq .leaf (.wrap (.seq .leaf (.cond (.seq (.drawH 8 [[], [], [], [], [], [], [], []] [5]) (.join [(16, .bool)] [(16, 16), (108, 112)] .leaf (.seq .leaf (.cond (.seq .leaf .leaf) .leaf)))) (.seq .leaf (.cond (.seq .leaf (.join [] [(8, 8), (133, 144)] (.seq .leaf (.cond (.seq .leaf .leaf) .leaf)) (.seq .leaf (.wrap (.loop [(18, .int .i64)] [(18, 18), (145, 171)] (.seq (.seq .leaf (.cond .leaf .leaf)) (.seq (.wrap (.seq (.draw 10) (.cond (.draw 8) .leaf))) .leaf))))))) .leaf)))))) (.seq .leaf (.seq .leaf (.wrap (.loop [(20, .int .i64)] [(8, 8), (20, 23), (174, 256)] (.seq (.seq .leaf (.cond .leaf .leaf)) (.seq (.wrap (.seq .leaf (.join [(21, .bool)] [(8, 8), (21, 23), (185, 248)] (.seq .leaf (.wrap (.loop [(21, .bool), (22, .int .i64)] [(8, 8), (21, 23), (185, 248)] (.seq (.seq .leaf (.cond .leaf .leaf)) (.seq (.wrap (.join [(23, .bool)] [(23, 23), (189, 212)] (.draw 22) (.seq (.seq .leaf (.cond (.seq .leaf .leaf) .leaf)) (.join [(244, .bool)] [(233, 244)] .leaf (.cond .leaf .leaf))))) .leaf))))) (.seq .leaf (.cond (.seq .leaf .leaf) .leaf))))) .leaf)))))))))) .leaf))))) (.seq .leaf (.join [] [(25, 27), (257, 293)] (.seq .leaf (.wrap (.loop [(25, .int .i64)] [(25, 27), (257, 293)] (.seq (.seq .leaf (.cond .leaf .leaf)) (.seq (.wrap (.seq .leaf (.seq .leaf (.wrap (.loop [(26, .bool), (27, .int .i64)] [(26, 27), (265, 293)] (.seq (.seq .leaf (.cond .leaf .leaf)) (.seq (.wrap (.join [(286, .bool)] [(270, 286)] (.draw 14) (.cond (.seq .leaf .leaf) .leaf))) .leaf))))))) .leaf))))) (.seq (.seq (.drawH 3 [[], [], []] [1]) (.cond (.seq .leaf .leaf) .leaf)) (.seq (.seq .leaf (.wrap (.loop [(28, .int .i64)] [(8, 8), (28, 28), (298, 308)] (.seq (.seq .leaf (.cond .leaf .leaf)) (.seq (.wrap (.seq (.drawH 6 [[], [], [], [], [], []] [2]) (.cond (.seq .leaf .leaf) .leaf))) .leaf))))) (.seq .leaf .leaf))))))))))))

theorem q_law14iStablePlays (a0 : Int) (a1 : Int) (a2 : AV) (a3 : AV) (s : AS) (R : AV → AS → Prop) (h : Q_law14iStablePlays a0 a1 a2 a3 s R) : ACalls Try.prog F_law14iStablePlays [(.int .i64 a0), (.int .i64 a1), a2, a3] s R :=
  ACalls.q (n := 310) (rs := [.tmp 8]) (A := A_law14iStablePlays) hT hmx Try.func10 (by kernel_rfl) rfl rfl rfl (by kernel_rfl) (by kernel_rfl) h

/-- what minster/minsterlaw14.StableGrows asks -/
def Q_law14iStableGrows (a0 : Int) (a1 : AV) (a2 : AV) (a3 : AV) (s : AS) (R : AV → AS → Prop) : Prop :=
 JoinQ fun J1 =>
 (∀ b2 : Bool, ∀ s3 : AS, J1 [(.bool b2)] s3 →
 bsplit b2
 (ACalls Try.prog F_law14iknown [] s3 fun v4 s5 => ∃ b6 : Bool, v4 = .bool b6 ∧ (R (.bool b6) s5))
 (ACalls Try.prog F_stable_New [(.int .i64 a0), (.int .i64 1)] s3 fun v7 s8 => ∃ p9 : Option (Nat × Nat), ∃ n10 : Int, v7 = .tup [(.ptr p9), (.int .i64 n10)] ∧ (ACalls Try.prog F_stable_New [(.int .i64 a0), (.int .i64 1)] s8 fun v11 s12 => ∃ p13 : Option (Nat × Nat), ∃ n14 : Int, v11 = .tup [(.ptr p13), (.int .i64 n14)] ∧ (JoinQ fun J15 =>
 (∀ b16 : Bool, ∀ s17 : AS, J15 [(.bool b16)] s17 →
 bsplit b16
 (bsplit ((n10 : Int) == n14) (ACalls Try.prog F_law14iknown [] s17 fun v18 s19 => ∃ b20 : Bool, v18 = .bool b20 ∧ (R (.bool b20) s19)) (R (.bool false) s17))
 (JoinQ fun J21 =>
 (∀ s22 : AS, J21 [] s22 →
 JoinQ fun J23 =>
 (∀ s24 : AS, J23 [] s24 →
 JoinQ fun J25 =>
 (∀ s26 : AS, J25 [] s26 →
 JoinQ fun J27 =>
 (∀ s28 : AS, J27 [] s28 →
 ACalls Try.prog F_stable_Matrix_All [(.ptr p9)] s28 fun v29 s30 => ∃ g31 : List AV, v29 = .agg g31 ∧ (ACalls Try.prog F_stable_Matrix_All [(.ptr p13)] s30 fun v32 s33 => ∃ g34 : List AV, v32 = .agg g34 ∧ (RdO (aeq T 100 Y_Vector (.agg g31) (.agg g34)) fun b35 => bsplit b35 (ACalls Try.prog F_law14iknown [] s33 fun v36 s37 => ∃ b38 : Bool, v36 = .bool b38 ∧ (R (.bool b38) s37)) (R (.bool false) s33)))) ∧
 (LoopQ fun I39 m40 => I39 m40 [(.int .i64 0)] s26 ∧
 ∀ m41 : Nat, ∀ n42 : Int, ∀ s43 : AS, I39 m41 [(.int .i64 n42)] s43 →
 RdI .i64 (alenB T Y_s_Dot a3 s43) fun n44 => bsplit (decide ((n42 : Int) < n44))
 (LoopQ fun I45 m46 => I45 m46 [(.int .i64 1)] s43 ∧
 ∀ m47 : Nat, ∀ n48 : Int, ∀ s49 : AS, I45 m47 [(.int .i64 n48)] s49 →
 bsplit (decide ((n48 : Int) ≤ 16))
 (DrawQ fun S V => IxQ (aindexAddr T Y_s_Dot a3 (.int .i64 n42)) fun l50 o51 => RdL (rdc s49 l50 o51 2) fun g52 => (∀ s53 : AS, Ext s49 s53 → WFs s53 → (True) → ACalls Try.prog F_stable_Matrix_Gone [(.ptr p9), (.int .i64 n48), (.agg g52)] s53 fun v54 s55 => ∃ b56 : Bool, v54 = .bool b56 ∧ ((Ext s53 s55 ∧ S 6 [(.func F_stable_Matrix_Gone []), (.ptr p9), (.int .i64 n48), (.agg g52)] (.bool b56) s55 ∧ V 6 [(.func F_stable_Matrix_Gone []), (.ptr p9), (.int .i64 n48), (.agg g52)] (.bool b56)))) ∧ (∃ v, V 6 [(.func F_stable_Matrix_Gone []), (.ptr p9), (.int .i64 n48), (.agg g52)] v) ∧ ∀ v57 : AV, V 6 [(.func F_stable_Matrix_Gone []), (.ptr p9), (.int .i64 n48), (.agg g52)] v57 → ∃ b58 : Bool, v57 = .bool b58 ∧ (IxQ (aindexAddr T Y_s_Dot a3 (.int .i64 n42)) fun l59 o60 => RdL (rdc s49 l59 o60 2) fun g61 => ∀ s62 : AS, Ext s49 s62 → WFs s62 → (S 6 [(.func F_stable_Matrix_Gone []), (.ptr p9), (.int .i64 n48), (.agg g52)] (.bool b58) s62 ∧ True) → ACalls Try.prog F_stable_Matrix_Gone [(.ptr p13), (.int .i64 n48), (.agg g61)] s62 fun v64 s65 => ∃ b66 : Bool, v64 = .bool b66 ∧ (bsplit (!((b58 : Bool) == b66))
 (R (.bool false) s65)
 (∃ m', m' < m47 ∧ I45 m' [(.int .i64 (IntKind.wrap .i64 (n48 + 1)))] s65))))
 (∃ m', m' < m41 ∧ I39 m' [(.int .i64 (IntKind.wrap .i64 (n42 + 1)))] s49))
 (J27 [] s43))) ∧
 (RdI .i64 (alenB T Y_s_minsterlaw14iAct a1 s24) fun n67 => LoopQ fun I68 m69 => I68 m69 [(.int .i64 (IntKind.wrap .i64 (n67 - 1)))] s24 ∧
 ∀ m70 : Nat, ∀ n71 : Int, ∀ s72 : AS, I68 m70 [(.int .i64 n71)] s72 →
 bsplit (decide ((n71 : Int) ≥ 0))
 (IxQ (aindexAddr T Y_s_minsterlaw14iAct a1 (.int .i64 n71)) fun l73 o74 => RdL (rdc s72 l73 o74 20) fun g75 => ACalls Try.prog F_law14iStableGrows_1 [(.ptr p13), (.agg g75)] s72 fun v76 s77 => v76 = .tup [] ∧ (∃ m', m' < m70 ∧ I68 m' [(.int .i64 (IntKind.wrap .i64 (n71 - 1)))] s77))
 (J25 [] s72))) ∧
 (LoopQ fun I78 m79 => I78 m79 [(.int .i64 0)] s22 ∧
 ∀ m80 : Nat, ∀ n81 : Int, ∀ s82 : AS, I78 m80 [(.int .i64 n81)] s82 →
 RdI .i64 (alenB T Y_s_int a2 s82) fun n83 => bsplit (decide ((n81 : Int) < n83)) (RdI .i64 (alenB T Y_s_minsterlaw14iAct a1 s82) fun n84 => bsplit (decide ((n84 : Int) > 0))
 (IxQ (aindexAddr T Y_s_int a2 (.int .i64 n81)) fun l85 o86 => RdI .i64 (rd1 s82 l85 o86) fun n87 => RdI .i64 (alenB T Y_s_minsterlaw14iAct a1 s82) fun n88 => NZ n88 (RdI .i64 (alenB T Y_s_minsterlaw14iAct a1 s82) fun n89 => RdI .i64 (alenB T Y_s_minsterlaw14iAct a1 s82) fun n90 => NZ n90 (IxQ (aindexAddr T Y_s_minsterlaw14iAct a1 (.int .i64 (Int.tmod (IntKind.wrap .i64 ((Int.tmod n87 n88) + n89)) n90))) fun l91 o92 => RdL (rdc s82 l91 o92 20) fun g93 => ACalls Try.prog F_law14iStableGrows_1 [(.ptr p13), (.agg g93)] s82 fun v94 s95 => v94 = .tup [] ∧ (∃ m', m' < m80 ∧ I78 m' [(.int .i64 (IntKind.wrap .i64 (n81 + 1)))] s95))))
 (J23 [] s82)) (J23 [] s82))) ∧
 (LoopQ fun I96 m97 => I96 m97 [(.int .i64 0)] s17 ∧
 ∀ m98 : Nat, ∀ n99 : Int, ∀ s100 : AS, I96 m98 [(.int .i64 n99)] s100 →
 RdI .i64 (alenB T Y_s_minsterlaw14iAct a1 s100) fun n101 => bsplit (decide ((n99 : Int) < n101))
 (ACalls Try.prog F_stable_Matrix_Copy [(.ptr p9)] s100 fun v102 s103 => ∃ p104 : Option (Nat × Nat), v102 = .ptr p104 ∧ (IxQ (aindexAddr T Y_s_minsterlaw14iAct a1 (.int .i64 n99)) fun l105 o106 => RdL (rdc s103 l105 o106 20) fun g107 => ACalls Try.prog F_law14iStableGrows_1 [(.ptr p9), (.agg g107)] s103 fun v108 s109 => v108 = .tup [] ∧ (JoinQ fun J110 =>
 (∀ s111 : AS, J110 [] s111 →
 LoopQ fun I112 m113 => I112 m113 [(.int .i64 1)] s111 ∧
 ∀ m114 : Nat, ∀ n115 : Int, ∀ s116 : AS, I112 m114 [(.int .i64 n115)] s116 →
 bsplit (decide ((n115 : Int) ≤ 16))
 (ACalls Try.prog F_stable_Matrix_Of [(.ptr p104), (.int .i64 n115)] s116 fun v117 s118 => ∃ g119 : List AV, v117 = .agg g119 ∧ (ACalls Try.prog F_stable_Matrix_Of [(.ptr p9), (.int .i64 n115)] s118 fun v120 s121 => ∃ g122 : List AV, v120 = .agg g122 ∧ (NewQ (.cells [.int .u64 0, .int .u64 0, .int .u64 0, .int .u64 0, .int .u64 0, .int .u64 0, .int .u64 0, .int .u64 0, .int .u64 0, .int .u64 0, .int .u64 0, .int .u64 0, .int .u64 0, .int .u64 0, .int .u64 0, .int .u64 0] 0 false) s121 fun l123 s124 => NewQ (.cells [.int .u64 0, .int .u64 0, .int .u64 0, .int .u64 0, .int .u64 0, .int .u64 0, .int .u64 0, .int .u64 0, .int .u64 0, .int .u64 0, .int .u64 0, .int .u64 0, .int .u64 0, .int .u64 0, .int .u64 0, .int .u64 0] 0 false) s124 fun l125 s126 => OkC (some 16) g119 (StQ (awr s126 l123 0 g119) fun s127 => OkC (some 16) g122 (StQ (awr s127 l125 0 g122) fun s128 => LoopQ fun I129 m130 => I129 m130 [(.int .i64 0)] s128 ∧
 ∀ m131 : Nat, ∀ n132 : Int, ∀ s133 : AS, I129 m131 [(.int .i64 n132)] s133 →
 bsplit (decide ((n132 : Int) < 16))
 (IxQ (aindexAddr T Y_Vector (.ptr (some (l123, 0))) (.int .i64 n132)) fun l134 o135 => RdI .u64 (rd1 s133 l134 o135) fun n136 => IxQ (aindexAddr T Y_Vector (.ptr (some (l125, 0))) (.int .i64 n132)) fun l137 o138 => RdI .u64 (rd1 s133 l137 o138) fun n139 => bsplit (decide ((n136 : Int) > n139))
 (R (.bool false) s133)
 (∃ m', m' < m131 ∧ I129 m' [(.int .i64 (IntKind.wrap .i64 (n132 + 1)))] s133))
 (∃ m', m' < m114 ∧ I112 m' [(.int .i64 (IntKind.wrap .i64 (n115 + 1)))] s133))))))
 (∃ m', m' < m98 ∧ I96 m' [(.int .i64 (IntKind.wrap .i64 (n99 + 1)))] s116)) ∧
 (LoopQ fun I140 m141 => I140 m141 [(.int .i64 0)] s109 ∧
 ∀ m142 : Nat, ∀ n143 : Int, ∀ s144 : AS, I140 m142 [(.int .i64 n143)] s144 →
 RdI .i64 (alenB T Y_s_Dot a3 s144) fun n145 => bsplit (decide ((n143 : Int) < n145))
 (IxQ (aindexAddr T Y_s_Dot a3 (.int .i64 n143)) fun l146 o147 => RdL (rdc s144 l146 o147 2) fun g148 => ACalls Try.prog F_stable_Matrix_Stable [(.ptr p104), (.agg g148)] s144 fun v149 s150 => ∃ b151 : Bool, v149 = .bool b151 ∧ (bsplit b151 (IxQ (aindexAddr T Y_s_Dot a3 (.int .i64 n143)) fun l152 o153 => RdL (rdc s150 l152 o153 2) fun g154 => ACalls Try.prog F_stable_Matrix_Stable [(.ptr p9), (.agg g154)] s150 fun v155 s156 => ∃ b157 : Bool, v155 = .bool b157 ∧ (bsplit (!b157)
 (R (.bool false) s156)
 (∃ m', m' < m142 ∧ I140 m' [(.int .i64 (IntKind.wrap .i64 (n143 + 1)))] s156))) (∃ m', m' < m142 ∧ I140 m' [(.int .i64 (IntKind.wrap .i64 (n143 + 1)))] s150)))
 (J110 [] s144)))))
 (J21 [] s100)))) ∧
 (bsplit ((n10 : Int) != 0) (J15 [(.bool true)] s12) (J15 [(.bool ((n14 : Int) != 0))] s12)))))) ∧
 (ACalls Try.prog F_law14ifew [a1] s fun v158 s159 => ∃ b160 : Bool, v158 = .bool b160 ∧ (bsplit (!b160) (J1 [(.bool true)] s159) (RdI .i64 (alenB T Y_s_int a2 s159) fun n161 => bsplit (decide ((n161 : Int) > 80)) (J1 [(.bool true)] s159) (RdI .i64 (alenB T Y_s_Dot a3 s159) fun n162 => J1 [(.bool (decide ((n162 : Int) > 40)))] s159))))

def A_law14iStableGrows : QA := (.seq .leaf (.seq (.join [(37, .bool)] [(25, 37)] .leaf (.cond (.seq .leaf .leaf) .leaf)) (.seq .leaf (.seq .leaf (.seq (.join [(54, .bool)] [(49, 54)] .leaf (.cond (.seq .leaf .leaf) .leaf)) (.seq .leaf (.join [] [(8, 8), (14, 20), (61, 117)] (.seq .leaf (.wrap (.loop [(14, .int .i64)] [(8, 8), (14, 20), (61, 117)] (.seq (.seq .leaf (.cond .leaf .leaf)) (.seq (.wrap (.seq .leaf (.seq .leaf (.join [] [(8, 8), (16, 16), (76, 96)] (.seq .leaf (.wrap (.loop [(16, .int .i64)] [(8, 8), (16, 16), (76, 96)] (.seq (.seq .leaf (.cond .leaf .leaf)) (.seq (.wrap (.seq .leaf (.cond (.seq .leaf .leaf) .leaf))) .leaf))))) (.seq .leaf (.wrap (.loop [(17, .int .i64)] [(8, 8), (17, 20), (97, 117)] (.seq (.seq .leaf (.cond .leaf .leaf)) (.seq (.wrap (.seq .leaf (.seq .leaf (.wrap (.loop [(20, .int .i64)] [(8, 8), (20, 20), (107, 117)] (.seq (.seq .leaf (.cond .leaf .leaf)) (.seq (.wrap (.seq (.draw 6) (.cond (.seq .leaf .leaf) .leaf))) .leaf))))))) .leaf))))))))) .leaf))))) (.join [] [(21, 21), (118, 147)] (.seq .leaf (.wrap (.loop [(21, .int .i64)] [(21, 21), (118, 147)] (.seq (.seq .leaf (.cond .leaf .leaf)) (.seq (.wrap .leaf) .leaf))))) (.join [] [(22, 22), (148, 161)] (.seq .leaf (.wrap (.loop [(22, .int .i64)] [(22, 22), (151, 161)] (.seq (.seq .leaf (.cond .leaf .leaf)) (.seq (.wrap .leaf) .leaf))))) (.join [] [(8, 8), (23, 24), (162, 186)] (.seq .leaf (.wrap (.loop [(23, .int .i64)] [(8, 8), (23, 24), (162, 186)] (.seq (.seq .leaf (.cond .leaf .leaf)) (.seq (.wrap (.seq .leaf (.wrap (.loop [(24, .int .i64)] [(8, 8), (24, 24), (168, 186)] (.seq (.seq .leaf (.cond .leaf .leaf)) (.seq (.wrap (.seq (.drawH 13 [[], [], [], [], [], [], [], [], [], [], [], [], []] [6]) (.cond (.seq .leaf .leaf) .leaf))) .leaf)))))) .leaf))))) (.seq .leaf .leaf)))))))))))

theorem q_law14iStableGrows (a0 : Int) (a1 : AV) (a2 : AV) (a3 : AV) (s : AS) (R : AV → AS → Prop) (h : Q_law14iStableGrows a0 a1 a2 a3 s R) : ACalls Try.prog F_law14iStableGrows [(.int .i64 a0), a1, a2, a3] s R :=
  ACalls.q (n := 195) (rs := [.tmp 8]) (A := A_law14iStableGrows) hT hmx Try.func11 (by kernel_rfl) rfl rfl rfl (by kernel_rfl) (by kernel_rfl) h

end Go.Proofs.Ytbfchlimonimkaa
end
