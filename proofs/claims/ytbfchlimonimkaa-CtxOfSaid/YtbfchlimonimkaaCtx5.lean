/-
  Contracts: the reference's sets of dots that are looked at; are both the same; the next count.
-/
import Derived.Test.YtbfchlimonimkaaCtx4
set_option linter.unusedSimpArgs false
set_option linter.unusedVariables false
namespace Go.Proofs.Ytbfchlimonimkaa
open Go.Am Go.Minster

/-- the reference's set in memory -/
structure RefAt (s : AS) (p : Nat) (v : List Int) (ex : List Dot) : Prop where
  len : v.length = 16
  mem : ∃ w, Own s p (v.map (.int .u64) ++ [w]) ∧ w.one = true ∧ w ≠ .emp ∧ Dots s w ex
theorem RefAt.ext {s s' : AS} {p : Nat} {v : List Int} {ex : List Dot} (h : RefAt s p v ex) (e : Ext s s') : RefAt s' p v ex := by
  obtain ⟨h1, w, h2, h3, h5, h4⟩ := h
  exact ⟨h1, w, h2.ext e, h3, h5, h4.ext e⟩
theorem ref_at {v : List Int} (h : v.length = 16) (w : AV) {i : Nat} (hi : i < 16) : (v.map (AV.int .u64) ++ [w])[i]? = some (.int .u64 (v.getD i 0)) := by
  rw [List.getElem?_append_left (by simp [h]; omega), List.getElem?_map, List.getElem?_eq_getElem (by omega), List.getD_eq_getElem?_getD, List.getElem?_eq_getElem (by omega)]; rfl
theorem ref_16 {v : List Int} (h : v.length = 16) (w : AV) : (v.map (AV.int .u64) ++ [w])[16]? = some w := by
  rw [List.getElem?_append_right (by simp [h])]; simp [h]

theorem get_lt {α : Type} {l : List α} {i : Nat} (h : i < l.length) : ∃ x, l[i]? = some x := ⟨_, List.getElem?_eq_getElem h⟩

theorem ref_Has_ok {s : AS} {p : Nat} {v : List Int} {ex : List Dot} (h : RefAt s p v ex) (hn : ex.length ≤ 2 ^ 30) (d : Dot) : ACalls Try.prog F_ref04iSet_Has [.ptr (some (p, 0)), .agg (dotC d)] s fun r s' => r = .bool (hasD v ex d) ∧ Ext s s' := by
  refine ACalls.pre fun hw => q_ref04iSet_Has _ _ _ _ ⟨rfl, NewQ.intro hw rfl fun l s1 F => ?_⟩
  refine ⟨_, F.own.at.rdc (by simp [dotC]), ?_⟩
  refine (ref04iMay_ok d _).mono ?_
  rintro r s3 ⟨rfl, e3⟩
  have e := F.ext.trans e3
  refine ⟨_, rfl, bsplit.mk (fun hm => ?_) (fun hm => ?_)⟩
  · simp only [Bool.not_eq_true'] at hm
    exact ⟨by simp [hasD, hm], e⟩
  · simp only [Bool.not_eq_false'] at hm
    obtain ⟨h1, w, h2, h3, h5, h4⟩ := h
    refine ⟨fun vs s' => Ext s3 s' ∧ d ∉ ex, ?_, fun m vs s' => ∃ i : Nat, vs = [.int .i64 (i : Nat)] ∧ i ≤ ex.length ∧ m = ex.length - i ∧ Ext s3 s' ∧ ∀ (k : Nat), k < i → ex[k]? ≠ some d, ex.length, ⟨0, rfl, by omega, rfl, Ext.refl _, by omega⟩, ?_⟩
    · rintro s8 ⟨e8, hd⟩
      have hm' := Dot.may_iff.1 hm
      have hat := (F.own.ext (e3.trans e8)).at
      have hc := (h2.ext (e.trans e8)).at
      refine ⟨_, by rw [hat.rd1]; rfl, _, by rw [hat.rd1]; rfl, ?_⟩
      dsimp only
      rw [wrap_i' (by omega)]
      refine ⟨_, _, vix' (by omega), _, by rw [hc.rd1, Nat.zero_add, Nat.mul_one]; exact ref_at h1 w (by omega), ?_, e.trans e8⟩
      simp [hasD, hm, hd]
    · rintro m n s20 ⟨i, hi, h6, rfl, e20, h7⟩
      simp only [List.cons.injEq, AV.int.injEq, true_and, and_true] at hi
      subst hi
      have hc := (h2.ext (e.trans e20)).at
      have hw16 : rd1 s20 p (0 + 16) = some w := by rw [hc.rd1]; exact ref_16 h1 w
      refine ⟨w, hw16, _, h4.lenB u_s_Dot _, bsplit.dec (fun hlt => ?_) (fun hge => ?_)⟩
      · obtain ⟨x, hx⟩ := get_lt (l := ex) (i := i) (by omega)
        obtain ⟨la', o, h8, h9⟩ := (h4.ext (e.trans e20)).ix (by decide) dotC_len u_s_Dot z_Dot hx
        refine ⟨w, hw16, la', o, h8 _, _, (h9 _ (Ext.refl _)).2, _, (F.own.ext (e3.trans e20)).at.rdc (by simp [dotC]), _, dot_eq x d, bsplit.dec (fun hq => ?_) (fun hq => ?_)⟩
        · refine ⟨?_, e.trans e20⟩
          subst hq
          simp [hasD, hm, List.mem_of_getElem? hx]
        · refine ⟨ex.length - (i + 1), by omega, i + 1, by rw [wrap_i (by omega)]; rfl, by omega, rfl, e20, fun k hk hk' => ?_⟩
          rcases Nat.lt_or_ge k i with h | h
          · exact h7 k h hk'
          · obtain rfl : k = i := by omega
            rw [hx] at hk'; exact hq (Option.some.inj hk')
      · refine ⟨e20, fun hd => ?_⟩
        obtain ⟨k, hk⟩ := List.mem_iff_getElem?.1 hd
        have : k < ex.length := by
          rcases Nat.lt_or_ge k ex.length with h' | h'
          · exact h'
          · rw [List.getElem?_eq_none h'] at hk; cases hk
        exact h7 k (by omega) hk

theorem SameDots_ok {s : AS} {v v' : AV} {l l' : List Dot} (h : Dots s v l) (h' : Dots s v' l') (hn : l.length ≤ 2 ^ 40) : ACalls Try.prog F_ref04iSameDots [v, v'] s fun r s' => r = .bool (decide (l = l')) ∧ s' = s := by
  refine q_ref04iSameDots _ _ _ _ ⟨_, h.lenB u_s_Dot _, _, h'.lenB u_s_Dot _, bsplit.mk (fun hq => ?_) (fun hq => ?_)⟩
  · refine ⟨?_, rfl⟩
    have hq' : ¬ (l.length : Int) = (l'.length : Int) := by simpa using hq
    have : l.length ≠ l'.length := by omega
    have : l ≠ l' := fun e => this (by rw [e])
    simp [this]
  · have hlen : l.length = l'.length := by
      have : (l.length : Int) = (l'.length : Int) := by simpa using hq
      omega
    refine ⟨fun m vs s' => ∃ i : Nat, vs = [.int .i64 (i : Nat)] ∧ i ≤ l.length ∧ m = l.length - i ∧ s' = s ∧ l.take i = l'.take i, l.length, ⟨0, rfl, by omega, rfl, rfl, by simp⟩, ?_⟩
    rintro m n s20 ⟨i, hi, h6, rfl, rfl, h7⟩
    simp only [List.cons.injEq, AV.int.injEq, true_and, and_true] at hi
    subst hi
    refine ⟨_, h.lenB u_s_Dot _, bsplit.dec (fun hlt => ?_) (fun hge => ?_)⟩
    · obtain ⟨x, hx⟩ := get_lt (l := l) (i := i) (by omega)
      obtain ⟨y, hy⟩ := get_lt (l := l') (i := i) (by omega)
      obtain ⟨la, o, h8, h9⟩ := h.ix (by decide) dotC_len u_s_Dot z_Dot hx
      obtain ⟨la', o', h8', h9'⟩ := h'.ix (by decide) dotC_len u_s_Dot z_Dot hy
      refine ⟨la, o, h8 _, _, (h9 _ (Ext.refl _)).2, la', o', h8' _, _, (h9' _ (Ext.refl _)).2, _, dot_eq x y, bsplit.mk (fun hq => ?_) (fun hq => ?_)⟩
      · refine ⟨?_, rfl⟩
        have hne : x ≠ y := by simpa using hq
        have : l ≠ l' := fun e => hne (by subst e; rw [hx] at hy; exact Option.some.inj hy)
        simp [this]
      · have he : x = y := by simpa using hq
        subst he
        refine ⟨l.length - (i + 1), by omega, i + 1, by rw [wrap_i (by omega)]; rfl, by omega, rfl, rfl, ?_⟩
        rw [List.take_add_one, List.take_add_one, h7, hx, hy]
    · refine ⟨?_, rfl⟩
      rw [List.take_of_length_le (by omega), List.take_of_length_le (by omega)] at h7
      simp [h7]

theorem same_ok {s : AS} {p q : Nat} {v v' : List Int} {ex ex' : List Dot} (h : CtxAt s p v ex) (h' : RefAt s q v' ex') (hn : ex.length ≤ 2 ^ 30) : ACalls Try.prog F_law04isame [.ptr (some (p, 0)), .ptr (some (q, 0))] s fun r s' => r = .bool (decide (v = v') && decide (ex = ex')) ∧ Ext s s' := by
  obtain ⟨h1', w', h2', h3', h5', h4'⟩ := h'
  have hq16 : ∀ s', Ext s s' → rd1 s' q (0 + 16) = some w' := fun s' e => by rw [(h2'.ext e).at.rd1]; exact ref_16 h1' w'
  refine q_law04isame _ _ _ _ ⟨fun i _ r s' => i = 13 → Dots s' r ex, fun i _ r => i = 4 → r = .agg (v.map (.int .u64)), ?_, ?_⟩
  · exact fun i k r s s' e hs hi => (hs hi).ext e
  · refine ⟨_, aeqPtrNil u_p_ctx_Ctx _, bsplit.yes rfl ⟨fun s2 e2 _ _ => ?_, ⟨_, fun _ => rfl⟩, ?_⟩⟩
    · refine (ctx_Vector_ok (h.ext e2)).mono ?_
      rintro r s4 ⟨rfl, e4⟩
      exact ⟨_, rfl, e4, (fun h => by cases h), (fun _ => rfl)⟩
    · intro r hr
      obtain rfl := hr rfl
      refine ⟨_, rfl, _, h2'.at.rdc (by simp [h1']), ?_⟩
      have ht : List.take 16 (List.drop 0 (v'.map (AV.int .u64) ++ [w'])) = v'.map (AV.int .u64) := by
        rw [List.drop_zero, List.take_append_of_le_length (by simp [h1']), List.take_of_length_le (by simp [h1'])]
      rw [ht]
      refine ⟨_, vec_eq h.len h1', bsplit.dec (fun hv => ?_) (fun hv => ?_)⟩
      · refine ⟨fun s12 e12 _ _ => ?_, ⟨.undef, (fun h => by cases h)⟩, fun r _ => ⟨w', hq16 _ (Ext.refl _), fun s19 e19 _ hS => ?_⟩⟩
        · refine (ctx_Extra_ok (h.ext e12) hn).mono fun r s' g => ⟨g.chg.ext, (fun _ => g.sl dotC_len), (fun h => by cases h)⟩
        · have hd := hS.2.1 rfl
          refine (SameDots_ok hd (h4'.ext e19) (by omega)).mono ?_
          rintro r s' ⟨rfl, rfl⟩
          refine ⟨_, rfl, ?_, e19⟩
          simp [hv]
      · intro s24 e24 _ _
        refine ⟨?_, e24⟩
        simp [hv]

/-- the greatest count of a region -/
def top (v : List Int) (ex : List Dot) (r : Int) : Int := ex.foldl (fun n d => if d.r = r then (if d.c > n then d.c else n) else n) (v.getD (r - 1).toNat 0)
theorem amax2 (a b : Int) : amax true [.int .u64 a, .int .u64 b] = some (.int .u64 (if b > a then b else a)) := rfl

theorem ref_Next_ok {s : AS} {p : Nat} {v : List Int} {ex : List Dot} (h : RefAt s p v ex) (hn : ex.length ≤ 2 ^ 30) {r : Int} (hr : 1 ≤ r ∧ r ≤ 16) : ACalls Try.prog F_ref04iSet_Next [.ptr (some (p, 0)), .int .i64 r] s fun x s' => x = .int .u64 (top v ex r) ∧ s' = s := by
  obtain ⟨h1, w, h2, h3, h5, h4⟩ := h
  have hc := h2.at
  have hw16 : rd1 s p (0 + 16) = some w := by rw [hc.rd1]; exact ref_16 h1 w
  refine q_ref04iSet_Next _ _ _ _ ?_
  unfold Q_ref04iSet_Next
  rw [wrap_i' (by omega)]
  refine ⟨_, _, vix' (by omega), _, by rw [hc.rd1, Nat.zero_add, Nat.mul_one]; exact ref_at h1 w (by omega), fun m vs s' => ∃ i : Nat, vs = [.int .u64 ((ex.take i).foldl (fun n d => if d.r = r then (if d.c > n then d.c else n) else n) (v.getD (r - 1).toNat 0)), .int .i64 (i : Nat)] ∧ i ≤ ex.length ∧ m = ex.length - i ∧ s' = s, ex.length, ⟨0, rfl, by omega, rfl, rfl⟩, ?_⟩
  rintro m n9 n10 s20 ⟨i, hi, h6, rfl, rfl⟩
  simp only [List.cons.injEq, AV.int.injEq, true_and, and_true] at hi
  obtain ⟨rfl, rfl⟩ := hi
  refine ⟨w, hw16, _, h4.lenB u_s_Dot _, bsplit.dec (fun hlt => ?_) (fun hge => ?_)⟩
  · obtain ⟨x, hx⟩ := get_lt (l := ex) (i := i) (by omega)
    obtain ⟨la, o, h8, h9⟩ := h4.ix (by decide) dotC_len u_s_Dot z_Dot hx
    have g0 : rd1 s20 la o = some (.int .i64 x.r) := (h9 _ (Ext.refl _)).1 0 (by decide)
    have g1 : rd1 s20 la (o + 1) = some (.int .u64 x.c) := (h9 _ (Ext.refl _)).1 1 (by decide)
    have ht : ex.take (i + 1) = ex.take i ++ [x] := by rw [List.take_add_one, hx]; rfl
    have step : ∀ y, y = (ex.take (i + 1)).foldl (fun n d => if d.r = r then (if d.c > n then d.c else n) else n) (v.getD (r - 1).toNat 0) → ∃ m', m' < ex.length - i ∧ ∃ j : Nat, [AV.int .u64 y, .int .i64 (IntKind.wrap .i64 ((i : Int) + 1))] = [.int .u64 ((ex.take j).foldl (fun n d => if d.r = r then (if d.c > n then d.c else n) else n) (v.getD (r - 1).toNat 0)), .int .i64 (j : Nat)] ∧ j ≤ ex.length ∧ m' = ex.length - j ∧ s20 = s20 := by
      rintro y rfl
      exact ⟨ex.length - (i + 1), by omega, i + 1, by rw [wrap_i (by omega)]; rfl, by omega, rfl, rfl⟩
    refine ⟨fun vs s' => vs = [.bool (decide (x.r = r) && decide (x.c > (ex.take i).foldl (fun n d => if d.r = r then (if d.c > n then d.c else n) else n) (v.getD (r - 1).toNat 0)))] ∧ s' = s20, ?_, w, hw16, la, o, h8 _, _, g0, bsplit.mk (fun hq => ?_) (fun hq => ?_)⟩
    · rintro b s18 ⟨hb, rfl⟩
      simp only [List.cons.injEq, AV.bool.injEq, and_true] at hb
      subst hb
      refine bsplit.mk (fun hb => ⟨w, hw16, la, o, h8 _, _, g1, step _ ?_⟩) (fun hb => step _ ?_)
      · simp only [Bool.and_eq_true, decide_eq_true_eq] at hb
        rw [ht, List.foldl_append, List.foldl_cons, List.foldl_nil]
        rw [if_pos hb.1, if_pos hb.2]
      · rw [ht, List.foldl_append, List.foldl_cons, List.foldl_nil]
        simp only [Bool.and_eq_false_iff, decide_eq_false_iff_not] at hb
        rcases hb with hb | hb
        · rw [if_neg hb]
        · rw [if_neg hb]; split <;> rfl
    · refine ⟨w, hw16, la, o, h8 _, _, g1, ?_, rfl⟩
      have : x.r = r := by simpa using hq
      simp [this]
    · refine ⟨?_, rfl⟩
      have : ¬ x.r = r := by simpa using hq
      simp [this]
  · refine ⟨?_, rfl⟩
    rw [List.take_of_length_le (by omega)]; rfl
end Go.Proofs.Ytbfchlimonimkaa
