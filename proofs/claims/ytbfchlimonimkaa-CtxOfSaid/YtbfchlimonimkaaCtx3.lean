/-
  Contracts: contexts that are looked at.
-/
import Derived.Test.YtbfchlimonimkaaCtx2
set_option linter.unusedSimpArgs false
set_option linter.unusedVariables false
namespace Go.Proofs.Ytbfchlimonimkaa
open Go.Am Go.Minster

theorem bsearch_ok {s : AS} {v : AV} {l : List Dot} (hl : Dots s v l) (hlen : l.length ≤ 2 ^ 40) (hr : Rising l) (d : Dot) : ACalls Try.prog F_slices_BinarySearchFunc__s_Dot_Dot_Dot [v, .agg (dotC d), .func F_ctx_order []] s
    fun r s' => r = .tup [.int .i64 (pos l d : Nat), .bool (decide (d ∈ l))] ∧ Ext s s' := by
  refine ACalls.pre fun hw => q_slices_BinarySearchFunc__s_Dot_Dot_Dot _ _ _ _ _ ⟨rfl, NewQ.intro hw rfl fun la s2 F => ?_⟩
  refine ⟨_, hl.lenB u_s_Dot s2, fun vs s' => ∃ i : Nat, vs = [.int .i64 (i : Nat)] ∧ i ≤ l.length ∧ Ext s2 s' ∧ (∀ (k : Nat) x, k < i → l[k]? = some x → x.lt d = true) ∧ (∀ (k : Nat) x, i ≤ k → l[k]? = some x → x.lt d = false), ?_, ?_⟩
  · rintro n5 s6 ⟨i, hi, hil, he, h1, h2⟩
    simp only [List.cons.injEq, AV.int.injEq, true_and, and_true] at hi
    subst hi
    have hp : pos l d = i := pos_eq hil h1 fun x hx => h2 i x (Nat.le_refl _) hx
    have hmem := hr.mem d
    rw [hp] at hmem ⊢
    refine ⟨fun _ _ _ _ => True, fun _ _ v => ∃ x, l[i]? = some x ∧ v = .int .i64 (x.cmp d), fun _ _ _ _ _ _ _ => trivial, bsplit.dec (fun hlt => ?_) (fun hge => ?_)⟩
    · have hil' : i < l.length := by omega
      have hx : l[i]? = some l[i] := List.getElem?_eq_getElem hil'
      obtain ⟨la', o, h5, h6⟩ := (hl.ext (F.ext.trans he)).ix (by decide) dotC_len u_s_Dot z_Dot hx
      refine ⟨la', o, h5 _, _, (h6 _ (Ext.refl _)).2, _, (F.own.ext he).at.rdc (by simp [dotC]), fun s11 e11 _ _ => ?_, ⟨_, _, hx, rfl⟩, ?_⟩
      · refine (ctx_order_ok _ _ _).mono ?_
        rintro v s' ⟨rfl, e⟩
        exact ⟨_, rfl, e, trivial, _, hx, rfl⟩
      · rintro v ⟨x, hx', rfl⟩
        rw [hx] at hx'; obtain rfl := Option.some.inj hx'
        refine ⟨_, rfl, fun s17 e17 _ _ => ⟨?_, F.ext.trans (he.trans e17)⟩⟩
        congr 4
        rw [Bool.eq_iff_iff, beq_iff_eq, decide_eq_true_eq, Dot.cmp_eq, ← hmem, hx]
        simp
    · have : l[i]? = none := List.getElem?_eq_none (by omega)
      rw [this] at hmem
      have hn : ¬ d ∈ l := by rw [← hmem]; simp
      intro s19 e19 _ _
      refine ⟨?_, F.ext.trans (he.trans e19)⟩
      simp [hn]
  · refine ⟨fun m vs s' => ∃ i j : Nat, vs = [.int .i64 (i : Nat), .int .i64 (j : Nat)] ∧ i ≤ j ∧ j ≤ l.length ∧ m = j - i ∧ Ext s2 s' ∧ (∀ (k : Nat) x, k < i → l[k]? = some x → x.lt d = true) ∧ (∀ (k : Nat) x, j ≤ k → l[k]? = some x → x.lt d = false), l.length, ?_, ?_⟩
    · refine ⟨0, l.length, rfl, by omega, by omega, rfl, Ext.refl _, fun k x hk => by omega, fun k x hk hx => ?_⟩
      rw [List.getElem?_eq_none hk] at hx; cases hx
    · rintro m n24 n25 s26 ⟨i, j, hij, h1, h2, rfl, he, h3, h4⟩
      simp only [List.cons.injEq, AV.int.injEq, true_and, and_true] at hij
      obtain ⟨rfl, rfl⟩ := hij
      refine bsplit.dec (fun hlt => ?_) (fun hge => ?_)
      · rw [wrap_half (by omega)]
        have hm1 : (i + j) / 2 < j := by omega
        have hm2 : i ≤ (i + j) / 2 := by omega
        generalize hmid : (i + j) / 2 = mid at hm1 hm2
        have hx : l[mid]? = some l[mid] := List.getElem?_eq_getElem (by omega)
        obtain ⟨la', o, h5, h6⟩ := (hl.ext (F.ext.trans he)).ix (by decide) dotC_len u_s_Dot z_Dot hx
        refine ⟨by decide, la', o, h5 _, _, (h6 _ (Ext.refl _)).2, _, (F.own.ext he).at.rdc (by simp [dotC]), ?_⟩
        refine (ctx_order_ok _ _ _).mono ?_
        rintro v s' ⟨rfl, e⟩
        refine ⟨_, rfl, bsplit.dec (fun hc => ?_) (fun hc => ?_)⟩
        · rw [Dot.cmp_lt] at hc
          refine ⟨j - (mid + 1), by omega, mid + 1, j, by rw [wrap_i (by omega)]; rfl, by omega, h2, rfl, he.trans e, fun k x hk hx' => ?_, h4⟩
          rcases Nat.lt_or_ge k mid with hk' | hk'
          · exact Dot.lt_trans (hr.lt hk' hx' hx) hc
          · obtain rfl : k = mid := by omega
            rw [hx] at hx'; obtain rfl := Option.some.inj hx'; exact hc
        · rw [Dot.cmp_lt] at hc
          refine ⟨mid - i, by omega, i, mid, rfl, by omega, by omega, rfl, he.trans e, h3, fun k x hk hx' => ?_⟩
          cases hq : x.lt d with
          | false => rfl
          | true =>
            exfalso
            rcases Nat.eq_or_lt_of_le hk with hk' | hk'
            · subst hk'; rw [hx] at hx'; obtain rfl := Option.some.inj hx'; exact hc hq
            · exact hc (Dot.lt_trans (hr.lt hk' hx hx') hq)
      · obtain rfl : i = j := by omega
        exact ⟨i, rfl, by omega, he, h3, h4⟩
end Go.Proofs.Ytbfchlimonimkaa
