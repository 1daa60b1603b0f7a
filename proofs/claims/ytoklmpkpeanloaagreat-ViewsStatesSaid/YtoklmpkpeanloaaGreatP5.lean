/-
  A part of the proof: an abstract machine over the model, and contracts of functions of this program over it.
-/
import Derived.KernelRfl
import Derived.Test.YtoklmpkpeanloaaGreatP4
set_option linter.unusedVariables false
set_option linter.unusedSimpArgs false
set_option linter.unusedSectionVars false
section
namespace Go.Proofs.YtoklmpkpeanloaaGreat
open Go.Am Go.Minster Go.ChangeShapes Go.WideShapes Go.ChangeAt Go.RowKit
theorem fold_gap : ∀ (l : List Dot) (st : List Int × List Dot), VOk st.1 → Rising l → (∀ d ∈ l, d.may = true) →
  (∀ y ∈ st.2, y.may = true ∧ st.1.getD (y.r - 1).toNat 0 + 1 < y.c ∧ ∀ d ∈ l, y.lt d = true) →
  ∀ y ∈ (l.foldl cstep st).2, (l.foldl cstep st).1.getD (y.r - 1).toNat 0 + 1 < y.c
 | [], st, hv, hr, hm, h => fun y hy => (h y hy).2.1
 | d :: l, st, hv, hr, hm, h => by
  have hd := Dot.may_iff.1 (hm d (by simp))
  obtain ⟨hr1, hr2⟩ := List.pairwise_cons.1 hr
  refine fold_gap l (cstep st d) (cstep_ok hv (hm d (by simp))) hr2 (fun x hx => hm x (by simp [hx])) ?_
  intro y hy
  unfold cstep at hy ⊢
  split at hy
  ·rename_i hc
   rw [if_pos hc]
   exact ⟨(h y hy).1, (h y hy).2.1, fun x hx => (h y hy).2.2 x (by simp [hx])⟩
  ·rename_i hc
   rw [if_neg hc]
   split at hy
   ·rename_i hc2
    rw [if_pos hc2]
    obtain ⟨h1, h2, h3⟩ := h y hy
    refine ⟨h1, ?_, fun x hx => h3 x (by simp [hx])⟩
    have hym := Dot.may_iff.1 h1
    have hlt := Dot.lt_iff.1 (h3 d (by simp))
    have hne : (d.r - 1).toNat ≠ (y.r - 1).toNat := by
     intro e
     have : y.r = d.r := by omega
     rw [this] at h2
     omega
    simp only [List.getD_eq_getElem?_getD] at h2 ⊢
    rw [List.getElem?_set_ne hne]
    exact h2
   ·rename_i hc2
    rw [if_neg hc2]
    simp only [List.mem_append, List.mem_singleton] at hy
    rcases hy with hy | rfl
    ·exact ⟨(h y hy).1, (h y hy).2.1, fun x hx => (h y hy).2.2 x (by simp [hx])⟩
    ·refine ⟨hm y (by simp), ?_, hr1⟩
     show st.1.getD (y.r - 1).toNat 0 + 1 < y.c
     omega
def Gap (v : List Int) (ex : List Dot) : Prop := ∀ y ∈ ex, v.getD (y.r - 1).toNat 0 + 1 < y.c
theorem Gap.add {v : List Int} {ex : List Dot} (h : COk v ex) (g : Gap v ex) {d : Dot} (hd : d.may = true) : Gap (addR v ex d).1 (addR v ex d).2 := by
 unfold addR
 split
 ·exact g
 ·rename_i hh
  have hnin : d ∉ ex := fun hin => hh (by simp [hasD, hd, hin])
  have hmi : ∀ x ∈ ins ex d, x.may = true := by
   intro x hx
   rcases mem_ins.1 hx with rfl | hx
   ·exact hd
   ·exact h.m x hx
  exact fold_gap (ins ex d) (v, []) h.v (h.r.ins hnin) hmi (by simp)
theorem ofOk {v : List Int} {ex : List Dot} (h : COk v ex) (g : Gap v ex) : OfOk v ex := by
 refine ⟨fun x hx => (h.v.rng x hx).2, fun i x hx => ⟨h.m x (List.mem_of_getElem? hx), fun y h0 hy => h.r.lt (by omega) hy hx, g x (List.mem_of_getElem? hx)⟩⟩
end Go.Proofs.YtoklmpkpeanloaaGreat
end

section
namespace Go.Proofs.YtoklmpkpeanloaaGreat
open Go.Am Go.Minster
theorem hasD_iff {v : List Int} {ex : List Dot} {d : Dot} : hasD v ex d = true ↔ d.may = true ∧ (d ∈ ex ∨ d.c ≤ v.getD (d.r - 1).toNat 0) := by
 simp [hasD]
theorem fold_has (x : Dot) (hx : x.may = true) : ∀ (l : List Dot) (st : List Int × List Dot), VOk st.1 → (∀ d ∈ l, d.may = true) →
  ((x ∈ (l.foldl cstep st).2 ∨ x.c ≤ (l.foldl cstep st).1.getD (x.r - 1).toNat 0) ↔ (x ∈ l ∨ x ∈ st.2 ∨ x.c ≤ st.1.getD (x.r - 1).toNat 0))
 | [], st, _, _ => by simp
 | d :: l, st, hv, hm => by
  have hd := hm d (by simp)
  have ih := fold_has x hx l (cstep st d) (cstep_ok hv hd) (fun y hy => hm y (by simp [hy]))
  rw [List.foldl_cons, ih]
  have hdm := Dot.may_iff.1 hd
  have hxm := Dot.may_iff.1 hx
  have hlen := hv.len
  simp only [List.mem_cons]
  unfold cstep
  split
  ·rename_i hc
   constructor
   ·rintro (h | h | h)
    ·exact .inl (.inr h)
    ·exact .inr (.inl h)
    ·exact .inr (.inr h)
   ·rintro ((h | h) | h | h)
    ·subst h; exact .inr (.inr hc)
    ·exact .inl h
    ·exact .inr (.inl h)
    ·exact .inr (.inr h)
  ·rename_i hc
   split
   ·rename_i hc2
    have hg : (st.1.set (d.r - 1).toNat d.c).getD (x.r - 1).toNat 0 = if x.r = d.r then d.c else st.1.getD (x.r - 1).toNat 0 := by
     simp only [List.getD_eq_getElem?_getD, List.getElem?_set]
     by_cases e : x.r = d.r
     ·rw [if_pos (by rw [e]), if_pos e, if_pos (by omega)]; rfl
     ·rw [if_neg (by omega), if_neg e]
    show (x ∈ l ∨ x ∈ st.2 ∨ x.c ≤ (st.1.set (d.r - 1).toNat d.c).getD (x.r - 1).toNat 0) ↔ _
    rw [hg]
    by_cases e : x.r = d.r
    ·rw [if_pos e]
     have hxd : x = d ↔ x.c = d.c := ⟨fun h => by rw [h], fun h => by cases x; cases d; simp_all⟩
     rw [hxd]
     rw [← e] at hc2
     constructor
     ·rintro (h | h | h)
      ·exact .inl (.inr h)
      ·exact .inr (.inl h)
      ·by_cases h2 : x.c = d.c
       ·exact .inl (.inl h2)
       ·exact .inr (.inr (by omega))
     ·rintro ((h | h) | h | h)
      ·exact .inr (.inr (by omega))
      ·exact .inl h
      ·exact .inr (.inl h)
      ·exact .inr (.inr (by omega))
    ·rw [if_neg e]
     have hne : x ≠ d := fun h => e (by rw [h])
     simp [hne]
   ·show (x ∈ l ∨ x ∈ st.2 ++ [d] ∨ x.c ≤ st.1.getD (x.r - 1).toNat 0) ↔ _
    simp only [List.mem_append, List.mem_singleton]
    constructor
    ·rintro (h | (h | h) | h)
     ·exact .inl (.inr h)
     ·exact .inr (.inl h)
     ·exact .inl (.inl h)
     ·exact .inr (.inr h)
    ·rintro ((h | h) | h | h)
     ·exact .inr (.inl (.inr h))
     ·exact .inl h
     ·exact .inr (.inl (.inl h))
     ·exact .inr (.inr h)
theorem compact_has {v : List Int} {l : List Dot} (hv : VOk v) (hm : ∀ d ∈ l, d.may = true) (x : Dot) : hasD (compact v l).1 (compact v l).2 x = true ↔ x.may = true ∧ (x ∈ l ∨ x.c ≤ v.getD (x.r - 1).toNat 0) := by
 rw [hasD_iff]
 constructor
 ·rintro ⟨h1, h2⟩
  have := (fold_has x h1 l (v, []) hv hm).1 h2
  exact ⟨h1, by simpa using this⟩
 ·rintro ⟨h1, h2⟩
  exact ⟨h1, (fold_has x h1 l (v, []) hv hm).2 (by simpa using h2)⟩
theorem addR_has {v : List Int} {ex : List Dot} (h : COk v ex) {d : Dot} (hd : d.may = true) (x : Dot) : hasD (addR v ex d).1 (addR v ex d).2 x = true ↔ hasD v ex x = true ∨ x = d := by
 unfold addR
 split
 ·rename_i hh
  constructor
  ·exact .inl
  ·rintro (h | rfl)
   ·exact h
   ·exact hh
 ·have hmi : ∀ x ∈ ins ex d, x.may = true := by
   intro x hx
   rcases mem_ins.1 hx with rfl | hx
   ·exact hd
   ·exact h.m x hx
  rw [compact_has h.v hmi, hasD_iff, mem_ins]
  constructor
  ·rintro ⟨h1, (rfl | h2) | h2⟩
   ·exact .inr rfl
   ·exact .inl ⟨h1, .inl h2⟩
   ·exact .inl ⟨h1, .inr h2⟩
  ·rintro (⟨h1, h2 | h2⟩ | rfl)
   ·exact ⟨h1, .inl (.inr h2)⟩
   ·exact ⟨h1, .inr h2⟩
   ·exact ⟨hd, .inl (.inl rfl)⟩
end Go.Proofs.YtoklmpkpeanloaaGreat
end

section
set_option maxRecDepth 100000
set_option maxHeartbeats 4000000
namespace Go.Proofs.YtoklmpkpeanloaaGreat
open Go.Am
end Go.Proofs.YtoklmpkpeanloaaGreat
end

section
namespace Go.Proofs.YtoklmpkpeanloaaGreat
open Go.Am Go.Minster
end Go.Proofs.YtoklmpkpeanloaaGreat
end

section
namespace Go.Proofs.YtoklmpkpeanloaaGreat
open Go.Am Go.Minster
/-! ### many at once -/
structure Ob where
 ref : Bool
 p : Nat
 v : List Int
 ex : List Dot
/-! ### contracts -/
theorem ctx_Copy_G {s : AS} {p : Nat} {v : List Int} {ex : List Dot} (h : CtxAt s p v ex) (hn : ex.length ≤ 2 ^ 30) : ACalls Tryz.prog F_ctx_Ctx_Copy [.ptr (some (p, 0))] s fun r s' => ∃ q, r = .ptr (some (q, 0)) ∧ s.h q = none ∧ CtxG s s' q v ex ∧ Ext s s' := by
 refine q_ctx_Ctx_Copy _ _ _ ?_
 refine ACalls.use (ctx_there_ok h) ?_
 rintro r s2 ⟨rfl, rfl⟩ _
 obtain ⟨h1, w, h2, h3, h4⟩ := h
 refine ⟨_, rfl, bsplit.no rfl ⟨fun k _ r s' => k = 8 → Gro dotC 2 s' r ex ∧ (∀ la ∈ labOf r, s2.h la = none) ∧ r ≠ .emp ∧ r.one = true, fun k _ r => k = 8 → r.one = true, fun _ _ _ _ _ e h hk => ⟨(h hk).1.ext e, (h hk).2⟩, _, h2.at.rdc (by rw [ctx_len h1]; omega), w, by rw [h2.at.rd1]; exact ctx_16 h1 w, fun s10 e10 w10 _ => ?_, ⟨.bool true, fun _ => rfl⟩, ?_⟩⟩
 ·refine (clone_S (s := s2) e10 (h4.ext e10) hn).mono ?_
  rintro r s' ⟨e, h⟩
  exact ⟨e, fun _ => h, fun _ => h.2.2.2⟩
 rintro r hr s14 e14 w14 ⟨hr2, _⟩
 obtain ⟨g, hnew, hne, hone⟩ := hr2 rfl
 rw [ctx_take h1]
 refine ⟨_, build_Ctx h1 hone, by simp [One1, hone], NewQ.intro w14 rfl fun q s18 F => ⟨q, rfl, e14.none F.no, ⟨h1, r, F.own, hone, g.ext F.ext, hnew⟩, e14.trans F.ext⟩⟩
/-! ### the reference -/
end Go.Proofs.YtoklmpkpeanloaaGreat
end

section
set_option maxRecDepth 100000
set_option maxHeartbeats 4000000
namespace Go.Proofs.YtoklmpkpeanloaaGreat
open Go.Am
def Q_ref04iSet_Has (a0 : Option (Nat × Nat)) (a1 : List AV) (s : AS) (R : AV → AS → Prop) : Prop :=
 One1 a1 (NewQ (.cells a1 0 false) s fun l1 s2 => RdL (rdc s2 l1 0 2) fun g3 => ACalls Tryz.prog F_ref04iMay [(.agg g3)] s2 fun v4 s5 => ∃ b6 : Bool, v4 = .bool b6 ∧ (bsplit (!b6)
 (R (.bool false) s5)
 (JoinQ fun J7 =>
 (∀ s8 : AS, J7 [] s8 →
 RdI .u64 (rd1 s8 l1 1) fun n9 => RdI .i64 (rd1 s8 l1 0) fun n10 => AsSome a0 fun l11 o12 => IxQ (aindexAddr T Y_a16iuint64 (.ptr (some (l11, o12))) (.int .i64 (IntKind.wrap .i64 (n10 - 1)))) fun l13 o14 => RdI .u64 (rd1 s8 l13 o14) fun n15 => R (.bool (decide ((n9 : Int) ≤ n15))) s8) ∧
 (LoopQ fun I16 m17 => I16 m17 [(.int .i64 0)] s5 ∧
 ∀ m18 : Nat, ∀ n19 : Int, ∀ s20 : AS, I16 m18 [(.int .i64 n19)] s20 →
 AsSome a0 fun l21 o22 => RdA (rd1 s20 l21 (o22 + 16)) fun v23 => RdI .i64 (alenB T Y_s_Dot v23 s20) fun n24 => bsplit (decide ((n19 : Int) < n24))
 (AsSome a0 fun l25 o26 => RdA (rd1 s20 l25 (o26 + 16)) fun v27 => IxQ (aindexAddr T Y_s_Dot v27 (.int .i64 n19)) fun l28 o29 => RdL (rdc s20 l28 o29 2) fun g30 => RdL (rdc s20 l1 0 2) fun g31 => RdO (aeq T 100 Y_Dot (.agg g30) (.agg g31)) fun b32 => bsplit b32
 (R (.bool true) s20)
 (∃ m', m' < m18 ∧ I16 m' [(.int .i64 (IntKind.wrap .i64 (n19 + 1)))] s20))
 (J7 [] s20)))))
def A_ref04iSet_Has : QA := (.seq .leaf (.seq (.seq .leaf (.cond (.seq .leaf .leaf) .leaf)) (.join [] [(4, 5), (9, 26)] (.seq .leaf (.wrap (.loop [(5, .int .i64)] [(4, 5), (9, 26)] (.seq (.seq .leaf (.cond .leaf .leaf)) (.seq (.wrap (.seq (.draw 8) (.cond (.seq .leaf .leaf) .leaf))) .leaf))))) (.seq (.draw 10) .leaf))))
theorem q_ref04iSet_Has (a0 : Option (Nat × Nat)) (a1 : List AV) (s : AS) (R : AV → AS → Prop) (h : Q_ref04iSet_Has a0 a1 s R) : ACalls Tryz.prog F_ref04iSet_Has [(.ptr a0), (.agg a1)] s R :=
 ACalls.q (n := 38) (rs := [.tmp 4]) (A := A_ref04iSet_Has) hT hmx Tryz.func76 (by kernel_rfl) rfl rfl rfl (by kernel_rfl) (by kernel_rfl) h
def Q_ref04iSet_Add (a0 : Option (Nat × Nat)) (a1 : List AV) (s : AS) (R : AV → AS → Prop) : Prop :=
 One1 a1 (NewQ (.cells a1 0 false) s fun l1 s2 => RdL (rdc s2 l1 0 2) fun g3 => ACalls Tryz.prog F_ref04iSet_Has [(.ptr a0), (.agg g3)] s2 fun v4 s5 => ∃ b6 : Bool, v4 = .bool b6 ∧ (bsplit b6
 (R (.bool false) s5)
 (JoinQ fun J7 =>
 (∀ v8 : AV, ∀ n9 : Int, ∀ s10 : AS, J7 [v8, (.int .i64 n9)] s10 →
 RdL (rdc s10 l1 0 2) fun g11 => RdL (absl T Y_s_Dot 1 [(0, (.agg g11))]) fun g12 => NewQ (.cells g12 0 false) s10 fun l13 s14 => Bd2 (aappend T Y_s_Dot Y_s_Dot v8 (.slc (some (l13, 0)) 1 1 true) s14) fun v15 s16 => AsSome a0 fun l17 o18 => RdA (rd1 s16 l17 (o18 + 16)) fun v19 => RdA (aslice T Y_s_Dot v19 (some (.int .i64 n9)) none none) fun v20 => Bd2 (aappend T Y_s_Dot Y_s_Dot v15 v20 s16) fun v21 s22 => AsSome a0 fun l23 o24 => qstore T Y_s_Dot s22 l23 (o24 + 16) v21 fun s25 => ACalls Tryz.prog F_ref04iSet_compact [(.ptr a0)] s25 fun v26 s27 => v26 = .tup [] ∧ (R (.bool true) s27)) ∧
 (LoopQ fun I28 m29 => I28 m29 [(.slc none 0 0 true), (.int .i64 0)] s5 ∧
 ∀ m30 : Nat, ∀ v31 : AV, ∀ n32 : Int, ∀ s33 : AS, I28 m30 [v31, (.int .i64 n32)] s33 →
 AsSome a0 fun l34 o35 => RdA (rd1 s33 l34 (o35 + 16)) fun v36 => RdI .i64 (alenB T Y_s_Dot v36 s33) fun n37 => bsplit (decide ((n32 : Int) < n37)) (AsSome a0 fun l38 o39 => RdA (rd1 s33 l38 (o39 + 16)) fun v40 => IxQ (aindexAddr T Y_s_Dot v40 (.int .i64 n32)) fun l41 o42 => RdL (rdc s33 l41 o42 2) fun g43 => RdL (rdc s33 l1 0 2) fun g44 => ACalls Tryz.prog F_ref04iLess [(.agg g43), (.agg g44)] s33 fun v45 s46 => ∃ b47 : Bool, v45 = .bool b47 ∧ (bsplit b47
 (AsSome a0 fun l48 o49 => RdA (rd1 s46 l48 (o49 + 16)) fun v50 => IxQ (aindexAddr T Y_s_Dot v50 (.int .i64 n32)) fun l51 o52 => RdL (rdc s46 l51 o52 2) fun g53 => RdL (absl T Y_s_Dot 1 [(0, (.agg g53))]) fun g54 => NewQ (.cells g54 0 false) s46 fun l55 s56 => Bd2 (aappend T Y_s_Dot Y_s_Dot v31 (.slc (some (l55, 0)) 1 1 true) s56) fun v57 s58 => ∃ m', m' < m30 ∧ I28 m' [v57, (.int .i64 (IntKind.wrap .i64 (n32 + 1)))] s58)
 (J7 [v31, (.int .i64 n32)] s46))) (J7 [v31, (.int .i64 n32)] s33)))))
def A_ref04iSet_Add : QA := (.seq .leaf (.seq (.seq .leaf (.cond (.seq .leaf .leaf) .leaf)) (.seq .leaf (.seq .leaf (.join [(5, .any), (6, .int .i64)] [(5, 6), (10, 39)] (.wrap (.loop [(5, .any), (6, .int .i64)] [(5, 6), (10, 39)] (.seq (.seq (.draw 16) (.cond .leaf .leaf)) (.seq (.wrap .leaf) .leaf)))) (.seq .leaf (.seq .leaf (.seq .leaf (.seq .leaf .leaf)))))))))
theorem q_ref04iSet_Add (a0 : Option (Nat × Nat)) (a1 : List AV) (s : AS) (R : AV → AS → Prop) (h : Q_ref04iSet_Add a0 a1 s R) : ACalls Tryz.prog F_ref04iSet_Add [(.ptr a0), (.agg a1)] s R :=
 ACalls.q (n := 57) (rs := [.tmp 4]) (A := A_ref04iSet_Add) hT hmx Tryz.func123 (by kernel_rfl) rfl rfl rfl (by kernel_rfl) (by kernel_rfl) h
def Q_ref04iSet_compact (a0 : Option (Nat × Nat)) (s : AS) (R : AV → AS → Prop) : Prop :=
 JoinQ fun J1 =>
 (∀ v2 : AV, ∀ s3 : AS, J1 [v2] s3 →
 AsSome a0 fun l4 o5 => qstore T Y_s_Dot s3 l4 (o5 + 16) v2 fun s6 => R (.tup []) s6) ∧
 (LoopQ fun I7 m8 => I7 m8 [(.slc none 0 0 true), (.int .i64 0)] s ∧
 ∀ m9 : Nat, ∀ v10 : AV, ∀ n11 : Int, ∀ s12 : AS, I7 m9 [v10, (.int .i64 n11)] s12 →
 AsSome a0 fun l13 o14 => RdA (rd1 s12 l13 (o14 + 16)) fun v15 => RdI .i64 (alenB T Y_s_Dot v15 s12) fun n16 => bsplit (decide ((n11 : Int) < n16))
 (AsSome a0 fun l17 o18 => RdA (rd1 s12 l17 (o18 + 16)) fun v19 => IxQ (aindexAddr T Y_s_Dot v19 (.int .i64 n11)) fun l20 o21 => RdL (rdc s12 l20 o21 2) fun g22 => NewQ (.cells [.int .i64 0, .int .u64 0] 0 false) s12 fun l23 s24 => OkC (some 2) g22 (StQ (awr s24 l23 0 g22) fun s25 => RdI .u64 (rd1 s25 l23 1) fun n26 => RdI .i64 (rd1 s25 l23 0) fun n27 => AsSome a0 fun l28 o29 => IxQ (aindexAddr T Y_a16iuint64 (.ptr (some (l28, o29))) (.int .i64 (IntKind.wrap .i64 (n27 - 1)))) fun l30 o31 => RdI .u64 (rd1 s25 l30 o31) fun n32 => bsplit ((n26 : Int) == (IntKind.wrap .u64 (n32 + 1)))
 (RdI .i64 (rd1 s25 l23 0) fun n33 => RdI .u64 (rd1 s25 l23 1) fun n34 => AsSome a0 fun l35 o36 => IxQ (aindexAddr T Y_a16iuint64 (.ptr (some (l35, o36))) (.int .i64 (IntKind.wrap .i64 (n33 - 1)))) fun l37 o38 => StQ (awr s25 l37 o38 [(.int .u64 n34)]) fun s39 => ∃ m', m' < m9 ∧ I7 m' [v10, (.int .i64 (IntKind.wrap .i64 (n11 + 1)))] s39)
 (RdI .u64 (rd1 s25 l23 1) fun n40 => RdI .i64 (rd1 s25 l23 0) fun n41 => AsSome a0 fun l42 o43 => IxQ (aindexAddr T Y_a16iuint64 (.ptr (some (l42, o43))) (.int .i64 (IntKind.wrap .i64 (n41 - 1)))) fun l44 o45 => RdI .u64 (rd1 s25 l44 o45) fun n46 => bsplit (decide ((n40 : Int) > n46))
 (RdL (rdc s25 l23 0 2) fun g47 => RdL (absl T Y_s_Dot 1 [(0, (.agg g47))]) fun g48 => NewQ (.cells g48 0 false) s25 fun l49 s50 => Bd2 (aappend T Y_s_Dot Y_s_Dot v10 (.slc (some (l49, 0)) 1 1 true) s50) fun v51 s52 => ∃ m', m' < m9 ∧ I7 m' [v51, (.int .i64 (IntKind.wrap .i64 (n11 + 1)))] s52)
 (∃ m', m' < m9 ∧ I7 m' [v10, (.int .i64 (IntKind.wrap .i64 (n11 + 1)))] s25))))
 (J1 [v10] s12))
def A_ref04iSet_compact : QA := (.seq .leaf (.join [(2, .any)] [(2, 56)] (.seq .leaf (.wrap (.loop [(2, .any), (3, .int .i64)] [(2, 56)] (.seq (.seq .leaf (.cond .leaf .leaf)) (.seq (.wrap (.seq .leaf (.seq (.draw 11) (.cond (.draw 8) (.seq (.draw 10) (.cond .leaf .leaf)))))) .leaf))))) .leaf))
theorem q_ref04iSet_compact (a0 : Option (Nat × Nat)) (s : AS) (R : AV → AS → Prop) (h : Q_ref04iSet_compact a0 s R) : ACalls Tryz.prog F_ref04iSet_compact [(.ptr a0)] s R :=
 ACalls.q (n := 61) (rs := []) (A := A_ref04iSet_compact) hT hmx Tryz.func159 (by kernel_rfl) rfl rfl rfl (by kernel_rfl) (by kernel_rfl) h
def Q_ref04iLess (a0 : List AV) (a1 : List AV) (s : AS) (R : AV → AS → Prop) : Prop :=
 One1 a0 (NewQ (.cells a0 0 false) s fun l1 s2 => One1 a1 (NewQ (.cells a1 0 false) s2 fun l3 s4 => RdI .i64 (rd1 s4 l1 0) fun n5 => RdI .i64 (rd1 s4 l3 0) fun n6 => bsplit (decide ((n5 : Int) < n6)) (R (.bool true) s4) (RdI .i64 (rd1 s4 l1 0) fun n7 => RdI .i64 (rd1 s4 l3 0) fun n8 => bsplit ((n7 : Int) == n8) (RdI .u64 (rd1 s4 l1 1) fun n9 => RdI .u64 (rd1 s4 l3 1) fun n10 => R (.bool (decide ((n9 : Int) < n10))) s4) (R (.bool false) s4))))
def A_ref04iLess : QA := (.seq .leaf (.seq .leaf .leaf))
theorem q_ref04iLess (a0 : List AV) (a1 : List AV) (s : AS) (R : AV → AS → Prop) (h : Q_ref04iLess a0 a1 s R) : ACalls Tryz.prog F_ref04iLess [(.agg a0), (.agg a1)] s R :=
 ACalls.q (n := 24) (rs := [.tmp 4]) (A := A_ref04iLess) hT hmx Tryz.func57 (by kernel_rfl) rfl rfl rfl (by kernel_rfl) (by kernel_rfl) h
end Go.Proofs.YtoklmpkpeanloaaGreat
end

section
namespace Go.Proofs.YtoklmpkpeanloaaGreat
open Go.Am Go.Minster
structure RefT (s : AS) (p : Nat) (t : List AV) (v : List Int) (ex : List Dot) : Prop where
 len : v.length = 16
 nt : ∀ y ∈ t, ∀ n, y ≠ .int .i64 n
 mem : ∃ w, Am.Own s p (v.map (.int .u64) ++ w :: t) ∧ w.one = true ∧ w ≠ .emp ∧ Dots s w ex
structure RefG (s0 s : AS) (p : Nat) (t : List AV) (v : List Int) (ex : List Dot) : Prop where
 len : v.length = 16
 nt : ∀ y ∈ t, ∀ n, y ≠ .int .i64 n
 mem : ∃ w, Am.Own s p (v.map (.int .u64) ++ w :: t) ∧ w.one = true ∧ w ≠ .emp ∧ Gro dotC 2 s w ex ∧ ∀ la ∈ labOf w, s0.h la = none
section
variable {s s' : AS} {p : Nat} {t : List AV} {v : List Int} {ex : List Dot}
theorem RefT.ext (h : RefT s p t v ex) (e : Ext s s') : RefT s' p t v ex := by
 obtain ⟨h1, hn, w, h2, h3, h5, h4⟩ := h
 exact ⟨h1, hn, w, h2.ext e, h3, h5, h4.ext e⟩
theorem RefG.back {s0 s1 : AS} (h : RefG s1 s p t v ex) (e : ∀ x, s0.h x ≠ none → s1.h x ≠ none) : RefG s0 s p t v ex := by
 obtain ⟨h1, hn, w, h2, h3, h5, h4, h6⟩ := h
 refine ⟨h1, hn, w, h2, h3, h5, h4, fun la hla => ?_⟩
 cases hq : s0.h la with
 | none => rfl
 | some o => exact absurd (h6 la hla) (e la (by rw [hq]; simp))
end
theorem ref_atT {v : List Int} (h : v.length = 16) (w : AV) (t : List AV) {i : Nat} (hi : i < 16) : (v.map (AV.int .u64) ++ w :: t)[i]? = some (.int .u64 (v.getD i 0)) := by
 rw [List.getElem?_append_left (by simp [h]; omega), List.getElem?_map, List.getElem?_eq_getElem (by omega), List.getD_eq_getElem?_getD, List.getElem?_eq_getElem (by omega)]; rfl
theorem ref_16T {v : List Int} (h : v.length = 16) (w : AV) (t : List AV) : (v.map (AV.int .u64) ++ w :: t)[16]? = some w := by
 rw [List.getElem?_append_right (by simp [h])]; simp [h]
theorem ref_set_lenT {v : List Int} (h : v.length = 16) (w : AV) (t : List AV) : (v.map (AV.int .u64) ++ w :: t).length = 17 + t.length := by simp [h]; omega
theorem ref04iLess_ok (a b : Dot) (s : AS) : ACalls Tryz.prog F_ref04iLess [.agg (dotC a), .agg (dotC b)] s fun v s' => v = .bool (a.lt b) ∧ Ext s s' := by
 refine ACalls.pre fun hw => q_ref04iLess _ _ _ _ ⟨rfl, NewQ.intro hw rfl fun l s1 F => ⟨rfl, NewQ.intro F.wf rfl fun l2 s2 F2 => ?_⟩⟩
 have e := F.ext.trans F2.ext
 simp only [(F.own.ext F2.ext).at.rd1, F2.own.at.rd1, dotC, List.getElem?_cons_zero, List.getElem?_cons_succ, go_sem, bsplit_iff, e, and_true, Dot.lt]
 grind
theorem ref_Has_T {s : AS} {p : Nat} {t : List AV} {v : List Int} {ex : List Dot} (h : RefT s p t v ex) (hn : ex.length ≤ 2 ^ 30) (d : Dot) : ACalls Tryz.prog F_ref04iSet_Has [.ptr (some (p, 0)), .agg (dotC d)] s fun r s' => r = .bool (hasD v ex d) ∧ Ext s s' := by
 refine ACalls.pre fun hw => q_ref04iSet_Has _ _ _ _ ⟨rfl, NewQ.intro hw rfl fun l s1 F => ?_⟩
 refine ⟨_, F.own.at.rdc (by simp [dotC]), ?_⟩
 refine (ref04iMay_ok d _).mono ?_
 rintro r s3 ⟨rfl, e3⟩
 have e := F.ext.trans e3
 refine ⟨_, rfl, bsplit.mk (fun hm => ?_) (fun hm => ?_)⟩
 ·simp only [Bool.not_eq_true'] at hm
  exact ⟨by simp [hasD, hm], e⟩
 ·simp only [Bool.not_eq_false'] at hm
  obtain ⟨h1, hnt, w, h2, h3, h5, h4⟩ := h
  refine ⟨fun vs s' => Ext s3 s' ∧ d ∉ ex, ?_, fun m vs s' => ∃ i : Nat, vs = [.int .i64 (i : Nat)] ∧ i ≤ ex.length ∧ m = ex.length - i ∧ Ext s3 s' ∧ ∀ (k : Nat), k < i → ex[k]? ≠ some d, ex.length, ⟨0, rfl, by omega, rfl, Ext.refl _, by omega⟩, ?_⟩
  ·rintro s8 ⟨e8, hd⟩
   have hm' := Dot.may_iff.1 hm
   have hat := (F.own.ext (e3.trans e8)).at
   have hc := (h2.ext (e.trans e8)).at
   refine ⟨_, by rw [hat.rd1]; rfl, _, by rw [hat.rd1]; rfl, ?_⟩
   dsimp only
   rw [wrap_i' (by omega)]
   refine ⟨_, _, vix' (by omega), _, by rw [hc.rd1, Nat.zero_add, Nat.mul_one]; exact ref_atT h1 w t (by omega), ?_, e.trans e8⟩
   simp [hasD, hm, hd]
  ·rintro m n s20 ⟨i, hi, h6, rfl, e20, h7⟩
   simp only [List.cons.injEq, AV.int.injEq, true_and, and_true] at hi
   subst hi
   have hc := (h2.ext (e.trans e20)).at
   have hw16 : rd1 s20 p (0 + 16) = some w := by rw [hc.rd1]; exact ref_16T h1 w t
   refine ⟨w, hw16, _, h4.lenB u_s_Dot _, bsplit.dec (fun hlt => ?_) (fun hge => ?_)⟩
   ·obtain ⟨x, hx⟩ := get_lt (l := ex) (i := i) (by omega)
    obtain ⟨la', o, h8, h9⟩ := (h4.ext (e.trans e20)).ix (by decide) dotC_len u_s_Dot z_Dot hx
    refine ⟨w, hw16, la', o, h8 _, _, (h9 _ (Ext.refl _)).2, _, (F.own.ext (e3.trans e20)).at.rdc (by simp [dotC]), _, dot_eq x d, bsplit.dec (fun hq => ?_) (fun hq => ?_)⟩
    ·refine ⟨?_, e.trans e20⟩
     subst hq
     simp [hasD, hm, List.mem_of_getElem? hx]
    ·refine ⟨ex.length - (i + 1), by omega, i + 1, by rw [wrap_i (by omega)]; rfl, by omega, rfl, e20, fun k hk hk' => ?_⟩
     rcases Nat.lt_or_ge k i with h | h
     ·exact h7 k h hk'
     ·obtain rfl : k = i := by omega
      rw [hx] at hk'; exact hq (Option.some.inj hk')
   ·refine ⟨e20, fun hd => ?_⟩
    obtain ⟨k, hk⟩ := List.mem_iff_getElem?.1 hd
    have : k < ex.length := by
     rcases Nat.lt_or_ge k ex.length with h' | h'
     ·exact h'
     ·rw [List.getElem?_eq_none h'] at hk; cases hk
    exact h7 k (by omega) hk
theorem ref_compact_T {s : AS} {p : Nat} {t : List AV} {v : List Int} {ex : List Dot} (h : RefT s p t v ex) (hv : VOk v) (hm : ∀ d ∈ ex, d.may = true) (hn : ex.length < 2 ^ 30) :
  ACalls Tryz.prog F_ref04iSet_compact [.ptr (some (p, 0))] s fun r s' => r = .tup [] ∧ RefG s s' p t (compact v ex).1 (compact v ex).2 ∧ Mut [p] s s' := by
 refine ACalls.pre fun hw => q_ref04iSet_compact _ _ _ ?_
 obtain ⟨h1, hnt, w, h2, h3, h5, h4⟩ := h
 have hsp : ∀ x ∈ [p], s.h x ≠ none := by
  intro x hx; obtain rfl : x = p := by simpa using hx
  rw [h2]; simp
 have hnew : ∀ {r : AV} {s' : AS} {l : List Dot}, GroN dotC 2 [p] s s' r l → p ∉ labOf r := fun g hm => hsp p (by simp) (g.new p hm)
 have hx2 : ∀ y ∈ w :: t, ∀ n, y ≠ .int .i64 n := by
  intro y hy n
  rcases List.mem_cons.1 hy with rfl | hy
  ·exact dots_not_int h4 _ _
  ·exact hnt y hy n
 let cst : Nat → List Int × List Dot := fun i => (ex.take i).foldl cstep (v, [])
 have hcok : ∀ i, VOk (cst i).1 := fun i => fold_ok _ _ hv fun d hd => hm d (List.mem_of_mem_take hd)
 have hclen : ∀ i, (cst i).2.length ≤ i := fun i => by have := fold_len (ex.take i) (v, []); simp only [List.length_nil, Nat.zero_add] at this; have h2 := List.length_take_le i ex; exact Nat.le_trans this h2
 refine ⟨fun vs s' => ∃ left, vs = [left] ∧ WFs s' ∧ GroN dotC 2 [p] s s' left (compact v ex).2 ∧ Am.Own s' p ((compact v ex).1.map (.int .u64) ++ w :: t), ?_, ?_⟩
 ·rintro r s3 ⟨left, hl, hw3, g, ho⟩
  simp only [List.cons.injEq, and_true] at hl
  subst hl
  have hok : VOk (compact v ex).1 := by have := hcok ex.length; simp only [cst, List.take_length] at this; exact this
  refine qstore_one g.isSlc.2 z_s_Dot (StQ.own hw3 ho (by rw [ref_set_lenT hok.len]; simp) fun s6 P => ⟨rfl, ⟨hok.len, hnt, r, ?_, g.isSlc.2, g.isSlc.1, (g.wr hsp P.mut).gro, g.new⟩, g.chg.trans P.mut⟩)
  ·have : wrs ((compact v ex).1.map (AV.int .u64) ++ w :: t) (0 + 16) [r] = (compact v ex).1.map (AV.int .u64) ++ r :: t := by
    rw [wrs_one, List.set_append_right _ _ (by simp [hok.len])]
    simp [hok.len]
   rw [this] at P
   exact P.at
 ·have hc := h2.at
  refine ⟨fun m vs s' => ∃ (i : Nat) (left : AV), vs = [left, .int .i64 (i : Nat)] ∧ i ≤ ex.length ∧ m = ex.length - i ∧ WFs s' ∧ GroN dotC 2 [p] s s' left (cst i).2 ∧ Am.Own s' p ((cst i).1.map (.int .u64) ++ w :: t), ex.length, ⟨0, _, rfl, by omega, rfl, hw, GroN.nil, h2⟩, ?_⟩
  rintro m left n s16 ⟨i, left', hi, h6, rfl, hw16, g, ho⟩
  simp only [List.cons.injEq, AV.int.injEq, true_and, and_true] at hi
  obtain ⟨rfl, rfl⟩ := hi
  have hvi := hcok i
  have hw16' : rd1 s16 p (0 + 16) = some w := by rw [ho.at.rd1]; exact ref_16T hvi.len w t
  refine ⟨w, hw16', _, h4.lenB u_s_Dot _, bsplit.dec (fun hlt => ?_) (fun hge => ?_)⟩
  ·obtain ⟨x, hx⟩ := get_lt (l := ex) (i := i) (by omega)
   have hd := dots_keep h4 hc hx2 g.chg
   obtain ⟨la, o, h8, h9⟩ := hd.ix (by decide) dotC_len u_s_Dot z_Dot hx
   have hmx := Dot.may_iff.1 (hm x (List.mem_of_getElem? hx))
   have ht : cst (i + 1) = cstep (cst i) x := by simp only [cst]; rw [List.take_add_one, hx, Option.toList_some, List.foldl_append]; rfl
   refine ⟨w, hw16', la, o, h8 _, _, (h9 _ (Ext.refl _)).2, NewSt hw16 rfl rfl rfl fun l20 s22 F => ?_⟩
   have ho22 := ho.ext F.ext
   have gg := g.step F.ext
   have hidx : (x.r - 1).toNat < 16 := by omega
   have hbd := hvi.get (x.r - 1).toNat
   have f0 : rd1 s22 l20 0 = some (.int .i64 x.r) := by rw [F.own.at.rd1]; rfl
   have f1 : rd1 s22 l20 1 = some (.int .u64 x.c) := by rw [F.own.at.rd1]; rfl
   have fv : rd1 s22 p (0 + (x.r - 1).toNat * 1) = some (.int .u64 ((cst i).1.getD (x.r - 1).toNat 0)) := by rw [ho22.at.rd1, Nat.zero_add, Nat.mul_one]; exact ref_atT hvi.len w t hidx
   refine ⟨_, f1, _, f0, ?_⟩
   dsimp only
   rw [wrap_i' (by omega)]
   refine ⟨_, _, vix' (by omega), _, fv, ?_⟩
   dsimp only
   rw [wrap_u (by omega)]
   have cont : ∀ (r : AV) (s' : AS), WFs s' → GroN dotC 2 [p] s s' r (cst (i + 1)).2 → Am.Own s' p ((cst (i + 1)).1.map (.int .u64) ++ w :: t) →
     ∃ m', m' < ex.length - i ∧ ∃ (j : Nat) (left : AV), [r, AV.int .i64 (IntKind.wrap .i64 ((i : Int) + 1))] = [left, .int .i64 (j : Nat)] ∧ j ≤ ex.length ∧ m' = ex.length - j ∧ WFs s' ∧ GroN dotC 2 [p] s s' left (cst j).2 ∧ Am.Own s' p ((cst j).1.map (.int .u64) ++ w :: t) :=
    fun r s' a b c => ⟨ex.length - (i + 1), by omega, i + 1, r, by rw [wrap_i (by omega)]; rfl, by omega, rfl, a, b, c⟩
   refine bsplit.mk (fun hq => ?_) (fun hq => ?_)
   ·have hq' : x.c = (cst i).1.getD (x.r - 1).toNat 0 + 1 := by simpa using hq
    have hs : cst (i + 1) = ((cst i).1.set (x.r - 1).toNat x.c, (cst i).2) := by rw [ht]; unfold cstep; rw [if_neg (by omega), if_pos hq']
    refine ⟨_, f0, _, f1, ?_⟩
    dsimp only
    rw [wrap_i' (by omega)]
    refine ⟨_, _, vix' (by omega), StQ.own F.wf ho22 (by rw [ref_set_lenT hvi.len]; simp; omega) fun s33 P => ?_⟩
    refine cont _ _ P.wf (by rw [hs]; exact g.wr hsp (F.ext.mut.trans P.mut)) ?_
    rw [hs]
    have := P.at
    rw [wrs_one, Nat.zero_add, Nat.mul_one, vec_set _ _ _ _ (by rw [hvi.len]; exact hidx)] at this
    exact this
   ·have hq' : ¬ x.c = (cst i).1.getD (x.r - 1).toNat 0 + 1 := by simpa using hq
    refine ⟨_, f1, _, f0, ?_⟩
    dsimp only
    rw [wrap_i' (by omega)]
    refine ⟨_, _, vix' (by omega), _, fv, bsplit.dec (fun hgt => ?_) (fun hle => ?_)⟩
    ·have hs : cst (i + 1) = ((cst i).1, (cst i).2 ++ [x]) := by rw [ht]; unfold cstep; rw [if_neg (by omega), if_neg hq']
     have hM : ∀ y ∈ [p], s22.h y ≠ none := by
      intro y hy; obtain rfl : y = p := by simpa using hy
      rw [ho22]; simp
     refine ⟨_, F.own.at.rdc (by simp [dotC]), GroN.append1 sl_s_Dot dotC_len dotC_one F.wf gg hM x (by have := hclen i; omega) fun r s' g' hw' mm => ?_⟩
     exact cont _ _ hw' (by rw [hs]; exact g') (by rw [hs]; exact ho22.mut mm (hnew g))
    ·have hs : cst (i + 1) = cst i := by rw [ht]; unfold cstep; rw [if_pos (by omega)]
     exact cont _ _ F.wf (by rw [hs]; exact gg) (by rw [hs]; exact ho22)
  ·obtain rfl : i = ex.length := by omega
   have hs : cst ex.length = compact v ex := by simp only [cst, List.take_length]; rfl
   rw [hs] at g ho
   exact ⟨left, rfl, hw16, g, ho⟩
theorem ref_Add_T {s : AS} {q : Nat} {t : List AV} {v : List Int} {ex : List Dot} (h : RefT s q t v ex) (hv : VOk v) (hr : Rising ex) (hm : ∀ d ∈ ex, d.may = true) (hn : ex.length + 1 < 2 ^ 30) {d : Dot} (hd : d.may = true) :
  ACalls Tryz.prog F_ref04iSet_Add [.ptr (some (q, 0)), .agg (dotC d)] s fun r s' => r = .bool (!hasD v ex d) ∧ Mut [q] s s' ∧ (hasD v ex d = true → Ext s s') ∧ (hasD v ex d = false → RefG s s' q t (compact v (ins ex d)).1 (compact v (ins ex d)).2) := by
 refine ACalls.pre fun hw => q_ref04iSet_Add _ _ _ _ ⟨rfl, NewQ.intro hw rfl fun l1 s2 F1 => ⟨_, F1.own.at.rdc (by simp [dotC]), ?_⟩⟩
 refine ACalls.use (ref_Has_T (h.ext F1.ext) (by omega) d) ?_
 rintro r s5 ⟨rfl, e5⟩ hw5
 have E5 := F1.ext.trans e5
 refine ⟨_, rfl, bsplit.mk (fun hh => ?_) (fun hh => ?_)⟩
 ·exact ⟨by simp [hh], E5.mut, (fun _ => E5), fun h => absurd hh (by simp [h])⟩
 have hnin : d ∉ ex := by
  intro hin
  simp [hasD, hd, hin] at hh
 obtain ⟨h1, hnt, w, h2, h3, h5, h4⟩ := h
 have hq16 : ∀ s', Ext s s' → rd1 s' q (0 + 16) = some w := fun s' e => by rw [(h2.ext e).at.rd1]; exact ref_16T h1 w t
 refine ⟨fun vs s' => ∃ left, vs = [left, .int .i64 (pos ex d : Nat)] ∧ WFs s' ∧ GroN dotC 2 [] s5 s' left (ex.take (pos ex d)), ?_, fun m vs s' => ∃ (i : Nat) (left : AV), vs = [left, .int .i64 (i : Nat)] ∧ i ≤ ex.length ∧ m = ex.length - i ∧ WFs s' ∧ GroN dotC 2 [] s5 s' left (ex.take i) ∧ ∀ (k : Nat) x, k < i → ex[k]? = some x → x.lt d = true, ex.length, ⟨0, _, rfl, by omega, rfl, hw5, by simpa using GroN.nil, fun k x hk => by omega⟩, ?_⟩
 ·rintro v8 n9 s10 ⟨left, hl, hw10, g⟩
  simp only [List.cons.injEq, AV.int.injEq, true_and, and_true] at hl
  obtain ⟨rfl, rfl⟩ := hl
  have hpl := pos_le ex d
  refine ⟨_, (F1.own.ext (e5.trans g.chg.ext)).at.rdc (by simp [dotC]), GroN.append1 sl_s_Dot dotC_len dotC_one hw10 g (by simp) d (by rw [List.length_take]; omega) fun v15 s16 g16 hw16 _ => ?_⟩
  have E16 := E5.trans g16.chg.ext
  obtain ⟨v20, k1, k2⟩ := (h4.ext E16).from dotC_len u_s_Dot z_Dot h5 hpl .i64
  refine ⟨w, hq16 _ E16, v20, k1, GroN.appendS sl_s_Dot dotC_len dotC_one hw16 g16 (by simp) k2 (by simp; omega) u_s_Dot fun v21 s22 g22 hw22 _ => ?_⟩
  have E22 := E5.trans g22.chg.ext
  have hins : ex.take (pos ex d) ++ [d] ++ ex.drop (pos ex d) = ins ex d := by simp [ins]
  rw [hins] at g22
  refine qstore_one g22.isSlc.2 z_s_Dot (StQ.own hw22 (h2.ext E22) (by rw [ref_set_lenT h1]; simp) fun s25 P => ?_)
  have hP := P.at
  rw [wrs_one, List.set_append_right _ _ (by simp [h1])] at hP
  simp only [List.length_map, h1, Nat.zero_add, Nat.sub_self, List.set_cons_zero] at hP
  have hsp : ∀ x ∈ [q], s5.h x ≠ none := by
   intro x hx; obtain rfl : x = q := by simpa using hx
   rw [h2.ext E5]; simp
  have hnq : ∀ x ∈ labOf v21, x ∉ [q] := fun x hx hm => hsp x hm (g22.new x hx)
  have c25 : RefT s25 q t v (ins ex d) := ⟨h1, hnt, v21, hP, g22.isSlc.2, g22.isSlc.1, (g22.gro.mut P.mut hnq).sl dotC_len⟩
  have hmi : ∀ x ∈ ins ex d, x.may = true := by
   intro x hx
   rcases mem_ins.1 hx with rfl | hx
   ·exact hd
   ·exact hm x hx
  refine (ref_compact_T c25 hv hmi (by rw [ins_len]; omega)).mono ?_
  rintro r s27 ⟨rfl, c27, m27⟩
  refine ⟨rfl, by simp [hh], E22.mut.trans (P.mut.trans m27), (fun h => absurd h (by simp [hh])), fun _ => c27.back fun x hx => ?_⟩
  by_cases hxq : x = q
  ·subst hxq; rw [P.at]; simp
  ·rw [P.eq x hxq]
   intro hn
   cases hq : s.h x with
   | none => exact hx hq
   | some o => rw [E22.1 _ _ hq] at hn; cases hn
 ·rintro m left n s33 ⟨i, left', hi, h6, rfl, hw33, g, hlt⟩
  simp only [List.cons.injEq, AV.int.injEq, true_and, and_true] at hi
  obtain ⟨rfl, rfl⟩ := hi
  have E33 := E5.trans g.chg.ext
  refine ⟨w, hq16 _ E33, _, h4.lenB u_s_Dot _, bsplit.dec (fun hl => ?_) (fun hge => ?_)⟩
  ·obtain ⟨x, hx⟩ := get_lt (l := ex) (i := i) (by omega)
   obtain ⟨la, o, h8, h9⟩ := (h4.ext E33).ix (by decide) dotC_len u_s_Dot z_Dot hx
   refine ⟨w, hq16 _ E33, la, o, h8 _, _, (h9 _ (Ext.refl _)).2, _, (F1.own.ext (e5.trans g.chg.ext)).at.rdc (by simp [dotC]), ?_⟩
   refine ACalls.use (ref04iLess_ok x d _) ?_
   rintro r s46 ⟨rfl, e46⟩ hw46
   refine ⟨_, rfl, bsplit.mk (fun hb => ?_) (fun hb => ?_)⟩
   ·have ht : ex.take (i + 1) = ex.take i ++ [x] := by rw [List.take_add_one, hx]; rfl
    refine ⟨w, hq16 _ (E33.trans e46), la, o, h8 _, _, (h9 _ e46).2, GroN.append1 sl_s_Dot dotC_len dotC_one hw46 (g.step e46) (by simp) x (by rw [List.length_take]; omega) fun v' s' g' hw' _ => ?_⟩
    refine ⟨ex.length - (i + 1), by omega, i + 1, v', by rw [wrap_i (by omega)]; rfl, by omega, rfl, hw', by rw [ht]; exact g', fun k y hk hy => ?_⟩
    rcases Nat.lt_or_ge k i with h | h
    ·exact hlt k y h hy
    ·obtain rfl : k = i := by omega
     rw [hx] at hy; obtain rfl := Option.some.inj hy; exact hb
   ·have hp : pos ex d = i := pos_eq h6 hlt fun y hy => by rw [hx] at hy; obtain rfl := Option.some.inj hy; exact hb
    exact ⟨left, by rw [hp], hw46, by rw [hp]; exact g.step e46⟩
  ·have hp : pos ex d = i := pos_eq h6 hlt fun y hy => by rw [List.getElem?_eq_none (by omega)] at hy; cases hy
   exact ⟨left, by rw [hp], hw33, by rw [hp]; exact g⟩
end Go.Proofs.YtoklmpkpeanloaaGreat
end

section
set_option maxRecDepth 100000
set_option maxHeartbeats 4000000
namespace Go.Proofs.YtoklmpkpeanloaaGreat
open Go.Am
def Q_orset_New  (s : AS) (R : AV → AS → Prop) : Prop :=
 ACalls Tryz.prog F_ctx_New [] s fun v1 s2 => ∃ p3 : Option (Nat × Nat), v1 = .ptr p3 ∧ (NewQ (.map [] 0 false) s2 fun l4 s5 => NewQ (.map [] 0 false) s5 fun l6 s7 => RdG (abuild T Y_orset_Set [(0, (.ptr p3)), (1, (.map (some l4))), (2, (.map (some l6)))]) fun g8 => One1 g8 (NewQ (.cells g8 0 false) s7 fun l9 s10 => R (.ptr (some (l9, 0))) s10))
def A_orset_New : QA := (.seq .leaf (.seq .leaf .leaf))
theorem q_orset_New  (s : AS) (R : AV → AS → Prop) (h : Q_orset_New  s R) : ACalls Tryz.prog F_orset_New [] s R :=
 ACalls.q (n := 6) (rs := [.tmp 0]) (A := A_orset_New) hT hmx Tryz.func15 (by kernel_rfl) rfl rfl rfl (by kernel_rfl) (by kernel_rfl) h
def Q_orset_Set_See (a0 : Option (Nat × Nat)) (a1 : AV) (s : AS) (R : AV → AS → Prop) : Prop :=
 ACalls Tryz.prog F_orset_Set_there [(.ptr a0)] s fun v1 s2 => ∃ b3 : Bool, v1 = .bool b3 ∧ (bsplit (!b3)
 (R (.tup [(.bool false), (.int .i64 1)]) s2)
 (ACalls Tryz.prog F_slices_ContainsFunc__s_Item_Item [a1, (.func F_orset_Set_See_1 [])] s2 fun v4 s5 => ∃ b6 : Bool, v4 = .bool b6 ∧ (bsplit b6
 (R (.tup [(.bool false), (.int .i64 2)]) s5)
 (ACalls Tryz.prog F_orset_Set_Copy [(.ptr a0)] s5 fun v7 s8 => ∃ p9 : Option (Nat × Nat), v7 = .ptr p9 ∧ (JoinQ fun J10 =>
 (∀ b11 : Bool, ∀ s12 : AS, J10 [(.bool b11)] s12 →
 JoinQ fun J13 =>
 (∀ b14 : Bool, ∀ s15 : AS, J13 [(.bool b14)] s15 →
 bsplit b14
 (R (.tup [(.bool false), (.int .i64 5)]) s15)
 (AsSome p9 fun l16 o17 => RdL (rdc s15 l16 o17 3) fun g18 => AsSome a0 fun l19 o20 => OkC (some 3) g18 (StQ (awr s15 l19 o20 g18) fun s21 => R (.tup [(.bool b11), (.int .i64 0)]) s21))) ∧
 (AsSome p9 fun l22 o23 => RdM (rd1 s12 l22 (o23 + 1)) fun r24 => RdI .i64 (alenB T Y_m_Dot_Key (.map r24) s12) fun n25 => bsplit (decide ((n25 : Int) > 1024)) (J13 [(.bool true)] s12) (AsSome p9 fun l26 o27 => RdM (rd1 s12 l26 (o27 + 1)) fun r28 => RdI .i64 (alenB T Y_m_Dot_Key (.map r28) s12) fun n29 => AsSome p9 fun l30 o31 => RdM (rd1 s12 l30 (o31 + 2)) fun r32 => RdI .i64 (alenB T Y_m_Dot_struct__is_bool__ (.map r32) s12) fun n33 => J13 [(.bool (decide ((IntKind.wrap .i64 (n29 + n33) : Int) > 4096)))] s12))) ∧
 (RdI .i64 (alenB T Y_s_Item a1 s8) fun n34 => LoopQ fun I35 m36 => I35 m36 [(.bool false), (.int .i64 0)] s8 ∧
 ∀ m37 : Nat, ∀ b38 : Bool, ∀ n39 : Int, ∀ s40 : AS, I35 m37 [(.bool b38), (.int .i64 n39)] s40 →
 bsplit (decide ((n39 : Int) < n34))
 (IxQ (aindexAddr T Y_s_Item a1 (.int .i64 n39)) fun l41 o42 => RdL (rdc s40 l41 o42 5) fun g43 => NewQ (.cells [.int .i64 0, .int .u64 0, .str [], .str [], .bool false] 0 false) s40 fun l44 s45 => OkC (some 5) g43 (StQ (awr s45 l44 0 g43) fun s46 => RdL (rdc s46 l44 0 5) fun g47 => ACalls Tryz.prog F_orset_Set_see [(.ptr p9), (.agg g47)] s46 fun v48 s49 => ∃ b50 : Bool, ∃ n51 : Int, v48 = .tup [(.bool b50), (.int .i64 n51)] ∧ (bsplit ((n51 : Int) != 0)
 (R (.tup [(.bool false), (.int .i64 n51)]) s49)
 (bsplit b38 (∃ m', m' < m37 ∧ I35 m' [(.bool true), (.int .i64 (IntKind.wrap .i64 (n39 + 1)))] s49) (∃ m', m' < m37 ∧ I35 m' [(.bool b50), (.int .i64 (IntKind.wrap .i64 (n39 + 1)))] s49)))))
 (J10 [(.bool b38)] s40)))))))
def A_orset_Set_See : QA := (.seq .leaf (.seq (.seq .leaf (.cond (.seq .leaf .leaf) .leaf)) (.seq (.seq .leaf (.cond (.seq .leaf .leaf) .leaf)) (.seq .leaf (.seq .leaf (.join [(7, .bool)] [(4, 5), (7, 7), (9, 11), (19, 38)] (.seq .leaf (.wrap (.loop [(7, .bool), (21, .int .i64)] [(4, 5), (7, 7), (9, 11), (21, 38)] (.seq .leaf (.seq (.cond .leaf .leaf) (.seq (.wrap (.seq .leaf (.seq .leaf (.seq (.seq .leaf (.cond (.seq .leaf .leaf) .leaf)) .leaf)))) .leaf)))))) (.seq (.join [(58, .bool)] [(39, 58)] (.draw 16) (.cond (.seq .leaf .leaf) .leaf)) (.seq .leaf (.seq .leaf .leaf)))))))))
theorem q_orset_Set_See (a0 : Option (Nat × Nat)) (a1 : AV) (s : AS) (R : AV → AS → Prop) (h : Q_orset_Set_See a0 a1 s R) : ACalls Tryz.prog F_orset_Set_See [(.ptr a0), a1] s R :=
 ACalls.q (n := 65) (rs := [.tmp 4, .tmp 5]) (A := A_orset_Set_See) hT hmx Tryz.func16 (by kernel_rfl) rfl rfl rfl (by kernel_rfl) (by kernel_rfl) h
def Q_orset_Set_Ctx (a0 : Option (Nat × Nat)) (s : AS) (R : AV → AS → Prop) : Prop :=
 ACalls Tryz.prog F_orset_Set_there [(.ptr a0)] s fun v1 s2 => ∃ b3 : Bool, v1 = .bool b3 ∧ (bsplit (!b3)
 (R (.ptr none) s2)
 (AsSome a0 fun l4 o5 => RdP (rd1 s2 l4 o5) fun p6 => ACalls Tryz.prog F_ctx_Ctx_Copy [(.ptr p6)] s2 fun v7 s8 => ∃ p9 : Option (Nat × Nat), v7 = .ptr p9 ∧ (R (.ptr p9) s8)))
def A_orset_Set_Ctx : QA := (.seq .leaf (.seq (.seq .leaf (.cond (.seq .leaf .leaf) .leaf)) (.seq .leaf .leaf)))
theorem q_orset_Set_Ctx (a0 : Option (Nat × Nat)) (s : AS) (R : AV → AS → Prop) (h : Q_orset_Set_Ctx a0 s R) : ACalls Tryz.prog F_orset_Set_Ctx [(.ptr a0)] s R :=
 ACalls.q (n := 11) (rs := [.tmp 2]) (A := A_orset_Set_Ctx) hT hmx Tryz.func18 (by kernel_rfl) rfl rfl rfl (by kernel_rfl) (by kernel_rfl) h
def Q_orset_Set_Items (a0 : Option (Nat × Nat)) (s : AS) (R : AV → AS → Prop) : Prop :=
 ACalls Tryz.prog F_orset_Set_there [(.ptr a0)] s fun v1 s2 => ∃ b3 : Bool, v1 = .bool b3 ∧ (bsplit (!b3)
 (R (.slc none 0 0 true) s2)
 (JoinQ fun J4 =>
 (∀ v5 : AV, ∀ s6 : AS, J4 [v5] s6 →
 ACalls Tryz.prog F_orset_Set_Tombs [(.ptr a0)] s6 fun v7 s8 => ACalls Tryz.prog F_orset_gone [v7] s8 fun v9 s10 => Bd2 (aappend T Y_s_Item Y_s_Item v5 v9 s10) fun v11 s12 => ACalls Tryz.prog F_slices_SortFunc__s_Item_Item [v11, (.func F_orset_Set_Items_1 [])] s12 fun v13 s14 => v13 = .tup [] ∧ (R v11 s14)) ∧
 (AsSome a0 fun l15 o16 => RdM (rd1 s2 l15 (o16 + 1)) fun r17 => Bd2 (arange T Y_m_Dot_Key (.map r17) s2) fun v18 s19 => LoopQ fun I20 m21 => I20 m21 [(.slc none 0 0 true)] s19 ∧
 ∀ m22 : Nat, ∀ v23 : AV, ∀ s24 : AS, I20 m22 [v23] s24 →
 JoinQ fun J25 =>
 (∀ b26 : Bool, ∀ s27 : AS, J25 [(.bool b26)] s27 →
 bsplit b26
 (RdE (aentry v18 s27) fun v28 v29 => ∃ g30 : List AV, v28 = .agg g30 ∧ (∃ g31 : List AV, v29 = .agg g31 ∧ (NewQ (.cells [.int .i64 0, .int .u64 0] 0 false) s27 fun l32 s33 => NewQ (.cells [.str [], .str []] 0 false) s33 fun l34 s35 => OkC (some 2) g30 (StQ (awr s35 l32 0 g30) fun s36 => OkC (some 2) g31 (StQ (awr s36 l34 0 g31) fun s37 => RdL (rdc s37 l32 0 2) fun g38 => RdL (rdc s37 l34 0 2) fun g39 => RdG (abuild T Y_Item [(0, (.agg g38)), (1, (.agg g39))]) fun g40 => RdL (absl T Y_s_Item 1 [(0, (.agg g40))]) fun g41 => NewQ (.cells g41 0 false) s37 fun l42 s43 => Bd2 (aappend T Y_s_Item Y_s_Item v23 (.slc (some (l42, 0)) 1 1 true) s43) fun v44 s45 => ∃ m', m' < m22 ∧ I20 m' [v44] s45)))))
 (J4 [v23] s27)) ∧
 (NextP (acandM v18 s24)
 (J25 [(.bool false)] s24)
 fun v46 v47 s48 => J25 [(.bool true)] s48))))
def A_orset_Set_Items : QA := (.seq .leaf (.seq (.seq .leaf (.cond (.seq .leaf .leaf) .leaf)) (.seq .leaf (.join [(3, .any)] [(3, 5), (9, 24)] (.seq .leaf (.wrap (.loop [(3, .any)] [(3, 5), (14, 24)] (.join [(15, .bool)] [(14, 15)] .leaf (.seq (.cond .leaf .leaf) (.wrap (.seq .leaf .leaf))))))) (.seq .leaf (.seq .leaf (.seq .leaf .leaf)))))))
theorem q_orset_Set_Items (a0 : Option (Nat × Nat)) (s : AS) (R : AV → AS → Prop) (h : Q_orset_Set_Items a0 s R) : ACalls Tryz.prog F_orset_Set_Items [(.ptr a0)] s R :=
 ACalls.q (n := 33) (rs := [.tmp 2]) (A := A_orset_Set_Items) hT hmx Tryz.func41 (by kernel_rfl) rfl rfl rfl (by kernel_rfl) (by kernel_rfl) h
def Q_orset_Set_there (a0 : Option (Nat × Nat)) (s : AS) (R : AV → AS → Prop) : Prop :=
 RdO (aeq T 100 Y_p_orset_Set (.ptr a0) (.ptr none)) fun b1 => bsplit (!b1) (AsSome a0 fun l2 o3 => RdP (rd1 s l2 o3) fun p4 => RdO (aeq T 100 Y_p_ctx_Ctx (.ptr p4) (.ptr none)) fun b5 => R (.bool (!b5)) s) (R (.bool false) s)
def A_orset_Set_there : QA := (.seq .leaf (.seq .leaf .leaf))
theorem q_orset_Set_there (a0 : Option (Nat × Nat)) (s : AS) (R : AV → AS → Prop) (h : Q_orset_Set_there a0 s R) : ACalls Tryz.prog F_orset_Set_there [(.ptr a0)] s R :=
 ACalls.q (n := 12) (rs := [.tmp 2]) (A := A_orset_Set_there) hT hmx Tryz.func61 (by kernel_rfl) rfl rfl rfl (by kernel_rfl) (by kernel_rfl) h
def Q_slices_SortedFunc__Dot (a0 : AV) (a1 : AV) (s : AS) (R : AV → AS → Prop) : Prop :=
 ACalls Tryz.prog F_slices_Collect__Dot [a0] s fun v1 s2 => ACalls Tryz.prog F_slices_SortFunc__s_Dot_Dot [v1, a1] s2 fun v3 s4 => v3 = .tup [] ∧ (R v1 s4)
def A_slices_SortedFunc__Dot : QA := (.seq .leaf (.seq .leaf (.seq .leaf (.seq .leaf .leaf))))
theorem q_slices_SortedFunc__Dot (a0 : AV) (a1 : AV) (s : AS) (R : AV → AS → Prop) (h : Q_slices_SortedFunc__Dot a0 a1 s R) : ACalls Tryz.prog F_slices_SortedFunc__Dot [a0, a1] s R :=
 ACalls.q (n := 12) (rs := [.tmp 4]) (A := A_slices_SortedFunc__Dot) hT hmx Tryz.func85 (by kernel_rfl) rfl rfl rfl (by kernel_rfl) (by kernel_rfl) h
def Q_maps_Keys__m_Dot_struct_is_bool__Dot_struct_is_bool (a0 : Option Nat) (s : AS) (R : AV → AS → Prop) : Prop :=
 NewQ (.cells [(.map a0)] 0 false) s fun l1 s2 => R (.func F_maps_Keys__m_Dot_struct_is_bool__Dot_struct_is_bool__1 [(.ptr (some (l1, 0)))]) s2
def A_maps_Keys__m_Dot_struct_is_bool__Dot_struct_is_bool : QA := (.seq .leaf (.seq .leaf .leaf))
theorem q_maps_Keys__m_Dot_struct_is_bool__Dot_struct_is_bool (a0 : Option Nat) (s : AS) (R : AV → AS → Prop) (h : Q_maps_Keys__m_Dot_struct_is_bool__Dot_struct_is_bool a0 s R) : ACalls Tryz.prog F_maps_Keys__m_Dot_struct_is_bool__Dot_struct_is_bool [(.map a0)] s R :=
 ACalls.q (n := 4) (rs := [.tmp 2]) (A := A_maps_Keys__m_Dot_struct_is_bool__Dot_struct_is_bool) hT hmx Tryz.func86 (by kernel_rfl) rfl rfl rfl (by kernel_rfl) (by kernel_rfl) h
def Q_orset_MayKey (a0 : List AV) (s : AS) (R : AV → AS → Prop) : Prop :=
 One1 a0 (NewQ (.cells a0 0 false) s fun l1 s2 => RdS (rd1 s2 l1 0) fun x3 => ACalls Tryz.prog F_orset_name [(.str x3)] s2 fun v4 s5 => ∃ b6 : Bool, v4 = .bool b6 ∧ (bsplit b6 (RdS (rd1 s5 l1 1) fun x7 => ACalls Tryz.prog F_orset_name [(.str x7)] s5 fun v8 s9 => ∃ b10 : Bool, v8 = .bool b10 ∧ (R (.bool b10) s9)) (R (.bool false) s5)))
def A_orset_MayKey : QA := (.seq .leaf (.seq .leaf .leaf))
theorem q_orset_MayKey (a0 : List AV) (s : AS) (R : AV → AS → Prop) (h : Q_orset_MayKey a0 s R) : ACalls Tryz.prog F_orset_MayKey [(.agg a0)] s R :=
 ACalls.q (n := 11) (rs := [.tmp 2]) (A := A_orset_MayKey) hT hmx Tryz.func28 (by kernel_rfl) rfl rfl rfl (by kernel_rfl) (by kernel_rfl) h
def Q_orset_gone (a0 : AV) (s : AS) (R : AV → AS → Prop) : Prop :=
 RdI .i64 (alenB T Y_s_Dot a0 s) fun n1 => LoopQ fun I2 m3 => I2 m3 [(.slc none 0 0 true), (.int .i64 0)] s ∧
 ∀ m4 : Nat, ∀ v5 : AV, ∀ n6 : Int, ∀ s7 : AS, I2 m4 [v5, (.int .i64 n6)] s7 →
 bsplit (decide ((n6 : Int) < n1))
 (IxQ (aindexAddr T Y_s_Dot a0 (.int .i64 n6)) fun l8 o9 => RdL (rdc s7 l8 o9 2) fun g10 => NewQ (.cells [.int .i64 0, .int .u64 0] 0 false) s7 fun l11 s12 => OkC (some 2) g10 (StQ (awr s12 l11 0 g10) fun s13 => RdL (rdc s13 l11 0 2) fun g14 => RdG (abuild T Y_Item [(0, (.agg g14)), (2, (.bool true))]) fun g15 => RdL (absl T Y_s_Item 1 [(0, (.agg g15))]) fun g16 => NewQ (.cells g16 0 false) s13 fun l17 s18 => Bd2 (aappend T Y_s_Item Y_s_Item v5 (.slc (some (l17, 0)) 1 1 true) s18) fun v19 s20 => ∃ m', m' < m4 ∧ I2 m' [v19, (.int .i64 (IntKind.wrap .i64 (n6 + 1)))] s20))
 (R v5 s7)
def A_orset_gone : QA := (.seq .leaf (.seq .leaf (.seq (.seq .leaf (.wrap (.loop [(3, .any), (8, .int .i64)] [(3, 3), (5, 5), (8, 17)] (.seq .leaf (.seq (.cond .leaf .leaf) (.seq (.wrap (.seq .leaf .leaf)) .leaf)))))) (.seq .leaf .leaf))))
theorem q_orset_gone (a0 : AV) (s : AS) (R : AV → AS → Prop) (h : Q_orset_gone a0 s R) : ACalls Tryz.prog F_orset_gone [a0] s R :=
 ACalls.q (n := 19) (rs := [.tmp 2]) (A := A_orset_gone) hT hmx Tryz.func92 (by kernel_rfl) rfl rfl rfl (by kernel_rfl) (by kernel_rfl) h
def Q_slices_ContainsFunc__s_Item_Item (a0 : AV) (a1 : AV) (s : AS) (R : AV → AS → Prop) : Prop :=
 ACalls Tryz.prog F_slices_IndexFunc__s_Item_Item [a0, a1] s fun v1 s2 => ∃ n3 : Int, v1 = .int .i64 n3 ∧ (R (.bool (decide ((n3 : Int) ≥ 0))) s2)
def A_slices_ContainsFunc__s_Item_Item : QA := (.seq .leaf (.seq .leaf .leaf))
theorem q_slices_ContainsFunc__s_Item_Item (a0 : AV) (a1 : AV) (s : AS) (R : AV → AS → Prop) (h : Q_slices_ContainsFunc__s_Item_Item a0 a1 s R) : ACalls Tryz.prog F_slices_ContainsFunc__s_Item_Item [a0, a1] s R :=
 ACalls.q (n := 9) (rs := [.tmp 4]) (A := A_slices_ContainsFunc__s_Item_Item) hT hmx Tryz.func62 (by kernel_rfl) rfl rfl rfl (by kernel_rfl) (by kernel_rfl) h
def Q_orset_Set_See_1 (a0 : List AV) (s : AS) (R : AV → AS → Prop) : Prop :=
 One1 a0 (NewQ (.cells a0 0 false) s fun l1 s2 => RdL (rdc s2 l1 0 5) fun g3 => ACalls Tryz.prog F_orset_May [(.agg g3)] s2 fun v4 s5 => ∃ b6 : Bool, v4 = .bool b6 ∧ (R (.bool (!b6)) s5))
def A_orset_Set_See_1 : QA := (.seq .leaf (.seq .leaf .leaf))
theorem q_orset_Set_See_1 (a0 : List AV) (s : AS) (R : AV → AS → Prop) (h : Q_orset_Set_See_1 a0 s R) : ACalls Tryz.prog F_orset_Set_See_1 [(.agg a0)] s R :=
 ACalls.q (n := 6) (rs := [.tmp 2]) (A := A_orset_Set_See_1) hT hmx Tryz.func63 (by kernel_rfl) rfl rfl rfl (by kernel_rfl) (by kernel_rfl) h
def Q_orset_May (a0 : List AV) (s : AS) (R : AV → AS → Prop) : Prop :=
 One1 a0 (NewQ (.cells a0 0 false) s fun l1 s2 => RdB (rd1 s2 l1 4) fun b3 => bsplit b3
 (RdL (rdc s2 l1 0 2) fun g4 => ACalls Tryz.prog F_ctx_May [(.agg g4)] s2 fun v5 s6 => ∃ b7 : Bool, v5 = .bool b7 ∧ (bsplit b7 (RdL (rdc s6 l1 2 2) fun g8 => RdG (abuild T Y_Key []) fun g9 => RdO (aeq T 100 Y_Key (.agg g8) (.agg g9)) fun b10 => R (.bool b10) s6) (R (.bool false) s6)))
 (RdL (rdc s2 l1 0 2) fun g11 => ACalls Tryz.prog F_ctx_May [(.agg g11)] s2 fun v12 s13 => ∃ b14 : Bool, v12 = .bool b14 ∧ (bsplit b14 (RdL (rdc s13 l1 2 2) fun g15 => ACalls Tryz.prog F_orset_MayKey [(.agg g15)] s13 fun v16 s17 => ∃ b18 : Bool, v16 = .bool b18 ∧ (R (.bool b18) s17)) (R (.bool false) s13))))
def A_orset_May : QA := (.seq .leaf (.seq (.seq .leaf (.cond (.seq .leaf .leaf) .leaf)) (.seq .leaf .leaf)))
theorem q_orset_May (a0 : List AV) (s : AS) (R : AV → AS → Prop) (h : Q_orset_May a0 s R) : ACalls Tryz.prog F_orset_May [(.agg a0)] s R :=
 ACalls.q (n := 22) (rs := [.tmp 2]) (A := A_orset_May) hT hmx Tryz.func64 (by kernel_rfl) rfl rfl rfl (by kernel_rfl) (by kernel_rfl) h
def Q_orset_Set_Copy (a0 : Option (Nat × Nat)) (s : AS) (R : AV → AS → Prop) : Prop :=
 ACalls Tryz.prog F_orset_Set_there [(.ptr a0)] s fun v1 s2 => ∃ b3 : Bool, v1 = .bool b3 ∧ (bsplit (!b3)
 (R (.ptr none) s2)
 (DrawQ fun S V => AsSome a0 fun l4 o5 => RdP (rd1 s2 l4 o5) fun p6 => (∀ s7 : AS, Ext s2 s7 → WFs s7 → (True) → ACalls Tryz.prog F_ctx_Ctx_Copy [(.ptr p6)] s7 fun v8 s9 => ∃ p10 : Option (Nat × Nat), v8 = .ptr p10 ∧ ((Ext s7 s9 ∧ S 4 [(.func F_ctx_Ctx_Copy []), (.ptr p6)] (.ptr p10) s9 ∧ V 4 [(.func F_ctx_Ctx_Copy []), (.ptr p6)] (.ptr p10)))) ∧ (∃ v, V 4 [(.func F_ctx_Ctx_Copy []), (.ptr p6)] v) ∧ ∀ v11 : AV, V 4 [(.func F_ctx_Ctx_Copy []), (.ptr p6)] v11 → ∃ p12 : Option (Nat × Nat), v11 = .ptr p12 ∧ (AsSome a0 fun l13 o14 => RdM (rd1 s2 l13 (o14 + 1)) fun r15 => (∀ s16 : AS, Ext s2 s16 → WFs s16 → (S 4 [(.func F_ctx_Ctx_Copy []), (.ptr p6)] (.ptr p12) s16 ∧ True) → ACalls Tryz.prog F_maps_Clone__m_Dot_Key_Dot_Key [(.map r15)] s16 fun v17 s18 => ∃ r19 : Option Nat, v17 = .map r19 ∧ ((Ext s16 s18 ∧ S 9 [(.func F_maps_Clone__m_Dot_Key_Dot_Key []), (.map r15)] (.map r19) s18 ∧ V 9 [(.func F_maps_Clone__m_Dot_Key_Dot_Key []), (.map r15)] (.map r19)))) ∧ (∃ v, V 9 [(.func F_maps_Clone__m_Dot_Key_Dot_Key []), (.map r15)] v) ∧ ∀ v20 : AV, V 9 [(.func F_maps_Clone__m_Dot_Key_Dot_Key []), (.map r15)] v20 → ∃ r21 : Option Nat, v20 = .map r21 ∧ (AsSome a0 fun l22 o23 => RdM (rd1 s2 l22 (o23 + 2)) fun r24 => ∀ s25 : AS, Ext s2 s25 → WFs s25 → (S 4 [(.func F_ctx_Ctx_Copy []), (.ptr p6)] (.ptr p12) s25 ∧ (S 9 [(.func F_maps_Clone__m_Dot_Key_Dot_Key []), (.map r15)] (.map r21) s25 ∧ True)) → ACalls Tryz.prog F_maps_Clone__m_Dot_struct_is_bool__Dot_struct_is_bool [(.map r24)] s25 fun v27 s28 => ∃ r29 : Option Nat, v27 = .map r29 ∧ (RdG (abuild T Y_orset_Set [(0, (.ptr p12)), (1, (.map r21)), (2, (.map r29))]) fun g30 => One1 g30 (NewQ (.cells g30 0 false) s28 fun l31 s32 => R (.ptr (some (l31, 0))) s32))))))
def A_orset_Set_Copy : QA := (.seq .leaf (.seq (.seq .leaf (.cond (.seq .leaf .leaf) .leaf)) (.seq (.drawH 14 [[], [], [], [], [], [], [], [], [], [4], [], [], [], []] [4, 9]) .leaf)))
theorem q_orset_Set_Copy (a0 : Option (Nat × Nat)) (s : AS) (R : AV → AS → Prop) (h : Q_orset_Set_Copy a0 s R) : ACalls Tryz.prog F_orset_Set_Copy [(.ptr a0)] s R :=
 ACalls.q (n := 23) (rs := [.tmp 2]) (A := A_orset_Set_Copy) hT hmx Tryz.func40 (by kernel_rfl) rfl rfl rfl (by kernel_rfl) (by kernel_rfl) h
def Q_orset_Set_see (a0 : Option (Nat × Nat)) (a1 : List AV) (s : AS) (R : AV → AS → Prop) : Prop :=
 One1 a1 (NewQ (.cells a1 0 false) s fun l1 s2 => AsSome a0 fun l3 o4 => RdM (rd1 s2 l3 (o4 + 1)) fun r5 => RdL (rdc s2 l1 0 2) fun g6 => ∃ g7 : List AV, ∃ b8 : Bool, alookup T Y_m_Dot_Key (.map r5) (.agg g6) true s2 = some (.tup [(.agg g7), (.bool b8)]) ∧ (NewQ (.cells [.str [], .str []] 0 false) s2 fun l9 s10 => OkC (some 2) g7 (StQ (awr s10 l9 0 g7) fun s11 => JoinQ fun J12 =>
 (∀ b13 : Bool, ∀ s14 : AS, J12 [(.bool b13)] s14 →
 bsplit b13
 (AsSome a0 fun l15 o16 => RdM (rd1 s14 l15 (o16 + 1)) fun r17 => RdL (rdc s14 l1 0 2) fun g18 => StQ (adelete T Y_m_Dot_Key (.map r17) (.agg g18) s14) fun s19 => AsSome a0 fun l20 o21 => RdM (rd1 s19 l20 (o21 + 2)) fun r22 => RdL (rdc s19 l1 0 2) fun g23 => RdG (abuild T Y_struct__is_bool__ [(0, (.bool true))]) fun g24 => StQ (amapUpdate T Y_m_Dot_struct__is_bool__ (.map r22) (.agg g23) (.agg g24) s19) fun s25 => R (.tup [(.bool true), (.int .i64 0)]) s25)
 (AsSome a0 fun l26 o27 => RdP (rd1 s14 l26 o27) fun p28 => RdL (rdc s14 l1 0 2) fun g29 => ACalls Tryz.prog F_ctx_Ctx_Add [(.ptr p28), (.agg g29)] s14 fun v30 s31 => ∃ b32 : Bool, ∃ n33 : Int, v30 = .tup [(.bool b32), (.int .i64 n33)] ∧ (JoinQ fun J34 =>
 (∀ b35 : Bool, ∀ s36 : AS, J34 [(.bool b35)] s36 →
 bsplit b35
 (R (.tup [(.bool false), (.int .i64 n33)]) s36)
 (RdB (rd1 s36 l1 4) fun b37 => bsplit b37
 (AsSome a0 fun l38 o39 => RdM (rd1 s36 l38 (o39 + 2)) fun r40 => RdL (rdc s36 l1 0 2) fun g41 => RdG (abuild T Y_struct__is_bool__ [(0, (.bool true))]) fun g42 => StQ (amapUpdate T Y_m_Dot_struct__is_bool__ (.map r40) (.agg g41) (.agg g42) s36) fun s43 => R (.tup [(.bool true), (.int .i64 0)]) s43)
 (AsSome a0 fun l44 o45 => RdM (rd1 s36 l44 (o45 + 1)) fun r46 => RdL (rdc s36 l1 0 2) fun g47 => RdL (rdc s36 l1 2 2) fun g48 => StQ (amapUpdate T Y_m_Dot_Key (.map r46) (.agg g47) (.agg g48) s36) fun s49 => R (.tup [(.bool true), (.int .i64 0)]) s49))) ∧
 (bsplit ((n33 : Int) != 0) (J34 [(.bool true)] s31) (J34 [(.bool (!b32))] s31))))) ∧
 (bsplit b8 (RdB (rd1 s11 l1 4) fun b50 => J12 [(.bool b50)] s11) (J12 [(.bool false)] s11)))))
def A_orset_Set_see : QA := (.seq .leaf (.seq .calm (.seq (.join [(24, .bool)] [(20, 24)] .leaf (.cond (.seq (.draw 6) (.seq (.draw 7) (.seq .leaf .leaf))) .leaf)) (.seq .calm (.seq (.wrap (.join [(56, .bool)] [(56, 62)] .leaf (.cond (.seq .leaf .leaf) (.seq .leaf (.cond (.draw 7) (.draw 8)))))) (.seq .leaf .leaf))))))
theorem q_orset_Set_see (a0 : Option (Nat × Nat)) (a1 : List AV) (s : AS) (R : AV → AS → Prop) (h : Q_orset_Set_see a0 a1 s R) : ACalls Tryz.prog F_orset_Set_see [(.ptr a0), (.agg a1)] s R :=
 ACalls.q (n := 74) (rs := [.tmp 4, .tmp 5]) (A := A_orset_Set_see) hT hmx Tryz.func65 (by kernel_rfl) rfl rfl rfl (by kernel_rfl) (by kernel_rfl) h
def Q_orset_Set_Keys_1 (a0 : List AV) (a1 : List AV) (s : AS) (R : AV → AS → Prop) : Prop :=
 One1 a0 (NewQ (.cells a0 0 false) s fun l1 s2 => One1 a1 (NewQ (.cells a1 0 false) s2 fun l3 s4 => DrawQ fun S V => RdS (rd1 s4 l1 0) fun x5 => RdS (rd1 s4 l3 0) fun x6 => (∀ s7 : AS, Ext s4 s7 → WFs s7 → (True) → ACalls Tryz.prog F_cmp_Compare__string [(.str x5), (.str x6)] s7 fun v8 s9 => ∃ n10 : Int, v8 = .int .i64 n10 ∧ ((Ext s7 s9 ∧ S 4 [(.func F_cmp_Compare__string []), (.str x5), (.str x6)] (.int .i64 n10) s9 ∧ V 4 [(.func F_cmp_Compare__string []), (.str x5), (.str x6)] (.int .i64 n10)))) ∧ (∃ v, V 4 [(.func F_cmp_Compare__string []), (.str x5), (.str x6)] v) ∧ ∀ v11 : AV, V 4 [(.func F_cmp_Compare__string []), (.str x5), (.str x6)] v11 → ∃ n12 : Int, v11 = .int .i64 n12 ∧ (RdS (rd1 s4 l1 1) fun x13 => RdS (rd1 s4 l3 1) fun x14 => ∀ s15 : AS, Ext s4 s15 → WFs s15 → (S 4 [(.func F_cmp_Compare__string []), (.str x5), (.str x6)] (.int .i64 n12) s15 ∧ True) → ACalls Tryz.prog F_cmp_Compare__string [(.str x13), (.str x14)] s15 fun v17 s18 => ∃ n19 : Int, v17 = .int .i64 n19 ∧ (RdL (absl T Y_s_int 2 [(0, (.int .i64 n12)), (1, (.int .i64 n19))]) fun g20 => NewQ (.cells g20 0 false) s18 fun l21 s22 => ACalls Tryz.prog F_cmp_Or__int [(.slc (some (l21, 0)) 2 2 true)] s22 fun v23 s24 => ∃ n25 : Int, v23 = .int .i64 n25 ∧ (R (.int .i64 n25) s24)))))
def A_orset_Set_Keys_1 : QA := (.seq .leaf (.seq (.drawH 9 [[], [], [], [], [], [], [], [], []] [4]) .leaf))
theorem q_orset_Set_Keys_1 (a0 : List AV) (a1 : List AV) (s : AS) (R : AV → AS → Prop) (h : Q_orset_Set_Keys_1 a0 a1 s R) : ACalls Tryz.prog F_orset_Set_Keys_1 [(.agg a0), (.agg a1)] s R :=
 ACalls.q (n := 17) (rs := [.tmp 4]) (A := A_orset_Set_Keys_1) hT hmx Tryz.func72 (by kernel_rfl) rfl rfl rfl (by kernel_rfl) (by kernel_rfl) h
def Q_cmp_Compare__string (a0 : List UInt8) (a1 : List UInt8) (s : AS) (R : AV → AS → Prop) : Prop :=
 ACalls Tryz.prog F_cmp_isNaN__string [(.str a0)] s fun v1 s2 => ∃ b3 : Bool, v1 = .bool b3 ∧ (ACalls Tryz.prog F_cmp_isNaN__string [(.str a1)] s2 fun v4 s5 => ∃ b6 : Bool, v4 = .bool b6 ∧ (bsplit b3
 (bsplit b6
 (R (.int .i64 0) s5)
 (R (.int .i64 (-1)) s5))
 (bsplit b6
 (R (.int .i64 1) s5)
 (bsplit (bytesLt a0 a1)
 (R (.int .i64 (-1)) s5)
 (bsplit (!(bytesLt a0 a1 || (a0 : List UInt8) == a1))
 (R (.int .i64 1) s5)
 (R (.int .i64 0) s5))))))
def A_cmp_Compare__string : QA := (.seq .leaf (.seq .leaf (.seq .leaf (.seq (.seq .leaf (.cond (.seq (.seq .leaf (.cond (.seq .leaf .leaf) .leaf)) (.seq .leaf .leaf)) .leaf)) (.seq (.seq .leaf (.cond (.seq .leaf .leaf) .leaf)) (.seq (.seq .leaf (.cond (.seq .leaf .leaf) .leaf)) (.seq (.seq .leaf (.cond (.seq .leaf .leaf) .leaf)) (.seq .leaf .leaf))))))))
theorem q_cmp_Compare__string (a0 : List UInt8) (a1 : List UInt8) (s : AS) (R : AV → AS → Prop) (h : Q_cmp_Compare__string a0 a1 s R) : ACalls Tryz.prog F_cmp_Compare__string [(.str a0), (.str a1)] s R :=
 ACalls.q (n := 20) (rs := [.tmp 4]) (A := A_cmp_Compare__string) hT hmx Tryz.func74 (by kernel_rfl) rfl rfl rfl (by kernel_rfl) (by kernel_rfl) h
def Q_slices_IndexFunc__s_Item_Item (a0 : AV) (a1 : AV) (s : AS) (R : AV → AS → Prop) : Prop :=
 RdI .i64 (alenB T Y_s_Item a0 s) fun n1 => LoopQ fun I2 m3 => I2 m3 [(.int .i64 0)] s ∧
 ∀ m4 : Nat, ∀ n5 : Int, ∀ s6 : AS, I2 m4 [(.int .i64 n5)] s6 →
 bsplit (decide ((n5 : Int) < n1))
 (IxQ (aindexAddr T Y_s_Item a0 (.int .i64 n5)) fun l7 o8 => RdL (rdc s6 l7 o8 5) fun g9 => ACallV Tryz.prog a1 [(.agg g9)] s6 fun v10 s11 => ∃ b12 : Bool, v10 = .bool b12 ∧ (bsplit b12
 (R (.int .i64 n5) s11)
 (∃ m', m' < m4 ∧ I2 m' [(.int .i64 (IntKind.wrap .i64 (n5 + 1)))] s11)))
 (R (.int .i64 (-1)) s6)
def A_slices_IndexFunc__s_Item_Item : QA := (.seq .leaf (.seq (.seq .leaf (.wrap (.loop [(8, .int .i64)] [(4, 5), (8, 18)] (.seq .leaf (.seq (.cond .leaf .leaf) (.seq (.wrap (.seq .leaf (.seq .leaf (.cond (.seq .leaf .leaf) .leaf)))) .leaf)))))) (.seq .leaf .leaf)))
theorem q_slices_IndexFunc__s_Item_Item (a0 : AV) (a1 : AV) (s : AS) (R : AV → AS → Prop) (h : Q_slices_IndexFunc__s_Item_Item a0 a1 s R) : ACalls Tryz.prog F_slices_IndexFunc__s_Item_Item [a0, a1] s R :=
 ACalls.q (n := 19) (rs := [.tmp 4]) (A := A_slices_IndexFunc__s_Item_Item) hT hmx Tryz.func134 (by kernel_rfl) rfl rfl rfl (by kernel_rfl) (by kernel_rfl) h
def Q_orset_Set_Items_1 (a0 : List AV) (a1 : List AV) (s : AS) (R : AV → AS → Prop) : Prop :=
 One1 a0 (NewQ (.cells a0 0 false) s fun l1 s2 => One1 a1 (NewQ (.cells a1 0 false) s2 fun l3 s4 => RdL (rdc s4 l1 0 2) fun g5 => RdL (rdc s4 l3 0 2) fun g6 => ACalls Tryz.prog F_orset_order [(.agg g5), (.agg g6)] s4 fun v7 s8 => ∃ n9 : Int, v7 = .int .i64 n9 ∧ (R (.int .i64 n9) s8)))
def A_orset_Set_Items_1 : QA := (.seq .leaf (.seq .leaf .leaf))
theorem q_orset_Set_Items_1 (a0 : List AV) (a1 : List AV) (s : AS) (R : AV → AS → Prop) (h : Q_orset_Set_Items_1 a0 a1 s R) : ACalls Tryz.prog F_orset_Set_Items_1 [(.agg a0), (.agg a1)] s R :=
 ACalls.q (n := 10) (rs := [.tmp 4]) (A := A_orset_Set_Items_1) hT hmx Tryz.func94 (by kernel_rfl) rfl rfl rfl (by kernel_rfl) (by kernel_rfl) h
def Q_slices_Collect__Dot (a0 : AV) (s : AS) (R : AV → AS → Prop) : Prop :=
 ACalls Tryz.prog F_slices_AppendSeq__s_Dot_Dot [(.slc none 0 0 true), a0] s fun v1 s2 => R v1 s2
def A_slices_Collect__Dot : QA := (.seq .leaf (.seq .leaf .leaf))
theorem q_slices_Collect__Dot (a0 : AV) (s : AS) (R : AV → AS → Prop) (h : Q_slices_Collect__Dot a0 s R) : ACalls Tryz.prog F_slices_Collect__Dot [a0] s R :=
 ACalls.q (n := 5) (rs := [.tmp 2]) (A := A_slices_Collect__Dot) hT hmx Tryz.func141 (by kernel_rfl) rfl rfl rfl (by kernel_rfl) (by kernel_rfl) h
def Q_orset_name (a0 : List UInt8) (s : AS) (R : AV → AS → Prop) : Prop :=
 RdI .i64 (alenB T Y_string (.str a0) s) fun n1 => bsplit (decide ((n1 : Int) ≥ 1)) (RdI .i64 (alenB T Y_string (.str a0) s) fun n2 => R (.bool (decide ((n2 : Int) ≤ 32))) s) (R (.bool false) s)
def A_orset_name : QA := (.seq .leaf (.seq .leaf .leaf))
theorem q_orset_name (a0 : List UInt8) (s : AS) (R : AV → AS → Prop) (h : Q_orset_name a0 s R) : ACalls Tryz.prog F_orset_name [(.str a0)] s R :=
 ACalls.q (n := 11) (rs := [.tmp 2]) (A := A_orset_name) hT hmx Tryz.func82 (by kernel_rfl) rfl rfl rfl (by kernel_rfl) (by kernel_rfl) h
def Q_cmp_isNaN__string (a0 : List UInt8) (s : AS) (R : AV → AS → Prop) : Prop :=
 R (.bool (!((a0 : List UInt8) == a0))) s
def A_cmp_isNaN__string : QA := (.seq .leaf (.seq .leaf .leaf))
theorem q_cmp_isNaN__string (a0 : List UInt8) (s : AS) (R : AV → AS → Prop) (h : Q_cmp_isNaN__string a0 s R) : ACalls Tryz.prog F_cmp_isNaN__string [(.str a0)] s R :=
 ACalls.q (n := 6) (rs := [.tmp 2]) (A := A_cmp_isNaN__string) hT hmx Tryz.func138 (by kernel_rfl) rfl rfl rfl (by kernel_rfl) (by kernel_rfl) h
def Q_orset_order (a0 : List AV) (a1 : List AV) (s : AS) (R : AV → AS → Prop) : Prop :=
 One1 a0 (NewQ (.cells a0 0 false) s fun l1 s2 => One1 a1 (NewQ (.cells a1 0 false) s2 fun l3 s4 => DrawQ fun S V => RdI .i64 (rd1 s4 l1 0) fun n5 => RdI .i64 (rd1 s4 l3 0) fun n6 => (∀ s7 : AS, Ext s4 s7 → WFs s7 → (True) → ACalls Tryz.prog F_cmp_Compare__int [(.int .i64 n5), (.int .i64 n6)] s7 fun v8 s9 => ∃ n10 : Int, v8 = .int .i64 n10 ∧ ((Ext s7 s9 ∧ S 4 [(.func F_cmp_Compare__int []), (.int .i64 n5), (.int .i64 n6)] (.int .i64 n10) s9 ∧ V 4 [(.func F_cmp_Compare__int []), (.int .i64 n5), (.int .i64 n6)] (.int .i64 n10)))) ∧ (∃ v, V 4 [(.func F_cmp_Compare__int []), (.int .i64 n5), (.int .i64 n6)] v) ∧ ∀ v11 : AV, V 4 [(.func F_cmp_Compare__int []), (.int .i64 n5), (.int .i64 n6)] v11 → ∃ n12 : Int, v11 = .int .i64 n12 ∧ (RdI .u64 (rd1 s4 l1 1) fun n13 => RdI .u64 (rd1 s4 l3 1) fun n14 => ∀ s15 : AS, Ext s4 s15 → WFs s15 → (S 4 [(.func F_cmp_Compare__int []), (.int .i64 n5), (.int .i64 n6)] (.int .i64 n12) s15 ∧ True) → ACalls Tryz.prog F_cmp_Compare__uint64 [(.int .u64 n13), (.int .u64 n14)] s15 fun v17 s18 => ∃ n19 : Int, v17 = .int .i64 n19 ∧ (RdL (absl T Y_s_int 2 [(0, (.int .i64 n12)), (1, (.int .i64 n19))]) fun g20 => NewQ (.cells g20 0 false) s18 fun l21 s22 => ACalls Tryz.prog F_cmp_Or__int [(.slc (some (l21, 0)) 2 2 true)] s22 fun v23 s24 => ∃ n25 : Int, v23 = .int .i64 n25 ∧ (R (.int .i64 n25) s24)))))
def A_orset_order : QA := (.seq .leaf (.seq (.drawH 9 [[], [], [], [], [], [], [], [], []] [4]) .leaf))
theorem q_orset_order (a0 : List AV) (a1 : List AV) (s : AS) (R : AV → AS → Prop) (h : Q_orset_order a0 a1 s R) : ACalls Tryz.prog F_orset_order [(.agg a0), (.agg a1)] s R :=
 ACalls.q (n := 17) (rs := [.tmp 4]) (A := A_orset_order) hT hmx Tryz.func87 (by kernel_rfl) rfl rfl rfl (by kernel_rfl) (by kernel_rfl) h
def Q_orset_Of (a0 : Option (Nat × Nat)) (a1 : AV) (s : AS) (R : AV → AS → Prop) : Prop :=
 ACalls Tryz.prog F_ctx_Ctx_Copy [(.ptr a0)] s fun v1 s2 => ∃ p3 : Option (Nat × Nat), v1 = .ptr p3 ∧ (RdO (aeq T 100 Y_p_ctx_Ctx (.ptr p3) (.ptr none)) fun b4 => bsplit b4
 (R (.tup [(.ptr none), (.int .i64 1)]) s2)
 (NewQ (.map [] 0 false) s2 fun l5 s6 => NewQ (.map [] 0 false) s6 fun l7 s8 => RdG (abuild T Y_orset_Set [(0, (.ptr p3)), (1, (.map (some l5))), (2, (.map (some l7)))]) fun g9 => One1 g9 (NewQ (.cells g9 0 false) s8 fun l10 s11 => JoinQ fun J12 =>
 (∀ s13 : AS, J12 [] s13 →
 JoinQ fun J14 =>
 (∀ b15 : Bool, ∀ s16 : AS, J14 [(.bool b15)] s16 →
 bsplit b15
 (R (.tup [(.ptr none), (.int .i64 5)]) s16)
 (R (.tup [(.ptr (some (l10, 0))), (.int .i64 0)]) s16)) ∧
 (RdM (rd1 s13 l10 1) fun r17 => RdI .i64 (alenB T Y_m_Dot_Key (.map r17) s13) fun n18 => bsplit (decide ((n18 : Int) > 1024)) (J14 [(.bool true)] s13) (RdI .i64 (alenB T Y_s_Item a1 s13) fun n19 => J14 [(.bool (decide ((n19 : Int) > 4096)))] s13))) ∧
 (RdI .i64 (alenB T Y_s_Item a1 s11) fun n20 => LoopQ fun I21 m22 => I21 m22 [(.int .i64 0)] s11 ∧
 ∀ m23 : Nat, ∀ n24 : Int, ∀ s25 : AS, I21 m23 [(.int .i64 n24)] s25 →
 bsplit (decide ((n24 : Int) < n20))
 (IxQ (aindexAddr T Y_s_Item a1 (.int .i64 n24)) fun l26 o27 => RdL (rdc s25 l26 o27 5) fun g28 => NewQ (.cells [.int .i64 0, .int .u64 0, .str [], .str [], .bool false] 0 false) s25 fun l29 s30 => OkC (some 5) g28 (StQ (awr s30 l29 0 g28) fun s31 => RdM (rd1 s31 l10 1) fun r32 => RdL (rdc s31 l29 0 2) fun g33 => ∃ g34 : List AV, ∃ b35 : Bool, alookup T Y_m_Dot_Key (.map r32) (.agg g33) true s31 = some (.tup [(.agg g34), (.bool b35)]) ∧ (NewQ (.cells [.str [], .str []] 0 false) s31 fun l36 s37 => OkC (some 2) g34 (StQ (awr s37 l36 0 g34) fun s38 => JoinQ fun J39 =>
 (∀ b40 : Bool, ∀ s41 : AS, J39 [(.bool b40)] s41 →
 bsplit b40
 (R (.tup [(.ptr none), (.int .i64 2)]) s41)
 (RdB (rd1 s41 l29 4) fun b42 => bsplit b42
 (RdM (rd1 s41 l10 2) fun r43 => RdL (rdc s41 l29 0 2) fun g44 => RdG (abuild T Y_struct__is_bool__ [(0, (.bool true))]) fun g45 => StQ (amapUpdate T Y_m_Dot_struct__is_bool__ (.map r43) (.agg g44) (.agg g45) s41) fun s46 => ∃ m', m' < m23 ∧ I21 m' [(.int .i64 (IntKind.wrap .i64 (n24 + 1)))] s46)
 (RdM (rd1 s41 l10 1) fun r47 => RdL (rdc s41 l29 0 2) fun g48 => RdL (rdc s41 l29 2 2) fun g49 => StQ (amapUpdate T Y_m_Dot_Key (.map r47) (.agg g48) (.agg g49) s41) fun s50 => ∃ m', m' < m23 ∧ I21 m' [(.int .i64 (IntKind.wrap .i64 (n24 + 1)))] s50))) ∧
 (RdL (rdc s38 l29 0 5) fun g51 => ACalls Tryz.prog F_orset_May [(.agg g51)] s38 fun v52 s53 => ∃ b54 : Bool, v52 = .bool b54 ∧ (bsplit (!b54) (J39 [(.bool true)] s53) (RdL (rdc s53 l29 0 2) fun g55 => ACalls Tryz.prog F_ctx_Ctx_Has [(.ptr p3), (.agg g55)] s53 fun v56 s57 => ∃ b58 : Bool, v56 = .bool b58 ∧ (bsplit (!b58) (J39 [(.bool true)] s57) (bsplit b35 (J39 [(.bool true)] s57) (RdM (rd1 s57 l10 2) fun r59 => RdL (rdc s57 l29 0 2) fun g60 => RdG (alookup T Y_m_Dot_struct__is_bool__ (.map r59) (.agg g60) false s57) fun g61 => RdB (g61[0]?) fun b62 => J39 [(.bool b62)] s57))))))))))
 (J12 [] s25)))))
def A_orset_Of : QA := (.seq .leaf (.seq .leaf (.seq (.seq .leaf (.cond (.seq .leaf .leaf) .leaf)) (.seq .leaf (.join [] [(4, 5), (9, 11), (21, 77)] (.seq .leaf (.wrap (.loop [(23, .int .i64)] [(4, 5), (9, 11), (23, 77)] (.seq .leaf (.seq (.cond .leaf .leaf) (.seq (.wrap (.seq .leaf (.seq (.seq .calm (.join [(59, .bool)] [(37, 59)] .calm (.cond (.seq .leaf .leaf) .leaf))) (.seq .leaf (.cond (.draw 7) (.draw 8)))))) .leaf)))))) (.seq (.join [(88, .bool)] [(78, 88)] .leaf (.cond (.seq .leaf .leaf) .leaf)) (.seq .leaf .leaf)))))))
theorem q_orset_Of (a0 : Option (Nat × Nat)) (a1 : AV) (s : AS) (R : AV → AS → Prop) (h : Q_orset_Of a0 a1 s R) : ACalls Tryz.prog F_orset_Of [(.ptr a0), a1] s R :=
 ACalls.q (n := 90) (rs := [.tmp 4, .tmp 5]) (A := A_orset_Of) hT hmx Tryz.func56 (by kernel_rfl) rfl rfl rfl (by kernel_rfl) (by kernel_rfl) h
def Q_orset_Set_Tombs (a0 : Option (Nat × Nat)) (s : AS) (R : AV → AS → Prop) : Prop :=
 ACalls Tryz.prog F_orset_Set_there [(.ptr a0)] s fun v1 s2 => ∃ b3 : Bool, v1 = .bool b3 ∧ (bsplit (!b3)
 (R (.slc none 0 0 true) s2)
 (AsSome a0 fun l4 o5 => RdM (rd1 s2 l4 (o5 + 2)) fun r6 => ACalls Tryz.prog F_maps_Keys__m_Dot_struct_is_bool__Dot_struct_is_bool [(.map r6)] s2 fun v7 s8 => ACalls Tryz.prog F_slices_SortedFunc__Dot [v7, (.func F_orset_order [])] s8 fun v9 s10 => R v9 s10))
def A_orset_Set_Tombs : QA := (.seq .leaf (.seq (.seq .leaf (.cond (.seq .leaf .leaf) .leaf)) (.seq .leaf .leaf)))
theorem q_orset_Set_Tombs (a0 : Option (Nat × Nat)) (s : AS) (R : AV → AS → Prop) (h : Q_orset_Set_Tombs a0 s R) : ACalls Tryz.prog F_orset_Set_Tombs [(.ptr a0)] s R :=
 ACalls.q (n := 12) (rs := [.tmp 2]) (A := A_orset_Set_Tombs) hT hmx Tryz.func37 (by kernel_rfl) rfl rfl rfl (by kernel_rfl) (by kernel_rfl) h
def Q_slices_DeleteFunc__s_Item_Item (a0 : AV) (a1 : AV) (s : AS) (R : AV → AS → Prop) : Prop :=
 ACalls Tryz.prog F_slices_IndexFunc__s_Item_Item [a0, a1] s fun v1 s2 => ∃ n3 : Int, v1 = .int .i64 n3 ∧ (bsplit ((n3 : Int) == (-1))
 (R a0 s2)
 (JoinQ fun J4 =>
 (∀ n5 : Int, ∀ s6 : AS, J4 [(.int .i64 n5)] s6 →
 RdA (aslice T Y_s_Item a0 (some (.int .i64 n5)) none none) fun v7 => StQ (aclear T Y_s_Item v7 s6) fun s8 => RdA (aslice T Y_s_Item a0 none (some (.int .i64 n5)) none) fun v9 => R v9 s8) ∧
 (LoopQ fun I10 m11 => I10 m11 [(.int .i64 n3), (.int .i64 (IntKind.wrap .i64 (n3 + 1)))] s2 ∧
 ∀ m12 : Nat, ∀ n13 : Int, ∀ n14 : Int, ∀ s15 : AS, I10 m12 [(.int .i64 n13), (.int .i64 n14)] s15 →
 RdI .i64 (alenB T Y_s_Item a0 s15) fun n16 => bsplit (decide ((n14 : Int) < n16))
 (IxQ (aindexAddr T Y_s_Item a0 (.int .i64 n14)) fun l17 o18 => RdL (rdc s15 l17 o18 5) fun g19 => NewQ (.cells [.int .i64 0, .int .u64 0, .str [], .str [], .bool false] 0 false) s15 fun l20 s21 => OkC (some 5) g19 (StQ (awr s21 l20 0 g19) fun s22 => RdL (rdc s22 l20 0 5) fun g23 => ACallV Tryz.prog a1 [(.agg g23)] s22 fun v24 s25 => ∃ b26 : Bool, v24 = .bool b26 ∧ (bsplit (!b26)
 (RdL (rdc s25 l20 0 5) fun g27 => IxQ (aindexAddr T Y_s_Item a0 (.int .i64 n13)) fun l28 o29 => OkC (some 5) g27 (StQ (awr s25 l28 o29 g27) fun s30 => ∃ m', m' < m12 ∧ I10 m' [(.int .i64 (IntKind.wrap .i64 (n13 + 1))), (.int .i64 (IntKind.wrap .i64 (n14 + 1)))] s30))
 (∃ m', m' < m12 ∧ I10 m' [(.int .i64 n13), (.int .i64 (IntKind.wrap .i64 (n14 + 1)))] s25))))
 (J4 [(.int .i64 n13)] s15))))
def A_slices_DeleteFunc__s_Item_Item : QA := (.seq .leaf (.seq .leaf (.seq (.seq .leaf (.cond (.seq .leaf .leaf) .leaf)) (.join [(5, .int .i64)] [(5, 7), (14, 35)] (.seq .leaf (.wrap (.loop [(5, .int .i64), (6, .int .i64)] [(5, 7), (16, 35)] (.seq (.seq .leaf (.cond .leaf .leaf)) (.seq (.wrap (.seq .leaf (.seq .leaf (.cond (.seq .leaf .leaf) .leaf)))) .leaf))))) (.seq .leaf (.seq .leaf .leaf))))))
theorem q_slices_DeleteFunc__s_Item_Item (a0 : AV) (a1 : AV) (s : AS) (R : AV → AS → Prop) (h : Q_slices_DeleteFunc__s_Item_Item a0 a1 s R) : ACalls Tryz.prog F_slices_DeleteFunc__s_Item_Item [a0, a1] s R :=
 ACalls.q (n := 42) (rs := [.tmp 4]) (A := A_slices_DeleteFunc__s_Item_Item) hT hmx Tryz.func88 (by kernel_rfl) rfl rfl rfl (by kernel_rfl) (by kernel_rfl) h
def Q_ref07iName (a0 : List UInt8) (s : AS) (R : AV → AS → Prop) : Prop :=
 RdI .i64 (alenB T Y_string (.str a0) s) fun n1 => bsplit (decide ((n1 : Int) ≥ 1)) (RdI .i64 (alenB T Y_string (.str a0) s) fun n2 => R (.bool (decide ((n2 : Int) ≤ 32))) s) (R (.bool false) s)
def A_ref07iName : QA := (.seq .leaf (.seq .leaf .leaf))
theorem q_ref07iName (a0 : List UInt8) (s : AS) (R : AV → AS → Prop) (h : Q_ref07iName a0 s R) : ACalls Tryz.prog F_ref07iName [(.str a0)] s R :=
 ACalls.q (n := 11) (rs := [.tmp 2]) (A := A_ref07iName) hT hmx Tryz.func29 (by kernel_rfl) rfl rfl rfl (by kernel_rfl) (by kernel_rfl) h
end Go.Proofs.YtoklmpkpeanloaaGreat
end

section
namespace Go.Proofs.YtoklmpkpeanloaaGreat
open Go.Am Go.Minster2
def keyC (k : Key) : List AV := [.str k.t, .str k.d]
theorem keyC_len (k : Key) : (keyC k).length = 2 := rfl
def itemC (i : Itm) : List AV := [.int .i64 i.dot.r, .int .u64 i.dot.c, .str i.key.t, .str i.key.d, .bool i.gone]
theorem itemC_len (i : Itm) : (itemC i).length = 5 := rfl
theorem itemC_one (i : Itm) : (itemC i).all AV.one = true := rfl
end Go.Proofs.YtoklmpkpeanloaaGreat
end

section
set_option maxRecDepth 100000
set_option maxHeartbeats 4000000
namespace Go.Proofs.YtoklmpkpeanloaaGreat.SI
open Go.Am Go.Minster2 Go.Minster.SI
def oe : Go.Minster.SG.OE := ⟨Itm, Itm.zero, Itm.lt, Itm.cmp, fun a b => Itm.cmp_lt, fun a b c h h' => Itm.le_trans (a := a) (b := b) (c := c) h h', fun a => Itm.le_refl a, fun a b h => Itm.lt_le h⟩
def se : SG.SE := ⟨oe, itemC, 5, itemC_len, fun x => rfl, Y_s_Item, Y_Item, u_s_Item, z_Item, F_slices_SortFunc__s_Item_Item, F_slices_pdqsortCmpFunc__Item, F_slices_insertionSortCmpFunc__Item, F_slices_heapSortCmpFunc__Item, F_slices_choosePivotCmpFunc__Item, F_slices_reverseRangeCmpFunc__Item, F_slices_partialInsertionSortCmpFunc__Item, F_slices_partitionEqualCmpFunc__Item, F_slices_partitionCmpFunc__Item, F_slices_siftDownCmpFunc__Item, F_slices_medianAdjacentCmpFunc__Item, F_slices_medianCmpFunc__Item, F_slices_order2CmpFunc__Item, F_slices_breakPatternsCmpFunc__Item⟩
instance : SG.SQ se where
 q_SortFunc := fun a0 a1 s R h =>
  ACalls.q (n := 14) (rs := []) (A := SG.A_SortFunc) hT hmx Tryz.func93 (by kernel_rfl) rfl rfl rfl (by kernel_rfl) (by kernel_rfl) h
 q_pdqsortCmpFunc := fun a0 a1 a2 a3 a4 s R h =>
  ACalls.q (n := 148) (rs := []) (A := SG.A_pdqsortCmpFunc) hT hmx Tryz.func147 (by kernel_rfl) rfl rfl rfl (by kernel_rfl) (by kernel_rfl) h
 q_insertionSortCmpFunc := fun a0 a1 a2 a3 s R h =>
  ACalls.q (n := 53) (rs := []) (A := SG.A_insertionSortCmpFunc) hT hmx Tryz.func169 (by kernel_rfl) rfl rfl rfl (by kernel_rfl) (by kernel_rfl) h
 q_heapSortCmpFunc := fun a0 a1 a2 a3 s R h =>
  ACalls.q (n := 60) (rs := []) (A := SG.A_heapSortCmpFunc) hT hmx Tryz.func170 (by kernel_rfl) rfl rfl rfl (by kernel_rfl) (by kernel_rfl) h
 q_choosePivotCmpFunc := fun a0 a1 a2 a3 s R h =>
  ACalls.q (n := 63) (rs := [.tmp 8, .tmp 9]) (A := SG.A_choosePivotCmpFunc) hT hmx Tryz.func172 (by kernel_rfl) rfl rfl rfl (by kernel_rfl) (by kernel_rfl) h
 q_reverseRangeCmpFunc := fun a0 a1 a2 a3 s R h =>
  ACalls.q (n := 34) (rs := []) (A := SG.A_reverseRangeCmpFunc) hT hmx Tryz.func173 (by kernel_rfl) rfl rfl rfl (by kernel_rfl) (by kernel_rfl) h
 q_partialInsertionSortCmpFunc := fun a0 a1 a2 a3 s R h =>
  ACalls.q (n := 141) (rs := [.tmp 8]) (A := SG.A_partialInsertionSortCmpFunc) hT hmx Tryz.func174 (by kernel_rfl) rfl rfl rfl (by kernel_rfl) (by kernel_rfl) h
 q_partitionEqualCmpFunc := fun a0 a1 a2 a3 a4 s R h =>
  ACalls.q (n := 90) (rs := [.tmp 10]) (A := SG.A_partitionEqualCmpFunc) hT hmx Tryz.func175 (by kernel_rfl) rfl rfl rfl (by kernel_rfl) (by kernel_rfl) h
 q_partitionCmpFunc := fun a0 a1 a2 a3 a4 s R h =>
  ACalls.q (n := 178) (rs := [.tmp 10, .tmp 11]) (A := SG.A_partitionCmpFunc) hT hmx Tryz.func176 (by kernel_rfl) rfl rfl rfl (by kernel_rfl) (by kernel_rfl) h
 q_siftDownCmpFunc := fun a0 a1 a2 a3 a4 s R h =>
  ACalls.q (n := 82) (rs := []) (A := SG.A_siftDownCmpFunc) hT hmx Tryz.func197 (by kernel_rfl) rfl rfl rfl (by kernel_rfl) (by kernel_rfl) h
 q_medianAdjacentCmpFunc := fun a0 a1 a2 a3 s R h =>
  ACalls.q (n := 18) (rs := [.tmp 8]) (A := SG.A_medianAdjacentCmpFunc) hT hmx Tryz.func200 (by kernel_rfl) rfl rfl rfl (by kernel_rfl) (by kernel_rfl) h
 q_medianCmpFunc := fun a0 a1 a2 a3 a4 a5 s R h =>
  ACalls.q (n := 41) (rs := [.tmp 12]) (A := SG.A_medianCmpFunc) hT hmx Tryz.func201 (by kernel_rfl) rfl rfl rfl (by kernel_rfl) (by kernel_rfl) h
 q_order2CmpFunc := fun a0 a1 a2 a3 a4 s R h =>
  ACalls.q (n := 32) (rs := [.tmp 10, .tmp 11]) (A := SG.A_order2CmpFunc) hT hmx Tryz.func209 (by kernel_rfl) rfl rfl rfl (by kernel_rfl) (by kernel_rfl) h
 q_breakPatternsCmpFunc := fun a0 a1 a2 a3 s R h =>
  ACalls.q (n := 67) (rs := []) (A := SG.A_breakPatternsCmpFunc) hT hmx Tryz.func171 (by kernel_rfl) rfl rfl rfl (by kernel_rfl) (by kernel_rfl) h
class CmpOk (cf : FuncId) : Prop where
 ok : ∀ (a b : Itm) (s : AS), ACalls Tryz.prog cf [.agg (itemC a), .agg (itemC b)] s fun v s' => v = .int .i64 (a.cmp b) ∧ Ext s s'
structure Arr (s : AS) (a : AV) (lo : Nat) (l : List Itm) (rest : List AV) : Prop where
 val : ∃ c e, a = .slc (some (lo, 0)) l.length c e
 obj : ∃ g, s.h lo = some (.cells (l.flatMap itemC ++ rest) g false)
section
variable {s : AS} {a : AV} {lo : Nat} {l : List Itm} {rest : List AV}
theorem dots_len (l : List Itm) : (l.flatMap itemC).length = l.length * 5 := by
 induction l with
 | nil => rfl
 | cons x l ih => simp only [List.flatMap_cons, List.length_append, ih, itemC_len, List.length_cons]; omega
theorem Arr.mut {L : List Nat} {s' : AS} (h : Arr s a lo l rest) (m : Mut L s s') (hL : lo ∉ L) : Arr s' a lo l rest := by
 obtain ⟨h1, g, h2⟩ := h
 exact ⟨h1, g, m.1 _ _ hL h2⟩
theorem Arr.ext {s' : AS} (h : Arr s a lo l rest) (e : Ext s s') : Arr s' a lo l rest := h.mut (L := []) e.mut (by simp)
theorem Arr.ix (h : Arr s a lo l rest) {i : Nat} (hi : i < l.length) : aindexAddr T Y_s_Item a (.int .i64 (i : Nat)) = some (.ptr (some (lo, i * 5))) := by
 obtain ⟨⟨c, e, rfl⟩, _⟩ := h
 have : (0 : Int) ≤ (i : Int) ∧ (i : Int) < (l.length : Int) := by omega
 simp only [aindexAddr, u_s_Item, z_Item, Option.bind_some]
 rw [if_pos this]
 simp
theorem Arr.rd (h : Arr s a lo l rest) {i : Nat} (hi : i < l.length) : rdc s lo (i * 5) 5 = some (itemC (el l i)) := by
 obtain ⟨_, g, h2⟩ := h
 have hat : At s lo (l.flatMap itemC ++ rest) := ⟨_, _, h2⟩
 rw [hat.rdc (by rw [List.length_append, dots_len]; omega)]
 rw [List.drop_append_of_le_length (by rw [dots_len]; omega), List.take_append_of_le_length (by rw [List.length_drop, dots_len]; omega), flat_elem itemC_len (el_get hi)]
theorem flat_set : ∀ (l : List Itm) (i : Nat) (x : Itm) (rest : List AV), i < l.length → wrs (l.flatMap itemC ++ rest) (i * 5) (itemC x) = (l.set i x).flatMap itemC ++ rest
 | [], i, x, rest, h => by simp at h
 | d :: l, 0, x, rest, h => by simp [wrs, itemC]
 | d :: l, i + 1, x, rest, h => by
  have ih := flat_set l i x rest (by simpa using h)
  simp only [List.flatMap_cons, List.set_cons_succ, List.append_assoc, ← ih]
  simp only [wrs, itemC, Nat.add_mul, Nat.one_mul]
  simp
theorem Arr.wr (h : Arr s a lo l rest) (hw : WFs s) {i : Nat} (hi : i < l.length) (x : Itm) {K : AS → Prop} (hk : ∀ s', Arr s' a lo (l.set i x) rest → WFs s' → Mut [lo] s s' → K s') : OkC (some 5) (itemC x) (StQ (awr s lo (i * 5) (itemC x)) K) := by
 obtain ⟨h1, g, h2⟩ := h
 refine ⟨⟨rfl, rfl⟩, StQ.awr hw h2 (by rw [List.length_append, dots_len, itemC_len]; omega) fun s' P => hk s' ⟨?_, g, ?_⟩ P.wf P.mut⟩
 ·rw [List.length_set]; exact h1
 ·rw [P.at, flat_set l i x rest hi]
end
instance instCmp {cf : FuncId} [h : CmpOk cf] : SG.CmpOk se cf := ⟨h.ok⟩
theorem Arr.of {s : AS} {a : AV} {lo : Nat} {l : List Itm} {rest : List AV} (h : SG.Arr (E := se) s a lo l rest) : Arr s a lo l rest := ⟨h.val, h.obj⟩
def ArrN (s0 s : AS) (v : AV) (l : List Itm) : Prop := Ext s0 s ∧ ((l = [] ∧ ∃ a, v = .slc a 0 0 true) ∨ ∃ la, v = .slc (some (la, 0)) l.length l.length false ∧ Arr s v la l [] ∧ s0.h la = none)
theorem sortGro_ok {cf : FuncId} [CmpOk cf] {s0 s : AS} {v : AV} {l : List Itm} {sz : Nat} (g : GroN itemC sz [] s0 s v l) (hl : l.length < 65536) :
  ACalls Tryz.prog F_slices_SortFunc__s_Item_Item [v, .func cf []] s fun r s' => r = .tup [] ∧ ∃ l', l'.Perm l ∧ Srt l' 0 l'.length ∧ ArrN s0 s' v l' := by
 refine (SG.sortGro_ok (E := se) (cf := cf) g hl).mono ?_
 rintro r s' ⟨h1, l', h2, h3, h4, h5⟩
 refine ⟨h1, l', h2, h3, h4, ?_⟩
 rcases h5 with h5 | ⟨la, h6, h7, h8⟩
 ·exact .inl h5
 ·exact .inr ⟨la, h6, Arr.of h7, h8⟩
theorem ArrN.dots {s0 s : AS} {v : AV} {l : List Itm} (h : ArrN s0 s v l) : Sl itemC 5 s v l := by
 rcases h.2 with ⟨rfl, a, rfl⟩ | ⟨la, rfl, ⟨_, g, ho⟩, _⟩
 ·exact Sl.nil
 ·refine SlAt.mk ⟨_, _, ho⟩ (dots_len l) ?_ (Nat.le_refl _)
  rw [List.drop_zero]
  show (l.flatMap itemC ++ []).take _ = _
  rw [List.append_nil]
  exact List.take_of_length_le (Nat.le_of_eq (dots_len l))
end Go.Proofs.YtoklmpkpeanloaaGreat.SI
end

section

end

section
set_option maxRecDepth 100000
set_option maxHeartbeats 4000000
namespace Go.Proofs.YtoklmpkpeanloaaGreat.SK
open Go.Am Go.Minster2 Go.Minster.SK
def oe : Go.Minster.SG.OE := ⟨Key, ⟨[], []⟩, Key.lt, Key.cmp, fun a b => Key.cmp_lt, fun a b c h h' => Key.le_trans (a := a) (b := b) (c := c) h h', fun a => Key.le_refl a, fun a b h => Key.lt_le h⟩
def se : SG.SE := ⟨oe, keyC, 2, keyC_len, fun x => rfl, Y_s_Key, Y_Key, u_s_Key, z_Key, F_slices_SortFunc__s_Key_Key, F_slices_pdqsortCmpFunc__Key, F_slices_insertionSortCmpFunc__Key, F_slices_heapSortCmpFunc__Key, F_slices_choosePivotCmpFunc__Key, F_slices_reverseRangeCmpFunc__Key, F_slices_partialInsertionSortCmpFunc__Key, F_slices_partitionEqualCmpFunc__Key, F_slices_partitionCmpFunc__Key, F_slices_siftDownCmpFunc__Key, F_slices_medianAdjacentCmpFunc__Key, F_slices_medianCmpFunc__Key, F_slices_order2CmpFunc__Key, F_slices_breakPatternsCmpFunc__Key⟩
instance : SG.SQ se where
 q_SortFunc := fun a0 a1 s R h =>
  ACalls.q (n := 14) (rs := []) (A := SG.A_SortFunc) hT hmx Tryz.func136 (by kernel_rfl) rfl rfl rfl (by kernel_rfl) (by kernel_rfl) h
 q_pdqsortCmpFunc := fun a0 a1 a2 a3 a4 s R h =>
  ACalls.q (n := 148) (rs := []) (A := SG.A_pdqsortCmpFunc) hT hmx Tryz.func163 (by kernel_rfl) rfl rfl rfl (by kernel_rfl) (by kernel_rfl) h
 q_insertionSortCmpFunc := fun a0 a1 a2 a3 s R h =>
  ACalls.q (n := 53) (rs := []) (A := SG.A_insertionSortCmpFunc) hT hmx Tryz.func181 (by kernel_rfl) rfl rfl rfl (by kernel_rfl) (by kernel_rfl) h
 q_heapSortCmpFunc := fun a0 a1 a2 a3 s R h =>
  ACalls.q (n := 60) (rs := []) (A := SG.A_heapSortCmpFunc) hT hmx Tryz.func182 (by kernel_rfl) rfl rfl rfl (by kernel_rfl) (by kernel_rfl) h
 q_choosePivotCmpFunc := fun a0 a1 a2 a3 s R h =>
  ACalls.q (n := 63) (rs := [.tmp 8, .tmp 9]) (A := SG.A_choosePivotCmpFunc) hT hmx Tryz.func184 (by kernel_rfl) rfl rfl rfl (by kernel_rfl) (by kernel_rfl) h
 q_reverseRangeCmpFunc := fun a0 a1 a2 a3 s R h =>
  ACalls.q (n := 34) (rs := []) (A := SG.A_reverseRangeCmpFunc) hT hmx Tryz.func185 (by kernel_rfl) rfl rfl rfl (by kernel_rfl) (by kernel_rfl) h
 q_partialInsertionSortCmpFunc := fun a0 a1 a2 a3 s R h =>
  ACalls.q (n := 141) (rs := [.tmp 8]) (A := SG.A_partialInsertionSortCmpFunc) hT hmx Tryz.func186 (by kernel_rfl) rfl rfl rfl (by kernel_rfl) (by kernel_rfl) h
 q_partitionEqualCmpFunc := fun a0 a1 a2 a3 a4 s R h =>
  ACalls.q (n := 90) (rs := [.tmp 10]) (A := SG.A_partitionEqualCmpFunc) hT hmx Tryz.func187 (by kernel_rfl) rfl rfl rfl (by kernel_rfl) (by kernel_rfl) h
 q_partitionCmpFunc := fun a0 a1 a2 a3 a4 s R h =>
  ACalls.q (n := 178) (rs := [.tmp 10, .tmp 11]) (A := SG.A_partitionCmpFunc) hT hmx Tryz.func188 (by kernel_rfl) rfl rfl rfl (by kernel_rfl) (by kernel_rfl) h
 q_siftDownCmpFunc := fun a0 a1 a2 a3 a4 s R h =>
  ACalls.q (n := 82) (rs := []) (A := SG.A_siftDownCmpFunc) hT hmx Tryz.func203 (by kernel_rfl) rfl rfl rfl (by kernel_rfl) (by kernel_rfl) h
 q_medianAdjacentCmpFunc := fun a0 a1 a2 a3 s R h =>
  ACalls.q (n := 18) (rs := [.tmp 8]) (A := SG.A_medianAdjacentCmpFunc) hT hmx Tryz.func204 (by kernel_rfl) rfl rfl rfl (by kernel_rfl) (by kernel_rfl) h
 q_medianCmpFunc := fun a0 a1 a2 a3 a4 a5 s R h =>
  ACalls.q (n := 41) (rs := [.tmp 12]) (A := SG.A_medianCmpFunc) hT hmx Tryz.func205 (by kernel_rfl) rfl rfl rfl (by kernel_rfl) (by kernel_rfl) h
 q_order2CmpFunc := fun a0 a1 a2 a3 a4 s R h =>
  ACalls.q (n := 32) (rs := [.tmp 10, .tmp 11]) (A := SG.A_order2CmpFunc) hT hmx Tryz.func210 (by kernel_rfl) rfl rfl rfl (by kernel_rfl) (by kernel_rfl) h
 q_breakPatternsCmpFunc := fun a0 a1 a2 a3 s R h =>
  ACalls.q (n := 67) (rs := []) (A := SG.A_breakPatternsCmpFunc) hT hmx Tryz.func183 (by kernel_rfl) rfl rfl rfl (by kernel_rfl) (by kernel_rfl) h
class CmpOk (cf : FuncId) : Prop where
 ok : ∀ (a b : Key) (s : AS), ACalls Tryz.prog cf [.agg (keyC a), .agg (keyC b)] s fun v s' => v = .int .i64 (a.cmp b) ∧ Ext s s'
structure Arr (s : AS) (a : AV) (lo : Nat) (l : List Key) (rest : List AV) : Prop where
 val : ∃ c e, a = .slc (some (lo, 0)) l.length c e
 obj : ∃ g, s.h lo = some (.cells (l.flatMap keyC ++ rest) g false)
section
variable {s : AS} {a : AV} {lo : Nat} {l : List Key} {rest : List AV}
theorem dots_len (l : List Key) : (l.flatMap keyC).length = l.length * 2 := by
 induction l with
 | nil => rfl
 | cons x l ih => simp only [List.flatMap_cons, List.length_append, ih, keyC_len, List.length_cons]; omega
end
instance instCmp {cf : FuncId} [h : CmpOk cf] : SG.CmpOk se cf := ⟨h.ok⟩
theorem Arr.of {s : AS} {a : AV} {lo : Nat} {l : List Key} {rest : List AV} (h : SG.Arr (E := se) s a lo l rest) : Arr s a lo l rest := ⟨h.val, h.obj⟩
def ArrN (s0 s : AS) (v : AV) (l : List Key) : Prop := Ext s0 s ∧ ((l = [] ∧ ∃ a, v = .slc a 0 0 true) ∨ ∃ la, v = .slc (some (la, 0)) l.length l.length false ∧ Arr s v la l [] ∧ s0.h la = none)
theorem sortGro_ok {cf : FuncId} [CmpOk cf] {s0 s : AS} {v : AV} {l : List Key} {sz : Nat} (g : GroN keyC sz [] s0 s v l) (hl : l.length < 65536) :
  ACalls Tryz.prog F_slices_SortFunc__s_Key_Key [v, .func cf []] s fun r s' => r = .tup [] ∧ ∃ l', l'.Perm l ∧ Srt l' 0 l'.length ∧ ArrN s0 s' v l' := by
 refine (SG.sortGro_ok (E := se) (cf := cf) g hl).mono ?_
 rintro r s' ⟨h1, l', h2, h3, h4, h5⟩
 refine ⟨h1, l', h2, h3, h4, ?_⟩
 rcases h5 with h5 | ⟨la, h6, h7, h8⟩
 ·exact .inl h5
 ·exact .inr ⟨la, h6, Arr.of h7, h8⟩
theorem ArrN.dots {s0 s : AS} {v : AV} {l : List Key} (h : ArrN s0 s v l) : Sl keyC 2 s v l := by
 rcases h.2 with ⟨rfl, a, rfl⟩ | ⟨la, rfl, ⟨_, g, ho⟩, _⟩
 ·exact Sl.nil
 ·refine SlAt.mk ⟨_, _, ho⟩ (dots_len l) ?_ (Nat.le_refl _)
  rw [List.drop_zero]
  show (l.flatMap keyC ++ []).take _ = _
  rw [List.append_nil]
  exact List.take_of_length_le (Nat.le_of_eq (dots_len l))
end Go.Proofs.YtoklmpkpeanloaaGreat.SK
end

section
namespace Go.Proofs.YtoklmpkpeanloaaGreat
open Go.Am Go.Minster Go.Minster2
theorem isNaN_str (a : List UInt8) (s : AS) : ACalls Tryz.prog F_cmp_isNaN__string [.str a] s fun v s' => v = .bool false ∧ s' = s :=
 q_cmp_isNaN__string _ _ _ ⟨by simp, rfl⟩
theorem cmp_str (a b : List UInt8) (s : AS) : ACalls Tryz.prog F_cmp_Compare__string [.str a, .str b] s fun v s' => v = .int .i64 (cmpS a b) ∧ s' = s := by
 refine q_cmp_Compare__string _ _ _ _ ?_
 refine ACalls.use (isNaN_str a s) ?_
 rintro v s' ⟨rfl, rfl⟩ _
 refine ⟨_, rfl, ?_⟩
 refine ACalls.use (isNaN_str b s') ?_
 rintro v s ⟨rfl, rfl⟩ _
 refine ⟨_, rfl, bsplit.no rfl (bsplit.no rfl (bsplit.mk (fun h => ⟨?_, rfl⟩) (fun h => bsplit.mk (fun h2 => ⟨?_, rfl⟩) (fun h2 => ⟨?_, rfl⟩))))⟩
 ·simp [cmpS, h]
 ·have : a ≠ b := by rintro rfl; simp at h2
  simp [cmpS, h, this]
 ·have : a = b := by simpa [h] using h2
  subst this
  simp [cmpS, bytesLt_irrefl]
theorem orset_order_ok (a b : Dot) (s : AS) : ACalls Tryz.prog F_orset_order [.agg (dotC a), .agg (dotC b)] s fun v s' => v = .int .i64 (a.cmp b) ∧ Ext s s' := by
 refine ACalls.pre fun hw => q_orset_order _ _ _ _ ⟨rfl, NewQ.intro hw rfl fun l s1 F => ⟨rfl, NewQ.intro F.wf rfl fun l2 s2 F2 => ?_⟩⟩
 have e := F.ext.trans F2.ext
 refine ⟨fun _ _ _ _ => True, fun _ _ v => v = .int .i64 (cmpI a.r b.r), fun _ _ _ _ _ _ _ => trivial, ?_⟩
 simp only [(F.own.ext F2.ext).at.rd1, F2.own.at.rd1, dotC, List.getElem?_cons_zero, List.getElem?_cons_succ, go_sem]
 refine ⟨fun s7 _ _ _ => ?_, ⟨_, rfl⟩, ?_⟩
 ·refine (cmp_Compare__int_ok _ _ _).mono ?_
  rintro v s' ⟨rfl, rfl⟩
  exact ⟨_, rfl, Ext.refl _, trivial, rfl⟩
 ·rintro v rfl
  refine ⟨_, rfl, fun s15 e15 _ _ => ?_⟩
  refine ACalls.use (cmp_Compare__uint64_ok _ _ _) ?_
  rintro v s' ⟨rfl, rfl⟩ hw'
  refine ⟨_, rfl, ?_⟩
  have habs : absl T Y_s_int 2 [(0, .int .i64 (cmpI a.r b.r)), (1, .int .i64 (cmpI a.c b.c))] = some [.int .i64 (cmpI a.r b.r), .int .i64 (cmpI a.c b.c)] := by
   simp only [absl, u_s_int, z_int, zr_int, Option.bind_some, acells_int]; rfl
  rw [habs]
  simp only [go_sem]
  refine NewQ.intro hw' rfl fun l3 s3 F3 => ?_
  refine (cmp_Or__int_ok2 _ _ F3.own.at).mono ?_
  rintro v s' ⟨rfl, rfl⟩
  refine ⟨_, rfl, ?_, e.trans (e15.trans F3.ext)⟩
  simp only [Dot.cmp]
instance : CmpOk F_orset_order := ⟨orset_order_ok⟩
theorem items1_ok (a b : Itm) (s : AS) : ACalls Tryz.prog F_orset_Set_Items_1 [.agg (itemC a), .agg (itemC b)] s fun v s' => v = .int .i64 (a.cmp b) ∧ Ext s s' := by
 refine ACalls.pre fun hw => q_orset_Set_Items_1 _ _ _ _ ⟨rfl, NewQ.intro hw rfl fun l s1 F => ⟨rfl, NewQ.intro F.wf rfl fun l2 s2 F2 => ?_⟩⟩
 refine ⟨dotC a.dot, (F.own.ext F2.ext).at.rdc (by simp [itemC]), dotC b.dot, F2.own.at.rdc (by simp [itemC]), ?_⟩
 refine ACalls.use (orset_order_ok _ _ _) ?_
 rintro v s' ⟨rfl, e⟩ _
 exact ⟨_, rfl, rfl, (F.ext.trans F2.ext).trans e⟩
instance : SI.CmpOk F_orset_Set_Items_1 := ⟨items1_ok⟩
theorem keys1_ok (a b : Key) (s : AS) : ACalls Tryz.prog F_orset_Set_Keys_1 [.agg (keyC a), .agg (keyC b)] s fun v s' => v = .int .i64 (a.cmp b) ∧ Ext s s' := by
 refine ACalls.pre fun hw => q_orset_Set_Keys_1 _ _ _ _ ⟨rfl, NewQ.intro hw rfl fun l s1 F => ⟨rfl, NewQ.intro F.wf rfl fun l2 s2 F2 => ?_⟩⟩
 have e := F.ext.trans F2.ext
 refine ⟨fun _ _ _ _ => True, fun _ _ v => v = .int .i64 (cmpS a.t b.t), fun _ _ _ _ _ _ _ => trivial, ?_⟩
 simp only [(F.own.ext F2.ext).at.rd1, F2.own.at.rd1, keyC, List.getElem?_cons_zero, List.getElem?_cons_succ, go_sem]
 refine ⟨fun s7 _ _ _ => ?_, ⟨_, rfl⟩, ?_⟩
 ·refine (cmp_str _ _ _).mono ?_
  rintro v s' ⟨rfl, rfl⟩
  exact ⟨_, rfl, Ext.refl _, trivial, rfl⟩
 ·rintro v rfl
  refine ⟨_, rfl, fun s15 e15 _ _ => ?_⟩
  refine ACalls.use (cmp_str _ _ _) ?_
  rintro v s' ⟨rfl, rfl⟩ hw'
  refine ⟨_, rfl, ?_⟩
  have habs : absl T Y_s_int 2 [(0, .int .i64 (cmpS a.t b.t)), (1, .int .i64 (cmpS a.d b.d))] = some [.int .i64 (cmpS a.t b.t), .int .i64 (cmpS a.d b.d)] := by
   simp only [absl, u_s_int, z_int, zr_int, Option.bind_some, acells_int]; rfl
  rw [habs]
  simp only [go_sem]
  refine NewQ.intro hw' rfl fun l3 s3 F3 => ?_
  refine (cmp_Or__int_ok2 _ _ F3.own.at).mono ?_
  rintro v s' ⟨rfl, rfl⟩
  refine ⟨_, rfl, ?_, e.trans (e15.trans F3.ext)⟩
  simp only [Key.cmp]
instance : SK.CmpOk F_orset_Set_Keys_1 := ⟨keys1_ok⟩
def nameOk (t : List UInt8) : Bool := decide (1 ≤ t.length ∧ t.length ≤ 32)
theorem alen_str (t : List UInt8) (s : AS) : alenB T Y_string (.str t) s = some (.int .i64 (t.length : Nat)) := by simp [alenB, u_string]
theorem name_ok (t : List UInt8) (s : AS) : ACalls Tryz.prog F_orset_name [.str t] s fun v s' => v = .bool (nameOk t) ∧ s' = s := by
 refine q_orset_name _ _ _ ⟨_, alen_str t s, bsplit.dec (fun h => ⟨_, alen_str t s, ?_, rfl⟩) (fun h => ⟨?_, rfl⟩)⟩
 ·congr 1
  rw [nameOk, decide_eq_decide]; omega
 ·congr 1
  symm
  rw [nameOk, decide_eq_false_iff_not]; omega
def _root_.Go.Minster2.Key.may (k : Key) : Bool := nameOk k.t && nameOk k.d
def _root_.Go.Minster2.Itm.may (i : Itm) : Bool := i.dot.may && (if i.gone then decide (i.key = ⟨[], []⟩) else i.key.may)
theorem MayKey_ok (k : Key) (s : AS) : ACalls Tryz.prog F_orset_MayKey [.agg (keyC k)] s fun v s' => v = .bool k.may ∧ Ext s s' := by
 refine ACalls.pre fun hw => q_orset_MayKey _ _ _ ⟨rfl, NewQ.intro hw rfl fun l s1 F => ⟨k.t, by rw [F.own.at.rd1]; rfl, ?_⟩⟩
 refine ACalls.use (name_ok _ _) ?_
 rintro v s2 ⟨rfl, rfl⟩ _
 refine ⟨_, rfl, bsplit.mk (fun h => ⟨k.d, by rw [F.own.at.rd1]; rfl, ?_⟩) (fun h => ⟨by rw [Key.may, h]; rfl, F.ext⟩)⟩
 refine ACalls.use (name_ok _ _) ?_
 rintro v s3 ⟨rfl, rfl⟩ _
 exact ⟨_, rfl, by rw [Key.may, h]; rfl, F.ext⟩
theorem tri_Key : triples (T.und Y_Key) = some [(false, Y_string, 0), (false, Y_string, 1)] := by kernel_rfl
theorem et_Key : T.eqt Y_Key = true := by kernel_rfl
theorem key_eq (a b : Key) : aeq T 100 Y_Key (.agg (keyC a)) (.agg (keyC b)) = some (decide (a = b)) := by
 rw [aeq_tri tri_Key et_Key]
 simp only [eqTri, cond_false, part_s ag_string, keyC, List.getElem?_cons_zero, List.getElem?_cons_succ, Option.bind_some, aeqStr u_string]
 cases a; cases b
 simp only [Key.mk.injEq]
 rename_i r c r' c'
 by_cases h1 : r = r' <;> by_cases h2 : c = c' <;> simp [h1, h2]
theorem key0_build : abuild T Y_Key [] = some (.agg (keyC ⟨[], []⟩)) := by kernel_rfl
theorem May_ok (i : Itm) (s : AS) : ACalls Tryz.prog F_orset_May [.agg (itemC i)] s fun v s' => v = .bool i.may ∧ Ext s s' := by
 refine ACalls.pre fun hw => q_orset_May _ _ _ ⟨rfl, NewQ.intro hw rfl fun l s1 F => ⟨i.gone, by rw [F.own.at.rd1]; rfl, ?_⟩⟩
 have gd : ∀ s', Ext s1 s' → rdc s' l 0 2 = some (dotC i.dot) := fun s' e => (F.own.ext e).at.rdc (by simp [itemC])
 have gk : ∀ s', Ext s1 s' → rdc s' l 2 2 = some (keyC i.key) := fun s' e => (F.own.ext e).at.rdc (by simp [itemC])
 refine bsplit.mk (fun h => ?_) (fun h => ?_)
 ·refine ⟨_, gd _ (Ext.refl _), ?_⟩
  refine ACalls.use (ctx_May_ok _ _) ?_
  rintro v s2 ⟨rfl, e2⟩ _
  refine ⟨_, rfl, bsplit.mk (fun h2 => ⟨_, gk _ e2, _, key0_build, _, key_eq _ _, ?_, F.ext.trans e2⟩) (fun h2 => ⟨by simp [Itm.may, h2], F.ext.trans e2⟩)⟩
  simp [Itm.may, h, h2]
 ·refine ⟨_, gd _ (Ext.refl _), ?_⟩
  refine ACalls.use (ctx_May_ok _ _) ?_
  rintro v s2 ⟨rfl, e2⟩ _
  refine ⟨_, rfl, bsplit.mk (fun h2 => ⟨_, gk _ e2, ?_⟩) (fun h2 => ⟨by simp [Itm.may, h2], F.ext.trans e2⟩)⟩
  refine ACalls.use (MayKey_ok _ _) ?_
  rintro v s3 ⟨rfl, e3⟩ _
  exact ⟨_, rfl, by simp [Itm.may, h, h2], F.ext.trans (e2.trans e3)⟩
end Go.Proofs.YtoklmpkpeanloaaGreat
end

section
namespace Go.Proofs.YtoklmpkpeanloaaGreat
open Go.Am Go.Minster Go.ChangeShapes Go.WideShapes Go.ChangeAt Go.RowKit
theorem addD_any {v : List Int} {ex : List Dot} (ok : COk v ex) (gap : Gap v ex) (hn : ex.length < 4096) (d : Dot) : COk (addD v ex d).2.2.1 (addD v ex d).2.2.2 ∧ Gap (addD v ex d).2.2.1 (addD v ex d).2.2.2 ∧ (addD v ex d).2.2.2.length ≤ ex.length + 1 ∧ ∀ x, hasD (addD v ex d).2.2.1 (addD v ex d).2.2.2 x = true ↔ hasD v ex x = true ∨ (x = d ∧ d.may = true) := by
 cases hm : d.may with
 | false =>
  have : addD v ex d = (false, 2, v, ex) := by simp [addD, hm]
  rw [this]
  exact ⟨ok, gap, by simp, fun x => by simp⟩
 | true =>
  rw [addD_few hm hn]
  exact ⟨ok.add hm, Gap.add ok gap hm, addR_len, fun x => by rw [addR_has ok hm]; simp⟩
end Go.Proofs.YtoklmpkpeanloaaGreat
end

section
namespace Go.Proofs.YtoklmpkpeanloaaGreat
open Go.Am Go.Minster
/-! ### maps of dots -/
abbrev dK (d : Dot) : AV := .agg (dotC d)
abbrev bV (b : Bool) : AV := .agg [.bool b]
theorem tri_ok_Dot : ∀ r c : Int, akeyOk T 100 Y_Dot (.agg [.int .i64 r, .int .u64 c]) = true := by
 intro r c; kernel_rfl
theorem is_build : abuild T Y_struct__is_bool__ [(0, .bool true)] = some (.agg [.bool true]) := by kernel_rfl
/-! ### views -/
structure Vw where
 v : List Int
 ex : List Dot
 live : Dot → Bool
structure CtxF (F : List Nat) (s : AS) (p : Nat) (v : List Int) (ex : List Dot) : Prop where
 len : v.length = 16
 lab : p ∈ F
 mem : ∃ w, Am.Own s p (v.map (.int .u64) ++ [w, .bool true]) ∧ w.one = true ∧ Gro dotC 2 s w ex ∧ ∀ la ∈ labOf w, la ∈ F
theorem CtxF.at {F : List Nat} {s : AS} {p : Nat} {v : List Int} {ex : List Dot} (h : CtxF F s p v ex) : CtxAt s p v ex := by
 obtain ⟨h1, _, w, h2, h3, h4, h5⟩ := h
 exact ⟨h1, w, h2, h3, h4.sl dotC_len⟩
theorem CtxF.mut {F : List Nat} {s s' : AS} {L : List Nat} {p : Nat} {v : List Int} {ex : List Dot} (h : CtxF F s p v ex) (m : Mut L s s') (hL : ∀ x ∈ L, x ∉ F) : CtxF F s' p v ex := by
 obtain ⟨h1, h0, w, h2, h3, h4, h5⟩ := h
 exact ⟨h1, h0, w, h2.mut m (fun hx => hL p hx h0), h3, h4.mut m fun x hx hm => hL x hm (h5 x hx), h5⟩
theorem CtxF.sub {F F' : List Nat} {s : AS} {p : Nat} {v : List Int} {ex : List Dot} (h : CtxF F s p v ex) (hF : ∀ x ∈ F, x ∈ F') : CtxF F' s p v ex := by
 obtain ⟨h1, h0, w, h2, h3, h4, h5⟩ := h
 exact ⟨h1, hF _ h0, w, h2, h3, h4, fun x hx => hF x (h5 x hx)⟩
theorem CtxG.toF {s0 s : AS} {p : Nat} {v : List Int} {ex : List Dot} (h : CtxG s0 s p v ex) (hp : s0.h p = none) : ∃ F, CtxF F s p v ex ∧ (∀ x ∈ F, s0.h x = none) ∧ ∀ x ∈ F, s.h x ≠ none := by
 obtain ⟨h1, w, h2, h3, h4, h5⟩ := h
 refine ⟨p :: labOf w, ⟨h1, by simp, w, h2, h3, h4, fun x hx => by simp [hx]⟩, fun x hx => ?_, fun x hx => ?_⟩
 ·rcases List.mem_cons.1 hx with rfl | hx
  ·exact hp
  ·exact h5 x hx
 ·rcases List.mem_cons.1 hx with rfl | hx
  ·rw [h2]; simp
  ·rcases h4 with ⟨_, a, rfl⟩ | ⟨la, rfl, ho⟩
   ·simp [labOf] at hx
   ·obtain rfl : x = la := by simpa [labOf] using hx
    rw [ho]; simp
theorem CtxG.toF2 {s0 s : AS} {p : Nat} {v : List Int} {ex : List Dot} (h : CtxG s0 s p v ex) : ∃ F, CtxF F s p v ex ∧ (∀ x ∈ F, x = p ∨ s0.h x = none) ∧ ∀ x ∈ F, s.h x ≠ none := by
 obtain ⟨h1, w, h2, h3, h4, h5⟩ := h
 refine ⟨p :: labOf w, ⟨h1, by simp, w, h2, h3, h4, fun x hx => by simp [hx]⟩, fun x hx => ?_, fun x hx => ?_⟩
 ·rcases List.mem_cons.1 hx with rfl | hx
  ·exact .inl rfl
  ·exact .inr (h5 x hx)
 ·rcases List.mem_cons.1 hx with rfl | hx
  ·rw [h2]; simp
  ·rcases h4 with ⟨_, a, rfl⟩ | ⟨la, rfl, ho⟩
   ·simp [labOf] at hx
   ·obtain rfl : x = la := by simpa [labOf] using hx
    rw [ho]; simp
/-! ### matrices -/
section
variable {F : List Nat} {s s' : AS} {p m : Nat} {n o : Int} {told : Int → Option Vw} {has : List Int}
end
end Go.Proofs.YtoklmpkpeanloaaGreat
end

section
namespace Go.Proofs.YtoklmpkpeanloaaGreat
open Go.Am Go.Minster Go.Minster2
/-! ### maps of dots -/
abbrev kV (k : Key) : AV := .agg (keyC k)
theorem mp_tombs : MpTy (K := Dot) T Y_m_Dot_struct__is_bool__ Y_Dot Y_struct__is_bool__ dK (bV false) :=
 ⟨u_m_Dot_struct__is_bool__, fun a b => dot_eq a b, fun a => tri_ok_Dot a.r a.c, fun a => by simp [abits, bitsL, dotC], zr_struct__is_bool__⟩
theorem mp_live : MpTy (K := Dot) T Y_m_Dot_Key Y_Dot Y_Key dK (kV ⟨[], []⟩) :=
 ⟨u_m_Dot_Key, fun a b => dot_eq a b, fun a => tri_ok_Dot a.r a.c, fun a => by simp [abits, bitsL, dotC], zr_Key⟩
theorem st_Dot : StTy T Y_Dot 2 := ⟨ag_Dot, z_Dot, _, _, zr_Dot, rfl, rfl⟩
theorem sty_s_Dot : STy T Y_s_Dot := ⟨ag_s_Dot, z_s_Dot⟩
theorem _root_.Go.Am.GroN.map {α β : Type} {f : α → List AV} {g : β → List AV} {h : α → β} (hg : ∀ x, g (h x) = f x) {sz : Nat} {M : List Nat} {s0 s : AS} {v : AV} {l : List α} (G : GroN f sz M s0 s v l) : GroN g sz M s0 s v (l.map h) := by
 refine ⟨?_, G.chg, G.new⟩
 have e : (l.map h).flatMap g = l.flatMap f := by
  rw [List.flatMap_map]; congr 1; funext x; exact hg x
 rcases G.gro with ⟨rfl, a, rfl⟩ | ⟨la, rfl, ho⟩
 ·exact .inl ⟨rfl, a, rfl⟩
 ·exact .inr ⟨la, by rw [List.length_map], by rw [e]; exact ho⟩
section
variable {V : Type} {vf : V → AV} {m : Nat} {es : List (Dot × V × Nat)} {c : Nat} {ro : Bool} {s : AS}
theorem collect_keys {gf : FuncId} {lb : Nat} (hgf : callable Tryz.prog gf = true) (hes : es.length ≤ 2 ^ 30) (hm : MpAt dK vf s m es c ro)
  (hrun : ∀ s1, Ext s s1 → WFs s1 → ItRun Tryz.prog dK vf m es c ro (fun e => dotC e.1) gf [.ptr (some (lb, 0))] s1) :
  ACalls Tryz.prog F_slices_Collect__Dot [.func gf [.ptr (some (lb, 0))]] s fun v s' => ∃ done : List (Dot × V × Nat), (∀ e ∈ es, e ∈ done) ∧ (∀ e ∈ done, e ∈ es) ∧ done.Nodup ∧ GroN dotC 2 [] s s' v (done.map fun e => e.1) := by
 refine q_slices_Collect__Dot _ _ _ ?_
 refine (appendSeq_calls hT Tryz.func165 (by kernel_rfl) (ts := Y_s_Dot) (te := Y_Dot) (tq := Y_iter_Seq_Dot_) (by kernel_rfl) (by kernel_rfl) (by kernel_rfl) sty_s_Dot sl_s_Dot st_Dot (el := fun e => dotC e.1) (fun e => rfl) (fun e => rfl) hgf hes hm hrun).mono ?_
 rintro v s' ⟨done, h1, h2, h3, g⟩
 exact ⟨done, h1, h2, h3, GroN.map (h := fun e : Dot × V × Nat => e.1) (fun x => rfl) g⟩
theorem sorted_keys {gf : FuncId} {lb : Nat} (hgf : callable Tryz.prog gf = true) (hes : es.length < 65536) (hm : MpAt dK vf s m es c ro)
  (hrun : ∀ s1, Ext s s1 → WFs s1 → ItRun Tryz.prog dK vf m es c ro (fun e => dotC e.1) gf [.ptr (some (lb, 0))] s1) :
  ACalls Tryz.prog F_slices_SortedFunc__Dot [.func gf [.ptr (some (lb, 0))], .func F_orset_order []] s fun v s' => ∃ l : List Dot, Rising l ∧ (∀ d, d ∈ l ↔ ∃ e ∈ es, e.1 = d) ∧ l.length = es.length ∧ ArrN s s' v l := by
 refine q_slices_SortedFunc__Dot _ _ _ _ ?_
 refine ACalls.use (collect_keys hgf (by omega) hm hrun) ?_
 rintro v s2 ⟨done, h1, h2, h3, g⟩ w2
 have hnd : (done.map fun e => e.1).Nodup := by
  refine List.pairwise_map.2 (List.Pairwise.imp_of_mem ?_ h3)
  intro a b ha hb hab he
  have ha' := h2 a ha
  have hb' := h2 b hb
  refine hab ?_
  have hp := hm.nd
  have key : ∀ (l : List (Dot × V × Nat)), l.Pairwise (fun a b => a.1 ≠ b.1) → a ∈ l → b ∈ l → a = b := by
   intro l
   induction l with
   | nil => intro _ h; cases h
   | cons x l ih =>
    intro hp h4 h5
    obtain ⟨p1, p2⟩ := List.pairwise_cons.1 hp
    rcases List.mem_cons.1 h4 with r4 | h4 <;> rcases List.mem_cons.1 h5 with r5 | h5
    ·rw [r4, r5]
    ·exact absurd (by rw [← r4]; exact he) (p1 b h5)
    ·exact absurd (by rw [← r5]; exact he.symm) (p1 a h4)
    ·exact ih p2 h4 h5
  exact key es hp ha' hb'
 have hlen : (done.map fun e => e.1).length = es.length := by
  rw [List.length_map]
  have hes2 : es.Nodup := hm.nd.imp fun {a b} h e => h (by rw [e])
  exact ((List.perm_ext_iff_of_nodup h3 hes2).2 fun a => ⟨h2 a, h1 a⟩).length_eq
 refine ACalls.use (sortGro_ok g (by omega)) ?_
 rintro r s4 ⟨rfl, l, hp, hs, ha⟩ w4
 refine ⟨rfl, l, ?_, fun d => ?_, by rw [hp.length_eq, hlen], ha⟩
 ·have hn : l.Nodup := hp.nodup_iff.2 hnd
  refine List.pairwise_iff_getElem.2 fun i j hi hj hij => ?_
  have hle : (el l i).le (el l j) := hs i j (by omega) hij hj
  have ei : el l i = l[i] := by have := el_get hi; rw [List.getElem?_eq_getElem hi] at this; exact (Option.some.inj this).symm
  have ej : el l j = l[j] := by have := el_get hj; rw [List.getElem?_eq_getElem hj] at this; exact (Option.some.inj this).symm
  rw [ei, ej] at hle
  cases hlt : l[i].lt l[j] with
  | true => rfl
  | false =>
   exfalso
   rcases Dot.le_iff.1 hle with h | ⟨h5, h6⟩
   ·have := (Dot.lt_iff (a := l[i]) (b := l[j])).2 (.inl h); rw [hlt] at this; cases this
   ·have h7 : ¬ l[i].c < l[j].c := fun h => by
     have := (Dot.lt_iff (a := l[i]) (b := l[j])).2 (.inr ⟨h5, h⟩); rw [hlt] at this; cases this
    have : l[i] = l[j] := by
     cases hx : l[i]; cases hy : l[j]
     rw [hx, hy] at h5 h6 h7
     simp only at h5 h6 h7
     rw [h5, show _ = _ from Int.le_antisymm h6 (by omega)]
    exact absurd this ((List.pairwise_iff_getElem.1 hn) i j hi hj hij)
 ·rw [hp.mem_iff, List.mem_map]
  constructor
  ·rintro ⟨e, he, rfl⟩; exact ⟨e, h2 e he, rfl⟩
  ·rintro ⟨e, he, rfl⟩; exact ⟨e, h1 e he, rfl⟩
end
end Go.Proofs.YtoklmpkpeanloaaGreat
end

section
namespace Go.Proofs.YtoklmpkpeanloaaGreat
open Go.Am Go.Minster Go.Minster2
section
variable {m : Nat} {c : Nat} {ro : Bool} {s : AS}
theorem tombs_run {es : List (Dot × Bool × Nat)} {lb : Nat} (hb : At s lb [.map (some m)]) (hm : MpAt dK bV s m es c ro) : ∀ s1, Ext s s1 → WFs s1 → ItRun Tryz.prog dK bV m es c ro (fun e => dotC e.1) F_maps_Keys__m_Dot_struct_is_bool__Dot_struct_is_bool__1 [.ptr (some (lb, 0))] s1 :=
 fun s1 e _ => keys_run hT Tryz.func143 (tm := Y_m_Dot_struct__is_bool__) (tk := Y_Dot) (tf := Y_func_Dot__bool) (tb := Y_bool) (by kernel_rfl) (by kernel_rfl) (by kernel_rfl) ag_m_Dot_struct__is_bool__ u_m_Dot_struct__is_bool__ st_Dot (kc := dotC) (fun k => ⟨rfl, rfl⟩) (hb.ext e) (hm.ext e)
theorem tombs_sorted {es : List (Dot × Bool × Nat)} (hes : es.length < 65536) (hm : MpAt dK bV s m es c ro) {R : AV → AS → Prop} (hR : ∀ v s' (l : List Dot), Rising l → (∀ d, d ∈ l ↔ ∃ e ∈ es, e.1 = d) → l.length = es.length → ArrN s s' v l → WFs s' → R v s') :
  ACalls Tryz.prog F_maps_Keys__m_Dot_struct_is_bool__Dot_struct_is_bool [.map (some m)] s fun v4 s5 => ACalls Tryz.prog F_slices_SortedFunc__Dot [v4, .func F_orset_order []] s5 R := by
 refine ACalls.pre fun hw => q_maps_Keys__m_Dot_struct_is_bool__Dot_struct_is_bool _ _ _ (NewQ.intro hw rfl fun lb s1 F => ?_)
 have h1 := hm.ext F.ext
 refine ACalls.use (sorted_keys (by kernel_rfl) hes h1 (tombs_run F.own.at h1)) ?_
 rintro v s2 ⟨l, a, b, d, e⟩ w2
 refine hR v s2 l a b d ⟨F.ext.trans e.1, e.2.imp id fun ⟨la, h1, h2, h3⟩ => ⟨la, h1, h2, F.ext.none h3⟩⟩ w2
/-! ### maps.Clone -/
theorem find112 : Extern.find Tryz.f146 = some Extern.MapsClone.clone := by kernel_rfl
theorem next112 : Extern.findNext Tryz.f146 = none := by kernel_rfl
theorem name112 : (Tryz.f146.name == "runtime.NumGoroutine") = false := by kernel_rfl
theorem body112 : Tryz.f146.body.isNone = true := by kernel_rfl
theorem MpAt.copy {K V : Type} [DecidableEq K] {kf : K → AV} {vf : V → AV} {es : List (K × V × Nat)} {s s' : AS} {m' : Nat} (h : MpAt kf vf s m es c ro) (F : Fresh s s' m' (.map (ents kf vf es) c false)) : MpAt kf vf s' m' es c false := ⟨F.at, h.st, h.lt, h.nd⟩
theorem live_clone {es : List (Dot × Key × Nat)} (hm : MpAt dK kV s m es c ro) : ACalls Tryz.prog F_maps_Clone__m_Dot_Key_Dot_Key [.map (some m)] s fun v s' => ∃ m', v = .map (some m') ∧ Ext s s' ∧ s.h m' = none ∧ MpAt dK kV s' m' es c false := by
 refine (clone_calls hT Tryz.func90 (tm := Y_m_Dot_Key) (ti := Y_interface__) (tb := Y_bool) (cl := F_maps_clone) (by kernel_rfl) (by kernel_rfl) (by kernel_rfl) (by kernel_rfl) u_m_Dot_Key Tryz.func146 name112 body112 next112 find112 hm.obj).mono ?_
 rintro v s' ⟨m', rfl, F⟩
 exact ⟨m', rfl, F.ext, F.no, MpAt.copy hm F⟩
theorem tombs_clone {es : List (Dot × Bool × Nat)} (hm : MpAt dK bV s m es c ro) : ACalls Tryz.prog F_maps_Clone__m_Dot_struct_is_bool__Dot_struct_is_bool [.map (some m)] s fun v s' => ∃ m', v = .map (some m') ∧ Ext s s' ∧ s.h m' = none ∧ MpAt dK bV s' m' es c false := by
 refine (clone_calls hT Tryz.func91 (tm := Y_m_Dot_struct__is_bool__) (ti := Y_interface__) (tb := Y_bool) (cl := F_maps_clone) (by kernel_rfl) (by kernel_rfl) (by kernel_rfl) (by kernel_rfl) u_m_Dot_struct__is_bool__ Tryz.func146 name112 body112 next112 find112 hm.obj).mono ?_
 rintro v s' ⟨m', rfl, F⟩
 exact ⟨m', rfl, F.ext, F.no, MpAt.copy hm F⟩
end
end Go.Proofs.YtoklmpkpeanloaaGreat
end

section
namespace Go.Proofs.YtoklmpkpeanloaaGreat
open Go.Am Go.Minster Go.Minster2
def LiveAt (s : AS) (l : Nat) (f : Dot → Option Key) (n : Nat) : Prop := ∃ es c, MpAt dK kV s l es c false ∧ (∀ d, mget es d = f d) ∧ es.length = n
theorem LiveAt.mut {s s' : AS} {l n : Nat} {f : Dot → Option Key} {L : List Nat} (h : LiveAt s l f n) (e : Mut L s s') (hl : l ∉ L) : LiveAt s' l f n := by
 obtain ⟨es, c, h1, h2, h3⟩ := h; exact ⟨es, c, h1.mut e hl, h2, h3⟩
theorem LiveAt.ext {s s' : AS} {l n : Nat} {f : Dot → Option Key} (h : LiveAt s l f n) (e : Ext s s') : LiveAt s' l f n := h.mut (L := []) e.mut (by simp)
def TombAt (s : AS) (l : Nat) (f : Dot → Bool) (n : Nat) : Prop := ∃ es c, MpAt dK bV s l es c false ∧ (∀ d, mget es d = if f d then some true else none) ∧ es.length = n
theorem TombAt.mut {s s' : AS} {l n : Nat} {f : Dot → Bool} {L : List Nat} (h : TombAt s l f n) (e : Mut L s s') (hl : l ∉ L) : TombAt s' l f n := by
 obtain ⟨es, c, h1, h2, h3⟩ := h; exact ⟨es, c, h1.mut e hl, h2, h3⟩
theorem TombAt.ext {s s' : AS} {l n : Nat} {f : Dot → Bool} (h : TombAt s l f n) (e : Ext s s') : TombAt s' l f n := h.mut (L := []) e.mut (by simp)
structure OSet where
 v : List Int
 ex : List Dot
 live : Dot → Option Key
 tomb : Dot → Bool
 nl : Nat
 nt : Nat
structure SetF (F : List Nat) (s : AS) (p : Nat) (x : OSet) : Prop where
 ok : COk x.v x.ex
 gap : Gap x.v x.ex
 len : x.ex.length ≤ 4096
 mem : ∃ pc lm tm, Am.Own s p [.ptr (some (pc, 0)), .map (some lm), .map (some tm)] ∧ p ∈ F ∧ CtxF F s pc x.v x.ex ∧ lm ∈ F ∧ tm ∈ F ∧ lm ≠ tm ∧ LiveAt s lm x.live x.nl ∧ TombAt s tm x.tomb x.nt
theorem SetF.mut {F : List Nat} {s s' : AS} {L : List Nat} {p : Nat} {x : OSet} (h : SetF F s p x) (m : Mut L s s') (hL : ∀ y ∈ L, y ∉ F) : SetF F s' p x := by
 obtain ⟨h1, h2, h3, pc, lm, tm, a, b, c, d, e, f, g, i⟩ := h
 exact ⟨h1, h2, h3, pc, lm, tm, a.mut m (fun hx => hL p hx b), b, c.mut m hL, d, e, f, g.mut m (fun hx => hL lm hx d), i.mut m (fun hx => hL tm hx e)⟩
theorem SetF.ext {F : List Nat} {s s' : AS} {p : Nat} {x : OSet} (h : SetF F s p x) (e : Ext s s') : SetF F s' p x := h.mut (L := []) e.mut (by simp)
section
variable {F : List Nat} {s : AS} {p : Nat} {x : OSet}
theorem there_ok (h : SetF F s p x) : ACalls Tryz.prog F_orset_Set_there [.ptr (some (p, 0))] s fun r s' => r = .bool true ∧ s' = s := by
 obtain ⟨_, _, _, pc, lm, tm, a, _⟩ := h
 exact q_orset_Set_there _ _ _ ⟨_, aeqPtrNil u_p_orset_Set _, bsplit.yes rfl ⟨_, by rw [a.at.rd1]; rfl, _, aeqPtrNil u_p_ctx_Ctx _, rfl, rfl⟩⟩
theorem Tombs_ok (h : SetF F s p x) (hn : x.nt < 65536) : ACalls Tryz.prog F_orset_Set_Tombs [.ptr (some (p, 0))] s fun r s' => ∃ l, ArrN s s' r l ∧ Rising l ∧ (∀ d, d ∈ l ↔ x.tomb d = true) ∧ l.length = x.nt := by
 refine q_orset_Set_Tombs _ _ _ ?_
 refine ACalls.use (there_ok h) ?_
 rintro v s2 ⟨rfl, rfl⟩ w2
 obtain ⟨_, _, _, pc, lm, tm, a, _, _, _, _, _, _, es, c, hm, hg, hl⟩ := h
 refine ⟨_, rfl, bsplit.no rfl ⟨_, by rw [a.at.rd1]; rfl, tombs_sorted (by omega) hm fun v s' l h1 h2 h3 h4 _ => ⟨l, h4, h1, fun d => ?_, by omega⟩⟩⟩
 rw [h2]
 have := hg d
 constructor
 ·rintro ⟨e, he, rfl⟩
  have h5 := mget_mem hm.nd he
  rw [hg] at h5
  cases hq : x.tomb e.1 with
  | true => rfl
  | false => rw [hq] at h5; cases h5
 ·intro hq
  rw [hq] at this
  obtain ⟨j, k, hj⟩ := mget_some (show mget es d = some true from this)
  exact ⟨_, List.mem_of_getElem? hj, rfl⟩
theorem set_build (pc : Nat) (lm tm : Nat) : abuild T Y_orset_Set [(0, .ptr (some (pc, 0))), (1, .map (some lm)), (2, .map (some tm))] = some (.agg [.ptr (some (pc, 0)), .map (some lm), .map (some tm)]) := by
 rw [abuild_pl (pl := [(0, 1), (1, 1), (2, 1)]) (by kernel_rfl) zr_orset_Set rfl]
 rfl
theorem Copy_ok (h : SetF F s p x) : ACalls Tryz.prog F_orset_Set_Copy [.ptr (some (p, 0))] s fun r s' => ∃ p' F', r = .ptr (some (p', 0)) ∧ SetF F' s' p' x ∧ (∀ y ∈ F', s.h y = none) ∧ (∀ y ∈ F', s'.h y ≠ none) ∧ Ext s s' := by
 refine q_orset_Set_Copy _ _ _ ?_
 refine ACalls.use (there_ok h) ?_
 rintro v s2 ⟨rfl, rfl⟩ w2
 have hlx := h.len
 obtain ⟨ok, gap, len, pc, lm, tm, a, hpF, hc, hlF, htF, hlt, hl, ht⟩ := id h
 have g : ∀ (i : Nat) s', Ext s2 s' → rd1 s' p i = [AV.ptr (some (pc, 0)), .map (some lm), .map (some tm)][i]? := fun i s' e => (a.ext e).at.rd1 i
 refine ⟨_, rfl, bsplit.no rfl ⟨fun q _ v s' => (q = 4 → ∃ pc, v = .ptr (some (pc, 0)) ∧ s2.h pc = none ∧ CtxG s2 s' pc x.v x.ex) ∧ (q = 9 → ∃ lm, v = .map (some lm) ∧ s2.h lm = none ∧ LiveAt s' lm x.live x.nl), fun q _ v => (q = 4 → ∃ pc, v = .ptr (some (pc, 0))) ∧ (q = 9 → ∃ lm, v = .map (some lm)), ?_, _, g 0 _ (Ext.refl _), fun s7 e7 w7 _ => ?_, ⟨.ptr (some (0, 0)), (fun _ => ⟨0, rfl⟩), (fun h => by cases h)⟩, fun v11 hv11 => ?_⟩⟩
 ·rintro q ks v s' s'' e ⟨h1, h2⟩
  refine ⟨fun hq => ?_, fun hq => ?_⟩
  ·obtain ⟨a, b, c, d⟩ := h1 hq; exact ⟨a, b, c, d.ext e⟩
  ·obtain ⟨a, b, c, d⟩ := h2 hq; exact ⟨a, b, c, d.ext e⟩
 ·refine (ctx_Copy_G (hc.at.ext e7) (by omega)).mono ?_
  rintro v s9 ⟨q, rfl, hq, g9, e9⟩
  exact ⟨_, rfl, e9, ⟨(fun _ => ⟨q, rfl, e7.none hq, g9.back e7⟩), (fun h => by cases h)⟩, (fun _ => ⟨q, rfl⟩), (fun h => by cases h)⟩
 obtain ⟨pc', rfl⟩ := hv11.1 rfl
 refine ⟨_, rfl, _, g 1 _ (Ext.refl _), fun s16 e16 w16 _ => ?_, ⟨.map (some 0), (fun h => by cases h), (fun _ => ⟨0, rfl⟩)⟩, fun v20 hv20 => ?_⟩
 ·obtain ⟨es, c, h1, h2, h3⟩ := hl.ext e16
  refine (live_clone h1).mono ?_
  rintro v s18 ⟨m', rfl, e18, hm', hM⟩
  exact ⟨_, rfl, e18, ⟨(fun h => by cases h), (fun _ => ⟨m', rfl, e16.none hm', es, c, hM, h2, h3⟩)⟩, (fun h => by cases h), (fun _ => ⟨m', rfl⟩)⟩
 obtain ⟨lm', rfl⟩ := hv20.2 rfl
 refine ⟨_, rfl, _, g 2 _ (Ext.refl _), fun s25 e25 w25 hS => ?_⟩
 obtain ⟨pc2, hpc, hpc0, hG⟩ := hS.1.1 rfl
 obtain ⟨lm2, hlm, hlm0, hL⟩ := hS.2.1.2 rfl
 simp only [AV.ptr.injEq, AV.map.injEq, Option.some.injEq, Prod.mk.injEq, and_true] at hpc hlm
 subst hpc; subst hlm
 obtain ⟨es, c, h1, h2, h3⟩ := ht.ext e25
 refine ACalls.use (tombs_clone h1) ?_
 rintro v s28 ⟨tm', rfl, e28, htm, hM⟩ w28
 refine ⟨_, rfl, _, set_build _ _ _, rfl, NewQ.intro w28 rfl fun p' s30 F30 => ?_⟩
 obtain ⟨Fc, hcF, hFn, hFt⟩ := hG.toF hpc0
 have e30 := e28.trans F30.ext
 have E30 := e25.trans e30
 have hlt' : lm' ≠ tm' := by
  rintro rfl
  obtain ⟨es', c', h4, _⟩ := hL
  rw [h4.obj] at htm; cases htm
 refine ⟨p', p' :: lm' :: tm' :: Fc, rfl, ⟨ok, gap, len, pc', lm', tm', F30.own, by simp, (hcF.mut (L := []) e30.mut (by simp)).sub (fun y hy => by simp [hy]), by simp, by simp, hlt', hL.ext e30, es, c, hM.ext F30.ext, h2, h3⟩, ?_, ?_, E30⟩
 ·intro y hy
  simp only [List.mem_cons] at hy
  rcases hy with rfl | rfl | rfl | hy
  ·exact (e25.trans e28).none F30.no
  ·exact hlm0
  ·exact e25.none htm
  ·exact hFn y hy
 ·intro y hy
  simp only [List.mem_cons] at hy
  rcases hy with rfl | rfl | rfl | hy
  ·rw [F30.at]; simp
  ·obtain ⟨es', c', h4, _⟩ := hL.ext e30
   rw [h4.obj]; simp
  ·rw [(hM.ext F30.ext).obj]; simp
  ·cases hq : s25.h y with
   | none => exact absurd hq (hFt y hy)
   | some ob => rw [e30.1 y ob hq]; simp
end
end Go.Proofs.YtoklmpkpeanloaaGreat
end

section
namespace Go.Proofs.YtoklmpkpeanloaaGreat
open Go.Am Go.Minster Go.Minster2
theorem Ext.wrL {s s1 s2 : AS} {L : List Nat} (e : Ext s s1) (hp : ∀ x ∈ L, s.h x = none) (m : Mut L s1 s2) : Ext s s2 :=
 ⟨fun x o hx => m.1 x o (fun hm => by rw [hp x hm] at hx; cases hx) (e.1 x o hx), Nat.le_trans e.2 m.2⟩
section
variable {s : AS} {l n : Nat}
theorem LiveAt.obj {f : Dot → Option Key} (h : LiveAt s l f n) : ∃ es c, s.h l = some (.map es c false) := by
 obtain ⟨es, c, h1, _⟩ := h; exact ⟨_, _, h1.obj⟩
theorem TombAt.obj {f : Dot → Bool} (h : TombAt s l f n) : ∃ es c, s.h l = some (.map es c false) := by
 obtain ⟨es, c, h1, _⟩ := h; exact ⟨_, _, h1.obj⟩
theorem LiveAt.del (hw : WFs s) {f : Dot → Option Key} (h : LiveAt s l f n) {d : Dot} {k : Key} (hd : f d = some k) {Q : AS → Prop}
  (hq : ∀ s', LiveAt s' l (fun x => if x = d then none else f x) (n - 1) → WFs s' → Mut [l] s s' → Q s') : StQ (adelete T Y_m_Dot_Key (.map (some l)) (.agg (dotC d)) s) Q := by
 obtain ⟨es, c, h1, h2, h3⟩ := h
 refine MpAt.del mp_live hw h1 d (by rw [h2]; exact hd) fun s' es' h1' h2' hl w m => hq s' ⟨es', c, h1', fun x => ?_, by omega⟩ w m
 rw [h2', h2]
theorem LiveAt.upd (hw : WFs s) {f : Dot → Option Key} (h : LiveAt s l f n) (d : Dot) (k : Key) {Q : AS → Prop}
  (hq : ∀ s', LiveAt s' l (fun x => if x = d then some k else f x) (if (f d).isSome then n else n + 1) → WFs s' → Mut [l] s s' → Q s') : StQ (amapUpdate T Y_m_Dot_Key (.map (some l)) (.agg (dotC d)) (.agg (keyC k)) s) Q := by
 obtain ⟨es, c, h1, h2, h3⟩ := h
 refine MpAt.upd mp_live hw h1 d k fun s' es' c' h1' h2' w m => hq s' ⟨es', c', h1', fun x => ?_, ?_⟩ w m
 ·rw [h2', h2]
 ·rw [upd_len h1.nd h1'.nd h2', h2, h3]
theorem TombAt.upd (hw : WFs s) {f : Dot → Bool} (h : TombAt s l f n) (d : Dot) {Q : AS → Prop}
  (hq : ∀ s', TombAt s' l (fun x => f x || decide (x = d)) (if f d then n else n + 1) → WFs s' → Mut [l] s s' → Q s') : StQ (amapUpdate T Y_m_Dot_struct__is_bool__ (.map (some l)) (.agg (dotC d)) (.agg [.bool true]) s) Q := by
 obtain ⟨es, c, h1, h2, h3⟩ := h
 refine MpAt.upd mp_tombs hw h1 d true fun s' es' c' h1' h2' w m => hq s' ⟨es', c', h1', fun x => ?_, ?_⟩ w m
 ·rw [h2', h2]
  by_cases e : x = d
  ·simp [e]
  ·simp [e]
 ·rw [upd_len h1.nd h1'.nd h2', h2, h3]
  cases f d <;> simp
theorem TombAt.del (hw : WFs s) {f : Dot → Bool} (h : TombAt s l f n) {d : Dot} (hd : f d = true) {Q : AS → Prop}
  (hq : ∀ s', TombAt s' l (fun x => f x && !decide (x = d)) (n - 1) → WFs s' → Mut [l] s s' → Q s') : StQ (adelete T Y_m_Dot_struct__is_bool__ (.map (some l)) (.agg (dotC d)) s) Q := by
 obtain ⟨es, c, h1, h2, h3⟩ := h
 refine MpAt.del mp_tombs hw h1 d (v := true) (by rw [h2, hd]; rfl) fun s' es' h1' h2' hl w m => hq s' ⟨es', c, h1', fun x => ?_, by omega⟩ w m
 rw [h2', h2]
 by_cases e : x = d
 ·simp [e]
 ·simp [e]
end
theorem compact_len (v : List Int) (ex : List Dot) : (compact v ex).2.length ≤ ex.length := by
 have := fold_len ex (v, [])
 simpa [compact] using this
def OSet.see (x : OSet) (i : Itm) : Bool × OSet :=
 if (x.live i.dot).isSome && i.gone then (true, { x with live := fun d => if d = i.dot then none else x.live d, tomb := fun d => x.tomb d || decide (d = i.dot), nl := x.nl - 1, nt := if x.tomb i.dot then x.nt else x.nt + 1 })
 else if hasD x.v x.ex i.dot then (false, x)
 else if i.gone then (true, { x with v := (compact x.v (ins x.ex i.dot)).1, ex := (compact x.v (ins x.ex i.dot)).2, tomb := fun d => x.tomb d || decide (d = i.dot), nt := if x.tomb i.dot then x.nt else x.nt + 1 })
 else (true, { x with v := (compact x.v (ins x.ex i.dot)).1, ex := (compact x.v (ins x.ex i.dot)).2, live := fun d => if d = i.dot then some i.key else x.live d, nl := if (x.live i.dot).isSome then x.nl else x.nl + 1 })
theorem see_len (x : OSet) (i : Itm) (ok : COk x.v x.ex) (hi : i.dot.may = true) (hroom : x.ex.length < 4096) : (x.see i).2.ex.length ≤ x.ex.length + 1 ∧ (x.see i).2.nl ≤ x.nl + 1 ∧ (x.see i).2.nl + (x.see i).2.nt ≤ x.nl + x.nt + 1 := by
 have hc : (compact x.v (ins x.ex i.dot)).2.length ≤ x.ex.length + 1 := by
  have := compact_len x.v (ins x.ex i.dot)
  rw [ins_len] at this; exact this
 unfold OSet.see
 split
 ·refine ⟨by simp, by simp; omega, ?_⟩
  simp only
  split <;> omega
 ·split
  ·refine ⟨by simp, by simp, by simp⟩
  ·split
   ·refine ⟨hc, by simp, ?_⟩
    simp only; split <;> omega
   ·refine ⟨hc, ?_, ?_⟩ <;> simp only <;> split <;> omega
section
variable {F : List Nat} {s : AS} {p : Nat} {x : OSet}
theorem addD_no {v : List Int} {ex : List Dot} {d : Dot} (hh : hasD v ex d = true) (hd : d.may = true) : addD v ex d = (false, 0, v, ex) := by simp [addD, hd, hh]
theorem addD_yes {v : List Int} {ex : List Dot} {d : Dot} (hh : hasD v ex d = false) (hd : d.may = true) (hn : ex.length < 4096) : addD v ex d = (true, 0, compact v (ins ex d)) := by
 have hc := compact_len v (ins ex d)
 rw [ins_len] at hc
 simp only [addD, hd, hh, Bool.true_eq_false, Bool.false_eq_true, if_false]
 rw [if_neg (by omega)]
theorem see_ok (h : SetF F s p x) (hth : ∀ y ∈ F, s.h y ≠ none) (i : Itm) (hi : i.dot.may = true) (hroom : x.ex.length < 4096) :
  ACalls Tryz.prog F_orset_Set_see [.ptr (some (p, 0)), .agg (itemC i)] s fun r s' => r = .tup [.bool (x.see i).1, .int .i64 0] ∧ ∃ F', SetF F' s' p (x.see i).2 ∧ (∀ y ∈ F', y ∈ F ∨ s.h y = none) ∧ (∀ y ∈ F', s'.h y ≠ none) ∧ Mut F s s' := by
 refine ACalls.pre fun hw => q_orset_Set_see _ _ _ _ ⟨rfl, NewQ.intro hw rfl fun l1 s2 F2 => ?_⟩
 have h2 := h.ext F2.ext
 obtain ⟨ok, gap, hlen, pc, lm, tm, a, hpF, hc, hlF, htF, hlt, hl, ht⟩ := id h2
 have hf : alookup T Y_m_Dot_Key (.map (some lm)) (.agg (dotC i.dot)) true s2 = some (.tup [.agg (keyC ((x.live i.dot).getD ⟨[], []⟩)), .bool (x.live i.dot).isSome]) := by
  obtain ⟨es, c, hm, hg, _⟩ := hl
  have hf := hm.find mp_live i.dot true
  rw [hg] at hf
  refine Eq.trans (show _ = _ from hf) ?_
  cases x.live i.dot <;> rfl
 refine ⟨_, by rw [a.at.rd1]; rfl, _, F2.own.at.rdc (by simp [itemC]), keyC ((x.live i.dot).getD ⟨[], []⟩), (x.live i.dot).isSome, hf, ?_⟩
 refine NewSt F2.wf rfl rfl rfl fun l9 s11 F11 => ?_
 have E11 := F2.ext.trans F11.ext
 have o1 : Am.Own s11 l1 (itemC i) := F2.own.ext F11.ext
 have hpl : p ≠ lm := by rintro rfl; obtain ⟨es, c, h⟩ := hl.obj; rw [a] at h; cases h
 have hpt : p ≠ tm := by rintro rfl; obtain ⟨es, c, h⟩ := ht.obj; rw [a] at h; cases h
 have hF1 : l1 ∉ F := fun hm => hth l1 hm F2.no
 refine ⟨fun vs s' => vs = [.bool ((x.live i.dot).isSome && i.gone)] ∧ s' = s11, ?_, bsplit.mk (fun hs => ⟨i.gone, by rw [o1.at.rd1]; rfl, by rw [hs]; rfl, rfl⟩) (fun hs => ⟨by rw [hs]; rfl, rfl⟩)⟩
 rintro b s14 ⟨hb, rfl⟩
 simp only [List.cons.injEq, AV.bool.injEq, and_true] at hb
 subst hb
 have h14 := h2.ext F11.ext
 replace a := a.ext F11.ext
 replace hc := hc.mut (L := []) F11.ext.mut (by simp)
 replace hl := hl.ext F11.ext
 replace ht := ht.ext F11.ext
 have hth14 : ∀ y ∈ F, s14.h y ≠ none := fun y hy hn => hth y hy (E11.none hn)
 refine bsplit.mk (fun hb => ?_) (fun hb => ?_)
 ·simp only [Bool.and_eq_true] at hb
  obtain ⟨k, hk⟩ := Option.isSome_iff_exists.1 hb.1
  have hsee : x.see i = (true, { x with live := fun d => if d = i.dot then none else x.live d, tomb := fun d => x.tomb d || decide (d = i.dot), nl := x.nl - 1, nt := if x.tomb i.dot then x.nt else x.nt + 1 }) := by
   unfold OSet.see
   rw [if_pos (by simp [hb])]
  refine ⟨_, by rw [a.at.rd1]; rfl, _, o1.at.rdc (by simp [itemC]), hl.del F11.wf hk fun s19 hl19 w19 m19 => ?_⟩
  have ht19 := ht.mut m19 (by simpa using hlt.symm)
  have a19 := a.mut m19 (by simpa using hpl)
  have o19 := o1.mut m19 (by simp only [List.mem_singleton]; rintro rfl; exact hF1 hlF)
  refine ⟨_, by rw [a19.at.rd1]; rfl, _, o19.at.rdc (by simp [itemC]), _, is_build, ht19.upd w19 i.dot fun s25 ht25 w25 m25 => ?_⟩
  have hml : ∀ y ∈ [lm], y ∈ F := by simpa using hlF
  have hmt : ∀ y ∈ [tm], y ∈ F := by simpa using htF
  have M : Mut F s s25 := E11.mut.trans ((m19.mono hml).trans (m25.mono hmt))
  have hcl : pc ∉ [lm] := by
   simp only [List.mem_singleton]
   rintro rfl
   obtain ⟨_, _, w, hw2, _⟩ := hc
   obtain ⟨es, c, h⟩ := hl.obj
   rw [hw2] at h; cases h
  have hct : pc ∉ [tm] := by
   simp only [List.mem_singleton]
   rintro rfl
   obtain ⟨_, _, w, hw2, _⟩ := hc
   obtain ⟨es, c, h⟩ := ht.obj
   rw [hw2] at h; cases h
  have hc25 : CtxF F s25 pc x.v x.ex := by
   obtain ⟨q1, q2, w, q3, q4, q5, q6⟩ := hc
   have keep : ∀ (m : Nat) (es : List (AV × AV × Nat)) (c : Nat), s14.h m = some (.map es c false) → ∀ y ∈ labOf w, y ≠ m := by
    rintro m es c hm y hy rfl
    rcases q5 with ⟨_, b, rfl⟩ | ⟨la, rfl, ho⟩
    ·simp [labOf] at hy
    ·obtain rfl : y = la := by simpa [labOf] using hy
     rw [ho] at hm; cases hm
   obtain ⟨es1, c1, e1⟩ := hl.obj
   obtain ⟨es2, c2, e2⟩ := ht.obj
   have q5' := q5.mut m19 fun y hy hm => keep _ _ _ e1 y hy (by simpa using hm)
   exact ⟨q1, q2, w, (q3.mut m19 hcl).mut m25 hct, q4, q5'.mut m25 fun y hy hm => keep _ _ _ e2 y hy (by simpa using hm), q6⟩
  rw [hsee]
  refine ⟨rfl, F, ⟨ok, gap, hlen, pc, lm, tm, a19.mut m25 (by simpa using hpt), hpF, hc25, hlF, htF, hlt, hl19.mut m25 (by simpa using hlt), ht25⟩, fun y hy => .inl hy, fun y hy => ?_, M⟩
  have keepN : ∀ {m : Nat} {u u' : AS}, Mut [m] u u' → u'.h m ≠ none → u.h y ≠ none → u'.h y ≠ none := by
   intro m u u' mm hm hn
   by_cases e : y = m
   ·rw [e]; exact hm
   ·cases hq : u.h y with
    | none => exact absurd hq hn
    | some o => rw [mm.1 y o (by simpa using e) hq]; simp
  refine keepN m25 ?_ (keepN m19 ?_ (hth14 y hy))
  ·obtain ⟨es, c, h⟩ := ht25.obj; rw [h]; simp
  ·obtain ⟨es, c, h⟩ := hl19.obj; rw [h]; simp
 refine ⟨_, by rw [a.at.rd1]; rfl, _, o1.at.rdc (by simp [itemC]), ?_⟩
 refine ACalls.use (ctx_Add_ok3 hc.at ok.v ok.r ok.m (by omega) i.dot) ?_
 rintro r s31 ⟨rfl, c31, m31, hno, hyes⟩ w31
 have hb' : ¬ ((x.live i.dot).isSome && i.gone) = true := by rw [hb]; simp
 cases hh : hasD x.v x.ex i.dot with
 | true =>
  rw [addD_no hh hi] at c31 hno hyes ⊢
  have e31 := hno rfl
  have hsee : x.see i = (false, x) := by
   unfold OSet.see
   rw [if_neg hb', if_pos hh]
  rw [hsee]
  refine ⟨_, _, rfl, fun vs s' => vs = [.bool true] ∧ s' = s31, ?_, bsplit.no rfl ⟨rfl, rfl⟩⟩
  rintro b s36 ⟨hb, rfl⟩
  simp only [List.cons.injEq, AV.bool.injEq, and_true] at hb
  subst hb
  exact bsplit.yes rfl ⟨rfl, F, h14.ext e31, fun y hy => .inl hy, fun y hy hn => hth14 y hy (e31.none hn), (E11.trans e31).mut⟩
 | false =>
  have hadd := addD_yes hh hi hroom
  have haa := addD_any ok gap hroom i.dot
  rw [hadd] at c31 hno hyes haa ⊢
  obtain ⟨ok', gap', hlen0, _⟩ := haa
  have hlen' : (compact x.v (ins x.ex i.dot)).2.length ≤ x.ex.length + 1 := hlen0
  have hG := hyes rfl
  obtain ⟨Fc, hcF, hFn, hFt⟩ := hG.toF2
  have hpcF : pc ∈ F := hc.lab
  have m31F : Mut F s14 s31 := m31.mono (by simpa using hpcF)
  have hpc : p ≠ pc := by
   rintro rfl
   have hvl := ok.v.len
   obtain ⟨_, _, w, hw2, _⟩ := hc
   have h1 := congrArg List.length (a.at.inj hw2.at)
   simp [hvl] at h1
  have hlp : lm ≠ pc := by
   rintro rfl
   obtain ⟨_, _, w, hw2, _⟩ := hc
   obtain ⟨es, c, h⟩ := hl.obj
   rw [hw2] at h; cases h
  have htp : tm ≠ pc := by
   rintro rfl
   obtain ⟨_, _, w, hw2, _⟩ := hc
   obtain ⟨es, c, h⟩ := ht.obj
   rw [hw2] at h; cases h
  have a31 := a.mut m31 (by simpa using hpc)
  have hl31 := hl.mut m31 (by simpa using hlp)
  have ht31 := ht.mut m31 (by simpa using htp)
  have o31 := o1.mut m31 (by simp only [List.mem_singleton]; rintro rfl; exact hF1 hpcF)
  have hFs : ∀ y ∈ Fc, y ∈ F ∨ s.h y = none := by
   intro y hy
   rcases hFn y hy with rfl | h
   ·exact .inl hpcF
   ·exact .inr (E11.none h)
  have hFm : ∀ {m : Nat}, m ≠ pc → s14.h m ≠ none → ∀ y ∈ [m], y ∉ Fc := by
   intro m hm hn y hy hf
   obtain rfl := List.mem_singleton.1 hy
   rcases hFn y hf with h | h
   ·exact hm h
   ·exact hn h
  have fin : ∀ {m : Nat} {s' : AS}, m ∈ F → Mut [m] s31 s' → s'.h m ≠ none → ∀ y ∈ Fc ++ F, s'.h y ≠ none := by
   intro m s' hm mm hn y hy
   by_cases e : y = m
   ·rw [e]; exact hn
   ·have h31 : s31.h y ≠ none := by
     rcases List.mem_append.1 hy with hy | hy
     ·exact hFt y hy
     ·by_cases e2 : y = pc
      ·rw [e2]; obtain ⟨_, w, h, _⟩ := c31; rw [h]; simp
      ·cases hq : s14.h y with
       | none => exact absurd hq (hth14 y hy)
       | some o => rw [m31.1 y o (by simpa using e2) hq]; simp
    cases hq : s31.h y with
    | none => exact absurd hq h31
    | some o => rw [mm.1 y o (by simpa using e) hq]; simp
  have hFall : ∀ y ∈ Fc ++ F, y ∈ F ∨ s.h y = none := by
   intro y hy
   rcases List.mem_append.1 hy with hy | hy
   ·exact hFs y hy
   ·exact .inl hy
  refine ⟨_, _, rfl, fun vs s' => vs = [.bool false] ∧ s' = s31, ?_, bsplit.no rfl ⟨rfl, rfl⟩⟩
  rintro b s36 ⟨hb2, rfl⟩
  simp only [List.cons.injEq, AV.bool.injEq, and_true] at hb2
  subst hb2
  refine bsplit.no rfl ⟨i.gone, by rw [o31.at.rd1]; rfl, bsplit.mk (fun hg => ?_) (fun hg => ?_)⟩
  ·have hsee : x.see i = (true, { x with v := (compact x.v (ins x.ex i.dot)).1, ex := (compact x.v (ins x.ex i.dot)).2, tomb := fun d => x.tomb d || decide (d = i.dot), nt := if x.tomb i.dot then x.nt else x.nt + 1 }) := by
    unfold OSet.see
    rw [if_neg hb', if_neg (by rw [hh]; simp), if_pos hg]
   rw [hsee]
   refine ⟨_, by rw [a31.at.rd1]; rfl, _, o31.at.rdc (by simp [itemC]), _, is_build, ht31.upd w31 i.dot fun s43 ht43 w43 m43 => ?_⟩
   obtain ⟨es, c, hto⟩ := ht.obj
   have hc43 := hcF.mut m43 (hFm htp (by rw [hto]; simp))
   refine ⟨rfl, Fc ++ F, ⟨ok', gap', by simp only; omega, pc, lm, tm, a31.mut m43 (by simpa using hpt), by simp [hpF], hc43.sub (fun y hy => by simp [hy]), by simp [hlF], by simp [htF], hlt, hl31.mut m43 (by simpa using hlt), ht43⟩, hFall, fin htF m43 ?_, E11.mut.trans (m31F.trans (m43.mono (by simpa using htF)))⟩
   obtain ⟨es, c, h⟩ := ht43.obj; rw [h]; simp
  ·have hsee : x.see i = (true, { x with v := (compact x.v (ins x.ex i.dot)).1, ex := (compact x.v (ins x.ex i.dot)).2, live := fun d => if d = i.dot then some i.key else x.live d, nl := if (x.live i.dot).isSome then x.nl else x.nl + 1 }) := by
    unfold OSet.see
    rw [if_neg hb', if_neg (by rw [hh]; simp), if_neg (by rw [hg]; simp)]
   rw [hsee]
   refine ⟨_, by rw [a31.at.rd1]; rfl, _, o31.at.rdc (by simp [itemC]), _, o31.at.rdc (by simp [itemC]), hl31.upd w31 i.dot i.key fun s49 hl49 w49 m49 => ?_⟩
   obtain ⟨es, c, hlo⟩ := hl.obj
   have hc49 := hcF.mut m49 (hFm hlp (by rw [hlo]; simp))
   refine ⟨rfl, Fc ++ F, ⟨ok', gap', by simp only; omega, pc, lm, tm, a31.mut m49 (by simpa using hpl), by simp [hpF], hc49.sub (fun y hy => by simp [hy]), by simp [hlF], by simp [htF], hlt, hl49, ht31.mut m49 (by simpa using hlt.symm)⟩, hFall, fin hlF m49 ?_, E11.mut.trans (m31F.trans (m49.mono (by simpa using hlF)))⟩
   obtain ⟨es, c, h⟩ := hl49.obj; rw [h]; simp
end
end Go.Proofs.YtoklmpkpeanloaaGreat
end

section
namespace Go.Proofs.YtoklmpkpeanloaaGreat
open Go.Am Go.Minster Go.Minster2
theorem sl_s_Item : SlTy T Y_s_Item Y_Item 5 56 := ⟨u_s_Item, z_Item, b_Item, ⟨_, _, zr_Item, rfl, rfl⟩, by decide, by decide⟩
section
variable {s : AS} {a : AV} {l : List Itm} {g : FuncId} {cap : List AV} {P : Itm → Bool}
theorem IndexFunc_ok (hl : Sl itemC 5 s a l) (hn : l.length ≤ 2 ^ 40) (hf : ∀ i s', Ext s s' → WFs s' → ACalls Tryz.prog g ([.agg (itemC i)] ++ cap) s' fun v s'' => v = .bool (P i) ∧ Ext s' s'') :
  ACalls Tryz.prog F_slices_IndexFunc__s_Item_Item [a, .func g cap] s fun v s' => Ext s s' ∧ ∃ n : Int, v = .int .i64 n ∧ ((n = -1 ∧ l.any P = false) ∨ ∃ k : Nat, n = k ∧ k < l.length ∧ (∃ x, l[k]? = some x ∧ P x = true) ∧ ∀ j x, j < k → l[j]? = some x → P x = false) := by
 refine ACalls.pre fun hw => q_slices_IndexFunc__s_Item_Item _ _ _ _ ⟨_, hl.lenB u_s_Item _, fun m vs s' => ∃ i : Nat, vs = [.int .i64 (i : Nat)] ∧ i ≤ l.length ∧ m = l.length - i ∧ Ext s s' ∧ WFs s' ∧ (∀ j x, j < i → l[j]? = some x → P x = false), l.length, ⟨0, rfl, by omega, rfl, Ext.refl _, hw, by omega⟩, ?_⟩
 rintro m n s6 ⟨i, hi, h6, rfl, e6, w6, hall⟩
 simp only [List.cons.injEq, AV.int.injEq, true_and, and_true] at hi
 subst hi
 refine bsplit.dec (fun hlt => ?_) (fun hge => ⟨e6, -1, rfl, .inl ⟨rfl, ?_⟩⟩)
 ·obtain ⟨x, hx⟩ := get_lt (l := l) (i := i) (by omega)
  obtain ⟨la, o, h8, h9⟩ := hl.ix (by decide) itemC_len u_s_Item z_Item hx
  refine ⟨la, o, h8 _, _, (h9 _ e6).2, ?_⟩
  refine ACalls.use (hf x s6 e6 w6) ?_
  rintro v s11 ⟨rfl, e11⟩ w11
  refine ⟨_, rfl, bsplit.mk (fun hb => ⟨e6.trans e11, _, rfl, .inr ⟨i, rfl, by omega, ⟨x, hx, hb⟩, hall⟩⟩) (fun hb => ⟨l.length - (i + 1), by omega, i + 1, by rw [wrap_i (by omega)]; rfl, by omega, rfl, e6.trans e11, w11, fun j y hj hy => ?_⟩)⟩
  rcases Nat.lt_or_ge j i with h | h
  ·exact hall j y h hy
  ·obtain rfl : j = i := by omega
   rw [hx] at hy; obtain rfl := Option.some.inj hy; exact hb
 ·rw [List.any_eq_false]
  intro x hx
  obtain ⟨j, hj⟩ := List.mem_iff_getElem?.1 hx
  have : j < l.length := by
   rcases Nat.lt_or_ge j l.length with h | h
   ·exact h
   ·rw [List.getElem?_eq_none h] at hj; cases hj
  rw [hall j x (by omega) hj]; simp
theorem ContainsFunc_ok (hl : Sl itemC 5 s a l) (hn : l.length ≤ 2 ^ 40) (hf : ∀ i s', Ext s s' → WFs s' → ACalls Tryz.prog g ([.agg (itemC i)] ++ cap) s' fun v s'' => v = .bool (P i) ∧ Ext s' s'') :
  ACalls Tryz.prog F_slices_ContainsFunc__s_Item_Item [a, .func g cap] s fun v s' => v = .bool (l.any P) ∧ Ext s s' := by
 refine q_slices_ContainsFunc__s_Item_Item _ _ _ _ ?_
 refine ACalls.use (IndexFunc_ok hl hn hf) ?_
 rintro v s2 ⟨e, n, rfl, h⟩ _
 refine ⟨_, rfl, ?_, e⟩
 congr 1
 rcases h with ⟨rfl, h⟩ | ⟨k, rfl, hk, ⟨x, hx, hp⟩, _⟩
 ·rw [h]; decide
 ·rw [List.any_eq_true.2 ⟨x, List.mem_of_getElem? hx, hp⟩, decide_eq_true_eq]; omega
theorem See1_ok (i : Itm) (s : AS) : ACalls Tryz.prog F_orset_Set_See_1 [.agg (itemC i)] s fun v s' => v = .bool (!i.may) ∧ Ext s s' := by
 refine ACalls.pre fun hw => q_orset_Set_See_1 _ _ _ ⟨rfl, NewQ.intro hw rfl fun l s1 F => ⟨_, F.own.at.rdc (by simp [itemC]), ?_⟩⟩
 refine ACalls.use (May_ok i _) ?_
 rintro v s2 ⟨rfl, e⟩ _
 exact ⟨_, rfl, rfl, F.ext.trans e⟩
end
def OSet.sees (x : OSet) (l : List Itm) : Bool × OSet := l.foldl (fun a i => (a.1 || (a.2.see i).1, (a.2.see i).2)) (false, x)
section
variable {F : List Nat} {s : AS} {p : Nat} {x : OSet}
theorem LiveAt.lenB {l n : Nat} {f : Dot → Option Key} (h : LiveAt s l f n) : alenB T Y_m_Dot_Key (.map (some l)) s = some (.int .i64 (n : Nat)) := by
 obtain ⟨es, c, h1, _, h3⟩ := h
 rw [h1.lenB mp_live, h3]
theorem TombAt.lenB {l n : Nat} {f : Dot → Bool} (h : TombAt s l f n) : alenB T Y_m_Dot_struct__is_bool__ (.map (some l)) s = some (.int .i64 (n : Nat)) := by
 obtain ⟨es, c, h1, _, h3⟩ := h
 rw [h1.lenB mp_tombs, h3]
theorem See_bad (h : SetF F s p x) {a : AV} {l : List Itm} (hl : Sl itemC 5 s a l) (hn : l.length ≤ 2 ^ 40) (hall : ¬ ∀ i ∈ l, i.may = true) :
  ACalls Tryz.prog F_orset_Set_See [.ptr (some (p, 0)), a] s fun r s' => r = .tup [.bool false, .int .i64 2] ∧ Ext s s' := by
 refine q_orset_Set_See _ _ _ _ ?_
 refine ACalls.use (there_ok h) ?_
 rintro v s2 ⟨rfl, rfl⟩ w2
 refine ⟨_, rfl, bsplit.no rfl ?_⟩
 refine ACalls.use (ContainsFunc_ok (P := fun i => !i.may) hl hn fun i s' _ _ => See1_ok i s') ?_
 rintro v s5 ⟨rfl, e5⟩ w5
 have : l.any (fun i => !i.may) = true := by
  rw [List.any_eq_true]
  apply Decidable.byContradiction
  intro h
  refine hall fun i hi => ?_
  cases hq : i.may with
  | true => rfl
  | false => exact absurd ⟨i, hi, by simp [hq]⟩ h
 rw [this]
 exact ⟨_, rfl, bsplit.yes rfl ⟨rfl, e5⟩⟩
theorem See_ok (h : SetF F s p x) {a : AV} {l : List Itm} (hl : Sl itemC 5 s a l) (hall : ∀ i ∈ l, i.may = true) (hr1 : x.ex.length + l.length ≤ 4096) (hr2 : x.nl + l.length ≤ 1024) (hr3 : x.nl + x.nt + l.length ≤ 4096) :
  ACalls Tryz.prog F_orset_Set_See [.ptr (some (p, 0)), a] s fun r s' => r = .tup [.bool (x.sees l).1, .int .i64 0] ∧ ∃ F', SetF F' s' p (x.sees l).2 ∧ (∀ y ∈ F', y = p ∨ s.h y = none) ∧ (∀ y ∈ F', s'.h y ≠ none) ∧ Mut [p] s s' := by
 refine q_orset_Set_See _ _ _ _ ?_
 refine ACalls.use (there_ok h) ?_
 rintro v s2 ⟨rfl, rfl⟩ w2
 refine ⟨_, rfl, bsplit.no rfl ?_⟩
 refine ACalls.use (ContainsFunc_ok (P := fun i => !i.may) hl (by omega) fun i s' _ _ => See1_ok i s') ?_
 rintro v s5 ⟨rfl, e5⟩ w5
 have : l.any (fun i => !i.may) = false := by
  rw [List.any_eq_false]
  intro i hi
  simp [hall i hi]
 rw [this]
 refine ⟨_, rfl, bsplit.no rfl ?_⟩
 refine ACalls.use (Copy_ok (h.ext e5)) ?_
 rintro v s8 ⟨po, F0, rfl, hS, hn0, ht0, e8⟩ w8
 have E8 := e5.trans e8
 have hp : ∃ cs, Am.Own s2 p cs ∧ cs.length = 3 := by
  obtain ⟨_, _, _, pc, lm, tm, a, _⟩ := h
  exact ⟨_, a, rfl⟩
 obtain ⟨cs, hp, hcs⟩ := hp
 have hstep : ∀ (i : Nat) y, l[i]? = some y → x.sees (l.take (i + 1)) = ((x.sees (l.take i)).1 || ((x.sees (l.take i)).2.see y).1, ((x.sees (l.take i)).2.see y).2) := by
  intro i y hy
  unfold OSet.sees
  rw [List.take_add_one, hy, Option.toList_some, List.foldl_append]
  rfl
 refine ⟨_, rfl, fun vs s' => vs = [.bool (x.sees l).1] ∧ WFs s' ∧ Ext s2 s' ∧ ∃ F', SetF F' s' po (x.sees l).2 ∧ (∀ y ∈ F', s2.h y = none) ∧ (∀ y ∈ F', s'.h y ≠ none) ∧ (x.sees l).2.nl ≤ 1024 ∧ (x.sees l).2.nl + (x.sees l).2.nt ≤ 4096, ?_, ?_⟩
 ·rintro b s12 ⟨hb, w12, e12, F', hS', hn', ht', hl1, hl2⟩
  simp only [List.cons.injEq, AV.bool.injEq, and_true] at hb
  subst hb
  obtain ⟨ok, gap, hlen, pc, lm, tm, a', hpF, hc, hlF, htF, hlt, hlv, htb⟩ := hS'
  refine ⟨fun vs s' => vs = [.bool false] ∧ s' = s12, ?_, _, by rw [a'.at.rd1]; rfl, _, hlv.lenB, bsplit.no (by rw [decide_eq_false_iff_not]; omega) ⟨_, by rw [a'.at.rd1]; rfl, _, hlv.lenB, _, by rw [a'.at.rd1]; rfl, _, htb.lenB, ?_, rfl⟩⟩
  ·rintro b s15 ⟨hb, rfl⟩
   simp only [List.cons.injEq, AV.bool.injEq, and_true] at hb
   subst hb
   have ho := hp.ext e12
   refine bsplit.no rfl ⟨_, a'.at.rdc (by simp), ⟨by simp, rfl⟩, StQ.own w12 ho (by simp [hcs]) fun s21 P => ⟨rfl, p :: F', ⟨ok, gap, hlen, pc, lm, tm, ?_, by simp, ?_, by simp [hlF], by simp [htF], hlt, hlv.mut P.mut ?_, htb.mut P.mut ?_⟩, fun y hy => ?_, fun y hy => ?_, e12.mut.trans P.mut⟩⟩
   ·have := P.at
    rw [wrs_all0 (by simp [hcs])] at this
    exact this
   ·refine (hc.mut P.mut fun y hy hm => ?_).sub fun y hy => by simp [hy]
    obtain rfl := List.mem_singleton.1 hy
    have := hn' _ hm
    rw [hp] at this; cases this
   ·intro hm
    obtain rfl := List.mem_singleton.1 hm
    have := hn' _ hlF
    rw [hp] at this; cases this
   ·intro hm
    obtain rfl := List.mem_singleton.1 hm
    have := hn' _ htF
    rw [hp] at this; cases this
   ·rcases List.mem_cons.1 hy with rfl | hy
    ·exact .inl rfl
    ·exact .inr (hn' y hy)
   ·by_cases e : y = p
    ·rw [e, P.at]; simp
    ·rw [P.eq y e]
     rcases List.mem_cons.1 hy with rfl | hy
     ·exact absurd rfl e
     ·exact ht' y hy
  ·rw [wrap_i (by omega), show decide (((x.sees l).2.nl : Int) + ((x.sees l).2.nt : Int) > 4096) = false from by rw [decide_eq_false_iff_not]; omega]
 ·refine ⟨_, hl.lenB u_s_Item _, fun m vs s' => ∃ i : Nat, vs = [.bool (x.sees (l.take i)).1, .int .i64 (i : Nat)] ∧ i ≤ l.length ∧ m = l.length - i ∧ WFs s' ∧ Ext s2 s' ∧ (∃ F', SetF F' s' po (x.sees (l.take i)).2 ∧ (∀ y ∈ F', s2.h y = none) ∧ (∀ y ∈ F', s'.h y ≠ none)) ∧ (x.sees (l.take i)).2.ex.length ≤ x.ex.length + i ∧ (x.sees (l.take i)).2.nl ≤ x.nl + i ∧ (x.sees (l.take i)).2.nl + (x.sees (l.take i)).2.nt ≤ x.nl + x.nt + i, l.length, ⟨0, rfl, by omega, rfl, w8, E8, ⟨F0, hS, fun y hy => e5.none (hn0 y hy), ht0⟩, by simp [OSet.sees], by simp [OSet.sees], by simp [OSet.sees]⟩, ?_⟩
  rintro m b n s40 ⟨i, hi, h6, rfl, w40, e40, ⟨F', hS', hn', ht'⟩, r1, r2, r3⟩
  simp only [List.cons.injEq, AV.int.injEq, AV.bool.injEq, true_and, and_true] at hi
  obtain ⟨rfl, rfl⟩ := hi
  refine bsplit.dec (fun hlt => ?_) (fun hge => ?_)
  ·obtain ⟨y, hy⟩ := get_lt (l := l) (i := i) (by omega)
   obtain ⟨la, o, h8, h9⟩ := hl.ix (by decide) itemC_len u_s_Item z_Item hy
   have hmay : y.dot.may = true := by
    have := hall y (List.mem_of_getElem? hy)
    simp only [Itm.may, Bool.and_eq_true] at this
    exact this.1
   refine ⟨la, o, h8 _, _, (h9 _ e40).2, NewSt w40 rfl rfl rfl fun l44 s46 F46 => ?_⟩
   refine ⟨_, F46.own.at.rdc (by simp [itemC]), ?_⟩
   have ht46 : ∀ z ∈ F', s46.h z ≠ none := fun z hz hq => ht' z hz (F46.ext.none hq)
   have hsl := see_len (x.sees (l.take i)).2 y hS'.ok hmay (by omega)
   refine ACalls.use (see_ok (hS'.ext F46.ext) ht46 y hmay (by omega)) ?_
   rintro v s49 ⟨rfl, F2, hS2, hn2, ht2, m2⟩ w49
   have hs1 := hstep i y hy
   have E49 : Ext s2 s49 := Ext.wrL (e40.trans F46.ext) hn' m2
   refine ⟨_, _, rfl, bsplit.no (by decide) ?_⟩
   have hn2' : ∀ z ∈ F2, s2.h z = none := fun z hz => by
    rcases hn2 z hz with h | h
    ·exact hn' z h
    ·exact (e40.trans F46.ext).none h
   have rest : SetF F2 s49 po (x.sees (l.take (i + 1))).2 ∧ (x.sees (l.take (i + 1))).2.ex.length ≤ x.ex.length + (i + 1) ∧ (x.sees (l.take (i + 1))).2.nl ≤ x.nl + (i + 1) ∧ (x.sees (l.take (i + 1))).2.nl + (x.sees (l.take (i + 1))).2.nt ≤ x.nl + x.nt + (i + 1) := by
    rw [hs1]
    exact ⟨hS2, by simp only; omega, by simp only; omega, by simp only; omega⟩
   refine bsplit.mk (fun hb => ?_) (fun hb => ?_)
   ·exact ⟨l.length - (i + 1), by omega, i + 1, by rw [wrap_i (by omega), hs1, hb]; rfl, by omega, rfl, w49, E49, ⟨F2, rest.1, hn2', ht2⟩, rest.2⟩
   ·exact ⟨l.length - (i + 1), by omega, i + 1, by rw [wrap_i (by omega), hs1, hb]; rfl, by omega, rfl, w49, E49, ⟨F2, rest.1, hn2', ht2⟩, rest.2⟩
  ·obtain rfl : i = l.length := by omega
   rw [List.take_length] at *
   exact ⟨rfl, w40, e40, F', hS', hn', ht', by omega, by omega⟩
end
/-! ### the live dots that something holds of -/
section
variable {F : List Nat} {s : AS} {p : Nat} {x : OSet} {g : FuncId} {cap : List AV} {P : Dot → Key → Bool}
end
/-! ### items that are gone -/
def goneI (d : Dot) : Itm := ⟨d, ⟨[], []⟩, true⟩
theorem build_gone (d : Dot) : abuild T Y_Item [(0, .agg (dotC d)), (2, .bool true)] = some (.agg (itemC (goneI d))) := by kernel_rfl
theorem gone_ok {s : AS} {a : AV} {l : List Dot} (hl : Dots s a l) (hn : l.length ≤ 2 ^ 29) :
  ACalls Tryz.prog F_orset_gone [a] s fun v s' => GroN itemC 5 [] s s' v (l.map goneI) := by
 refine ACalls.pre fun hw => q_orset_gone _ _ _ ⟨_, hl.lenB u_s_Dot _, fun m vs s' => ∃ (i : Nat) (v : AV), vs = [v, .int .i64 (i : Nat)] ∧ i ≤ l.length ∧ m = l.length - i ∧ WFs s' ∧ GroN itemC 5 [] s s' v ((l.take i).map goneI), l.length, ⟨0, _, rfl, by omega, rfl, hw, by simpa using GroN.nil⟩, ?_⟩
 rintro m v5 n s7 ⟨i, v', hi, h6, rfl, w7, g7⟩
 simp only [List.cons.injEq, AV.int.injEq, true_and, and_true] at hi
 obtain ⟨rfl, rfl⟩ := hi
 refine bsplit.dec (fun hlt => ?_) (fun hge => ?_)
 ·obtain ⟨d, hx⟩ := get_lt (l := l) (i := i) (by omega)
  obtain ⟨la, o, h8, h9⟩ := hl.ix (by decide) dotC_len u_s_Dot z_Dot hx
  have ht : (l.take (i + 1)).map goneI = (l.take i).map goneI ++ [goneI d] := by
   rw [List.take_add_one, hx, List.map_append]; rfl
  refine ⟨la, o, h8 _, _, (h9 _ g7.chg.ext).2, NewSt w7 rfl rfl rfl fun l11 s13 F13 => ?_⟩
  refine ⟨_, F13.own.at.rdc (by simp [dotC]), _, build_gone d, GroN.append1 sl_s_Item itemC_len itemC_one F13.wf (g7.step F13.ext) (by simp) (goneI d) (by simp; omega) fun v' s' g' w' _ => ?_⟩
  exact ⟨l.length - (i + 1), by omega, i + 1, v', by rw [wrap_i (by omega)]; rfl, by omega, rfl, w', by rw [ht]; exact g'⟩
 ·rw [List.take_of_length_le (by omega)] at g7
  exact g7
end Go.Proofs.YtoklmpkpeanloaaGreat
end

section
namespace Go.Proofs.YtoklmpkpeanloaaGreat
open Go.Am Go.Minster Go.Minster2
def OSet.zero : OSet := ⟨zeros, [], fun _ => none, fun _ => false, 0, 0⟩
theorem ctx_New_G (s : AS) : ACalls Tryz.prog F_ctx_New [] s fun r s' => ∃ p, r = .ptr (some (p, 0)) ∧ s.h p = none ∧ CtxG s s' p zeros [] ∧ Ext s s' := by
 refine ACalls.pre fun hw => q_ctx_New _ _ ?_
 have hb : abuild T Y_ctx_Ctx [(2, .bool true)] = some (.agg (zeros.map (.int .u64) ++ [.slc none 0 0 true, .bool true])) := by kernel_rfl
 exact ⟨_, hb, rfl, NewQ.intro hw rfl fun p s1 F => ⟨p, rfl, F.no, ⟨rfl, _, F.own, rfl, Gro.nil, by simp [labOf]⟩, F.ext⟩⟩
theorem New_ok (s : AS) : ACalls Tryz.prog F_orset_New [] s fun r s' => ∃ p F, r = .ptr (some (p, 0)) ∧ SetF F s' p OSet.zero ∧ (∀ y ∈ F, s.h y = none) ∧ (∀ y ∈ F, s'.h y ≠ none) ∧ Ext s s' := by
 refine ACalls.pre fun hw => q_orset_New _ _ ?_
 refine ACalls.use (ctx_New_G s) ?_
 rintro v s2 ⟨pc, rfl, hpc, hG, e2⟩ w2
 refine ⟨_, rfl, NewQ.intro w2 rfl fun lm s5 F5 => NewQ.intro F5.wf rfl fun tm s7 F7 => ⟨_, set_build _ _ _, rfl, NewQ.intro F7.wf rfl fun p s10 F10 => ?_⟩⟩
 obtain ⟨Fc, hcF, hFn, hFt⟩ := hG.toF hpc
 have e10 := F5.ext.trans (F7.ext.trans F10.ext)
 have e57 := F7.ext.trans F10.ext
 have hlm : s10.h lm = some (.map [] 0 false) := e57.1 _ _ F5.at
 have htm : s10.h tm = some (.map [] 0 false) := F10.ext.1 _ _ F7.at
 have hne : lm ≠ tm := by
  rintro rfl
  have := F7.no
  rw [F5.at] at this; cases this
 refine ⟨p, p :: lm :: tm :: Fc, rfl, ⟨COk.zero, (fun y hy => by cases hy), by simp [OSet.zero], pc, lm, tm, F10.own, by simp, (hcF.mut (L := []) e10.mut (by simp)).sub (fun y hy => by simp [hy]), by simp, by simp, hne, ⟨[], 0, MpAt.new hlm, fun d => rfl, rfl⟩, ⟨[], 0, MpAt.new htm, fun d => rfl, rfl⟩⟩, ?_, ?_, e2.trans e10⟩
 ·intro y hy
  simp only [List.mem_cons] at hy
  rcases hy with rfl | rfl | rfl | hy
  ·exact e2.none (F5.ext.none (F7.ext.none F10.no))
  ·exact e2.none F5.no
  ·exact e2.none (F5.ext.none F7.no)
  ·exact hFn y hy
 ·intro y hy
  simp only [List.mem_cons] at hy
  rcases hy with rfl | rfl | rfl | hy
  ·rw [F10.at]; simp
  ·rw [hlm]; simp
  ·rw [htm]; simp
  ·cases hq : s2.h y with
   | none => exact absurd hq (hFt y hy)
   | some ob => rw [e10.1 y ob hq]; simp
section
variable {F : List Nat} {s s' : AS} {p : Nat} {x : OSet} {k : Key}
theorem Ctx_ok (h : SetF F s p x) : ACalls Tryz.prog F_orset_Set_Ctx [.ptr (some (p, 0))] s fun r s' => ∃ q, r = .ptr (some (q, 0)) ∧ s.h q = none ∧ CtxG s s' q x.v x.ex ∧ Ext s s' := by
 refine q_orset_Set_Ctx _ _ _ ?_
 refine ACalls.use (there_ok h) ?_
 rintro v s2 ⟨rfl, rfl⟩ w2
 have hlx := h.len
 obtain ⟨ok, gap, hlen, pc, lm, tm, a, hpF, hc, _⟩ := h
 refine ⟨_, rfl, bsplit.no rfl ⟨_, by rw [a.at.rd1]; rfl, ?_⟩⟩
 refine ACalls.use (ctx_Copy_G hc.at (by omega)) ?_
 rintro v s8 ⟨q, rfl, hq, g, e⟩ _
 exact ⟨_, rfl, q, rfl, hq, g, e⟩
theorem build_item (d : Dot) (k : Key) : abuild T Y_Item [(0, .agg (dotC d)), (1, .agg (keyC k))] = some (.agg (itemC ⟨d, k, false⟩)) := by kernel_rfl
end
end Go.Proofs.YtoklmpkpeanloaaGreat
end

section
set_option maxRecDepth 100000
set_option maxHeartbeats 4000000
namespace Go.Proofs.YtoklmpkpeanloaaGreat
open Go.Am
end Go.Proofs.YtoklmpkpeanloaaGreat
end

section
namespace Go.Minster.SK
open Go.Minster2
end Go.Minster.SK
namespace Go.Proofs.YtoklmpkpeanloaaGreat.SK
open Go.Am Go.Minster2 Go.Minster.SK
theorem ab1 {y i : Nat} (h : i ≤ y) : abound1 y (.int .i64 (i : Nat)) = some i := by
 have : (0 : Int) ≤ (i : Int) ∧ (i : Int) ≤ ((y : Nat) : Int) := by omega
 simp only [abound1, if_pos this, Int.toNat_natCast]
theorem asl_from {a o n c i : Nat} {e : Bool} (h1 : i < n) (h2 : n ≤ c) : aslice T Y_s_Key (.slc (some (a, o)) n c e) (some (.int .i64 (i : Nat))) none none = some (.slc (some (a, o + i * 2)) (n - i) (c - i) e) := by
 have h3 : ¬ c = i := by omega
 cases e <;> simp [aslice, u_s_Key, z_Key, abounds, aopt, ahigh, ab1 (show i ≤ n by omega), h2, h3]
theorem asl_to {a o n c i : Nat} {e : Bool} (h1 : i ≤ c) (h0 : 0 < c) : aslice T Y_s_Key (.slc (some (a, o)) n c e) none (some (.int .i64 (i : Nat))) none = some (.slc (some (a, o)) i c e) := by
 have : ¬ c = 0 := by omega
 cases e <;> simp [aslice, u_s_Key, z_Key, abounds, aopt, ahigh, ab1 h1, this]
theorem clear_ok {s : AS} {lo n c i m : Nat} {e : Bool} {l : List Key} {rest : List AV} {g : Nat} (hw : WFs s) (hobj : s.h lo = some (.cells (l.flatMap keyC ++ rest) g false)) (hi : i < l.length) (hn : n = l.length - i) (ho : m = i * 2) {K : AS → Prop}
  (hk : ∀ s', (∃ rest', s'.h lo = some (.cells ((l.take i).flatMap keyC ++ rest') g false)) → WFs s' → Mut [lo] s s' → K s') : StQ (aclear T Y_s_Key (.slc (some (lo, m)) n c e) s) K := by
 subst hn; subst ho
 have hne : ¬ l.length - i = 0 := by omega
 have hrl : (rep (l.length - i) [AV.str [], AV.str []]).length = (l.length - i) * 2 := by simp [rep]
 have e1 : aclear T Y_s_Key (.slc (some (lo, i * 2)) (l.length - i) c e) s = awr s lo (i * 2) (rep (l.length - i) [AV.str [], AV.str []]) := by
  simp only [aclear, u_s_Key, if_neg hne, zr_Key, Option.bind_some, acells_agg]
  rfl
 rw [e1]
 refine StQ.awr hw hobj (by rw [hrl, List.length_append, dots_len]; omega) fun s' P => hk s' ⟨rep (l.length - i) [AV.str [], AV.str []] ++ ((l.drop i).flatMap keyC ++ rest).drop (rep (l.length - i) [AV.str [], AV.str []]).length, ?_⟩ P.wf P.mut
 have hsp : l.flatMap keyC ++ rest = (l.take i).flatMap keyC ++ ((l.drop i).flatMap keyC ++ rest) := by
  rw [← List.append_assoc, ← List.flatMap_append, List.take_append_drop]
 rw [P.at, hsp]
 have hl : ((l.take i).flatMap keyC).length = i * 2 := by rw [dots_len, List.length_take]; omega
 rw [← hl, wrs_app _ _ _ (by rw [hrl, List.length_append, dots_len, List.length_drop]; omega), List.append_assoc]
end Go.Proofs.YtoklmpkpeanloaaGreat.SK
end

section
namespace Go.Proofs.YtoklmpkpeanloaaGreat
open Go.Am Go.Minster Go.Minster2
section
variable {m : Nat} {es : List (Dot × Key × Nat)} {c : Nat} {ro : Bool} {s : AS}
end
section
variable {F : List Nat} {s s' : AS} {p : Nat} {x : OSet}
end
end Go.Proofs.YtoklmpkpeanloaaGreat
end

section
namespace Go.Proofs.YtoklmpkpeanloaaGreat
open Go.Am Go.Minster Go.Minster2
def OSet.has (x : OSet) (d : Dot) : Bool := hasD x.v x.ex d
def OSet.keeps (x : OSet) (d : Dot) : Prop := d ∈ x.ex ∨ (x.live d).isSome = true ∨ x.tomb d = true
structure OOk (x : OSet) (B : Nat) : Prop where
 ok : COk x.v x.ex
 gap : Gap x.v x.ex
 lv : ∀ d k, x.live d = some k → x.has d = true ∧ k.may = true
 tb : ∀ d, x.tomb d = true → x.has d = true ∧ x.live d = none
 sz : ∃ U : List Dot, U.length ≤ B ∧ ∀ d, x.keeps d → d ∈ U
theorem OOk.zero : OOk OSet.zero 0 := ⟨COk.zero, (fun y hy => by cases hy), (fun d k h => by cases h), (fun d h => by cases h), [], by simp, fun d h => by
  rcases h with h | h | h
  ·cases h
  ·cases h
  ·cases h⟩
theorem OOk.mono {x : OSet} {B B' : Nat} (h : OOk x B) (hb : B ≤ B') : OOk x B' := by
 obtain ⟨a, b, c, d, U, e, f⟩ := h; exact ⟨a, b, c, d, U, by omega, f⟩
section
variable {x : OSet} {B : Nat} {i : Itm}
theorem addR_no {v : List Int} {ex : List Dot} {d : Dot} (h : hasD v ex d = false) : addR v ex d = compact v (ins ex d) := by simp [addR, h]
theorem see_has (h : OOk x B) (hi : i.dot.may = true) (d : Dot) : (x.see i).2.has d = (x.has d || decide (d = i.dot)) := by
 unfold OSet.see
 split
 ·rename_i hc
  simp only [Bool.and_eq_true] at hc
  obtain ⟨k, hk⟩ := Option.isSome_iff_exists.1 hc.1
  have := (h.lv _ _ hk).1
  by_cases e : d = i.dot
  ·subst e; simp only [OSet.has] at this ⊢; simp [this]
  ·simp [OSet.has, e]
 ·split
  ·rename_i hh
   by_cases e : d = i.dot
   ·subst e; simp [OSet.has, hh]
   ·simp [OSet.has, e]
  ·rename_i hh
   have hh' : hasD x.v x.ex i.dot = false := by simpa using hh
   have key : hasD (compact x.v (ins x.ex i.dot)).1 (compact x.v (ins x.ex i.dot)).2 d = (hasD x.v x.ex d || decide (d = i.dot)) := by
    have := addR_has h.ok hi d
    rw [addR_no hh'] at this
    cases hq : hasD (compact x.v (ins x.ex i.dot)).1 (compact x.v (ins x.ex i.dot)).2 d with
    | true => rcases this.1 hq with h | h <;> simp [h]
    | false =>
     cases hq2 : (hasD x.v x.ex d || decide (d = i.dot)) with
     | false => rfl
     | true =>
      simp only [Bool.or_eq_true, decide_eq_true_eq] at hq2
      rw [this.2 hq2] at hq; cases hq
   split
   ·exact key
   ·exact key
theorem see_live (h : OOk x B) (d : Dot) : (x.see i).2.live d = if d = i.dot then (if i.gone then none else if x.has d then x.live d else some i.key) else x.live d := by
 unfold OSet.see
 split
 ·rename_i hc
  simp only [Bool.and_eq_true] at hc
  simp [hc.2]
 ·rename_i hc
  split
  ·rename_i hh
   by_cases e : d = i.dot
   ·subst e
    cases hg : i.gone with
    | true =>
     rw [hg, Bool.and_true] at hc
     simp only [if_true]
     simpa using hc
    | false => simp [OSet.has, hh]
   ·simp [e]
  ·rename_i hh
   have hnone : x.live i.dot = none := by
    cases hq : x.live i.dot with
    | none => rfl
    | some k => exact absurd (h.lv _ _ hq).1 hh
   split
   ·rename_i hg
    by_cases e : d = i.dot
    ·subst e; simp [hg, hnone]
    ·simp [e]
   ·rename_i hg
    by_cases e : d = i.dot
    ·subst e; simp [hg, OSet.has, hh]
    ·simp [e]
theorem see_tomb (h : OOk x B) (d : Dot) : (x.see i).2.tomb d = (x.tomb d || (decide (d = i.dot) && i.gone && ((x.live d).isSome || !x.has d))) := by
 unfold OSet.see
 split
 ·rename_i hc
  simp only [Bool.and_eq_true] at hc
  by_cases e : d = i.dot
  ·subst e; simp [hc.1, hc.2]
  ·simp [e]
 ·rename_i hc
  split
  ·rename_i hh
   by_cases e : d = i.dot
   ·subst e
    have : ((x.live i.dot).isSome || !x.has i.dot) = (x.live i.dot).isSome := by simp [OSet.has, hh]
    rw [this]
    cases hg : i.gone with
    | true => rw [hg, Bool.and_true] at hc; simp [hc]
    | false => simp
   ·simp [e]
  ·rename_i hh
   have hh' : x.has i.dot = false := by simpa [OSet.has] using hh
   split
   ·rename_i hg
    by_cases e : d = i.dot
    ·subst e; simp [hg, hh']
    ·simp [e]
   ·rename_i hg
    simp [hg]
theorem see_chg (h : OOk x B) : (x.see i).1 = (((x.live i.dot).isSome && i.gone) || !x.has i.dot) := by
 unfold OSet.see
 split
 ·rename_i hc; simp [hc]
 ·rename_i hc
  have hc' : ((x.live i.dot).isSome && i.gone) = false := by simpa using hc
  rw [hc']
  split
  ·rename_i hh; simp [OSet.has, hh]
  ·rename_i hh
   split <;> simp [OSet.has, hh]
theorem see_OOk (h : OOk x B) (hi : i.may = true) : OOk (x.see i).2 (if x.has i.dot then B else B + 1) := by
 have him : i.dot.may = true := by simp only [Itm.may, Bool.and_eq_true] at hi; exact hi.1
 have hok : COk (x.see i).2.v (x.see i).2.ex ∧ Gap (x.see i).2.v (x.see i).2.ex := by
  unfold OSet.see
  split
  ·exact ⟨h.ok, h.gap⟩
  ·split
   ·exact ⟨h.ok, h.gap⟩
   ·rename_i hh
    have hh' : hasD x.v x.ex i.dot = false := by simpa using hh
    have h1 := h.ok.add him
    have h2 := Gap.add h.ok h.gap him
    rw [addR_no hh'] at h1 h2
    split <;> exact ⟨h1, h2⟩
 refine ⟨hok.1, hok.2, fun d k hd => ?_, fun d hd => ?_, ?_⟩
 ·rw [see_live h] at hd
  rw [see_has h him]
  by_cases e : d = i.dot
  ·subst e
   rw [if_pos rfl] at hd
   refine ⟨by simp, ?_⟩
   split at hd
   ·cases hd
   ·split at hd
    ·exact (h.lv _ _ hd).2
    ·rename_i hg _
     simp only [Option.some.injEq] at hd
     subst hd
     simp only [Itm.may, Bool.and_eq_true] at hi
     have := hi.2
     rw [if_neg hg] at this; exact this
  ·rw [if_neg e] at hd
   have := h.lv _ _ hd
   exact ⟨by simp [this.1], this.2⟩
 ·rw [see_tomb h] at hd
  rw [see_has h him, see_live h]
  simp only [Bool.or_eq_true, Bool.and_eq_true, decide_eq_true_eq] at hd
  rcases hd with hd | ⟨⟨rfl, hg⟩, _⟩
  ·have := h.tb _ hd
   refine ⟨by simp [this.1], ?_⟩
   by_cases e : d = i.dot
   ·subst e; simp [this.1, this.2]
   ·rw [if_neg e]; exact this.2
  ·refine ⟨by simp, by simp [hg]⟩
 ·obtain ⟨U, hU, hm⟩ := h.sz
  have hl : ∀ d, ((x.see i).2.live d).isSome = true → (x.live d).isSome = true ∨ (d = i.dot ∧ x.has i.dot = false) := by
   intro d hd
   rw [see_live h] at hd
   by_cases e : d = i.dot
   ·subst e
    rw [if_pos rfl] at hd
    split at hd
    ·cases hd
    ·split at hd
     ·exact .inl hd
     ·rename_i hn; exact .inr ⟨rfl, by simpa using hn⟩
   ·rw [if_neg e] at hd; exact .inl hd
  have ht : ∀ d, (x.see i).2.tomb d = true → x.keeps d ∨ (d = i.dot ∧ x.has i.dot = false) := by
   intro d hd
   rw [see_tomb h] at hd
   simp only [Bool.or_eq_true, Bool.and_eq_true, decide_eq_true_eq] at hd
   rcases hd with hd | ⟨⟨rfl, hg⟩, hd | hd⟩
   ·exact .inl (.inr (.inr hd))
   ·exact .inl (.inr (.inl hd))
   ·exact .inr ⟨rfl, by simpa using hd⟩
  by_cases hh : x.has i.dot = true
  ·rw [if_pos hh]
   have hex : (x.see i).2.ex = x.ex := by
    unfold OSet.see
    split
    ·rfl
    ·rw [if_pos (show hasD x.v x.ex i.dot = true from hh)]
   refine ⟨U, hU, fun d hd => ?_⟩
   rcases hd with hd | hd | hd
   ·rw [hex] at hd; exact hm _ (.inl hd)
   ·rcases hl d hd with hd | ⟨_, hd⟩
    ·exact hm _ (.inr (.inl hd))
    ·rw [hh] at hd; cases hd
   ·rcases ht d hd with hd | ⟨_, hd⟩
    ·exact hm _ hd
    ·rw [hh] at hd; cases hd
  ·rw [if_neg hh]
   have hex : ∀ d ∈ (x.see i).2.ex, d = i.dot ∨ d ∈ x.ex := by
    intro d hd
    unfold OSet.see at hd
    split at hd
    ·exact .inr hd
    ·split at hd
     ·exact .inr hd
     ·have : d ∈ (compact x.v (ins x.ex i.dot)).2 := by split at hd <;> exact hd
      exact mem_ins.1 ((compact_sub _ _).subset this)
   refine ⟨i.dot :: U, by simp; omega, fun d hd => ?_⟩
   rcases hd with hd | hd | hd
   ·rcases hex d hd with rfl | hd
    ·simp
    ·simp [hm _ (.inl hd)]
   ·rcases hl d hd with hd | ⟨rfl, _⟩
    ·simp [hm _ (.inr (.inl hd))]
    ·simp
   ·rcases ht d hd with hd | ⟨rfl, _⟩
    ·simp [hm _ hd]
    ·simp
end
theorem sees_aux : ∀ (l : List Itm) (b : Bool) (x : OSet), l.foldl (fun a i => (a.1 || (a.2.see i).1, (a.2.see i).2)) (b, x) = (b || (x.sees l).1, (x.sees l).2)
 | [], b, x => by simp [OSet.sees]
 | i :: l, b, x => by
  unfold OSet.sees
  simp only [List.foldl_cons]
  rw [sees_aux l, sees_aux l (false || _)]
  simp [Bool.or_assoc]
theorem sees_cons (x : OSet) (i : Itm) (l : List Itm) : x.sees (i :: l) = ((x.see i).1 || ((x.see i).2.sees l).1, ((x.see i).2.sees l).2) := by
 conv => lhs; unfold OSet.sees
 rw [List.foldl_cons, sees_aux]
 simp
theorem OOk.sees : ∀ (l : List Itm) {x : OSet} {B : Nat}, OOk x B → (∀ i ∈ l, i.may = true) → OOk (x.sees l).2 (B + l.length)
 | [], x, B, h, _ => h
 | i :: l, x, B, h, hl => by
  rw [sees_cons]
  have h1 := (see_OOk h (hl i (by simp))).mono (B' := B + 1) (by split <;> omega)
  have := OOk.sees l h1 fun j hj => hl j (by simp [hj])
  exact this.mono (by simp; omega)
/-! ### how great -/
theorem rising_nodup {l : List Dot} (h : Rising l) : l.Nodup := h.imp fun {a b} hab e => by subst e; exact Dot.lt_irrefl _ hab
theorem SetF.bnd {F : List Nat} {s : AS} {p : Nat} {x : OSet} {B : Nat} (h : SetF F s p x) (o : OOk x B) : x.nl + x.nt ≤ B ∧ x.ex.length ≤ B := by
 obtain ⟨ok, gap, hlen, pc, lm, tm, a, hpF, hc, hlF, htF, hlt, ⟨es, c, h1, h2, h3⟩, ⟨es', c', h1', h2', h3'⟩⟩ := h
 obtain ⟨U, hU, hm⟩ := o.sz
 have n1 : (es.map fun e => e.1).Nodup := List.pairwise_map.2 h1.nd
 have n2 : (es'.map fun e => e.1).Nodup := List.pairwise_map.2 h1'.nd
 constructor
 ·have hnd : ((es.map fun e => e.1) ++ (es'.map fun e => e.1)).Nodup := by
   refine List.nodup_append.2 ⟨n1, n2, fun a ha b hb => ?_⟩
   rintro rfl
   rw [keys_iff, h2] at ha
   rw [keys_iff, h2'] at hb
   cases hq : x.tomb a with
   | false => rw [hq] at hb; cases hb
   | true => rw [(o.tb _ hq).2] at ha; cases ha
  have := nodup_len hnd fun d hd => hm d ?_
  ·simp only [List.length_append, List.length_map] at this; omega
  ·rcases List.mem_append.1 hd with hd | hd
   ·rw [keys_iff, h2] at hd
    exact .inr (.inl hd)
   ·rw [keys_iff, h2'] at hd
    cases hq : x.tomb d with
    | false => rw [hq] at hd; cases hd
    | true => exact .inr (.inr hq)
 ·have := nodup_len (rising_nodup ok.r) fun d hd => hm d ?_
  ·omega
  ·exact .inl hd
/-! ### rows in order -/
theorem pw_uniq {α : Type} {r : α → α → Prop} (irr : ∀ a, ¬ r a a) (asy : ∀ a b, r a b → ¬ r b a) : ∀ {l l' : List α}, l.Pairwise r → l'.Pairwise r → (∀ x, x ∈ l ↔ x ∈ l') → l = l'
 | [], [], _, _, _ => rfl
 | [], b :: l', _, _, h => by have := (h b).2 (by simp); cases this
 | a :: l, [], _, _, h => by have := (h a).1 (by simp); cases this
 | a :: l, b :: l', h1, h2, h => by
  obtain ⟨p1, p2⟩ := List.pairwise_cons.1 h1
  obtain ⟨q1, q2⟩ := List.pairwise_cons.1 h2
  have hab : a = b := by
   rcases List.mem_cons.1 ((h a).1 (by simp)) with e | ha
   ·exact e
   ·rcases List.mem_cons.1 ((h b).2 (by simp)) with e | hb
    ·exact e.symm
    ·exact absurd (p1 b hb) (asy _ _ (q1 a ha))
  subst hab
  have := pw_uniq irr asy p2 q2 fun x => by
   constructor
   ·intro hx
    rcases List.mem_cons.1 ((h x).1 (by simp [hx])) with e | hx'
    ·subst e; exact absurd (p1 x hx) (irr x)
    ·exact hx'
   ·intro hx
    rcases List.mem_cons.1 ((h x).2 (by simp [hx])) with e | hx'
    ·subst e; exact absurd (q1 x hx) (irr x)
    ·exact hx'
  rw [this]
theorem Dot.lt_asym {a b : Dot} (h : a.lt b = true) : ¬ b.lt a = true := by
 rw [Dot.lt_iff] at *; omega
/-! ### a law's own sets -/
structure SetO (s0 s : AS) (F : List Nat) (p : Nat) (x : OSet) (B : Nat) : Prop where
 set : SetF F s p x
 ok : OOk x B
 new : ∀ y ∈ F, s0.h y = none
 there : ∀ y ∈ F, s.h y ≠ none
def Dj (F G : List Nat) : Prop := ∀ y ∈ F, y ∉ G
section
variable {s0 s s' : AS} {F F' G : List Nat} {p q : Nat} {x y : OSet} {B C : Nat}
theorem SetF.pF (h : SetF F s p x) : p ∈ F := by obtain ⟨_, _, _, pc, lm, tm, _, h, _⟩ := h; exact h
theorem there_mut {L : List Nat} (h : ∀ y ∈ F, s.h y ≠ none) (m : Mut L s s') (d : Dj L F) : ∀ y ∈ F, s'.h y ≠ none := by
 intro y hy
 cases hq : s.h y with
 | none => exact absurd hq (h y hy)
 | some o => rw [m.1 y o (fun hl => d y hl hy) hq]; simp
theorem SetO.keep {L : List Nat} (h : SetO s0 s F p x B) (m : Mut L s s') (d : Dj L F) : SetO s0 s' F p x B :=
 ⟨h.set.mut m d, h.ok, h.new, there_mut h.there m d⟩
theorem SetO.ext (h : SetO s0 s F p x B) (e : Ext s s') : SetO s0 s' F p x B := h.keep (L := []) e.mut (fun y hy => by cases hy)
theorem SetO.bnd (h : SetO s0 s F p x B) : x.nl + x.nt ≤ B ∧ x.ex.length ≤ B := h.set.bnd h.ok
theorem Dj.step (d : Dj F G) (ht : ∀ y ∈ G, s.h y ≠ none) (hF : ∀ y ∈ F', y ∈ F ∨ s.h y = none) : Dj F' G := by
 intro y hy hg
 rcases hF y hy with h | h
 ·exact d y h hg
 ·exact ht y hg h
theorem Dj.sub {L : List Nat} (d : Dj F G) (hL : ∀ y ∈ L, y ∈ F) : Dj L G := fun y hy => d y (hL y hy)
theorem SetO.mut (h : SetO s0 s F p x B) (e : Ext s0 s) {x' : OSet} {B' : Nat} (h' : SetF F' s' p x') (ok : OOk x' B') (hn : ∀ y ∈ F', y ∈ F ∨ s.h y = none) (ht : ∀ y ∈ F', s'.h y ≠ none) : SetO s0 s' F' p x' B' :=
 ⟨h', ok, fun y hy => by
  rcases hn y hy with h2 | h2
  ·exact h.new y h2
  ·exact e.none h2, ht⟩
theorem new_or (hp : p ∈ F) (hn : ∀ y ∈ F', y = p ∨ s.h y = none) : ∀ y ∈ F', y ∈ F ∨ s.h y = none := fun y hy => by
 rcases hn y hy with rfl | h
 ·exact .inl hp
 ·exact .inr h
end
end Go.Proofs.YtoklmpkpeanloaaGreat
end

section
namespace Go.Proofs.YtoklmpkpeanloaaGreat
open Go.Am Go.Minster Go.Minster2
theorem tri_Item : triples (T.und Y_Item) = some [(false, Y_Dot, 0), (false, Y_Key, 2), (false, Y_bool, 4)] := by kernel_rfl
theorem et_Item : T.eqt Y_Item = true := by kernel_rfl
theorem dot_eqd (n : Nat) (a b : Dot) : aeq T (n + 2) Y_Dot (.agg (dotC a)) (.agg (dotC b)) = some (decide (a = b)) := by
 rw [aeq_tri tri_Dot et_Dot]
 simp only [eqTri, cond_false, part_s ag_int, part_s ag_uint64, dotC, List.getElem?_cons_zero, List.getElem?_cons_succ, Option.bind_some, aeqInt u_int, aeqInt u_uint64]
 cases a; cases b
 simp only [Dot.mk.injEq]
 rename_i r c r' c'
 by_cases h1 : r = r' <;> by_cases h2 : c = c' <;> simp [h1, h2]
theorem key_eqd (n : Nat) (a b : Key) : aeq T (n + 2) Y_Key (.agg (keyC a)) (.agg (keyC b)) = some (decide (a = b)) := by
 rw [aeq_tri tri_Key et_Key]
 simp only [eqTri, cond_false, part_s ag_string, keyC, List.getElem?_cons_zero, List.getElem?_cons_succ, Option.bind_some, aeqStr u_string]
 cases a; cases b
 simp only [Key.mk.injEq]
 rename_i r c r' c'
 by_cases h1 : r = r' <;> by_cases h2 : c = c' <;> simp [h1, h2]
theorem item_eq (a b : Itm) : aeq T 100 Y_Item (.agg (itemC a)) (.agg (itemC b)) = some (decide (a = b)) := by
 rw [aeq_tri tri_Item et_Item]
 have e1 : Am.part T Y_Dot (itemC a) 0 = some (.agg (dotC a.dot)) := by rw [part_a ag_Dot z_Dot]; rfl
 have e2 : Am.part T Y_Dot (itemC b) 0 = some (.agg (dotC b.dot)) := by rw [part_a ag_Dot z_Dot]; rfl
 have e3 : Am.part T Y_Key (itemC a) 2 = some (.agg (keyC a.key)) := by rw [part_a ag_Key z_Key]; rfl
 have e4 : Am.part T Y_Key (itemC b) 2 = some (.agg (keyC b.key)) := by rw [part_a ag_Key z_Key]; rfl
 have e5 : Am.part T Y_bool (itemC a) 4 = some (.bool a.gone) := by rw [part_s ag_bool]; rfl
 have e6 : Am.part T Y_bool (itemC b) 4 = some (.bool b.gone) := by rw [part_s ag_bool]; rfl
 simp only [eqTri, cond_false, e1, e2, e3, e4, e5, e6, Option.bind_some, dot_eqd 97, key_eqd 97, aeqBool u_bool]
 cases a; cases b
 simp only [Itm.mk.injEq]
 rename_i d k g d' k' g'
 by_cases h1 : d = d' <;> by_cases h2 : k = k' <;> by_cases h3 : g = g' <;> simp [h1, h2, h3]
section
variable {s0 s : AS} {F : List Nat} {p : Nat} {x : OSet} {B : Nat}
theorem SetO.See (h : SetO s0 s F p x B) (e : Ext s0 s) {a : AV} {l : List Itm} (hl : Sl itemC 5 s a l) (hB : B + l.length ≤ 1000) (hm : ∀ i ∈ l, i.may = true) :
  ACalls Tryz.prog F_orset_Set_See [.ptr (some (p, 0)), a] s fun r s' => r = .tup [.bool (x.sees l).1, .int .i64 0] ∧ Mut [p] s s' ∧ Ext s0 s' ∧ ∃ F' x', x' = (x.sees l).2 ∧ SetO s0 s' F' p x' (B + l.length) ∧ ∀ y ∈ F', y ∈ F ∨ s.h y = none := by
 obtain ⟨b1, b2⟩ := h.bnd
 refine (See_ok h.set hl hm (by omega) (by omega) (by omega)).mono ?_
 rintro r s' ⟨rfl, F', hS, hn', ht', m⟩
 have hF := new_or h.set.pF hn'
 exact ⟨rfl, m, Ext.wr e (h.new _ h.set.pF) m, F', _, rfl, h.mut e hS (h.ok.sees l hm) hF ht', hF⟩
end
/-! ### what is seen and live, by cases -/
end Go.Proofs.YtoklmpkpeanloaaGreat
end

section
set_option maxRecDepth 100000
set_option maxHeartbeats 4000000
namespace Go.Proofs.YtoklmpkpeanloaaGreat
open Go.Am
end Go.Proofs.YtoklmpkpeanloaaGreat
end

section
namespace Go.Proofs.YtoklmpkpeanloaaGreat
open Go.Am Go.Minster Go.Minster2
theorem key_build (a b : List UInt8) : abuild T Y_Key [(0, .str a), (1, .str b)] = some (.agg (keyC ⟨a, b⟩)) := by kernel_rfl
theorem dot_build2 (r c : Int) : abuild T Y_Dot [(0, .int .i64 r), (1, .int .u64 c)] = some (.agg (dotC ⟨r, c⟩)) := by kernel_rfl
theorem rdc_pre {s : AS} {l o n m : Nat} {cs : List AV} (h : rdc s l o n = some cs) (hm : m ≤ n) : rdc s l o m = some (cs.take m) := by
 unfold Am.rdc at *
 split at h
 ·rename_i C g ro hl
  split at h
  ·rename_i hn
   rw [if_pos (by omega)]
   simp only [Option.some.injEq] at h
   rw [← h, List.take_take]
   congr 2; omega
  ·cases h
 ·cases h
end Go.Proofs.YtoklmpkpeanloaaGreat
end

section
namespace Go.Proofs.YtoklmpkpeanloaaGreat
open Go.Am Go.Minster Go.Minster2 Go.ChangeShapes Go.WideShapes Go.ChangeAt Go.RowKit
theorem refName_ok (t : List UInt8) (s : AS) : ACalls Tryz.prog F_ref07iName [.str t] s fun v s' => v = .bool (nameOk t) ∧ s' = s := by
 refine q_ref07iName _ _ _ ⟨_, alen_str t s, bsplit.dec (fun h => ⟨_, alen_str t s, ?_, rfl⟩) (fun h => ⟨?_, rfl⟩)⟩
 ·congr 1
  rw [nameOk, decide_eq_decide]; omega
 ·congr 1
  symm
  rw [nameOk, decide_eq_false_iff_not]; omega
section
variable {s0 s s' : AS} {pa pb : Nat} {xa xb : OSet} {Ba Bb : Nat} {sl : List (AV × List Itm)}
end
end Go.Proofs.YtoklmpkpeanloaaGreat
end

section
set_option maxRecDepth 100000
set_option maxHeartbeats 4000000
namespace Go.Proofs.YtoklmpkpeanloaaGreat
open Go.Am
def Q_orset_Set_Collect (a0 : Option (Nat × Nat)) (a1 : List AV) (s : AS) (R : AV → AS → Prop) : Prop :=
 One1 a1 (NewQ (.cells a1 0 false) s fun l1 s2 => ACalls Tryz.prog F_orset_Set_there [(.ptr a0)] s2 fun v3 s4 => ∃ b5 : Bool, v3 = .bool b5 ∧ (bsplit (!b5)
 (R (.int .i64 1) s4)
 (RdL (rdc s4 l1 0 2) fun g6 => ACalls Tryz.prog F_ctx_May [(.agg g6)] s4 fun v7 s8 => ∃ b9 : Bool, v7 = .bool b9 ∧ (bsplit (!b9)
 (R (.int .i64 2) s8)
 (AsSome a0 fun l10 o11 => RdM (rd1 s8 l10 (o11 + 2)) fun r12 => RdL (rdc s8 l1 0 2) fun g13 => RdG (alookup T Y_m_Dot_struct__is_bool__ (.map r12) (.agg g13) false s8) fun g14 => RdB (g14[0]?) fun b15 => bsplit (!b15)
 (R (.int .i64 6) s8)
 (AsSome a0 fun l16 o17 => RdM (rd1 s8 l16 (o17 + 2)) fun r18 => RdL (rdc s8 l1 0 2) fun g19 => StQ (adelete T Y_m_Dot_struct__is_bool__ (.map r18) (.agg g19) s8) fun s20 => R (.int .i64 0) s20))))))
def A_orset_Set_Collect : QA := (.seq .leaf (.seq (.wrap (.seq .leaf (.cond (.seq .leaf .leaf) (.seq .leaf (.cond (.seq .leaf .leaf) (.seq (.draw 5) (.cond (.seq .leaf .leaf) .leaf))))))) (.seq (.draw 5) (.seq .leaf .leaf))))
theorem q_orset_Set_Collect (a0 : Option (Nat × Nat)) (a1 : List AV) (s : AS) (R : AV → AS → Prop) (h : Q_orset_Set_Collect a0 a1 s R) : ACalls Tryz.prog F_orset_Set_Collect [(.ptr a0), (.agg a1)] s R :=
 ACalls.q (n := 27) (rs := [.tmp 4]) (A := A_orset_Set_Collect) hT hmx Tryz.func17 (by kernel_rfl) rfl rfl rfl (by kernel_rfl) (by kernel_rfl) h
def Q_ref07iMay (a0 : List AV) (s : AS) (R : AV → AS → Prop) : Prop :=
 One1 a0 (NewQ (.cells a0 0 false) s fun l1 s2 => RdB (rd1 s2 l1 4) fun b3 => bsplit b3
 (RdL (rdc s2 l1 0 2) fun g4 => ACalls Tryz.prog F_ref04iMay [(.agg g4)] s2 fun v5 s6 => ∃ b7 : Bool, v5 = .bool b7 ∧ (bsplit b7 (RdL (rdc s6 l1 2 2) fun g8 => RdG (abuild T Y_Key []) fun g9 => RdO (aeq T 100 Y_Key (.agg g8) (.agg g9)) fun b10 => R (.bool b10) s6) (R (.bool false) s6)))
 (RdL (rdc s2 l1 0 2) fun g11 => ACalls Tryz.prog F_ref04iMay [(.agg g11)] s2 fun v12 s13 => ∃ b14 : Bool, v12 = .bool b14 ∧ (bsplit b14 (RdS (rd1 s13 l1 2) fun x15 => ACalls Tryz.prog F_ref07iName [(.str x15)] s13 fun v16 s17 => ∃ b18 : Bool, v16 = .bool b18 ∧ (bsplit b18 (RdS (rd1 s17 l1 3) fun x19 => ACalls Tryz.prog F_ref07iName [(.str x19)] s17 fun v20 s21 => ∃ b22 : Bool, v20 = .bool b22 ∧ (R (.bool b22) s21)) (R (.bool false) s17))) (R (.bool false) s13))))
def A_ref07iMay : QA := (.seq .leaf (.seq (.seq .leaf (.cond (.seq .leaf .leaf) .leaf)) (.seq .leaf .leaf)))
theorem q_ref07iMay (a0 : List AV) (s : AS) (R : AV → AS → Prop) (h : Q_ref07iMay a0 s R) : ACalls Tryz.prog F_ref07iMay [(.agg a0)] s R :=
 ACalls.q (n := 29) (rs := [.tmp 2]) (A := A_ref07iMay) hT hmx Tryz.func14 (by kernel_rfl) rfl rfl rfl (by kernel_rfl) (by kernel_rfl) h
def Q_ref07iSet_Live (a0 : Option (Nat × Nat)) (s : AS) (R : AV → AS → Prop) : Prop :=
 LoopQ fun I1 m2 => I1 m2 [(.slc none 0 0 true), (.int .i64 0)] s ∧
 ∀ m3 : Nat, ∀ v4 : AV, ∀ n5 : Int, ∀ s6 : AS, I1 m3 [v4, (.int .i64 n5)] s6 →
 AsSome a0 fun l7 o8 => RdA (rd1 s6 l7 (o8 + 17)) fun v9 => RdI .i64 (alenB T Y_s_Item v9 s6) fun n10 => bsplit (decide ((n5 : Int) < n10))
 (AsSome a0 fun l11 o12 => RdA (rd1 s6 l11 (o12 + 17)) fun v13 => IxQ (aindexAddr T Y_s_Item v13 (.int .i64 n5)) fun l14 o15 => RdB (rd1 s6 l14 (o15 + 4)) fun b16 => bsplit (!b16)
 (AsSome a0 fun l17 o18 => RdA (rd1 s6 l17 (o18 + 17)) fun v19 => IxQ (aindexAddr T Y_s_Item v19 (.int .i64 n5)) fun l20 o21 => RdL (rdc s6 l20 o21 5) fun g22 => RdL (absl T Y_s_Item 1 [(0, (.agg g22))]) fun g23 => NewQ (.cells g23 0 false) s6 fun l24 s25 => Bd2 (aappend T Y_s_Item Y_s_Item v4 (.slc (some (l24, 0)) 1 1 true) s25) fun v26 s27 => ∃ m', m' < m3 ∧ I1 m' [v26, (.int .i64 (IntKind.wrap .i64 (n5 + 1)))] s27)
 (∃ m', m' < m3 ∧ I1 m' [v4, (.int .i64 (IntKind.wrap .i64 (n5 + 1)))] s6))
 (R v4 s6)
def A_ref07iSet_Live : QA := (.seq .leaf (.seq .leaf (.seq (.seq .leaf (.wrap (.loop [(3, .any), (4, .int .i64)] [(3, 32)] (.seq (.seq .leaf (.cond .leaf .leaf)) (.seq (.wrap (.seq .leaf (.cond .leaf .leaf))) .leaf))))) (.seq .leaf .leaf))))
theorem q_ref07iSet_Live (a0 : Option (Nat × Nat)) (s : AS) (R : AV → AS → Prop) (h : Q_ref07iSet_Live a0 s R) : ACalls Tryz.prog F_ref07iSet_Live [(.ptr a0)] s R :=
 ACalls.q (n := 34) (rs := [.tmp 2]) (A := A_ref07iSet_Live) hT hmx Tryz.func26 (by kernel_rfl) rfl rfl rfl (by kernel_rfl) (by kernel_rfl) h
def Q_ref07iSameItems (a0 : AV) (a1 : AV) (s : AS) (R : AV → AS → Prop) : Prop :=
 RdI .i64 (alenB T Y_s_Item a0 s) fun n1 => RdI .i64 (alenB T Y_s_Item a1 s) fun n2 => bsplit ((n1 : Int) != n2)
 (R (.bool false) s)
 (LoopQ fun I3 m4 => I3 m4 [(.int .i64 0)] s ∧
 ∀ m5 : Nat, ∀ n6 : Int, ∀ s7 : AS, I3 m5 [(.int .i64 n6)] s7 →
 RdI .i64 (alenB T Y_s_Item a0 s7) fun n8 => bsplit (decide ((n6 : Int) < n8))
 (IxQ (aindexAddr T Y_s_Item a0 (.int .i64 n6)) fun l9 o10 => RdL (rdc s7 l9 o10 5) fun g11 => IxQ (aindexAddr T Y_s_Item a1 (.int .i64 n6)) fun l12 o13 => RdL (rdc s7 l12 o13 5) fun g14 => RdO (aeq T 100 Y_Item (.agg g11) (.agg g14)) fun b15 => bsplit (!b15)
 (R (.bool false) s7)
 (∃ m', m' < m5 ∧ I3 m' [(.int .i64 (IntKind.wrap .i64 (n6 + 1)))] s7))
 (R (.bool true) s7))
def A_ref07iSameItems : QA := (.seq .leaf (.seq (.seq .leaf (.cond (.seq .leaf .leaf) .leaf)) (.seq (.seq .leaf (.wrap (.loop [(5, .int .i64)] [(4, 5), (11, 25)] (.seq (.seq .leaf (.cond .leaf .leaf)) (.seq (.wrap (.seq (.draw 8) (.cond (.seq .leaf .leaf) .leaf))) .leaf))))) (.seq .leaf .leaf))))
theorem q_ref07iSameItems (a0 : AV) (a1 : AV) (s : AS) (R : AV → AS → Prop) (h : Q_ref07iSameItems a0 a1 s R) : ACalls Tryz.prog F_ref07iSameItems [a0, a1] s R :=
 ACalls.q (n := 26) (rs := [.tmp 4]) (A := A_ref07iSameItems) hT hmx Tryz.func39 (by kernel_rfl) rfl rfl rfl (by kernel_rfl) (by kernel_rfl) h
def Q_ref07iSet_See (a0 : Option (Nat × Nat)) (a1 : List AV) (s : AS) (R : AV → AS → Prop) : Prop :=
 One1 a1 (NewQ (.cells a1 0 false) s fun l1 s2 => RdL (rdc s2 l1 0 2) fun g3 => ACalls Tryz.prog F_ref07iSet_at [(.ptr a0), (.agg g3)] s2 fun v4 s5 => ∃ n6 : Int, v4 = .int .i64 n6 ∧ (JoinQ fun J7 =>
 (∀ b8 : Bool, ∀ s9 : AS, J7 [(.bool b8)] s9 →
 bsplit b8
 (AsSome a0 fun l10 o11 => RdA (rd1 s9 l10 (o11 + 17)) fun v12 => Bd2 (aappend T Y_s_Item Y_s_Item (.slc none 0 0 true) v12 s9) fun v13 s14 => RdL (rdc s14 l1 0 5) fun g15 => IxQ (aindexAddr T Y_s_Item v13 (.int .i64 n6)) fun l16 o17 => OkC (some 5) g15 (StQ (awr s14 l16 o17 g15) fun s18 => AsSome a0 fun l19 o20 => qstore T Y_s_Item s18 l19 (o20 + 17) v13 fun s21 => R (.bool true) s21))
 (AsSome a0 fun l22 o23 => RdL (rdc s9 l1 0 2) fun g24 => ACalls Tryz.prog F_ref04iSet_Add [(.ptr (some (l22, o23))), (.agg g24)] s9 fun v25 s26 => ∃ b27 : Bool, v25 = .bool b27 ∧ (bsplit (!b27)
 (R (.bool false) s26)
 (JoinQ fun J28 =>
 (∀ v29 : AV, ∀ n30 : Int, ∀ s31 : AS, J28 [v29, (.int .i64 n30)] s31 →
 RdL (rdc s31 l1 0 5) fun g32 => RdL (absl T Y_s_Item 1 [(0, (.agg g32))]) fun g33 => NewQ (.cells g33 0 false) s31 fun l34 s35 => Bd2 (aappend T Y_s_Item Y_s_Item v29 (.slc (some (l34, 0)) 1 1 true) s35) fun v36 s37 => AsSome a0 fun l38 o39 => RdA (rd1 s37 l38 (o39 + 17)) fun v40 => RdA (aslice T Y_s_Item v40 (some (.int .i64 n30)) none none) fun v41 => Bd2 (aappend T Y_s_Item Y_s_Item v36 v41 s37) fun v42 s43 => AsSome a0 fun l44 o45 => qstore T Y_s_Item s43 l44 (o45 + 17) v42 fun s46 => R (.bool true) s46) ∧
 (LoopQ fun I47 m48 => I47 m48 [(.slc none 0 0 true), (.int .i64 0)] s26 ∧
 ∀ m49 : Nat, ∀ v50 : AV, ∀ n51 : Int, ∀ s52 : AS, I47 m49 [v50, (.int .i64 n51)] s52 →
 AsSome a0 fun l53 o54 => RdA (rd1 s52 l53 (o54 + 17)) fun v55 => RdI .i64 (alenB T Y_s_Item v55 s52) fun n56 => bsplit (decide ((n51 : Int) < n56)) (AsSome a0 fun l57 o58 => RdA (rd1 s52 l57 (o58 + 17)) fun v59 => IxQ (aindexAddr T Y_s_Item v59 (.int .i64 n51)) fun l60 o61 => RdL (rdc s52 l60 o61 2) fun g62 => RdL (rdc s52 l1 0 2) fun g63 => ACalls Tryz.prog F_ref04iLess [(.agg g62), (.agg g63)] s52 fun v64 s65 => ∃ b66 : Bool, v64 = .bool b66 ∧ (bsplit b66
 (AsSome a0 fun l67 o68 => RdA (rd1 s65 l67 (o68 + 17)) fun v69 => IxQ (aindexAddr T Y_s_Item v69 (.int .i64 n51)) fun l70 o71 => RdL (rdc s65 l70 o71 5) fun g72 => RdL (absl T Y_s_Item 1 [(0, (.agg g72))]) fun g73 => NewQ (.cells g73 0 false) s65 fun l74 s75 => Bd2 (aappend T Y_s_Item Y_s_Item v50 (.slc (some (l74, 0)) 1 1 true) s75) fun v76 s77 => ∃ m', m' < m49 ∧ I47 m' [v76, (.int .i64 (IntKind.wrap .i64 (n51 + 1)))] s77)
 (J28 [v50, (.int .i64 n51)] s65))) (J28 [v50, (.int .i64 n51)] s52)))))) ∧
 (bsplit (decide ((n6 : Int) ≥ 0)) (AsSome a0 fun l78 o79 => RdA (rd1 s5 l78 (o79 + 17)) fun v80 => IxQ (aindexAddr T Y_s_Item v80 (.int .i64 n6)) fun l81 o82 => RdB (rd1 s5 l81 (o82 + 4)) fun b83 => bsplit (!b83) (RdB (rd1 s5 l1 4) fun b84 => J7 [(.bool b84)] s5) (J7 [(.bool false)] s5)) (J7 [(.bool false)] s5))))
def A_ref07iSet_See : QA := (.seq .leaf (.seq .leaf (.seq (.join [(29, .bool)] [(13, 29)] .leaf (.cond (.seq .leaf (.seq .leaf (.seq .leaf (.seq .leaf .leaf)))) .leaf)) (.seq (.seq (.draw 5) (.cond (.seq .leaf .leaf) .leaf)) (.seq .leaf (.seq .leaf (.join [(7, .any), (8, .int .i64)] [(7, 8), (50, 81)] (.wrap (.loop [(7, .any), (8, .int .i64)] [(7, 8), (50, 81)] (.seq (.seq (.draw 18) (.cond .leaf .leaf)) (.seq (.wrap .leaf) .leaf)))) (.seq .leaf (.seq .leaf (.seq .leaf .leaf))))))))))
theorem q_ref07iSet_See (a0 : Option (Nat × Nat)) (a1 : List AV) (s : AS) (R : AV → AS → Prop) (h : Q_ref07iSet_See a0 a1 s R) : ACalls Tryz.prog F_ref07iSet_See [(.ptr a0), (.agg a1)] s R :=
 ACalls.q (n := 97) (rs := [.tmp 4]) (A := A_ref07iSet_See) hT hmx Tryz.func51 (by kernel_rfl) rfl rfl rfl (by kernel_rfl) (by kernel_rfl) h
def Q_ref07iSet_at (a0 : Option (Nat × Nat)) (a1 : List AV) (s : AS) (R : AV → AS → Prop) : Prop :=
 One1 a1 (NewQ (.cells a1 0 false) s fun l1 s2 => LoopQ fun I3 m4 => I3 m4 [(.int .i64 0)] s2 ∧
 ∀ m5 : Nat, ∀ n6 : Int, ∀ s7 : AS, I3 m5 [(.int .i64 n6)] s7 →
 AsSome a0 fun l8 o9 => RdA (rd1 s7 l8 (o9 + 17)) fun v10 => RdI .i64 (alenB T Y_s_Item v10 s7) fun n11 => bsplit (decide ((n6 : Int) < n11))
 (AsSome a0 fun l12 o13 => RdA (rd1 s7 l12 (o13 + 17)) fun v14 => IxQ (aindexAddr T Y_s_Item v14 (.int .i64 n6)) fun l15 o16 => RdL (rdc s7 l15 o16 2) fun g17 => RdL (rdc s7 l1 0 2) fun g18 => RdO (aeq T 100 Y_Dot (.agg g17) (.agg g18)) fun b19 => bsplit b19
 (R (.int .i64 n6) s7)
 (∃ m', m' < m5 ∧ I3 m' [(.int .i64 (IntKind.wrap .i64 (n6 + 1)))] s7))
 (R (.int .i64 (-1)) s7))
def A_ref07iSet_at : QA := (.seq .leaf (.seq (.seq .leaf (.wrap (.loop [(5, .int .i64)] [(4, 25)] (.seq (.seq .leaf (.cond .leaf .leaf)) (.seq (.wrap (.seq (.draw 9) (.cond (.seq .leaf .leaf) .leaf))) .leaf))))) (.seq .leaf .leaf)))
theorem q_ref07iSet_at (a0 : Option (Nat × Nat)) (a1 : List AV) (s : AS) (R : AV → AS → Prop) (h : Q_ref07iSet_at a0 a1 s R) : ACalls Tryz.prog F_ref07iSet_at [(.ptr a0), (.agg a1)] s R :=
 ACalls.q (n := 26) (rs := [.tmp 4]) (A := A_ref07iSet_at) hT hmx Tryz.func83 (by kernel_rfl) rfl rfl rfl (by kernel_rfl) (by kernel_rfl) h
end Go.Proofs.YtoklmpkpeanloaaGreat
end

section
namespace Go.Proofs.YtoklmpkpeanloaaGreat
open Go.Am Go.Minster Go.Minster2
theorem ref07May_ok (i : Itm) (s : AS) : ACalls Tryz.prog F_ref07iMay [.agg (itemC i)] s fun v s' => v = .bool i.may ∧ Ext s s' := by
 refine ACalls.pre fun hw => q_ref07iMay _ _ _ ⟨rfl, NewQ.intro hw rfl fun l s1 F => ⟨i.gone, by rw [F.own.at.rd1]; rfl, ?_⟩⟩
 have gd : ∀ s', Ext s1 s' → rdc s' l 0 2 = some (dotC i.dot) := fun s' e => (F.own.ext e).at.rdc (by simp [itemC])
 have gk : ∀ s', Ext s1 s' → rdc s' l 2 2 = some (keyC i.key) := fun s' e => (F.own.ext e).at.rdc (by simp [itemC])
 refine bsplit.mk (fun h => ?_) (fun h => ?_)
 ·refine ⟨_, gd _ (Ext.refl _), ?_⟩
  refine ACalls.use (ref04iMay_ok _ _) ?_
  rintro v s2 ⟨rfl, e2⟩ _
  refine ⟨_, rfl, bsplit.mk (fun h2 => ⟨_, gk _ e2, _, key0_build, _, key_eq _ _, ?_, F.ext.trans e2⟩) (fun h2 => ⟨by simp [Itm.may, h2], F.ext.trans e2⟩)⟩
  simp [Itm.may, h, h2]
 ·refine ⟨_, gd _ (Ext.refl _), ?_⟩
  refine ACalls.use (ref04iMay_ok _ _) ?_
  rintro v s2 ⟨rfl, e2⟩ _
  have E2 := F.ext.trans e2
  have o2 := (F.own.ext e2).at
  refine ⟨_, rfl, bsplit.mk (fun h2 => ⟨i.key.t, by rw [o2.rd1]; rfl, ?_⟩) (fun h2 => ⟨by simp [Itm.may, h2], E2⟩)⟩
  refine ACalls.use (refName_ok _ _) ?_
  rintro v s' ⟨rfl, rfl⟩ _
  refine ⟨_, rfl, bsplit.mk (fun h3 => ⟨i.key.d, by rw [o2.rd1]; rfl, ?_⟩) (fun h3 => ⟨by simp [Itm.may, Key.may, h, h2, h3], E2⟩)⟩
  refine ACalls.use (refName_ok _ _) ?_
  rintro v s' ⟨rfl, rfl⟩ _
  exact ⟨_, rfl, by simp [Itm.may, Key.may, h, h2, h3], E2⟩
def OSet.coll (x : OSet) (d : Dot) : OSet := { x with tomb := fun y => x.tomb y && !decide (y = d), nt := x.nt - 1 }
theorem OOk.coll {x : OSet} {B : Nat} (h : OOk x B) (d : Dot) : OOk (x.coll d) B :=
 ⟨h.ok, h.gap, h.lv, fun y hy => h.tb y (by simp only [OSet.coll, Bool.and_eq_true] at hy; exact hy.1), by
  obtain ⟨U, hU, hm⟩ := h.sz
  refine ⟨U, hU, fun y hy => hm y ?_⟩
  rcases hy with hy | hy | hy
  ·exact .inl hy
  ·exact .inr (.inl hy)
  ·simp only [OSet.coll, Bool.and_eq_true] at hy; exact .inr (.inr hy.1)⟩
section
variable {F : List Nat} {s : AS} {p : Nat} {x : OSet}
theorem Collect_ok (h : SetF F s p x) (hth : ∀ y ∈ F, s.h y ≠ none) (d : Dot) :
  ACalls Tryz.prog F_orset_Set_Collect [.ptr (some (p, 0)), .agg (dotC d)] s fun r s' => (d.may = false ∧ r = .int .i64 2 ∧ Ext s s') ∨ (d.may = true ∧ x.tomb d = false ∧ r = .int .i64 6 ∧ Ext s s') ∨
   (d.may = true ∧ x.tomb d = true ∧ r = .int .i64 0 ∧ SetF F s' p (x.coll d) ∧ (∀ y ∈ F, s'.h y ≠ none) ∧ ∃ m, m ∈ F ∧ Mut [m] s s' ∧ ∀ C, ¬ At s m C) := by
 refine ACalls.pre fun hw => q_orset_Set_Collect _ _ _ _ ⟨rfl, NewQ.intro hw rfl fun l1 s2 F2 => ?_⟩
 refine ACalls.use (there_ok (h.ext F2.ext)) ?_
 rintro v s4 ⟨rfl, rfl⟩ w4
 refine ⟨_, rfl, bsplit.no rfl ⟨_, F2.own.at.rdc (by simp [dotC]), ?_⟩⟩
 refine ACalls.use (ctx_May_ok d _) ?_
 rintro v s8 ⟨rfl, e8⟩ w8
 have E8 := F2.ext.trans e8
 refine ⟨_, rfl, bsplit.mk (fun hb => .inl ⟨by simpa using hb, rfl, E8⟩) (fun hb => ?_)⟩
 simp only [Bool.not_eq_false'] at hb
 have o8 := (F2.own.ext e8).at
 obtain ⟨ok, gap, hlen, pc, lm, tm, a, hpF, hc, hlF, htF, hlt, hl, ht⟩ := h.ext E8
 have hlook : alookup T Y_m_Dot_struct__is_bool__ (.map (some tm)) (.agg (dotC d)) false s8 = some (.agg [.bool (x.tomb d)]) := by
  obtain ⟨es, c, h1, h2, _⟩ := ht
  rw [show (AV.agg (dotC d)) = dK d from rfl, h1.find mp_tombs d false, h2]
  cases x.tomb d <;> rfl
 refine ⟨_, by rw [a.at.rd1]; rfl, _, o8.rdc (by simp [dotC]), _, hlook, _, rfl, bsplit.mk (fun ht0 => .inr (.inl ⟨hb, by simpa using ht0, rfl, E8⟩)) (fun ht0 => ?_)⟩
 simp only [Bool.not_eq_false'] at ht0
 refine ⟨_, by rw [a.at.rd1]; rfl, _, o8.rdc (by simp [dotC]), ht.del w8 ht0 fun s20 ht20 w20 m20 => .inr (.inr ⟨hb, ht0, rfl, ?_, ?_, tm, htF, E8.mut.trans m20, ?_⟩)⟩
 ·obtain ⟨es, c, hto⟩ := ht.obj
  have hpt : p ∉ [tm] := by simp only [List.mem_singleton]; rintro rfl; rw [a] at hto; cases hto
  have hc20 : CtxF F s20 pc x.v x.ex := by
   obtain ⟨q1, q2, w, q3, q4, q5, q6⟩ := hc
   have n1 : pc ∉ [tm] := by simp only [List.mem_singleton]; rintro rfl; rw [q3] at hto; cases hto
   refine ⟨q1, q2, w, q3.mut m20 n1, q4, q5.mut m20 fun y hy hm => ?_, q6⟩
   obtain rfl := List.mem_singleton.1 hm
   rcases q5 with ⟨_, b, rfl⟩ | ⟨la, rfl, ho⟩
   ·simp [labOf] at hy
   ·obtain rfl : y = la := by simpa [labOf] using hy
    rw [ho] at hto; cases hto
  exact ⟨ok, gap, hlen, pc, lm, tm, a.mut m20 hpt, hpF, hc20, hlF, htF, hlt, hl.mut m20 (by simpa using hlt), ht20⟩
 ·intro y hy
  by_cases e : y = tm
  ·obtain ⟨es, c, h⟩ := ht20.obj; rw [e, h]; simp
  ·cases hq : s.h y with
   | none => exact absurd hq (hth y hy)
   | some o => rw [m20.1 y o (by simpa using e) (E8.1 y o hq)]; simp
 ·rintro C ⟨g, ro, hC⟩
  obtain ⟨es, c, hto⟩ := ht.obj
  rw [E8.1 _ _ hC] at hto; cases hto
end
section
variable {s0 s s' : AS} {pa pb : Nat} {xa xb : OSet} {Ba Bb : Nat} {sl : List (AV × List Itm)}
end
end Go.Proofs.YtoklmpkpeanloaaGreat
end

section
namespace Go.Proofs.YtoklmpkpeanloaaGreat
open Go.Am Go.Minster Go.Minster2
def OSet.item (x : OSet) (i : Itm) : Prop := match i.gone with
 | true => x.tomb i.dot = true ∧ i.key = ⟨[], []⟩
 | false => x.live i.dot = some i.key
structure Items (x : OSet) (I : List Itm) : Prop where
 ris : Rising (I.map Itm.dot)
 mem : ∀ i, i ∈ I ↔ x.item i
theorem IRis.pw {I : List Itm} (h : Rising (I.map Itm.dot)) : I.Pairwise fun a b => a.dot.lt b.dot = true := List.pairwise_map.1 h
theorem iris_uniq {I J : List Itm} (h : Rising (I.map Itm.dot)) (h' : Rising (J.map Itm.dot)) (hm : ∀ i, i ∈ I ↔ i ∈ J) : I = J :=
 pw_uniq (fun a h => Dot.lt_irrefl _ h) (fun a b => Dot.lt_asym) (IRis.pw h) (IRis.pw h') hm
theorem Items.uniq {x : OSet} {I J : List Itm} (h : Items x I) (h' : Items x J) : I = J := iris_uniq h.ris h'.ris fun i => by rw [h.mem, h'.mem]
theorem Items.one {x : OSet} {I : List Itm} (h : Items x I) {i j : Itm} (hi : i ∈ I) (hj : j ∈ I) (e : i.dot = j.dot) : i = j := by
 have key : ∀ (l : List Itm), l.Pairwise (fun a b => a.dot.lt b.dot = true) → i ∈ l → j ∈ l → i = j := by
  intro l
  induction l with
  | nil => intro _ h; cases h
  | cons a l ih =>
   intro hp h1 h2
   obtain ⟨p1, p2⟩ := List.pairwise_cons.1 hp
   rcases List.mem_cons.1 h1 with e1 | r1 <;> rcases List.mem_cons.1 h2 with e2 | r2
   ·rw [e1, e2]
   ·have := p1 j r2; rw [← e1, e] at this; exact absurd this (fun h => Dot.lt_irrefl _ h)
   ·have := p1 i r1; rw [← e2, e] at this; exact absurd this (fun h => Dot.lt_irrefl _ h)
   ·exact ih p2 r1 r2
 exact key I (IRis.pw h.ris) hi hj
theorem Items.zero : Items OSet.zero [] := ⟨List.Pairwise.nil, fun i => by unfold OSet.item; cases i.gone <;> simp [OSet.zero]⟩
theorem item_has {x : OSet} {B : Nat} (o : OOk x B) {i : Itm} (h : x.item i) : x.has i.dot = true := by
 unfold OSet.item at h
 cases hg : i.gone with
 | true => rw [hg] at h; exact (o.tb _ h.1).1
 | false => rw [hg] at h; exact (o.lv _ _ h).1
theorem item_keeps {x : OSet} {i : Itm} (h : x.item i) : x.keeps i.dot := by
 unfold OSet.item at h
 cases hg : i.gone with
 | true => rw [hg] at h; exact .inr (.inr h.1)
 | false => rw [hg] at h; exact .inr (.inl (by rw [h]; rfl))
theorem Items.len {x : OSet} {B : Nat} (o : OOk x B) {I : List Itm} (h : Items x I) : I.length ≤ B := by
 obtain ⟨U, hU, hm⟩ := o.sz
 have := nodup_len (rising_nodup h.ris) fun d hd => hm d ?_
 ·simp only [List.length_map] at this; omega
 ·obtain ⟨i, hi, rfl⟩ := List.mem_map.1 hd
  exact item_keeps ((h.mem i).1 hi)
structure RefO (F : List Nat) (s : AS) (q : Nat) (x : OSet) : Prop where
 ok : COk x.v x.ex
 gap : Gap x.v x.ex
 mem : ∃ w iw I, Am.Own s q (x.v.map (.int .u64) ++ [w, iw]) ∧ (w.one = true ∧ w ≠ .emp ∧ Gro dotC 2 s w x.ex) ∧ (iw.one = true ∧ iw ≠ .emp ∧ Gro itemC 5 s iw I) ∧ Items x I ∧ q ∈ F ∧ (∀ y ∈ labOf w, y ∈ F) ∧ ∀ y ∈ labOf iw, y ∈ F
section
variable {F F' : List Nat} {s s' : AS} {q : Nat} {x : OSet}
theorem RefO.mut {L : List Nat} (h : RefO F s q x) (m : Mut L s s') (hL : Dj L F) : RefO F s' q x := by
 obtain ⟨h1, h2, w, iw, I, a, ⟨b1, b2, b3⟩, ⟨c1, c2, c3⟩, d, e, f, g⟩ := h
 exact ⟨h1, h2, w, iw, I, a.mut m (fun hx => hL q hx e), ⟨b1, b2, b3.mut m fun y hy hm => hL y hm (f y hy)⟩, ⟨c1, c2, c3.mut m fun y hy hm => hL y hm (g y hy)⟩, d, e, f, g⟩
theorem RefO.ext (h : RefO F s q x) (e : Ext s s') : RefO F s' q x := h.mut (L := []) e.mut (fun y hy => by cases hy)
theorem RefO.qF (h : RefO F s q x) : q ∈ F := by obtain ⟨_, _, w, iw, I, _, _, _, _, e, _⟩ := h; exact e
theorem slc_not_int {α : Type} {f : α → List AV} {sz : Nat} {v : AV} {l : List α} (h : Gro f sz s v l) : ∀ n, v ≠ .int .i64 n := by
 rcases h with ⟨_, a, rfl⟩ | ⟨la, rfl, _⟩ <;> simp
theorem ref_17T {v : List Int} (h : v.length = 16) (w iw : AV) : (v.map (AV.int .u64) ++ [w, iw])[17]? = some iw := by
 rw [List.getElem?_append_right (by simp [h])]; simp [h]
theorem at_ok {v : List Int} {w iw : AV} {I : List Itm} (hq : At s q (v.map (.int .u64) ++ [w, iw])) (hv : v.length = 16) (hI : Sl itemC 5 s iw I) (hn : I.length ≤ 2 ^ 30) (d : Dot) :
  ACalls Tryz.prog F_ref07iSet_at [.ptr (some (q, 0)), .agg (dotC d)] s fun r s' => Ext s s' ∧ ∃ n : Int, r = .int .i64 n ∧ ((n = -1 ∧ ∀ i ∈ I, i.dot ≠ d) ∨ ∃ k : Nat, n = k ∧ ∃ i, I[k]? = some i ∧ i.dot = d) := by
 refine ACalls.pre fun hw => q_ref07iSet_at _ _ _ _ ⟨rfl, NewQ.intro hw rfl fun l1 s2 F2 => ⟨fun m vs s' => ∃ i : Nat, vs = [.int .i64 (i : Nat)] ∧ i ≤ I.length ∧ m = I.length - i ∧ s' = s2 ∧ ∀ j y, j < i → I[j]? = some y → y.dot ≠ d, I.length, ⟨0, rfl, by omega, rfl, rfl, by omega⟩, ?_⟩⟩
 rintro m n s7 ⟨i, hi, h6, rfl, rfl, hall⟩
 simp only [List.cons.injEq, AV.int.injEq, true_and, and_true] at hi
 subst hi
 have r17 : rd1 s7 q (0 + 17) = some iw := by rw [(hq.ext F2.ext).rd1]; exact ref_17T hv w iw
 refine ⟨iw, r17, _, hI.lenB u_s_Item _, bsplit.dec (fun hlt => ?_) (fun hge => ⟨F2.ext, -1, rfl, .inl ⟨rfl, fun y hy => ?_⟩⟩)⟩
 ·obtain ⟨y, hy⟩ := get_lt (l := I) (i := i) (by omega)
  obtain ⟨ly, oy, g8, g9⟩ := hI.ix (by decide) itemC_len u_s_Item z_Item hy
  refine ⟨iw, r17, ly, oy, g8 _, _, rdc_pre ((g9 _ F2.ext).2) (by decide), _, F2.own.at.rdc (by simp [dotC]), _, dot_eq y.dot d, bsplit.dec (fun e => ⟨F2.ext, _, rfl, .inr ⟨i, rfl, y, hy, e⟩⟩) (fun e => ⟨I.length - (i + 1), by omega, i + 1, by rw [wrap_i (by omega)]; rfl, by omega, rfl, rfl, fun j z hj hz => ?_⟩)⟩
  rcases Nat.lt_or_ge j i with h | h
  ·exact hall j z h hz
  ·obtain rfl : j = i := by omega
   rw [hy] at hz; obtain rfl := Option.some.inj hz; exact e
 ·obtain ⟨j, hj⟩ := List.mem_iff_getElem?.1 hy
  have : j < I.length := by
   rcases Nat.lt_or_ge j I.length with h | h
   ·exact h
   ·rw [List.getElem?_eq_none h] at hj; cases hj
  exact hall j y (by omega) hj
/-! ### the plain side of seeing -/
theorem Items.set {x : OSet} {B : Nat} (o : OOk x B) {I : List Itm} (h : Items x I) {k : Nat} {j i : Itm} (hk : I[k]? = some j) (hj : j.gone = false) (hd : j.dot = i.dot) (hg : i.gone = true) (hkey : i.key = ⟨[], []⟩) : Items (x.see i).2 (I.set k i) ∧ (x.see i).1 = true ∧ (x.see i).2.v = x.v ∧ (x.see i).2.ex = x.ex := by
 have hjI : j ∈ I := List.mem_of_getElem? hk
 have hlive : x.live i.dot = some j.key := by
  have := (h.mem j).1 hjI
  unfold OSet.item at this
  rw [hj, hd] at this; exact this
 have hc : ((x.live i.dot).isSome && i.gone) = true := by rw [hlive, hg]; rfl
 have hkl : k < I.length := by
  rcases Nat.lt_or_ge k I.length with h | h
  ·exact h
  ·rw [List.getElem?_eq_none h] at hk; cases hk
 have hdots : (I.set k i).map Itm.dot = I.map Itm.dot := by
  apply List.ext_getElem?
  intro n
  simp only [List.getElem?_map, List.getElem?_set]
  split
  ·rename_i e
   subst e
   first | (rw [if_pos hkl, hk]; simp [hd]) | (rw [hk]; simp [hd])
  ·rfl
 refine ⟨⟨by rw [hdots]; exact h.ris, fun y => ?_⟩, ?_, ?_, ?_⟩
 ·have hmem : y ∈ I.set k i ↔ y = i ∨ (y ∈ I ∧ y.dot ≠ i.dot) := by
   rw [List.mem_iff_getElem?]
   constructor
   ·rintro ⟨n, hn⟩
    rw [List.getElem?_set] at hn
    split at hn
    ·rename_i e
     first | (rw [if_pos hkl] at hn; exact .inl (Option.some.inj hn).symm) | exact .inl (Option.some.inj hn).symm
    ·rename_i e
     have hyI := List.mem_of_getElem? hn
     refine .inr ⟨hyI, fun hde => ?_⟩
     have := h.one hyI hjI (hde.trans hd.symm)
     subst this
     have hnd := rising_nodup h.ris
     have hnl : n < I.length := by
      rcases Nat.lt_or_ge n I.length with h | h
      ·exact h
      ·rw [List.getElem?_eq_none h] at hn; cases hn
     have e1 : (I.map Itm.dot)[k]? = (I.map Itm.dot)[n]? := by rw [List.getElem?_map, List.getElem?_map, hk, hn]
     exact e ((List.getElem?_inj (by simpa using hkl) hnd).1 e1)
   ·rintro (rfl | ⟨hyI, hne⟩)
    ·exact ⟨k, by rw [List.getElem?_set, if_pos rfl, if_pos hkl]⟩
    ·obtain ⟨n, hn⟩ := List.mem_iff_getElem?.1 hyI
     refine ⟨n, ?_⟩
     rw [List.getElem?_set, if_neg, hn]
     rintro rfl
     rw [hk] at hn
     obtain rfl := Option.some.inj hn
     exact hne hd
  rw [hmem, h.mem]
  unfold OSet.item
  rw [see_live o, see_tomb o]
  cases hgy : y.gone with
  | true =>
   simp only
   constructor
   ·rintro (rfl | ⟨h1, h2⟩)
    ·exact ⟨by simp [hg, hlive], hkey⟩
    ·exact ⟨by simp [h1.1], h1.2⟩
   ·rintro ⟨h1, h2⟩
    by_cases e : y.dot = i.dot
    ·left
     cases y; cases i
     simp only at e hgy h2 hkey hg
     rw [e, hgy, h2, hkey, hg]
    ·refine .inr ⟨⟨?_, h2⟩, e⟩
     simpa [e] using h1
  | false =>
   simp only
   constructor
   ·rintro (rfl | ⟨h1, h2⟩)
    ·rw [hg] at hgy; cases hgy
    ·rw [if_neg h2]; exact h1
   ·intro h1
    by_cases e : y.dot = i.dot
    ·rw [if_pos e, if_pos hg] at h1; cases h1
    ·rw [if_neg e] at h1; exact .inr ⟨h1, e⟩
 ·rw [see_chg o, hc]; rfl
 ·unfold OSet.see; rw [if_pos hc]
 ·unfold OSet.see; rw [if_pos hc]
theorem insI_mem {I : List Itm} {k : Nat} {i y : Itm} : y ∈ I.take k ++ i :: I.drop k ↔ y = i ∨ y ∈ I := by
 rw [List.mem_append, List.mem_cons]
 conv => rhs; rhs; rw [← List.take_append_drop k I]
 rw [List.mem_append]
 constructor
 ·rintro (h | rfl | h)
  ·exact .inr (.inl h)
  ·exact .inl rfl
  ·exact .inr (.inr h)
 ·rintro (rfl | h | h)
  ·exact .inr (.inl rfl)
  ·exact .inl h
  ·exact .inr (.inr h)
theorem Items.ins {x : OSet} {B : Nat} (o : OOk x B) {I : List Itm} (h : Items x I) {i : Itm} (hi : i.may = true) (hh : x.has i.dot = false) : Items (x.see i).2 (I.take (pos (I.map Itm.dot) i.dot) ++ i :: I.drop (pos (I.map Itm.dot) i.dot)) := by
 have hno : ∀ y ∈ I, y.dot ≠ i.dot := fun y hy e => by
  have := item_has o ((h.mem y).1 hy)
  rw [e, hh] at this; cases this
 have hlv : x.live i.dot = none := by
  cases hq : x.live i.dot with
  | none => rfl
  | some k => rw [(o.lv _ _ hq).1] at hh; cases hh
 have htb : x.tomb i.dot = false := by
  cases hq : x.tomb i.dot with
  | false => rfl
  | true => rw [(o.tb _ hq).1] at hh; cases hh
 refine ⟨?_, fun y => ?_⟩
 ·have := h.ris.ins (d := i.dot) (by simpa using fun y hy => hno y hy)
  rw [show (I.take (pos (I.map Itm.dot) i.dot) ++ i :: I.drop (pos (I.map Itm.dot) i.dot)).map Itm.dot = Go.Minster.ins (I.map Itm.dot) i.dot by simp [Go.Minster.ins, List.map_take, List.map_drop]]
  exact this
 ·rw [insI_mem, h.mem]
  unfold OSet.item
  rw [see_live o, see_tomb o]
  cases hgy : y.gone with
  | true =>
   simp only
   constructor
   ·rintro (rfl | h1)
    ·refine ⟨by simp [hgy, hh], ?_⟩
     simp only [Itm.may, Bool.and_eq_true, hgy, if_true, decide_eq_true_eq] at hi
     exact hi.2
    ·exact ⟨by simp [h1.1], h1.2⟩
   ·rintro ⟨h1, h2⟩
    by_cases e : y.dot = i.dot
    ·left
     rw [e, htb] at h1
     simp [hlv, hh] at h1
     have hik : i.key = ⟨[], []⟩ := by
      simp only [Itm.may, Bool.and_eq_true, h1, if_true, decide_eq_true_eq] at hi
      exact hi.2
     cases y; cases i
     simp only at e hgy h2 hik h1
     rw [e, hgy, h2, hik, h1]
    ·refine .inr ⟨?_, h2⟩
     simpa [e] using h1
  | false =>
   simp only
   constructor
   ·rintro (rfl | h1)
    ·rw [if_pos rfl, hgy, hh]; simp
    ·by_cases e : y.dot = i.dot
     ·rw [e, hlv] at h1; cases h1
     ·rw [if_neg e]; exact h1
   ·intro h1
    by_cases e : y.dot = i.dot
    ·rw [if_pos e] at h1
     left
     cases hgi : i.gone with
     | true => rw [hgi] at h1; simp at h1
     | false =>
      rw [hgi, e, hh] at h1
      simp at h1
      cases y; cases i
      simp only at e hgy h1 hgi
      rw [e, hgy, hgi, h1]
    ·rw [if_neg e] at h1; exact .inr h1
end
end Go.Proofs.YtoklmpkpeanloaaGreat
end

section
namespace Go.Proofs.YtoklmpkpeanloaaGreat
open Go.Am Go.Minster Go.Minster2
theorem OOk.exlen {x : OSet} {B : Nat} (o : OOk x B) : x.ex.length ≤ B := by
 obtain ⟨U, hU, hm⟩ := o.sz
 have := nodup_len (rising_nodup o.ok.r) fun d hd => hm d ?_
 ·omega
 ·exact .inl hd
theorem flat_setG {α : Type} {f : α → List AV} {sz : Nat} (hf : ∀ x, (f x).length = sz) : ∀ (l : List α) (k : Nat) (x : α), k < l.length → wrs (l.flatMap f) (k * sz) (f x) = (l.set k x).flatMap f := by
 intro l k x hk
 have hsp : l.flatMap f = (l.take k).flatMap f ++ (f (l[k]) ++ (l.drop (k + 1)).flatMap f) := by
  conv => lhs; rw [← List.take_append_drop k l, List.flatMap_append, List.drop_eq_getElem_cons hk, List.flatMap_cons]
 have hl : ((l.take k).flatMap f).length = k * sz := by rw [flat_len hf, List.length_take, Nat.min_eq_left (by omega)]
 have := wrs_mid ((l.take k).flatMap f) (f l[k]) (f x) ((l.drop (k + 1)).flatMap f) (by rw [hf, hf])
 rw [hl] at this
 rw [hsp, ← List.append_assoc, this, List.set_eq_take_append_cons_drop, if_pos hk, List.flatMap_append, List.flatMap_cons, List.append_assoc]
theorem see_two {x : OSet} {i : Itm} (h1 : ¬ ((x.live i.dot).isSome = true ∧ i.gone = true)) (h2 : x.has i.dot = true) : x.see i = (false, x) := by
 unfold OSet.see
 rw [if_neg (by simpa using h1), if_pos (show hasD x.v x.ex i.dot = true from h2)]
theorem see_three {x : OSet} {i : Itm} (h1 : ¬ ((x.live i.dot).isSome = true ∧ i.gone = true)) (h2 : x.has i.dot = false) : (x.see i).1 = true ∧ (x.see i).2.v = (compact x.v (ins x.ex i.dot)).1 ∧ (x.see i).2.ex = (compact x.v (ins x.ex i.dot)).2 := by
 have h2' : ¬ hasD x.v x.ex i.dot = true := by rw [show hasD x.v x.ex i.dot = x.has i.dot from rfl, h2]; simp
 unfold OSet.see
 rw [if_neg (by simpa using h1), if_neg h2']
 split <;> exact ⟨rfl, rfl, rfl⟩
section
variable {F : List Nat} {s : AS} {q : Nat} {x : OSet} {B : Nat}
theorem _root_.Go.Am.Gro.there {α : Type} {f : α → List AV} {sz : Nat} {v : AV} {l : List α} (h : Gro f sz s v l) : ∀ y ∈ labOf v, s.h y ≠ none := by
 intro y hy
 rcases h with ⟨_, b, rfl⟩ | ⟨la, rfl, ho⟩
 ·simp [labOf] at hy
 ·obtain rfl : y = la := by simpa [labOf] using hy
  rw [ho]; simp
theorem _root_.Go.Am.Gro.ne {α : Type} {f : α → List AV} {sz : Nat} (hz : sz ≠ 0) {v : AV} {l : List α} {cs : List AV} (h : Gro f sz s v l) (hq : Am.Own s q cs) : ∀ y ∈ labOf v, y ∉ [q] := by
 intro y hy hm
 obtain rfl := List.mem_singleton.1 hm
 rcases h with ⟨_, b, rfl⟩ | ⟨la, rfl, ho⟩
 ·simp [labOf] at hy
 ·obtain rfl : y = la := by simpa [labOf] using hy
  rw [hq] at ho
  simp only [Option.some.injEq, AO.cells.injEq] at ho
  exact hz ho.2.1.symm
theorem ref_See_ok (h : RefO F s q x) (o : OOk x B) (hB : B ≤ 1000) (hth : ∀ y ∈ F, s.h y ≠ none) (i : Itm) (hi : i.may = true) :
  ACalls Tryz.prog F_ref07iSet_See [.ptr (some (q, 0)), .agg (itemC i)] s fun r s' => r = .bool (x.see i).1 ∧ Mut [q] s s' ∧ ∃ F', RefO F' s' q (x.see i).2 ∧ (∀ y ∈ F', y ∈ F ∨ s.h y = none) ∧ ∀ y ∈ F', s'.h y ≠ none := by
 have him : i.dot.may = true := by simp only [Itm.may, Bool.and_eq_true] at hi; exact hi.1
 refine ACalls.pre fun hw => q_ref07iSet_See _ _ _ _ ⟨rfl, NewQ.intro hw rfl fun l1 s2 F2 => ?_⟩
 obtain ⟨ok, gap, w, iw, I, a, ⟨b1, b2, b3⟩, ⟨c1, c2, c3⟩, hI, hqF, f, g⟩ := h.ext F2.ext
 have hlen := hI.len o
 have hexl := o.exlen
 have hvl := ok.v.len
 refine ⟨_, F2.own.at.rdc (by simp [itemC]), ?_⟩
 refine ACalls.use (at_ok a.at hvl (c3.sl itemC_len) (by omega) i.dot) ?_
 rintro r s5 ⟨e5, n, rfl, hcase⟩ w5
 have a5 := a.ext e5
 have c5 := c3.ext e5
 have b5 := b3.ext e5
 have o5 : Am.Own s5 l1 (itemC i) := F2.own.ext e5
 have E5 := F2.ext.trans e5
 have r17 : rd1 s5 q (0 + 17) = some iw := by rw [a5.at.rd1]; exact ref_17T hvl w iw
 have hth5 : ∀ y ∈ F, s5.h y ≠ none := fun y hy hn => hth y hy (E5.none hn)
 refine ⟨_, rfl, fun vs s' => s' = s5 ∧ ∃ t, vs = [.bool t] ∧ (t = true → ∃ (k : Nat) (j : Itm), n = k ∧ I[k]? = some j ∧ j.dot = i.dot ∧ j.gone = false ∧ i.gone = true) ∧ (t = false → ¬ ((x.live i.dot).isSome = true ∧ i.gone = true)), ?_, ?_⟩
 rotate_left
 ·refine bsplit.dec (fun hn => ?_) (fun hn => ⟨rfl, _, rfl, (fun h => by cases h), fun _ => ?_⟩)
  ·rcases hcase with ⟨rfl, _⟩ | ⟨k, rfl, j, hj, hjd⟩
   ·omega
   ·obtain ⟨lj, oj, g8, g9⟩ := c5.sl itemC_len |>.ix (by decide) itemC_len u_s_Item z_Item hj
    refine ⟨iw, r17, lj, oj, g8 _, j.gone, (g9 _ (Ext.refl _)).1 4 (by decide), bsplit.mk (fun hg => ⟨i.gone, by rw [o5.at.rd1]; rfl, rfl, _, rfl, fun ht => ⟨k, j, rfl, hj, hjd, by simpa using hg, ht⟩, fun ht h => by rw [ht] at h; cases h.2⟩) (fun hg => ⟨rfl, _, rfl, (fun h => by cases h), fun _ h => ?_⟩)⟩
    have := (hI.mem j).1 (List.mem_of_getElem? hj)
    unfold OSet.item at this
    have hg' : j.gone = true := by simpa using hg
    rw [hg', hjd] at this
    rw [(o.tb _ this.1).2] at h
    cases h.1
  ·rcases hcase with ⟨rfl, hno⟩ | ⟨k, rfl, _⟩
   ·rintro ⟨h1, h2⟩
    obtain ⟨k, hk⟩ := Option.isSome_iff_exists.1 h1
    exact hno ⟨i.dot, k, false⟩ ((hI.mem _).2 hk) rfl
   ·omega
 rintro t s9 ⟨rfl, t', ht, hyes, hno⟩
 simp only [List.cons.injEq, AV.bool.injEq, and_true] at ht
 subst ht
 refine bsplit.mk (fun ht => ?_) (fun ht => ?_)
 ·
  obtain ⟨k, j, rfl, hj, hjd, hjg, hig⟩ := hyes ht
  have hkey : i.key = ⟨[], []⟩ := by
   simp only [Itm.may, Bool.and_eq_true, hig, if_true, decide_eq_true_eq] at hi
   exact hi.2
  obtain ⟨hI', hs1, hs2, hs3⟩ := hI.set o hj hjg hjd hig hkey
  have hkl : k < I.length := by
   rcases Nat.lt_or_ge k I.length with h | h
   ·exact h
   ·rw [List.getElem?_eq_none h] at hj; cases hj
  refine ⟨iw, r17, GroN.appendS sl_s_Item itemC_len itemC_one w5 (GroN.nil (M := [])) (by simp) (c5.sl itemC_len) (by simp; omega) u_s_Item fun v13 s14 g14 w14 _ => ?_⟩
  rw [List.nil_append] at g14
  have e14 := g14.chg.ext
  rcases g14.gro with ⟨h0, _⟩ | ⟨la, hv13, ho⟩
  ·rw [h0] at hkl; simp at hkl
  have hlab : labOf v13 = [la] := by rw [hv13]; rfl
  have hla : s9.h la = none := g14.new la (by simp [hlab])
  have hlq : la ≠ q := by rintro rfl; rw [a5] at hla; cases hla
  have hix : aindexAddr T Y_s_Item v13 (.int .i64 (k : Nat)) = some (.ptr (some (la, 0 + k * 5))) := by
   rw [hv13]
   have : (0 : Int) ≤ (k : Int) ∧ (k : Int) < (I.length : Int) := by omega
   simp only [aindexAddr, u_s_Item, z_Item, Option.bind_some]
   rw [if_pos this]; simp
  refine ⟨itemC i, (o5.ext e14).at.rdc (by simp [itemC]), _, _, hix, ⟨rfl, rfl⟩, ?_⟩
  rw [Nat.zero_add]
  have hfl := flat_len itemC_len I
  have hk5 : k * 5 + 5 ≤ I.length * 5 := by omega
  refine StQ.awr w14 ho (by rw [hfl]; simp [itemC]; omega) fun s18 P18 => ?_
  have ho18 : s18.h la = some (.cells ((I.set k i).flatMap itemC) 5 false) := by
   have e3 : wrs (I.flatMap itemC) (k * 5) (itemC i) = (I.set k i).flatMap itemC := flat_setG itemC_len I k i hkl
   exact P18.at.trans (by rw [← e3])
  have a18 : Am.Own s18 q (x.v.map (.int .u64) ++ [w, iw]) := (a5.ext e14).mut P18.mut (by simpa using hlq.symm)
  have gI : Gro itemC 5 s18 v13 (I.set k i) := .inr ⟨la, by rw [List.length_set]; exact hv13, ho18⟩
  refine qstore_one g14.isSlc.2 z_s_Item (StQ.own P18.wf a18 (by simp [hvl]) fun s21 P21 => ?_)
  have M : Mut [q] s s21 := by
   have e18 : Ext s s18 := Ext.wr (E5.trans e14) (E5.none hla) P18.mut
   exact e18.mut.trans P21.mut
  have a21 : Am.Own s21 q (x.v.map (.int .u64) ++ [w, v13]) := by
   have := P21.at
   rw [wrs_one, List.set_append_right _ _ (by simp [hvl])] at this
   simp only [List.length_map, hvl, Nat.zero_add, Nat.reduceSub, List.set_cons_succ, List.set_cons_zero] at this
   exact this
  have b21 : Gro dotC 2 s21 w x.ex := (((b5.ext e14).mut P18.mut fun y hy hm => by
   obtain rfl := List.mem_singleton.1 hm
   exact hth5 _ (f _ hy) hla)).mut P21.mut ((b5.ext e14).mut P18.mut (fun y hy hm => by
   obtain rfl := List.mem_singleton.1 hm
   exact hth5 _ (f _ hy) hla) |>.ne (by decide) a18)
  have g21 := gI.mut P21.mut (by simpa [hlab] using hlq)
  rw [hs1]
  refine ⟨rfl, M, la :: F, ⟨by rw [hs2, hs3]; exact ok, by rw [hs2, hs3]; exact gap, w, _, I.set k i, by rw [hs2]; exact a21, ⟨b1, b2, by rw [hs3]; exact b21⟩, ⟨g14.isSlc.2, g14.isSlc.1, g21⟩, hI', by simp [hqF], fun y hy => by simp [f y hy], fun y hy => by rw [hlab] at hy; simp at hy; simp [hy]⟩, fun y hy => ?_, fun y hy => ?_⟩
  ·rcases List.mem_cons.1 hy with rfl | hy
   ·exact .inr (E5.none hla)
   ·exact .inl hy
  ·by_cases e1 : y = q
   ·rw [e1, a21]; simp
   ·rw [P21.eq y e1]
    by_cases e2 : y = la
    ·rw [e2, ho18]; simp
    ·rw [P18.eq y e2]
     rcases List.mem_cons.1 hy with rfl | hy
     ·exact absurd rfl e2
     ·exact fun hn => hth5 y hy (e14.none hn)
 ·have hn1 := hno ht
  have hT : RefT s9 q [iw] x.v x.ex := ⟨hvl, fun y hy n => by obtain rfl := List.mem_singleton.1 hy; exact slc_not_int c5 n, w, a5, b1, b2, b5.sl dotC_len⟩
  refine ⟨_, o5.at.rdc (by simp [itemC]), ?_⟩
  refine ACalls.use (ref_Add_T hT ok.v ok.r ok.m (by omega) him) ?_
  rintro r s26 ⟨rfl, m26, hold, hnew⟩ w26
  cases hh : hasD x.v x.ex i.dot with
  | true =>
   have e26 := hold hh
   rw [see_two hn1 hh]
   exact ⟨_, rfl, bsplit.yes (by simp) ⟨rfl, (E5.trans e26).mut, F, h.ext (E5.trans e26), fun y hy => .inl hy, fun y hy hn => hth5 y hy (e26.none hn)⟩⟩
  | false =>
   obtain ⟨hs1, hs2, hs3⟩ := see_three hn1 hh
   obtain ⟨hv26, hnt, w', a26, d1, d2, d3, d4⟩ := hnew hh
   have c26 : Gro itemC 5 s26 iw I := c5.mut m26 (c5.ne (by decide) a5)
   have hlq : l1 ∉ [q] := by
    simp only [List.mem_singleton]
    rintro rfl
    have := a5.at.inj o5.at
    have := congrArg List.length this
    simp [hvl, itemC] at this
   have o26 : Am.Own s26 l1 (itemC i) := o5.mut m26 hlq
   have r26 : ∀ s', Ext s26 s' → rd1 s' q (0 + 17) = some iw := fun s' e => by rw [(a26.ext e).at.rd1]; exact ref_17T hv26 w' iw
   refine ⟨_, rfl, bsplit.no (by simp) ⟨fun vs s' => ∃ left, vs = [left, .int .i64 (pos (I.map Itm.dot) i.dot : Nat)] ∧ WFs s' ∧ GroN itemC 5 [] s26 s' left (I.take (pos (I.map Itm.dot) i.dot)), ?_, fun m vs s' => ∃ (k : Nat) (left : AV), vs = [left, .int .i64 (k : Nat)] ∧ k ≤ I.length ∧ m = I.length - k ∧ WFs s' ∧ GroN itemC 5 [] s26 s' left (I.take k) ∧ ∀ (j : Nat) y, j < k → I[j]? = some y → y.dot.lt i.dot = true, I.length, ⟨0, _, rfl, by omega, rfl, w26, by simpa using GroN.nil, fun j y hj => by omega⟩, ?_⟩⟩
   ·rintro v29 n30 s31 ⟨left, hl, w31, g31⟩
    simp only [List.cons.injEq, AV.int.injEq, true_and, and_true] at hl
    obtain ⟨rfl, rfl⟩ := hl
    have hpl : pos (I.map Itm.dot) i.dot ≤ I.length := by have := pos_le (I.map Itm.dot) i.dot; simpa using this
    have htl : (I.take (pos (I.map Itm.dot) i.dot)).length ≤ I.length := by rw [List.length_take]; omega
    refine ⟨_, (o26.ext g31.chg.ext).at.rdc (by simp [itemC]), GroN.append1 sl_s_Item itemC_len itemC_one w31 g31 (by simp) i (by omega) fun v36 s37 g37 w37 _ => ?_⟩
    obtain ⟨v41, k1, k2⟩ := ((c26.ext g37.chg.ext).sl itemC_len).from itemC_len u_s_Item z_Item c2 hpl .i64
    refine ⟨iw, r26 _ g37.chg.ext, v41, k1, GroN.appendS sl_s_Item itemC_len itemC_one w37 g37 (by simp) k2 (by simp; omega) u_s_Item fun v42 s43 g43 w43 _ => ?_⟩
    have hins : I.take (pos (I.map Itm.dot) i.dot) ++ [i] ++ I.drop (pos (I.map Itm.dot) i.dot) = I.take (pos (I.map Itm.dot) i.dot) ++ i :: I.drop (pos (I.map Itm.dot) i.dot) := by simp
    rw [hins] at g43
    have a43 := a26.ext g43.chg.ext
    refine qstore_one g43.isSlc.2 z_s_Item (StQ.own w43 a43 (by simp [hv26]) fun s46 P => ?_)
    have a46 : Am.Own s46 q ((compact x.v (ins x.ex i.dot)).1.map (.int .u64) ++ [w', v42]) := by
     have := P.at
     rw [wrs_one, List.set_append_right _ _ (by simp [hv26])] at this
     simp only [List.length_map, hv26, Nat.zero_add, Nat.reduceSub, List.set_cons_succ, List.set_cons_zero] at this
     exact this
    have hq26 : s26.h q ≠ none := by rw [a26]; simp
    have g46 := g43.gro.mut P.mut fun y hy hm => by
     obtain rfl := List.mem_singleton.1 hm
     exact hq26 (g43.new _ hy)
    have d46 := (d3.ext g43.chg.ext).mut P.mut ((d3.ext g43.chg.ext).ne (by decide) a43)
    have M : Mut [q] s s46 := E5.mut.trans (m26.trans (g43.chg.ext.mut.trans P.mut))
    have ok2 := see_OOk o hi
    have hnone : ∀ y, s26.h y = none → s9.h y = none := fun y hy => by
     cases hq : s9.h y with
     | none => rfl
     | some ob =>
      by_cases e : y = q
      ·subst e; exact absurd hy hq26
      ·rw [m26.1 y ob (by simpa using e) hq] at hy; cases hy
    rw [hs1]
    refine ⟨rfl, M, labOf w' ++ (labOf v42 ++ F), ⟨ok2.ok, ok2.gap, w', v42, _, by rw [hs2]; exact a46, ⟨d1, d2, by rw [hs3]; exact d46⟩, ⟨g43.isSlc.2, g43.isSlc.1, g46⟩, hI.ins o hi hh, by simp [hqF], fun y hy => by simp [hy], fun y hy => by simp [hy]⟩, fun y hy => ?_, fun y hy => ?_⟩
    ·rcases List.mem_append.1 hy with hy | hy
     ·exact .inr (E5.none (d4 y hy))
     ·rcases List.mem_append.1 hy with hy | hy
      ·exact .inr (E5.none (hnone y (g43.new y hy)))
      ·exact .inl hy
    ·rcases List.mem_append.1 hy with hy | hy
     ·exact d46.there y hy
     ·rcases List.mem_append.1 hy with hy | hy
      ·exact g46.there y hy
      ·by_cases e : y = q
       ·rw [e, a46]; simp
       ·rw [P.eq y e]
        intro hn
        exact hth5 y hy (hnone y (g43.chg.ext.none hn))
   ·rintro m left n s52 ⟨k, left', hk, h6, rfl, w52, g52, hlt⟩
    simp only [List.cons.injEq, AV.int.injEq, true_and, and_true] at hk
    obtain ⟨rfl, rfl⟩ := hk
    have c52 := c26.ext g52.chg.ext
    have htl : (I.take k).length ≤ I.length := by rw [List.length_take]; omega
    have fin : (∀ y, I[k]? = some y → y.dot.lt i.dot = false) → pos (I.map Itm.dot) i.dot = k := fun hq => by
     refine pos_eq (by simpa using h6) (fun j d hj hd => ?_) fun d hd => ?_
     ·rw [List.getElem?_map, Option.map_eq_some_iff] at hd
      obtain ⟨y, hy, rfl⟩ := hd
      exact hlt j y hj hy
     ·rw [List.getElem?_map, Option.map_eq_some_iff] at hd
      obtain ⟨y, hy, rfl⟩ := hd
      exact hq y hy
    refine ⟨iw, r26 _ g52.chg.ext, _, (c52.sl itemC_len).lenB u_s_Item _, bsplit.dec (fun hl => ?_) (fun hge => ?_)⟩
    ·obtain ⟨y, hy⟩ := get_lt (l := I) (i := k) (by omega)
     obtain ⟨ly, oy, g8, g9⟩ := (c52.sl itemC_len).ix (by decide) itemC_len u_s_Item z_Item hy
     refine ⟨iw, r26 _ g52.chg.ext, ly, oy, g8 _, _, rdc_pre ((g9 _ (Ext.refl _)).2) (by decide), _, (o26.ext g52.chg.ext).at.rdc (by simp [itemC]), ?_⟩
     refine ACalls.use (ref04iLess_ok y.dot i.dot _) ?_
     rintro r s65 ⟨rfl, e65⟩ w65
     refine ⟨_, rfl, bsplit.mk (fun hb => ?_) (fun hb => ?_)⟩
     ·have ht : I.take (k + 1) = I.take k ++ [y] := by rw [List.take_add_one, hy]; rfl
      refine ⟨iw, r26 _ (g52.chg.ext.trans e65), ly, oy, g8 _, _, (g9 _ e65).2, GroN.append1 sl_s_Item itemC_len itemC_one w65 (g52.step e65) (by simp) y (by omega) fun v' s' g' hw' _ => ?_⟩
      refine ⟨I.length - (k + 1), by omega, k + 1, v', by rw [wrap_i (by omega)]; rfl, by omega, rfl, hw', by rw [ht]; exact g', fun j z hj hz => ?_⟩
      rcases Nat.lt_or_ge j k with h | h
      ·exact hlt j z h hz
      ·obtain rfl : j = k := by omega
       rw [hy] at hz; obtain rfl := Option.some.inj hz; exact hb
     ·have hp := fin fun z hz => by rw [hy] at hz; obtain rfl := Option.some.inj hz; exact hb
      exact ⟨left, by rw [hp], w65, by rw [hp]; exact g52.step e65⟩
    ·have hp := fin fun z hz => by rw [List.getElem?_eq_none (by omega)] at hz; cases hz
     exact ⟨left, by rw [hp], w52, by rw [hp]; exact g52⟩
end
end Go.Proofs.YtoklmpkpeanloaaGreat
end

section
set_option maxRecDepth 100000
set_option maxHeartbeats 4000000
namespace Go.Proofs.YtoklmpkpeanloaaGreat
open Go.Am
end Go.Proofs.YtoklmpkpeanloaaGreat
end

section
namespace Go.Proofs.YtoklmpkpeanloaaGreat
open Go.Am Go.Minster Go.Minster2
theorem SameItems_ok {s : AS} {v v' : AV} {l l' : List Itm} (h : Sl itemC 5 s v l) (h' : Sl itemC 5 s v' l') (hn : l.length ≤ 2 ^ 40) : ACalls Tryz.prog F_ref07iSameItems [v, v'] s fun r s' => r = .bool (decide (l = l')) ∧ s' = s := by
 refine q_ref07iSameItems _ _ _ _ ⟨_, h.lenB u_s_Item _, _, h'.lenB u_s_Item _, bsplit.mk (fun hq => ?_) (fun hq => ?_)⟩
 ·refine ⟨?_, rfl⟩
  have hq' : ¬ (l.length : Int) = (l'.length : Int) := by simpa using hq
  have : l.length ≠ l'.length := by omega
  have : l ≠ l' := fun e => this (by rw [e])
  simp [this]
 ·have hlen : l.length = l'.length := by
   have : (l.length : Int) = (l'.length : Int) := by simpa using hq
   omega
  refine ⟨fun m vs s' => ∃ i : Nat, vs = [.int .i64 (i : Nat)] ∧ i ≤ l.length ∧ m = l.length - i ∧ s' = s ∧ l.take i = l'.take i, l.length, ⟨0, rfl, by omega, rfl, rfl, by simp⟩, ?_⟩
  rintro m n s20 ⟨i, hi, h6, rfl, rfl, h7⟩
  simp only [List.cons.injEq, AV.int.injEq, true_and, and_true] at hi
  subst hi
  refine ⟨_, h.lenB u_s_Item _, bsplit.dec (fun hlt => ?_) (fun hge => ?_)⟩
  ·obtain ⟨x, hx⟩ := get_lt (l := l) (i := i) (by omega)
   obtain ⟨y, hy⟩ := get_lt (l := l') (i := i) (by omega)
   obtain ⟨la, o, h8, h9⟩ := h.ix (by decide) itemC_len u_s_Item z_Item hx
   obtain ⟨la', o', h8', h9'⟩ := h'.ix (by decide) itemC_len u_s_Item z_Item hy
   refine ⟨la, o, h8 _, _, (h9 _ (Ext.refl _)).2, la', o', h8' _, _, (h9' _ (Ext.refl _)).2, _, item_eq x y, bsplit.mk (fun hq => ?_) (fun hq => ?_)⟩
   ·refine ⟨?_, rfl⟩
    have hne : x ≠ y := by simpa using hq
    have : l ≠ l' := fun e => hne (by subst e; rw [hx] at hy; exact Option.some.inj hy)
    simp [this]
   ·have he : x = y := by simpa using hq
    subst he
    refine ⟨l.length - (i + 1), by omega, i + 1, by rw [wrap_i (by omega)]; rfl, by omega, rfl, rfl, ?_⟩
    rw [List.take_add_one, List.take_add_one, h7, hx, hy]
  ·refine ⟨?_, rfl⟩
   rw [List.take_of_length_le (by omega), List.take_of_length_le (by omega)] at h7
   simp [h7]
section
variable {F : List Nat} {s : AS} {q : Nat} {x : OSet} {B : Nat}
theorem RefO.open (h : RefO F s q x) : ∃ w iw I, At s q (x.v.map (.int .u64) ++ [w, iw]) ∧ iw ≠ .emp ∧ Gro itemC 5 s iw I ∧ Items x I ∧ (∀ s', Ext s s' → rd1 s' q (0 + 17) = some iw) ∧ RefT s q [iw] x.v x.ex := by
 obtain ⟨ok, gap, w, iw, I, a, ⟨b1, b2, b3⟩, ⟨c1, c2, c3⟩, hI, hqF, f, g⟩ := h
 exact ⟨w, iw, I, a.at, c2, c3, hI, fun s' e => by rw [(a.ext e).at.rd1]; exact ref_17T ok.v.len w iw, ok.v.len, fun y hy n => by obtain rfl := List.mem_singleton.1 hy; exact slc_not_int c3 n, w, a, b1, b2, b3.sl dotC_len⟩
end
end Go.Proofs.YtoklmpkpeanloaaGreat
end

section
namespace Go.Proofs.YtoklmpkpeanloaaGreat
open Go.Am Go.Minster Go.Minster2
section
variable {F : List Nat} {s : AS} {p : Nat} {x : OSet} {B : Nat}
def liveE (e : Dot × Key × Nat) : Itm := ⟨e.1, e.2.1, false⟩
theorem srt_rising {l : List Itm} (hs : Go.Minster.SI.Srt l 0 l.length) (hn : (l.map Itm.dot).Nodup) : Rising (l.map Itm.dot) := by
 refine List.pairwise_iff_getElem.2 fun i j hi hj hij => ?_
 simp only [List.length_map] at hi hj
 have hle : (Go.Minster.SI.el l i).le (Go.Minster.SI.el l j) := hs i j (by omega) hij hj
 have ei : Go.Minster.SI.el l i = l[i] := by have := Go.Minster.SI.el_get hi; rw [List.getElem?_eq_getElem hi] at this; exact (Option.some.inj this).symm
 have ej : Go.Minster.SI.el l j = l[j] := by have := Go.Minster.SI.el_get hj; rw [List.getElem?_eq_getElem hj] at this; exact (Option.some.inj this).symm
 rw [ei, ej] at hle
 simp only [List.getElem_map]
 rcases Dot.lt_tri l[i].dot l[j].dot with h | h | h
 ·exact h
 ·exfalso
  have := (List.pairwise_iff_getElem.1 hn) i j (by simpa using hi) (by simpa using hj) hij
  simp only [List.getElem_map] at this
  exact this h
 ·exfalso
  have h2 : l[j].dot.lt l[i].dot = false := hle
  rw [h2] at h; cases h
theorem Items_okN (h : SetF F s p x) (o : OOk x B) (hB : B ≤ 1000) : ACalls Tryz.prog F_orset_Set_Items [.ptr (some (p, 0))] s fun v s' => ∃ I, Items x I ∧ SI.ArrN s s' v I := by
 obtain ⟨hb1, hb2⟩ := h.bnd o
 refine q_orset_Set_Items _ _ _ ?_
 refine ACalls.use (there_ok h) ?_
 rintro v s2 ⟨rfl, rfl⟩ w2
 obtain ⟨_, _, _, pc, lm, tm, a, _, _, _, _, _, ⟨es, c, hm, hg, hl⟩, _⟩ := id h
 refine ⟨_, rfl, bsplit.no rfl ⟨fun vs s' => ∃ (v : AV) (done : List (Dot × Key × Nat)), vs = [v] ∧ WFs s' ∧ GroN itemC 5 [] s2 s' v (done.map liveE) ∧ (∀ e ∈ es, e ∈ done) ∧ (∀ e ∈ done, e ∈ es) ∧ done.Nodup, ?_, _, by rw [a.at.rd1]; rfl, MpAt.range u_m_Dot_Key w2 hm fun it s19 hit F19 => ⟨fun m vs s' => ∃ (v : AV) (done : List (Dot × Key × Nat)), vs = [v] ∧ m = es.length - done.length ∧ WFs s' ∧ MpAt dK kV s' lm es c false ∧ Iter s' it lm es c done ∧ GroN itemC 5 [it] s19 s' v (done.map liveE), es.length, ⟨_, [], rfl, by simp, F19.wf, hm.ext F19.ext, hit, GroN.nil⟩, ?_⟩⟩⟩
 ·rintro v5 s6 ⟨v', done, hv, w6, g6, d1, d2, d3⟩
  obtain rfl : v5 = v' := by simpa using hv
  have e6 := g6.chg.ext
  refine ACalls.use (Tombs_ok (h.ext e6) (by omega)) ?_
  rintro v7 s8 ⟨t, hA, tris, tmem, tlen⟩ w8
  refine ACalls.use (gone_ok hA.dots (by omega)) ?_
  rintro v9 s10 g10 w10
  have e10 := hA.1.trans g10.chg.ext
  have hdl : done.length = es.length := by
   have hes2 : es.Nodup := hm.nd.imp fun {a b} h e => h (by rw [e])
   exact ((List.perm_ext_iff_of_nodup d3 hes2).2 fun a => ⟨d2 a, d1 a⟩).length_eq
  refine GroN.appendS sl_s_Item itemC_len itemC_one w10 (g6.step e10) (by simp) (g10.sl itemC_len) (by simp; omega) u_s_Item fun v11 s12 g12 w12 _ => ?_
  refine ACalls.use (SI.sortGro_ok g12 (by simp; omega)) ?_
  rintro r s14 ⟨rfl, l', hp, hs, hA2⟩ w14
  refine ⟨rfl, l', ?_, hA2⟩
  have hlive : ∀ i : Itm, i ∈ done.map liveE ↔ i.gone = false ∧ x.live i.dot = some i.key := by
   intro i
   rw [List.mem_map]
   constructor
   ·rintro ⟨e, he, rfl⟩
    exact ⟨rfl, by rw [← hg]; exact mget_mem hm.nd (d2 e he)⟩
   ·rintro ⟨h1, h2⟩
    rw [← hg] at h2
    obtain ⟨j, n, hj⟩ := mget_some h2
    refine ⟨_, d1 _ (List.mem_of_getElem? hj), ?_⟩
    cases i
    simp only at h1
    simp [liveE, h1]
  have hgone : ∀ i : Itm, i ∈ t.map goneI ↔ i.gone = true ∧ x.tomb i.dot = true ∧ i.key = ⟨[], []⟩ := by
   intro i
   rw [List.mem_map]
   constructor
   ·rintro ⟨d, hd, rfl⟩
    exact ⟨rfl, (tmem d).1 hd, rfl⟩
   ·rintro ⟨h1, h2, h3⟩
    refine ⟨i.dot, (tmem _).2 h2, ?_⟩
    cases i
    simp only at h1 h3
    simp [goneI, h1, h3]
  have hnd : ((done.map liveE ++ t.map goneI).map Itm.dot).Nodup := by
   rw [List.map_append, List.map_map, List.map_map]
   refine List.nodup_append.2 ⟨?_, ?_, ?_⟩
   ·refine List.pairwise_map.2 (List.Pairwise.imp_of_mem ?_ d3)
    intro u w hu hw huw he
    have h1 := mget_mem hm.nd (d2 u hu)
    have h2 := mget_mem hm.nd (d2 w hw)
    have key : ∀ (l : List (Dot × Key × Nat)), l.Pairwise (fun a b => a.1 ≠ b.1) → u ∈ l → w ∈ l → u = w := by
     intro l
     induction l with
     | nil => intro _ h; cases h
     | cons z l ih =>
      intro hp h4 h5
      obtain ⟨p1, p2⟩ := List.pairwise_cons.1 hp
      rcases List.mem_cons.1 h4 with r4 | h4 <;> rcases List.mem_cons.1 h5 with r5 | h5
      ·rw [r4, r5]
      ·exact absurd (by rw [← r4]; exact he) (p1 w h5)
      ·exact absurd (by rw [← r5]; exact he.symm) (p1 u h4)
      ·exact ih p2 h4 h5
    exact huw (key es hm.nd (d2 u hu) (d2 w hw))
   ·have : t.map (Itm.dot ∘ goneI) = t := by
     conv => rhs; rw [← List.map_id t]
     rfl
    rw [this]; exact rising_nodup tris
   ·intro u hu w hw
    rw [List.mem_map] at hu hw
    obtain ⟨e, he, rfl⟩ := hu
    obtain ⟨d, hd, rfl⟩ := hw
    intro heq
    have h1 : x.live e.1 = some e.2.1 := by rw [← hg]; exact mget_mem hm.nd (d2 e he)
    have h2 := (o.tb d ((tmem d).1 hd)).2
    have : e.1 = d := heq
    rw [this, h2] at h1; cases h1
  refine ⟨srt_rising hs ((hp.map Itm.dot).nodup_iff.2 hnd), fun i => ?_⟩
  rw [hp.mem_iff, List.mem_append, hlive, hgone]
  unfold OSet.item
  cases i.gone <;> simp
 ·rintro m v s24 ⟨v', done, hv, rfl, w24, hm24, hit24, g24⟩
  obtain rfl : v = v' := by simpa using hv
  have hitx : s24.h it ≠ none := by rw [hit24.at]; simp
  refine ⟨fun vs s' => (vs = [.bool false] ∧ s' = s24 ∧ ∀ e ∈ es, e ∈ done) ∨ (vs = [.bool true] ∧ ∃ e, e ∈ es ∧ e ∉ done ∧ WFs s' ∧ MpAt dK kV s' lm es c false ∧ Iter s' it lm es c (done ++ [e]) ∧ GroN itemC 5 [it] s19 s' v (done.map liveE)), ?_, ?_⟩
  rotate_left
  ·refine Iter.next w24 hm24 hit24 (fun hall => .inl ⟨rfl, rfl, hall⟩) fun e s' he hne hit' w' m' => .inr ⟨rfl, e, he, hne, w', hm24.mut m' ?_, hit', g24.wr ?_ m'⟩
   ·simp only [List.mem_singleton]
    rintro rfl
    have := hm24.obj
    rw [hit24.at] at this; cases this
   ·intro y hy
    obtain rfl := List.mem_singleton.1 hy
    rw [hit.at]; simp
  rintro b s27 (⟨hb, rfl, hall⟩ | ⟨hb, e, he, hne, w27, hm27, hit27, g27⟩)
  ·obtain rfl : b = false := by simpa using hb
   refine bsplit.no rfl ⟨v, done, rfl, w24, ⟨g24.gro, ?_, fun la hla => F19.ext.none (g24.new la hla)⟩, hall, hit24.sub, hit24.nd⟩
   exact (Ext.wr F19.ext F19.no g24.chg).mut
  ·obtain rfl : b = true := by simpa using hb
   have hlt := hit24.lt he hne
   refine bsplit.yes rfl (Iter.entry hm27 hit27 ⟨dotC e.1, rfl, keyC e.2.1, rfl, NewQ.intro w27 rfl fun l32 s33 F33 => NewQ.intro F33.wf rfl fun l34 s35 F35 => ⟨⟨by simp [dotC], rfl⟩, ?_⟩⟩)
   have hne34 : l32 ≠ l34 := by
    rintro rfl
    have := F35.no
    rw [F33.at] at this; cases this
   refine StQ.own F35.wf (F33.own.ext F35.ext) (by simp [dotC]) fun s36 P36 => ⟨⟨by simp [keyC], rfl⟩, StQ.own P36.wf (F35.own.mut P36.mut (by simpa using hne34.symm)) (by simp [keyC]) fun s37 P37 => ?_⟩
   have e35 : Ext s27 s35 := F33.ext.trans F35.ext
   have e37 : Ext s27 s37 := Ext.wr (Ext.wr e35 F33.no P36.mut) (F33.ext.none F35.no) P37.mut
   have o32 : Am.Own s37 l32 (dotC e.1) := by
    have := P36.at
    rw [wrs_all0 (by simp [dotC])] at this
    exact Am.Own.mut this P37.mut (by simpa using hne34)
   have o34 : Am.Own s37 l34 (keyC e.2.1) := by
    have := P37.at
    rw [wrs_all0 (by simp [keyC])] at this
    exact this
   have hit37 := hit27.ext e37
   refine ⟨_, o32.at.rdc (by simp [dotC]), _, o34.at.rdc (by simp [keyC]), _, build_item e.1 e.2.1, GroN.append1 sl_s_Item itemC_len itemC_one P37.wf (g27.step e37) (fun y hy => ?_) (liveE e) (by simp; omega) fun v44 s45 g45 w45 m45 => ?_⟩
   ·obtain rfl := List.mem_singleton.1 hy
    rw [hit37.at]; simp
   ·have hnit : it ∉ labOf v := fun hx => by
     have := g24.new it hx
     rw [hit.at] at this; cases this
    have hnlm : lm ∉ labOf v := fun hx => by
     have := g24.new lm hx
     rw [(hm.ext F19.ext).obj] at this; cases this
    refine ⟨es.length - (done ++ [e]).length, by simp; omega, v44, done ++ [e], rfl, rfl, w45, (hm27.ext e37).mut m45 hnlm, hit37.mut m45 hnit, ?_⟩
    rw [List.map_append]
    exact g45
theorem Items_ok (h : SetF F s p x) (o : OOk x B) (hB : B ≤ 1000) : ACalls Tryz.prog F_orset_Set_Items [.ptr (some (p, 0))] s fun v s' => ∃ I, Items x I ∧ Sl itemC 5 s' v I ∧ Ext s s' := by
 refine (Items_okN h o hB).mono ?_
 rintro v s' ⟨I, h1, h2⟩
 exact ⟨I, h1, h2.dots, h2.1⟩
end
/-! ### the reference's live items and keys -/
section
variable {F : List Nat} {s : AS} {q : Nat} {x : OSet} {B : Nat}
def liveI (I : List Itm) : List Itm := I.filter fun i => !i.gone
theorem ref_Live_ok (h : RefO F s q x) (o : OOk x B) (hB : B ≤ 1000) : ACalls Tryz.prog F_ref07iSet_Live [.ptr (some (q, 0))] s fun v s' => ∃ I, Items x I ∧ GroN itemC 5 [] s s' v (liveI I) := by
 obtain ⟨w, iw, I, a, c2, c3, hI, hr, _⟩ := h.open
 have hlen := hI.len o
 refine ACalls.pre fun hw => q_ref07iSet_Live _ _ _ ⟨fun m vs s' => ∃ (i : Nat) (v : AV), vs = [v, .int .i64 (i : Nat)] ∧ i ≤ I.length ∧ m = I.length - i ∧ WFs s' ∧ GroN itemC 5 [] s s' v (liveI (I.take i)), I.length, ⟨0, _, rfl, by omega, rfl, hw, by simpa [liveI] using GroN.nil⟩, ?_⟩
 rintro m v4 n s6 ⟨i, v', hi, h6, rfl, w6, g6⟩
 simp only [List.cons.injEq, AV.int.injEq, true_and, and_true] at hi
 obtain ⟨rfl, rfl⟩ := hi
 have E6 := g6.chg.ext
 have c6 := (c3.ext E6).sl itemC_len
 refine ⟨iw, hr _ E6, _, c6.lenB u_s_Item _, bsplit.dec (fun hlt => ?_) (fun hge => ?_)⟩
 ·obtain ⟨y, hy⟩ := get_lt (l := I) (i := i) (by omega)
  obtain ⟨ly, oy, k8, k9⟩ := c6.ix (by decide) itemC_len u_s_Item z_Item hy
  have hfl := List.length_filter_le (fun i : Itm => !i.gone) (I.take i)
  have htl := List.length_take_le i I
  have ht : liveI (I.take (i + 1)) = liveI (I.take i) ++ if y.gone = false then [y] else [] := by
   unfold liveI
   rw [List.take_add_one, hy, List.filter_append, Option.toList_some]
   congr 1
   cases hq : y.gone <;> simp [List.filter_cons, hq]
  refine ⟨iw, hr _ E6, ly, oy, k8 _, y.gone, (k9 _ (Ext.refl _)).1 4 (by decide), bsplit.mk (fun hg => ?_) (fun hg => ?_)⟩
  ·refine ⟨iw, hr _ E6, ly, oy, k8 _, _, (k9 _ (Ext.refl _)).2, GroN.append1 sl_s_Item itemC_len itemC_one w6 g6 (by simp) y (by unfold liveI; omega) fun v' s' g' w' _ => ?_⟩
   exact ⟨I.length - (i + 1), by omega, i + 1, v', by rw [wrap_i (by omega)]; rfl, by omega, rfl, w', by rw [ht, if_pos (by simpa using hg)]; exact g'⟩
  ·exact ⟨I.length - (i + 1), by omega, i + 1, v4, by rw [wrap_i (by omega)]; rfl, by omega, rfl, w6, by rw [ht, if_neg (by simpa using hg), List.append_nil]; exact g6⟩
 ·rw [List.take_of_length_le (by omega)] at g6
  exact ⟨I, hI, g6⟩
theorem liveI_mem {I : List Itm} (h : Items x I) (i : Itm) : i ∈ liveI I ↔ i.gone = false ∧ x.live i.dot = some i.key := by
 unfold liveI
 rw [List.mem_filter, h.mem]
 unfold OSet.item
 cases i.gone <;> simp
end
end Go.Proofs.YtoklmpkpeanloaaGreat
end

section
set_option maxRecDepth 100000
set_option maxHeartbeats 4000000
namespace Go.Proofs.YtoklmpkpeanloaaGreat
open Go.Am
end Go.Proofs.YtoklmpkpeanloaaGreat
end

section
namespace Go.Proofs.YtoklmpkpeanloaaGreat
open Go.Am Go.Minster Go.Minster2
structure Pair2 (s0 s : AS) (p q : Nat) (x y : OSet) (B : Nat) : Prop where
 e : Ext s0 s
 mem : ∃ F G, SetO s0 s F p x B ∧ RefO G s q y ∧ (∀ z ∈ G, s0.h z = none) ∧ (∀ z ∈ G, s.h z ≠ none) ∧ Dj F G
section
variable {s0 s s' : AS} {p q : Nat} {x y : OSet} {B : Nat}
theorem Pair2.ext (h : Pair2 s0 s p q x y B) (e : Ext s s') : Pair2 s0 s' p q x y B := by
 obtain ⟨e0, F, G, h1, h2, h3, h4, h5⟩ := h
 exact ⟨e0.trans e, F, G, h1.ext e, h2.ext e, h3, fun z hz hn => h4 z hz (e.none hn), h5⟩
theorem Pair2.set {F G F' L : List Nat} {x' : OSet} {B' : Nat} (h1 : SetO s0 s F p x B) (h2 : RefO G s q y) (h3 : ∀ z ∈ G, s0.h z = none) (h4 : ∀ z ∈ G, s.h z ≠ none) (h5 : Dj F G) (hL : ∀ z ∈ L, z ∈ F) (m : Mut L s s') (e' : Ext s0 s') (hA : SetO s0 s' F' p x' B') (hF : ∀ z ∈ F', z ∈ F ∨ s.h z = none) : Pair2 s0 s' p q x' y B' :=
 ⟨e', F', G, hA, h2.mut m (h5.sub hL), h3, there_mut h4 m (h5.sub hL), h5.step h4 hF⟩
theorem Pair2.Collect (h : Pair2 s0 s p q x y B) (d : Dot) :
  ACalls Tryz.prog F_orset_Set_Collect [.ptr (some (p, 0)), .agg (dotC d)] s fun r s' => ∃ x', x' = (if d.may && x.tomb d then x.coll d else x) ∧ r = .int .i64 (if d.may then (if x.tomb d then 0 else 6) else 2) ∧ Pair2 s0 s' p q x' y B ∧ ∀ l cs, At s l cs → At s' l cs := by
 obtain ⟨e0, F, G, h1, h2, h3, h4, h5⟩ := id h
 refine (Collect_ok h1.set h1.there d).mono ?_
 rintro r s' (⟨c1, rfl, e⟩ | ⟨c1, c2, rfl, e⟩ | ⟨c1, c2, rfl, hS, ht, m, hm, mm, hC⟩)
 ·exact ⟨x, by simp [c1], by simp [c1], h.ext e, fun _ _ h => h.ext e⟩
 ·exact ⟨x, by simp [c1, c2], by simp [c1, c2], h.ext e, fun _ _ h => h.ext e⟩
 ·exact ⟨x.coll d, by simp [c1, c2], by simp [c1, c2], Pair2.set h1 h2 h3 h4 h5 (by simpa using hm) mm (Ext.wr e0 (h1.new m hm) mm) ⟨hS, h1.ok.coll d, h1.new, ht⟩ fun z hz => .inl hz, fun l cs hl => hl.mut mm (by simp only [List.mem_singleton]; rintro rfl; exact hC _ hl)⟩
end
theorem sees_take {x : OSet} {L : List Itm} {i : Nat} {y : Itm} (hy : L[i]? = some y) : x.sees (L.take (i + 1)) = ((x.sees (L.take i)).1 || ((x.sees (L.take i)).2.see y).1, ((x.sees (L.take i)).2.see y).2) := by
 unfold OSet.sees
 rw [List.take_add_one, hy, Option.toList_some, List.foldl_append]
 rfl
end Go.Proofs.YtoklmpkpeanloaaGreat
end

section
namespace Go.Proofs.YtoklmpkpeanloaaGreat
open Go.Am Go.Minster Go.Minster2 Go.ChangeShapes Go.WideShapes Go.ChangeAt Go.RowKit
set_option maxRecDepth 100000 in
theorem flat_Item : flatT Tryz.prog 5 Y_Item = some [.int .i64, .int .u64, .str, .str, .bool] := by kernel_rfl
set_option maxRecDepth 100000 in
theorem items_arg {H : Type} {enc : TypeId × Value → H} {W : World} {base : Nat} {v : Value} (hv : Value.okWide Tryz.prog W .any base Y_s_Item v) (h : ∃ (d : DataW H) (p : List MemPlace), DataW.Trod enc Tryz.prog W 0 (fun _ => true) true Y_s_Item v d p) :
  ∃ l : List Itm, Sl itemC 5 (sW W) (absV W.heap.size (MW W) v) l ∧ ∀ i ∈ l, DotIn i.dot := by
 obtain ⟨d, p, h⟩ := h
 obtain ⟨C, h1, h2, _⟩ := slice_arg (d := 5) (ks := [.int .i64, .int .u64, .str, .str, .bool]) (hT.und _ _ u_s_Item) flat_Item (by kernel_rfl) (by decide) hv h
 obtain ⟨l, e1, e2, e3⟩ := cells_dec (f := itemC) (Q := fun i => DotIn i.dot) C fun c hc => by
  obtain ⟨a, c1, rfl, ⟨r, rfl, hr1, hr2⟩, g1⟩ := (h2 c hc).cons
  obtain ⟨b, c2, rfl, ⟨n, rfl, hn1, hn2⟩, g2⟩ := g1.cons
  obtain ⟨b, c3, rfl, ⟨t, rfl, _⟩, g3⟩ := g2.cons
  obtain ⟨b, c4, rfl, ⟨u, rfl, _⟩, g4⟩ := g3.cons
  obtain ⟨b, c5, rfl, ⟨g, rfl⟩, g5⟩ := g4.cons
  obtain rfl := g5.nil
  rw [min_i64] at hr1
  rw [max_i64] at hr2
  rw [min_u64] at hn1
  rw [max_u64] at hn2
  exact ⟨⟨⟨r, n⟩, ⟨t, u⟩, g⟩, rfl, ⟨hr1, hr2⟩, hn1, hn2⟩
 rw [e1, e2] at h1
 exact ⟨l, h1, e3⟩
end Go.Proofs.YtoklmpkpeanloaaGreat
end

section
namespace Go.Proofs.YtoklmpkpeanloaaGreat
open Go.Am Go.Minster Go.Minster2 Go.ChangeShapes Go.WideShapes Go.ChangeAt Go.RowKit
end Go.Proofs.YtoklmpkpeanloaaGreat
end

section
namespace Go.Proofs.YtoklmpkpeanloaaGreat
open Go.Am Go.Minster Go.Minster2
section
variable {s0 s : AS} {p q : Nat} {x : OSet} {B : Nat} {F G : List Nat}
end
end Go.Proofs.YtoklmpkpeanloaaGreat
end

section
namespace Go.Am
def AS.less (s : AS) (L : List Nat) : AS := L.foldl AS.kill s
theorem AS.less_h (s : AS) (L : List Nat) (x : Nat) : (s.less L).h x = if x ∈ L then none else s.h x := by
 unfold AS.less
 induction L generalizing s with
 | nil => simp
 | cons a L ih =>
  rw [List.foldl_cons, ih, AS.kill_h]
  by_cases h1 : x ∈ L
  ·simp [h1]
  ·by_cases h2 : x = a <;> simp [h1, h2]
theorem AS.less_nl (s : AS) (L : List Nat) : (s.less L).nl = s.nl := by
 unfold AS.less
 induction L generalizing s with
 | nil => rfl
 | cons a L ih => rw [List.foldl_cons, ih, AS.kill_nl]
theorem AS.less_ext (s : AS) (L : List Nat) : Ext (s.less L) s := ⟨(fun l o h => by rw [AS.less_h] at h; split at h <;> first | exact h | cases h), by rw [AS.less_nl]; exact Nat.le_refl _⟩
theorem AS.less_mut (s : AS) (L : List Nat) : Mut L s (s.less L) := ⟨fun l o hl h => by rw [AS.less_h, if_neg hl]; exact h, by rw [AS.less_nl]; exact Nat.le_refl _⟩
theorem AS.less_of {s0 s : AS} {L : List Nat} (e : Ext s0 s) (hL : ∀ x ∈ L, s0.h x = none) : Ext s0 (s.less L) :=
 ⟨fun l o h => by rw [AS.less_h, if_neg (fun hm => by rw [hL l hm] at h; cases h)]; exact e.1 l o h, by rw [AS.less_nl]; exact e.2⟩
end Go.Am
namespace Go.Proofs.YtoklmpkpeanloaaGreat
open Go.Am Go.Minster Go.Minster2
section
variable {s0 s s' : AS} {p q : Nat} {x y : OSet} {B : Nat}
end
theorem build_ref7 : abuild T Y_minsterref07iSet [] = some (.agg (zeros.map (.int .u64) ++ [.slc none 0 0 true, .slc none 0 0 true])) := by kernel_rfl
end Go.Proofs.YtoklmpkpeanloaaGreat
end

section
namespace Go.Proofs.YtoklmpkpeanloaaGreat
open Go.Am Go.Minster Go.Minster2
end Go.Proofs.YtoklmpkpeanloaaGreat
end

section
set_option maxRecDepth 100000
set_option maxHeartbeats 4000000
namespace Go.Proofs.YtoklmpkpeanloaaGreat
open Go.Am
end Go.Proofs.YtoklmpkpeanloaaGreat
end

section
namespace Go.Proofs.YtoklmpkpeanloaaGreat
open Go.Am Go.Minster Go.Minster2
/-! ### plainly -/
theorem has_may {x : OSet} {d : Dot} (h : x.has d = true) : d.may = true := (hasD_iff.1 h).1
/-! ### at a set -/
section
variable {s0 s : AS} {F : List Nat} {p : Nat} {x : OSet} {B : Nat}
end
end Go.Proofs.YtoklmpkpeanloaaGreat
end

section
namespace Go.Proofs.YtoklmpkpeanloaaGreat
open Go.Am Go.Minster Go.Minster2
/-! ### plainly -/
def Good (v : List Int) (ex : List Dot) (L : List Itm) : Prop := (∀ j ∈ L, j.may = true ∧ hasD v ex j.dot = true) ∧ (L.map Itm.dot).Nodup
structure OfP (v : List Int) (ex : List Dot) (L : List Itm) (x : OSet) : Prop where
 v : x.v = v
 ex : x.ex = ex
 live : ∀ d k, x.live d = some k ↔ (⟨d, k, false⟩ : Itm) ∈ L
 tomb : ∀ d, x.tomb d = true ↔ goneI d ∈ L
 cnt : x.nl + x.nt = L.length
def OSet.put (x : OSet) (j : Itm) : OSet :=
 if j.gone then { x with tomb := fun d => x.tomb d || decide (d = j.dot), nt := if x.tomb j.dot then x.nt else x.nt + 1 }
 else { x with live := fun d => if d = j.dot then some j.key else x.live d, nl := if (x.live j.dot).isSome then x.nl else x.nl + 1 }
theorem may_gone {j : Itm} (h : j.may = true) (hg : j.gone = true) : j = goneI j.dot := by
 cases j
 simp only [Itm.may] at h hg
 subst hg
 simp at h
 simp [goneI, h.2]
theorem may_live {j : Itm} (h : j.may = true) (hg : j.gone = false) : j.dot.may = true ∧ j.key.may = true := by
 cases j
 simp only [Itm.may] at h hg
 subst hg
 simpa using h
theorem nodup_one : ∀ {L : List Itm}, (L.map Itm.dot).Nodup → ∀ {i j : Itm}, i ∈ L → j ∈ L → i.dot = j.dot → i = j
 | [], _, _, _, h, _, _ => by cases h
 | a :: L, hn, i, j, h1, h2, e => by
  obtain ⟨p1, p2⟩ := List.nodup_cons.1 (by simpa using hn : (a.dot :: L.map Itm.dot).Nodup)
  rcases List.mem_cons.1 h1 with e1 | r1 <;> rcases List.mem_cons.1 h2 with e2 | r2
  ·rw [e1, e2]
  ·exact absurd (List.mem_map.2 ⟨j, r2, by rw [← e, e1]⟩) p1
  ·exact absurd (List.mem_map.2 ⟨i, r1, by rw [e, e2]⟩) p1
  ·exact nodup_one p2 r1 r2 e
section
variable {v : List Int} {ex : List Dot} {L : List Itm} {x : OSet}
theorem OfP.zero (v : List Int) (ex : List Dot) : OfP v ex [] ⟨v, ex, fun _ => none, fun _ => false, 0, 0⟩ := ⟨rfl, rfl, fun d k => by simp, fun d => by simp, rfl⟩
theorem Good.nil (v : List Int) (ex : List Dot) : Good v ex [] := ⟨by simp, by simp⟩
theorem OfP.dup (h : OfP v ex L x) (g : Good v ex L) (d : Dot) : ((x.live d).isSome || x.tomb d) = true ↔ d ∈ L.map Itm.dot := by
 rw [Bool.or_eq_true, Option.isSome_iff_exists, h.tomb, List.mem_map]
 constructor
 ·rintro (⟨k, hk⟩ | hk)
  ·exact ⟨_, (h.live d k).1 hk, rfl⟩
  ·exact ⟨_, hk, rfl⟩
 ·rintro ⟨j, hj, rfl⟩
  cases hg : j.gone with
  | true => exact .inr (by rw [← may_gone (g.1 j hj).1 hg]; exact hj)
  | false =>
   refine .inl ⟨j.key, (h.live _ _).2 ?_⟩
   cases j
   simp only at hg
   subst hg
   exact hj
theorem Good.snoc {j : Itm} : Good v ex (L ++ [j]) ↔ Good v ex L ∧ j.may = true ∧ hasD v ex j.dot = true ∧ j.dot ∉ L.map Itm.dot := by
 unfold Good
 rw [List.map_append, List.nodup_append]
 constructor
 ·rintro ⟨h1, h2, _, h3⟩
  exact ⟨⟨fun i hi => h1 i (by simp [hi]), h2⟩, (h1 j (by simp)).1, (h1 j (by simp)).2, fun hm => h3 _ hm j.dot (by simp) rfl⟩
 ·rintro ⟨⟨h1, h2⟩, h3, h4, h5⟩
  refine ⟨fun i hi => ?_, h2, by simp, fun a ha b hb => ?_⟩
  ·rcases List.mem_append.1 hi with hi | hi
   ·exact h1 i hi
   ·obtain rfl := List.mem_singleton.1 hi; exact ⟨h3, h4⟩
  ·obtain rfl : b = j.dot := by simpa using hb
   rintro rfl
   exact h5 ha
theorem OfP.put (h : OfP v ex L x) {j : Itm} (g : Good v ex (L ++ [j])) : OfP v ex (L ++ [j]) (x.put j) := by
 obtain ⟨g0, g1, g2, g3⟩ := Good.snoc.1 g
 have hd : ¬ ((x.live j.dot).isSome || x.tomb j.dot) = true := fun hc => g3 ((h.dup g0 j.dot).1 hc)
 rw [Bool.or_eq_true, not_or] at hd
 have hl : x.live j.dot = none := by cases hx : x.live j.dot <;> simp [hx] at hd; rfl
 have ht : x.tomb j.dot = false := by simpa using hd.2
 have hcnt := h.cnt
 cases hg : j.gone with
 | true =>
  have hj := may_gone g1 hg
  have e : x.put j = { x with tomb := fun d => x.tomb d || decide (d = j.dot), nt := if x.tomb j.dot then x.nt else x.nt + 1 } := by unfold OSet.put; rw [if_pos hg]
  rw [e]
  refine ⟨h.v, h.ex, fun d k => ?_, fun d => ?_, ?_⟩
  ·simp only [h.live, List.mem_append, List.mem_singleton]
   refine ⟨.inl, fun h => h.resolve_right fun he => ?_⟩
   rw [← he] at hg; cases hg
  ·simp only [Bool.or_eq_true, decide_eq_true_eq, h.tomb, List.mem_append, List.mem_singleton]
   refine or_congr Iff.rfl ⟨?_, ?_⟩
   ·rintro rfl; exact hj.symm
   ·intro he; rw [← he]; rfl
  ·simp only [ht, List.length_append, List.length_singleton]
   simp; omega
 | false =>
  have e : x.put j = { x with live := fun d => if d = j.dot then some j.key else x.live d, nl := if (x.live j.dot).isSome then x.nl else x.nl + 1 } := by unfold OSet.put; rw [if_neg (by rw [hg]; simp)]
  rw [e]
  refine ⟨h.v, h.ex, fun d k => ?_, fun d => ?_, ?_⟩
  ·simp only [List.mem_append, List.mem_singleton]
   by_cases e : d = j.dot
   ·subst e
    simp only [if_true, Option.some.injEq]
    constructor
    ·rintro rfl
     exact .inr (by cases j; simp only at hg; subst hg; rfl)
    ·rintro (hm | hm)
     ·exact absurd (List.mem_map.2 ⟨_, hm, rfl⟩) g3
     ·rw [← hm]
   ·rw [if_neg e, h.live]
    refine ⟨.inl, fun h => h.resolve_right fun he => e (by rw [← he])⟩
  ·simp only [h.tomb, List.mem_append, List.mem_singleton]
   refine ⟨.inl, fun h => h.resolve_right fun he => ?_⟩
   rw [← he] at hg; cases hg
  ·simp only [hl, List.length_append, List.length_singleton]
   simp; omega
theorem OfP.item (h : OfP v ex L x) (g : Good v ex L) (i : Itm) : x.item i ↔ i ∈ L := by
 unfold OSet.item
 cases hg : i.gone with
 | true =>
  simp only [h.tomb]
  constructor
  ·rintro ⟨h1, h2⟩
   have : i = goneI i.dot := by cases i; simp only at hg h2; subst hg h2; rfl
   rw [this]; exact h1
  ·intro hi
   have := may_gone (g.1 i hi).1 hg
   rw [this] at hi
   exact ⟨hi, by rw [this]; rfl⟩
 | false =>
  simp only [h.live]
  have : (⟨i.dot, i.key, false⟩ : Itm) = i := by cases i; simp only at hg; subst hg; rfl
  rw [this]
theorem OfP.ok (h : OfP v ex L x) (g : Good v ex L) (ok : COk v ex) (gap : Gap v ex) {B : Nat} (sz : ∃ U : List Dot, U.length ≤ B ∧ ∀ d, (d ∈ ex ∨ d ∈ L.map Itm.dot) → d ∈ U) : OOk x B := by
 have one := fun i hi j hj => nodup_one g.2 (i := i) (j := j) hi hj
 refine ⟨by rw [h.v, h.ex]; exact ok, by rw [h.v, h.ex]; exact gap, fun d k hd => ?_, fun d hd => ?_, ?_⟩
 ·have hm := (h.live d k).1 hd
  obtain ⟨g1, g2⟩ := g.1 _ hm
  exact ⟨by unfold OSet.has; rw [h.v, h.ex]; exact g2, (may_live g1 rfl).2⟩
 ·have hm := (h.tomb d).1 hd
  obtain ⟨g1, g2⟩ := g.1 _ hm
  refine ⟨by unfold OSet.has; rw [h.v, h.ex]; exact g2, ?_⟩
  cases hx : x.live d with
  | none => rfl
  | some k =>
   have := one _ hm _ ((h.live d k).1 hx) rfl
   simp [goneI] at this
 ·obtain ⟨U, h1, h2⟩ := sz
  refine ⟨U, h1, fun d hd => h2 d ?_⟩
  rcases hd with hd | hd | hd
  ·rw [h.ex] at hd; exact .inl hd
  ·obtain ⟨k, hk⟩ := Option.isSome_iff_exists.1 hd
   exact .inr (List.mem_map.2 ⟨_, (h.live d k).1 hk, rfl⟩)
  ·exact .inr (List.mem_map.2 ⟨_, (h.tomb d).1 hd, rfl⟩)
end
/-! ### in memory -/
set_option maxRecDepth 100000 in
set_option maxHeartbeats 1000000 in
theorem Of_ok {s : AS} {pc : Nat} {v : List Int} {ex : List Dot} {a : AV} {l : List Itm} (h : CtxAt s pc v ex) (ok : COk v ex) (gap : Gap v ex) (hex : ex.length ≤ 4096) (hl : Sl itemC 5 s a l) (hn : l.length ≤ 1000) :
  ACalls Tryz.prog F_orset_Of [.ptr (some (pc, 0)), a] s fun r s' => Ext s s' ∧ ((¬ Good v ex l ∧ r = .tup [.ptr none, .int .i64 2]) ∨
   (Good v ex l ∧ ∃ p F x, r = .tup [.ptr (some (p, 0)), .int .i64 0] ∧ OfP v ex l x ∧ SetF F s' p x ∧ (∀ y ∈ F, s.h y = none) ∧ ∀ y ∈ F, s'.h y ≠ none)) := by
 refine q_orset_Of _ _ _ _ ?_
 refine ACalls.use (ctx_Copy_G h (by omega)) ?_
 rintro v1 s2 ⟨q, rfl, hq, hG, e2⟩ w2
 refine ⟨_, rfl, _, aeqPtrNil u_p_ctx_Ctx _, bsplit.no rfl (NewQ.intro w2 rfl fun lm s6 F6 => NewQ.intro F6.wf rfl fun tm s8 F8 => ⟨_, set_build _ _ _, rfl, NewQ.intro F8.wf rfl fun p s11 F11 => ?_⟩)⟩
 obtain ⟨Fc, hcF, hFn, hFt⟩ := hG.toF hq
 have e11 := F6.ext.trans (F8.ext.trans F11.ext)
 have E11 := e2.trans e11
 have hlm : s11.h lm = some (.map [] 0 false) := (F8.ext.trans F11.ext).1 _ _ F6.at
 have htm : s11.h tm = some (.map [] 0 false) := F11.ext.1 _ _ F8.at
 have hne : lm ≠ tm := by
  rintro rfl
  have := F8.no
  rw [F6.at] at this; cases this
 have a11 : Am.Own s11 p [.ptr (some (q, 0)), .map (some lm), .map (some tm)] := F11.own
 have hpl : p ≠ lm := by rintro rfl; rw [a11] at hlm; cases hlm
 have hpt : p ≠ tm := by rintro rfl; rw [a11] at htm; cases htm
 have hcm : ∀ y ∈ [lm, tm], y ∉ Fc := by
  intro y hy hf
  rcases List.mem_cons.1 hy with rfl | hy
  ·exact hFt _ hf F6.no
  ·obtain rfl := List.mem_singleton.1 hy; exact hFt _ hf (F6.ext.none F8.no)
 have hc11 : CtxF Fc s11 q v ex := hcF.mut (L := []) e11.mut (by simp)
 have mnew : ∀ z ∈ [lm, tm], s.h z = none := by
  intro z hz
  rcases List.mem_cons.1 hz with rfl | hz
  ·exact e2.none F6.no
  ·obtain rfl := List.mem_singleton.1 hz; exact e2.none (F6.ext.none F8.no)
 have bad : ∀ {i : Nat} {j : Itm}, l[i]? = some j → ¬ Good v ex (l.take (i + 1)) → ¬ Good v ex l := by
  intro i j hj hb hg
  refine hb ⟨fun y hy => hg.1 y (List.mem_of_mem_take hy), ?_⟩
  rw [List.map_take]
  exact hg.2.sublist (List.take_sublist _ _)
 refine ⟨fun vs s' => vs = [] ∧ ∃ x, WFs s' ∧ Mut [lm, tm] s11 s' ∧ LiveAt s' lm x.live x.nl ∧ TombAt s' tm x.tomb x.nt ∧ OfP v ex l x ∧ Good v ex l, ?_, _, hl.lenB u_s_Item _, fun m vs s' => ∃ (i : Nat) (x : OSet), vs = [.int .i64 (i : Nat)] ∧ i ≤ l.length ∧ m = l.length - i ∧ WFs s' ∧ Mut [lm, tm] s11 s' ∧ LiveAt s' lm x.live x.nl ∧ TombAt s' tm x.tomb x.nt ∧ OfP v ex (l.take i) x ∧ Good v ex (l.take i), l.length,
  ⟨0, ⟨v, ex, fun _ => none, fun _ => false, 0, 0⟩, rfl, by omega, rfl, F11.wf, Mut.refl _ _, ⟨[], 0, MpAt.new hlm, fun d => rfl, rfl⟩, ⟨[], 0, MpAt.new htm, fun d => rfl, rfl⟩, OfP.zero v ex, Good.nil v ex⟩, ?_⟩
 ·rintro s13 ⟨_, x, w13, m13, hlv, htb, P, G⟩
  have a13 := a11.mut m13 (by simp [hpl, hpt])
  have hcnt := P.cnt
  refine ⟨fun vs s' => vs = [.bool false] ∧ s' = s13, ?_, some lm, by rw [a13.at.rd1]; rfl, _, hlv.lenB, bsplit.dec (fun hc => absurd hc (by omega)) (fun _ => ⟨_, hl.lenB u_s_Item _, by simp; omega, rfl⟩)⟩
  rintro b s16 ⟨hb, rfl⟩
  obtain rfl : b = false := by simpa using hb
  refine bsplit.no rfl ⟨Ext.wrL E11 mnew m13, .inr ⟨G, p, p :: lm :: tm :: Fc, x, rfl, P, ⟨by rw [P.v, P.ex]; exact ok, by rw [P.v, P.ex]; exact gap, by rw [P.ex]; exact hex, q, lm, tm, a13, by simp, ?_, by simp, by simp, hne, hlv, htb⟩, ?_, ?_⟩⟩
  ·rw [P.v, P.ex]
   exact (hc11.mut m13 hcm).sub fun y hy => by simp [hy]
  ·intro y hy
   simp only [List.mem_cons] at hy
   rcases hy with rfl | rfl | rfl | hy
   ·exact e2.none (F6.ext.none (F8.ext.none F11.no))
   ·exact mnew _ (by simp)
   ·exact mnew _ (by simp)
   ·exact hFn y hy
  ·intro y hy
   simp only [List.mem_cons] at hy
   rcases hy with rfl | rfl | rfl | hy
   ·rw [a13]; simp
   ·obtain ⟨es, c, h⟩ := hlv.obj; rw [h]; simp
   ·obtain ⟨es, c, h⟩ := htb.obj; rw [h]; simp
   ·exact there_mut (fun z hz hn => hFt z hz (e11.none hn)) m13 (fun z hz => hcm z hz) y hy
 ·rintro m n s25 ⟨i, x, hin, h6, rfl, w25, m25, hlv, htb, P, G⟩
  simp only [List.cons.injEq, AV.int.injEq, true_and, and_true] at hin
  subst hin
  have E25 : Ext s s25 := Ext.wrL E11 mnew m25
  refine bsplit.dec (fun hlt => ?_) (fun hge => ?_)
  rotate_left
  ·rw [List.take_of_length_le (by omega)] at P G
   exact ⟨rfl, x, w25, m25, hlv, htb, P, G⟩
  obtain ⟨j, hj⟩ := get_lt (l := l) (i := i) (by omega)
  obtain ⟨la, oa, k8, k9⟩ := hl.ix (by decide) itemC_len u_s_Item z_Item hj
  refine ⟨la, oa, k8 _, _, (k9 _ E25).2, ?_⟩
  refine NewSt w25 rfl rfl rfl fun l29 s31 F31 => ?_
  have o31 : Am.Own s31 l29 (itemC j) := F31.own
  have e31 := F31.ext
  have a31 := (a11.mut m25 (by simp [hpl, hpt])).ext e31
  have hlv31 := hlv.ext e31
  have htb31 := htb.ext e31
  have hf : alookup T Y_m_Dot_Key (.map (some lm)) (.agg (dotC j.dot)) true s31 = some (.tup [.agg (keyC ((x.live j.dot).getD ⟨[], []⟩)), .bool (x.live j.dot).isSome]) := by
   obtain ⟨es, c, hm, hg, _⟩ := hlv31
   have hf := hm.find mp_live j.dot true
   rw [hg] at hf
   refine Eq.trans (show _ = _ from hf) ?_
   cases x.live j.dot <;> rfl
  refine ⟨some lm, by rw [a31.at.rd1]; rfl, _, o31.at.rdc (by simp [itemC]), keyC ((x.live j.dot).getD ⟨[], []⟩), (x.live j.dot).isSome, hf, ?_⟩
  refine NewSt F31.wf rfl rfl rfl fun l36 s38 F38 => ?_
  have o38 := o31.ext F38.ext
  have step := List.take_add_one (l := l) (i := i)
  rw [hj, Option.toList_some] at step
  refine ⟨fun vs s' => ∃ b, vs = [.bool b] ∧ (b = true ↔ ¬ (j.may = true ∧ hasD v ex j.dot = true ∧ ((x.live j.dot).isSome || x.tomb j.dot) = false)) ∧ Ext s38 s' ∧ WFs s', ?_, ?_⟩
  rotate_left
  ·refine ⟨_, o38.at.rdc (by simp [itemC]), ?_⟩
   refine ACalls.use (May_ok j _) ?_
   rintro v52 s53 ⟨rfl, e53⟩ w53
   refine ⟨_, rfl, bsplit.mk (fun hb => ⟨_, rfl, ?_, e53, w53⟩) (fun hb => ?_)⟩
   ·simp only [Bool.not_eq_true'] at hb
    simp [hb]
   simp only [Bool.not_eq_false'] at hb
   refine ⟨_, (o38.ext e53).at.rdc (by simp [itemC]), ?_⟩
   have hc53 : CtxAt s53 q v ex := (hc11.mut m25 hcm).at.ext ((e31.trans F38.ext).trans e53)
   refine ACalls.use (ctx_Has_ok hc53 ok.r (by omega) j.dot) ?_
   rintro v56 s57 ⟨rfl, e57⟩ w57
   have E57 := (F38.ext.trans e53).trans e57
   refine ⟨_, rfl, bsplit.mk (fun hb2 => ⟨_, rfl, ?_, e53.trans e57, w57⟩) (fun hb2 => bsplit.mk (fun hb3 => ⟨_, rfl, ?_, e53.trans e57, w57⟩) (fun hb3 => ?_))⟩
   ·simp only [Bool.not_eq_true'] at hb2
    simp [hb2]
   ·simp [hb3]
   simp only [Bool.not_eq_false'] at hb2
   have hlook : alookup T Y_m_Dot_struct__is_bool__ (.map (some tm)) (.agg (dotC j.dot)) false s57 = some (.agg [.bool (x.tomb j.dot)]) := by
    obtain ⟨es, c, h1, h2, _⟩ := htb31.ext E57
    rw [show (AV.agg (dotC j.dot)) = dK j.dot from rfl, h1.find mp_tombs j.dot false, h2]
    cases x.tomb j.dot <;> rfl
   refine ⟨some tm, by rw [(a31.ext E57).at.rd1]; rfl, _, (o38.ext (e53.trans e57)).at.rdc (by simp [itemC]), _, hlook, _, rfl, _, rfl, ?_, e53.trans e57, w57⟩
   rw [hb, hb2, hb3]
   cases x.tomb j.dot <;> simp
  rintro b s41 ⟨b', hb', hbi, e41, w41⟩
  obtain rfl : b = b' := by simpa using hb'
  have E41 := (e31.trans F38.ext).trans e41
  have a41 := a31.ext (F38.ext.trans e41)
  have o41 := o38.ext e41
  refine bsplit.mk (fun hb => ⟨E25.trans E41, .inl ⟨bad hj ?_, rfl⟩⟩) (fun hb => ?_)
  ·rw [step, Good.snoc]
   rintro ⟨_, g1, g2, g3⟩
   refine hbi.1 hb ⟨g1, g2, ?_⟩
   cases hd : ((x.live j.dot).isSome || x.tomb j.dot) with
   | false => rfl
   | true => exact absurd ((P.dup G j.dot).1 hd) g3
  have hgood : j.may = true ∧ hasD v ex j.dot = true ∧ ((x.live j.dot).isSome || x.tomb j.dot) = false := by
   by_cases hg : j.may = true ∧ hasD v ex j.dot = true ∧ ((x.live j.dot).isSome || x.tomb j.dot) = false
   ·exact hg
   ·rw [hbi.2 hg] at hb; cases hb
  have G' : Good v ex (l.take i ++ [j]) := by
   rw [Good.snoc]
   refine ⟨G, hgood.1, hgood.2.1, fun hm => ?_⟩
   rw [(P.dup G j.dot).2 hm] at hgood
   cases hgood.2.2
  have P' := P.put G'
  have m41 : Mut [lm, tm] s11 s41 := m25.trans E41.mut
  have hl29 : l29 ∉ [lm, tm] := by
   intro hm
   rcases List.mem_cons.1 hm with rfl | hm
   ·obtain ⟨es, c, h⟩ := hlv.obj
    rw [F31.no] at h; cases h
   ·obtain rfl := List.mem_singleton.1 hm
    obtain ⟨es, c, h⟩ := htb.obj
    rw [F31.no] at h; cases h
  have hlv41 := hlv.ext E41
  have htb41 := htb.ext E41
  refine ⟨j.gone, by rw [o41.at.rd1]; rfl, bsplit.mk (fun hg => ?_) (fun hg => ?_)⟩
  ·have e : x.put j = { x with tomb := fun d => x.tomb d || decide (d = j.dot), nt := if x.tomb j.dot then x.nt else x.nt + 1 } := by unfold OSet.put; rw [if_pos hg]
   refine ⟨some tm, by rw [a41.at.rd1]; rfl, _, o41.at.rdc (by simp [itemC]), _, is_build, htb41.upd w41 j.dot fun s46 ht46 w46 m46 => ⟨l.length - (i + 1), by omega, i + 1, x.put j, by rw [wrap_i (by omega)]; rfl, by omega, rfl, w46, m41.trans (m46.mono (by simp)), ?_, ?_, by rw [step]; exact P', by rw [step]; exact G'⟩⟩
   ·rw [e]; exact hlv41.mut m46 (by simpa using hne)
   ·rw [e]; exact ht46
  ·have e : x.put j = { x with live := fun d => if d = j.dot then some j.key else x.live d, nl := if (x.live j.dot).isSome then x.nl else x.nl + 1 } := by unfold OSet.put; rw [if_neg (by rw [hg]; simp)]
   refine ⟨some lm, by rw [a41.at.rd1]; rfl, _, o41.at.rdc (by simp [itemC]), _, o41.at.rdc (by simp [itemC]), ?_⟩
   refine hlv41.upd w41 j.dot j.key fun s50 hl50 w50 m50 => ⟨l.length - (i + 1), by omega, i + 1, x.put j, by rw [wrap_i (by omega)]; rfl, by omega, rfl, w50, m41.trans (m50.mono (by simp)), ?_, ?_, by rw [step]; exact P', by rw [step]; exact G'⟩
   ·rw [e]; exact hl50
   ·rw [e]; exact htb41.mut m50 (by simpa using fun hh => hne hh.symm)
end Go.Proofs.YtoklmpkpeanloaaGreat
end

section
namespace Go.Proofs.YtoklmpkpeanloaaGreat
open Go.Am Go.Minster Go.Minster2
end Go.Proofs.YtoklmpkpeanloaaGreat
end

section
namespace Go.Proofs.YtoklmpkpeanloaaGreat.SI
open Go.Am Go.Minster Go.Minster2 Go.Minster.SI
theorem ab1 {y i : Nat} (h : i ≤ y) : abound1 y (.int .i64 (i : Nat)) = some i := by
 have : (0 : Int) ≤ (i : Int) ∧ (i : Int) ≤ ((y : Nat) : Int) := by omega
 simp only [abound1, if_pos this, Int.toNat_natCast]
theorem asl_from {a o n c i : Nat} {e : Bool} (h1 : i < n) (h2 : n ≤ c) : aslice T Y_s_Item (.slc (some (a, o)) n c e) (some (.int .i64 (i : Nat))) none none = some (.slc (some (a, o + i * 5)) (n - i) (c - i) e) := by
 have h3 : ¬ c = i := by omega
 cases e <;> simp [aslice, u_s_Item, z_Item, abounds, aopt, ahigh, ab1 (show i ≤ n by omega), h2, h3]
theorem asl_to {a o n c i : Nat} {e : Bool} (h1 : i ≤ c) (h0 : 0 < c) : aslice T Y_s_Item (.slc (some (a, o)) n c e) none (some (.int .i64 (i : Nat))) none = some (.slc (some (a, o)) i c e) := by
 have : ¬ c = 0 := by omega
 cases e <;> simp [aslice, u_s_Item, z_Item, abounds, aopt, ahigh, ab1 h1, this]
theorem clear_ok {s : AS} {lo n c i m : Nat} {e : Bool} {l : List Itm} {rest : List AV} {g : Nat} (hw : WFs s) (hobj : s.h lo = some (.cells (l.flatMap itemC ++ rest) g false)) (hi : i < l.length) (hn : n = l.length - i) (ho : m = i * 5) {K : AS → Prop}
  (hk : ∀ s', (∃ rest', s'.h lo = some (.cells ((l.take i).flatMap itemC ++ rest') g false)) → WFs s' → Mut [lo] s s' → K s') : StQ (aclear T Y_s_Item (.slc (some (lo, m)) n c e) s) K := by
 subst hn; subst ho
 have hne : ¬ l.length - i = 0 := by omega
 have hrl : (rep (l.length - i) [AV.int .i64 0, AV.int .u64 0, AV.str [], AV.str [], AV.bool false]).length = (l.length - i) * 5 := by simp [rep]
 have e1 : aclear T Y_s_Item (.slc (some (lo, i * 5)) (l.length - i) c e) s = awr s lo (i * 5) (rep (l.length - i) [AV.int .i64 0, AV.int .u64 0, AV.str [], AV.str [], AV.bool false]) := by
  simp only [aclear, u_s_Item, if_neg hne, zr_Item, Option.bind_some, acells_agg]
  rfl
 rw [e1]
 refine StQ.awr hw hobj (by rw [hrl, List.length_append, dots_len]; omega) fun s' P => hk s' ⟨rep (l.length - i) [AV.int .i64 0, AV.int .u64 0, AV.str [], AV.str [], AV.bool false] ++ ((l.drop i).flatMap itemC ++ rest).drop (rep (l.length - i) [AV.int .i64 0, AV.int .u64 0, AV.str [], AV.str [], AV.bool false]).length, ?_⟩ P.wf P.mut
 have hsp : l.flatMap itemC ++ rest = (l.take i).flatMap itemC ++ ((l.drop i).flatMap itemC ++ rest) := by
  rw [← List.append_assoc, ← List.flatMap_append, List.take_append_drop]
 rw [P.at, hsp]
 have hl : ((l.take i).flatMap itemC).length = i * 5 := by rw [dots_len, List.length_take]; omega
 rw [← hl, wrs_app _ _ _ (by rw [hrl, List.length_append, dots_len, List.length_drop]; omega), List.append_assoc]
theorem el_of {l : List Itm} {i : Nat} {x : Itm} (h : l[i]? = some x) : el l i = x := by
 have hi : i < l.length := by
  rcases Nat.lt_or_ge i l.length with h1 | h1
  ·exact h1
  ·rw [List.getElem?_eq_none h1] at h; cases h
 have := el_get hi
 rw [h] at this; exact (Option.some.inj this).symm
def Keeps (s0 s : AS) (v : AV) (l : List Itm) : Prop := ∀ s' L, Mut L s s' → (∀ z ∈ L, s0.h z ≠ none) → Sl itemC 5 s' v l
theorem Keeps.sl {s0 s : AS} {v : AV} {l : List Itm} (h : Keeps s0 s v l) : Sl itemC 5 s v l := h s [] (Mut.refl _ _) (by simp)
theorem ArrN.keep2 {s0 s s' : AS} {v : AV} {l : List Itm} {L : List Nat} (h : ArrN s0 s v l) (m : Mut L s s') (hL : ∀ z ∈ L, s0.h z ≠ none) : Sl itemC 5 s' v l := by
 obtain ⟨e, ⟨rfl, a, rfl⟩ | ⟨la, rfl, hA, hn⟩⟩ := h
 ·exact Sl.nil
 ·exact ArrN.dots (s0 := s'.less [la]) ⟨AS.less_ext _ _, .inr ⟨la, rfl, hA.mut m fun hm => hL la hm hn, by rw [AS.less_h, if_pos (by simp)]⟩⟩
section
variable {s0 s : AS} {a : AV} {l : List Itm} {g : FuncId} {cap : List AV} {P : Itm → Bool}
set_option maxRecDepth 100000 in
theorem DeleteFunc_okN (hN : ArrN s0 s a l) (hn : l.length ≤ 2 ^ 30) (hf : ∀ i s', Ext s0 s' → WFs s' → ACalls Tryz.prog g ([.agg (itemC i)] ++ cap) s' fun v s'' => v = .bool (P i) ∧ Ext s' s'') :
  ACalls Tryz.prog F_slices_DeleteFunc__s_Item_Item [a, .func g cap] s fun v s' => Ext s0 s' ∧ Keeps s0 s' v (l.filter fun i => !P i) := by
 refine q_slices_DeleteFunc__s_Item_Item _ _ _ _ ?_
 refine ACalls.use (IndexFunc_ok hN.dots (by omega) fun i s' e w => hf i s' (hN.1.trans e) w) ?_
 rintro v1 s2 ⟨e2, n, rfl, hres⟩ w2
 have E2 := hN.1.trans e2
 rcases hres with ⟨rfl, hany⟩ | ⟨k, rfl, hk, ⟨x0, hx0, hp0⟩, hbef⟩
 ·refine ⟨_, rfl, bsplit.yes rfl ⟨E2, ?_⟩⟩
  rw [List.filter_eq_self.2 fun i hi => by rw [List.any_eq_false] at hany; simpa using hany i hi]
  intro s'' L m hL
  exact hN.keep2 (e2.mut.trans m) hL
 obtain ⟨_, ⟨rfl, _⟩ | ⟨la, rfl, hA, hla⟩⟩ := hN
 ·simp at hk
 refine ⟨_, rfl, bsplit.no (by simp) ?_⟩
 have A2 := hA.ext e2
 refine ⟨fun vs s' => ∃ (i : Nat) (l' : List Itm), vs = [.int .i64 (i : Nat)] ∧ i < l.length ∧ WFs s' ∧ Arr s' (.slc (some (la, 0)) l.length l.length false) la l' [] ∧ l'.length = l.length ∧ l'.take i = (l.filter fun i => !P i) ∧ Mut [la] s2 s', ?_,
  fun m vs s' => ∃ (i j : Nat) (l' : List Itm), vs = [.int .i64 (i : Nat), .int .i64 (j : Nat)] ∧ i < j ∧ j ≤ l.length ∧ m = l.length - j ∧ WFs s' ∧ Arr s' (.slc (some (la, 0)) l.length l.length false) la l' [] ∧ l'.length = l.length ∧ l'.take i = ((l.take j).filter fun i => !P i) ∧ l'.drop j = l.drop j ∧ Mut [la] s2 s', l.length - (k + 1),
  ⟨k, k + 1, l, by rw [wrap_i (by omega)]; rfl, by omega, by omega, rfl, w2, A2, rfl, ?_, rfl, Mut.refl _ _⟩, ?_⟩
 ·rintro n5 s6 ⟨i, l', hin, hi, w6, a6, hl', ht, m6⟩
  simp only [List.cons.injEq, AV.int.injEq, true_and, and_true] at hin
  subst hin
  obtain ⟨⟨c, e, _⟩, gg, hobj⟩ := a6
  refine ⟨_, asl_from hi (Nat.le_refl _), clear_ok (i := i) w6 hobj (by omega) (by omega) (by omega) fun s8 hs8 w8 m8 => ⟨_, asl_to (by omega) (by omega), ?_, ?_⟩⟩
  ·exact Ext.wr E2 hla (m6.trans m8)
  ·obtain ⟨rest', h8⟩ := hs8
   rw [← ht]
   intro s'' L m hL
   have hlen : (l'.take i).length = i := by rw [List.length_take]; omega
   have h8' := m.1 _ _ (fun hm => hL la hm hla) h8
   have := SlAt.mk (s := s'') (la := la) (o := 0) (n := (l'.take i).length) (c := l.length) (e := false) (sz := 5) ⟨_, _, h8'⟩ (dots_len (l'.take i)) (by rw [List.drop_zero, ← dots_len (l'.take i), List.take_append_of_le_length (Nat.le_refl _), List.take_length]) (by omega)
   rw [hlen] at this
   show SlAt _ _ _ _ (l'.take i).length
   rw [hlen]; exact this
 ·have hh : l.take (k + 1) = l.take k ++ [x0] := by rw [List.take_add_one, hx0, Option.toList_some]
  rw [hh, List.filter_append, List.filter_eq_self.2 fun i hi => by
   obtain ⟨j, hj, hj2⟩ := List.mem_take_iff_getElem.1 hi
   rw [hbef j i (by omega) (by rw [List.getElem?_eq_getElem (by omega), hj2])]; rfl]
  simp [hp0]
 ·rintro m n13 n14 s15 ⟨i, j, l', hin, hij, hj, rfl, w15, a15, hl', ht, hd, m15⟩
  simp only [List.cons.injEq, AV.int.injEq, true_and, and_true] at hin
  obtain ⟨rfl, rfl⟩ := hin
  have hlen : alenB T Y_s_Item (.slc (some (la, 0)) l.length l.length false) s15 = some (.int .i64 (l.length : Nat)) := by simp [alenB, u_s_Item]
  refine ⟨_, hlen, bsplit.dec (fun hlt => ?_) (fun hge => ?_)⟩
  rotate_left
  ·rw [show l.take j = l from List.take_of_length_le (by omega)] at ht
   exact ⟨i, l', rfl, by omega, w15, a15, hl', ht, m15⟩
  obtain ⟨x, hx⟩ := get_lt (l := l) (i := j) (by omega)
  have hx' : l'[j]? = some x := by
   have h1 := congrArg (fun q => q[0]?) hd
   simp only [List.getElem?_drop, Nat.add_zero] at h1
   rw [h1, hx]
  have step := List.take_add_one (l := l) (i := j)
  rw [hx, Option.toList_some] at step
  have hrd := a15.rd (i := j) (by omega)
  rw [el_of hx'] at hrd
  refine ⟨_, _, a15.ix (by omega), _, hrd, NewSt w15 rfl rfl rfl fun l20 s22 F22 => ⟨_, F22.own.at.rdc (by simp [itemC]), ?_⟩⟩
  have E22 : Ext s0 s22 := (Ext.wr E2 hla m15).trans F22.ext
  refine ACalls.use (hf x s22 E22 F22.wf) ?_
  rintro v24 s25 ⟨rfl, e25⟩ w25
  have a25 := a15.ext (F22.ext.trans e25)
  have m25 : Mut [la] s2 s25 := m15.trans (F22.ext.trans e25).mut
  have hdrop : ∀ q : List Itm, q.drop j = l.drop j → q.drop (j + 1) = l.drop (j + 1) := by
   intro q hq
   have := congrArg (fun u => u.drop 1) hq
   simpa [List.drop_drop, Nat.add_comm] using this
  refine ⟨_, rfl, bsplit.mk (fun hb => ?_) (fun hb => ?_)⟩
  ·refine ⟨_, (F22.own.ext e25).at.rdc (by simp [itemC]), _, _, a25.ix (by omega), a25.wr w25 (by omega) x fun s30 a30 w30 m30 => ?_⟩
   refine ⟨l.length - (j + 1), by omega, i + 1, j + 1, l'.set i x, by rw [wrap_i (by omega), wrap_i (by omega)]; rfl, by omega, by omega, rfl, w30, a30, by rw [List.length_set]; exact hl', ?_, ?_, m25.trans m30⟩
   ·rw [step, List.filter_append, ← ht, List.take_add_one, List.getElem?_set, if_pos rfl, if_pos (by omega), Option.toList_some, List.take_set_of_le (Nat.le_refl _)]
    simp only [Bool.not_eq_true'] at hb
    simp [hb]
   ·rw [List.drop_set_of_lt (by omega)]; exact hdrop _ hd
  ·refine ⟨l.length - (j + 1), by omega, i, j + 1, l', by rw [wrap_i (by omega)]; rfl, by omega, by omega, rfl, w25, a25, hl', ?_, hdrop _ hd, m25⟩
   rw [step, List.filter_append, ← ht]
   simp only [Bool.not_eq_false'] at hb
   simp [hb]
end
end Go.Proofs.YtoklmpkpeanloaaGreat.SI
end

section
namespace Go.Proofs.YtoklmpkpeanloaaGreat
open Go.Am Go.Minster Go.Minster2
/-! ### buckets -/
section
variable {F G : List Nat} {s : AS} {p q : Nat} {x : OSet} {B : Nat}
end
/-! ### dests -/
section
variable {F G : List Nat} {s : AS} {p q : Nat} {x : OSet} {B : Nat}
end
end Go.Proofs.YtoklmpkpeanloaaGreat
end

section
namespace Go.Proofs.YtoklmpkpeanloaaGreat
open Go.Am Go.Minster Go.Minster2
end Go.Proofs.YtoklmpkpeanloaaGreat
end

section
namespace Go.Am
section
variable {T : TT} {t el : TypeId} {sz by_ : Nat} (ht : SlTy T t el sz by_)
include ht
theorem aappend_coreT {base : Option (Nat × Nat)} {len cap n : Nat} {ex : Bool} {x : AV} {new : List AV} {s : AS} {xt : TypeId} (hxt : T.und xt = some .string) (hlen : alen x = some n) (hsrc : asrc sz n s x = some new) (hnew : new.length = n * sz) (hb : len + n ≤ 2 ^ 30) :
  aappend T t xt (.slc base len cap ex) x s = if len + n ≤ cap then
    (match base with
     | none => some (.slc none (len + n) cap ex, s)
     | some (l, o) =>
      if new = [] then some (.slc base (len + n) cap ex, s)
      else (awr s l (o + len * sz) new).map fun s' => (.slc base (len + n) cap ex, s'))
   else
    (asrc sz len s (.slc base len cap ex)).bind fun old =>
     if ex then some (.slc (some (s.nl, 0)) (len + n) (len + n) false, s.new (.cells (old ++ new) sz false))
     else match base with
      | none => none
      | some (l, o) =>
       match s.h l with
       | some (.cells cs g false) =>
        if g = sz ∧ sz ≠ 0 ∧ o + cap * sz = cs.length then
         some (.slc (some (s.nl, 0)) (len + n) (len + n) false, (s.kill l).new (.cells (old ++ new) sz false))
        else none
       | _ => none := by
 obtain ⟨z, zc, hz, hzc, hl⟩ := ht.zr
 obtain ⟨hs1, hs2⟩ := ht.small
 have hnint : (match TypeDesc.string with | .int _ => true | _ => false) = false := rfl
 have hnn : ¬ (zc.length ≠ sz ∨ new.length ≠ n * sz ∨ 2 ^ 40 < len + n ∨ 2 * ((len + n + 256) * by_) > 2 ^ 48) := by
  have : (len + n + 256) * by_ ≤ (2 ^ 30 + 256) * 65536 := Nat.mul_le_mul (by omega) hs2
  rw [hl, hnew]; omega
 simp only [aappend, ht.u, hxt, hnint, Bool.false_eq_true, if_false, ht.z, ht.b, hz, hzc, Option.bind_some, hlen, hsrc]
 rw [if_neg hnn]
 rfl
theorem Gro.appendT {α : Type} {f : α → List AV} (hf : ∀ x, (f x).length = sz) (hone : ∀ x, (f x).all AV.one = true) {s : AS} (hw : WFs s) {v x : AV} {l xs : List α} (h : Gro f sz s v l) (hlen : alen x = some xs.length) (hsrc : asrc sz xs.length s x = some (xs.flatMap f)) (hb : l.length + xs.length ≤ 2 ^ 30) {xt : TypeId} (hxt : T.und xt = some .string) :
  ∃ v' s', aappend T t xt v x s = some (v', s') ∧ Gro f sz s' v' (l ++ xs) ∧ Mut (labOf v) s s' ∧ WFs s' ∧ (∀ la ∈ labOf v', la ∈ labOf v ∨ s.h la = none) := by
 have hp := ht.pos
 have hfl := flat_len hf xs
 have hst := hw.1
 have h0iff : xs.flatMap f = [] ↔ xs = [] := by
  rw [← List.length_eq_zero_iff, hfl, ← List.length_eq_zero_iff]
  constructor
  ·intro h; rcases Nat.mul_eq_zero.1 h with h | h <;> omega
  ·intro h; rw [h, Nat.zero_mul]
 rcases h with ⟨rfl, a, rfl⟩ | ⟨la, rfl, hla⟩
 ·rw [aappend_coreT ht hxt hlen hsrc hfl (by simpa using hb)]
  by_cases h0 : xs = []
  ·subst h0
   refine ⟨.slc a 0 0 true, s, ?_, by simpa using Gro.nil, Mut.refl _ _, hw, fun la h => .inl h⟩
   rw [if_pos (by simp)]
   rcases a with _ | ⟨l, o⟩ <;> simp
  ·have hpos : 0 < xs.length := List.length_pos_iff.2 h0
   have hF := hw.new (o := .cells (xs.flatMap f) sz false) rfl
   refine ⟨.slc (some (s.nl, 0)) xs.length xs.length false, s.new (.cells (xs.flatMap f) sz false), ?_, .inr ⟨s.nl, by simp, by simpa using hF.at⟩, hF.ext.mut, hF.wf, fun la h => ?_⟩
   ·rw [if_neg (by omega)]
    have : asrc sz 0 s (.slc a 0 0 true) = some [] := by rcases a with _ | ⟨l, o⟩ <;> rfl
    rw [this]
    simp
   ·simp only [labOf, List.mem_singleton] at h
    subst h; exact .inr hw.none
 ·have hfl2 := flat_len hf l
  have hold : asrc sz l.length s (.slc (some (la, 0)) l.length l.length false) = some (l.flatMap f) := by
   by_cases hl0 : l.length = 0
   ·rw [List.length_eq_zero_iff.1 hl0]; simp [asrc]
   ·simp only [asrc, if_neg hl0]
    rw [rdc_of hla (by rw [hfl2]; omega), List.drop_zero, List.take_of_length_le (by rw [hfl2]; exact Nat.le_refl _)]
  rw [aappend_coreT ht hxt hlen hsrc hfl hb]
  by_cases h0 : xs = []
  ·subst h0
   refine ⟨.slc (some (la, 0)) l.length l.length false, s, ?_, by rw [List.append_nil]; exact Or.inr ⟨la, rfl, hla⟩, Mut.refl _ _, hw, fun la h => .inl h⟩
   rw [if_pos (by simp)]
   simp
  ·have hpos : 0 < xs.length := List.length_pos_iff.2 h0
   have hk : WFs (s.kill la) := by
    refine ⟨hst, fun k => ?_⟩
    rw [AS.kill_h, AS.kill_nl, AS.kill_st]
    split
    ·rfl
    ·exact hw.2 k
   have hF := hk.new (o := .cells (l.flatMap f ++ xs.flatMap f) sz false) rfl
   refine ⟨.slc (some (s.nl, 0)) (l.length + xs.length) (l.length + xs.length) false, (s.kill la).new (.cells (l.flatMap f ++ xs.flatMap f) sz false), ?_, .inr ⟨s.nl, by simp, by rw [List.flatMap_append]; exact hF.at⟩, ⟨fun y o hy ho => hF.ext.1 y o ?_, hF.ext.2⟩, hF.wf, fun la h => ?_⟩
   ·rw [if_neg (by omega), hold]
    simp only [Option.bind_some, hla, Nat.zero_add, hfl2, Bool.false_eq_true, if_false]
    rw [if_pos ⟨trivial, by omega, trivial⟩]
   ·rw [AS.kill_h, if_neg (by simpa [labOf] using hy)]; exact ho
   ·simp only [labOf, List.mem_singleton] at h
    subst h; exact .inr hw.none
end
end Go.Am
namespace Go.Proofs.YtoklmpkpeanloaaGreat
open Go.Am Go.Minster Go.Minster2
def byC (n : Int) : List AV := [.int .u8 n]
theorem byC_len (n : Int) : (byC n).length = 1 := rfl
theorem byC_one (n : Int) : (byC n).all AV.one = true := rfl
theorem sl_s_uint8 : SlTy T Y_s_uint8 Y_uint8 1 1 := ⟨u_s_uint8, z_uint8, b_uint8, ⟨_, _, zr_uint8, rfl, rfl⟩, by decide, by decide⟩
theorem by_len (l : List Int) : (l.flatMap byC).length = l.length * 1 := flat_len byC_len l
abbrev Byts (s : AS) (v : AV) (l : List Int) : Prop := Sl byC 1 s v l
abbrev BytN (s0 s : AS) (v : AV) (l : List Int) : Prop := GroN byC 1 [] s0 s v l
def BRoom (s : AS) (v : AV) (n : Nat) (l : List Int) (lo : Option Nat) : Prop :=
 match lo with
 | none => v = .slc none 0 0 true ∧ n = 0 ∧ l = []
 | some lo => v = .slc (some (lo, 0)) l.length n false ∧ l.length ≤ n ∧ ∃ rest, s.h lo = some (.cells (l.flatMap byC ++ rest) 1 false) ∧ rest.length = (n - l.length) * 1
theorem BRoom.app {s : AS} {v x : AV} {n : Nat} {l xs : List Int} {lo : Nat} (h : BRoom s v n l (some lo)) (hw : WFs s) (hx : Sl byC 1 s x xs) (hn : l.length + xs.length ≤ n) (hb : n ≤ 2 ^ 30)
  {K : AV → AS → Prop} (hk : ∀ v' s', BRoom s' v' n (l ++ xs) (some lo) → WFs s' → Mut [lo] s s' → K v' s') : Bd2 (aappend T Y_s_uint8 Y_s_uint8 v x s) K := by
 obtain ⟨rfl, hle, rest, hobj, hr⟩ := h
 obtain ⟨hsrc, hlen⟩ := SlAt.src sl_s_uint8 hx
 have e := aappend_core sl_s_uint8 (base := some (lo, 0)) (len := l.length) (cap := n) (ex := false) u_s_uint8 hlen hsrc (by rw [by_len]) (by omega)
 rw [if_pos hn] at e
 by_cases h0 : xs.flatMap byC = []
 ·have hxs : xs = [] := by
   have := congrArg List.length h0
   rw [by_len] at this
   exact List.length_eq_zero_iff.1 (by simp only [List.length_nil] at this; omega)
  subst hxs
  simp only [List.flatMap_nil, if_true] at e
  exact ⟨_, _, e, hk _ _ ⟨by simp, by simpa using hle, rest, by simpa using hobj, by simpa using hr⟩ hw (Mut.refl _ _)⟩
 ·simp only [if_neg h0] at e
  have hP := hw.put hobj (o := .cells (wrs (l.flatMap byC ++ rest) (0 + l.length * 1) (xs.flatMap byC)) 1 false) rfl
  have ea : awr s lo (0 + l.length * 1) (xs.flatMap byC) = some (s.put lo (.cells (wrs (l.flatMap byC ++ rest) (0 + l.length * 1) (xs.flatMap byC)) 1 false)) := by
   simp only [awr, hobj]
   rw [if_pos (by rw [List.length_append, by_len, by_len, hr]; omega)]
  rw [ea] at e
  refine ⟨_, _, e, hk _ _ ⟨by simp, by simpa using hn, rest.drop (xs.flatMap byC).length, ?_, ?_⟩ hP.wf hP.mut⟩
  ·rw [hP.at, Nat.zero_add, ← by_len l, wrs_app _ _ _ (by rw [by_len, hr]; omega), List.flatMap_append]
  ·rw [List.length_drop, by_len, hr, List.length_append]; omega
theorem BRoom.app' {s : AS} {v x : AV} {n : Nat} {l xs : List Int} {lo : Option Nat} (h : BRoom s v n l lo) (hw : WFs s) (hx : Sl byC 1 s x xs) (hn : l.length + xs.length ≤ n) (hb : n ≤ 2 ^ 30)
  {K : AV → AS → Prop} (hk : ∀ v' s', BRoom s' v' n (l ++ xs) lo → WFs s' → Mut lo.toList s s' → K v' s') : Bd2 (aappend T Y_s_uint8 Y_s_uint8 v x s) K := by
 cases lo with
 | some lo => exact BRoom.app h hw hx hn hb hk
 | none =>
  obtain ⟨rfl, rfl, rfl⟩ := h
  obtain rfl : xs = [] := by simpa using hn
  obtain ⟨hsrc, hlen⟩ := SlAt.src sl_s_uint8 hx
  have e := aappend_core sl_s_uint8 (base := none) (len := 0) (cap := 0) (ex := true) u_s_uint8 hlen hsrc (by simp) (by simp)
  simp only [List.length_nil, Nat.le_refl, if_true] at e
  exact ⟨_, _, e, hk _ _ ⟨rfl, rfl, rfl⟩ hw (Mut.refl _ _)⟩
theorem blit_append {s : AS} (hw : WFs s) {l0 : Nat} {i : Int} (h0 : At s l0 (byC i)) {v : AV} {l : List Int} (hl : Byts s v l) (hz : l ≠ []) (hb : l.length ≤ 2 ^ 29) {K : AV → AS → Prop} (hK : ∀ v' s', BytN s s' v' (i :: l) → WFs s' → K v' s') : Bd2 (aappend T Y_s_uint8 Y_s_uint8 (.slc (some (l0, 0)) 1 1 true) v s) K := by
 obtain ⟨hsrc, hlen⟩ := SlAt.src sl_s_uint8 hl
 have e := aappend_core sl_s_uint8 (base := some (l0, 0)) (len := 1) (cap := 1) (ex := true) u_s_uint8 hlen hsrc (by rw [flat_len byC_len]) (by omega)
 have h1 : Sl byC 1 s (.slc (some (l0, 0)) 1 1 true) [i] := SlAt.mk h0 (by simp [byC]) (by simp [byC])
 have hpos : 0 < l.length := List.length_pos_iff.2 hz
 rw [if_neg (by omega)] at e
 have hs1 := (SlAt.src sl_s_uint8 h1).1
 simp only [List.length_cons, List.length_nil, Nat.zero_add] at hs1
 rw [hs1] at e
 simp only [Option.bind_some, if_true] at e
 rw [show 1 + l.length = (i :: l).length by simp; omega] at e
 have Fr := hw.new (o := .cells ([i].flatMap byC ++ l.flatMap byC) 1 false) rfl
 refine ⟨_, _, e, hK _ _ ⟨.inr ⟨s.nl, rfl, ?_⟩, Fr.ext.mut, fun la hla => ?_⟩ Fr.wf⟩
 ·have := Fr.at
  simpa using this
 ·obtain rfl : la = s.nl := by simpa [labOf] using hla
  exact hw.none
def strB (t : List UInt8) : List Int := t.map fun c => (c.toNat : Int)
theorem strB_len (t : List UInt8) : (strB t).length = t.length := by simp [strB]
theorem strB_flat (t : List UInt8) : (strB t).flatMap byC = t.map fun c => AV.int .u8 c.toNat := by
 induction t with
 | nil => rfl
 | cons a t ih => simp only [strB, List.map_cons, List.flatMap_cons, byC] at ih ⊢; rw [ih]; rfl
theorem str_append {M : List Nat} {s0 s : AS} (hw : WFs s) {v : AV} {l : List Int} (h : GroN byC 1 M s0 s v l) (hM : ∀ x ∈ M, s.h x ≠ none) (t : List UInt8) (hb : l.length + t.length ≤ 2 ^ 30) {K : AV → AS → Prop} (hK : ∀ v' s', GroN byC 1 M s0 s' v' (l ++ strB t) → WFs s' → Mut (labOf v) s s' → K v' s') : Bd2 (aappend T Y_s_uint8 Y_string v (.str t) s) K := by
 obtain ⟨v', s', h1, h2, h3, h4, h5⟩ := Gro.appendT sl_s_uint8 byC_len byC_one hw h.gro (x := .str t) (xs := strB t) (by simp [alen, strB_len]) (by rw [strB_flat, strB_len]; simp [asrc]) (by rw [strB_len]; exact hb) u_string
 refine ⟨v', s', h1, hK v' s' ⟨h2, ⟨fun y o hyM ho => h3.1 y o (fun hm => ?_) (h.chg.1 y o hyM ho), Nat.le_trans h.chg.2 h3.2⟩, fun la hla => ?_⟩ h4 h3⟩
 ·rw [h.new y hm] at ho; cases ho
 ·rcases h5 la hla with h6 | h6
  ·exact h.new la h6
  ·exact h.chg.fresh hM h6
def toB (l : List Int) : List UInt8 := l.map fun n => UInt8.ofNat n.toNat
theorem abytes_flat (l : List Int) : abytes (l.flatMap byC) = some (toB l) := by
 induction l with
 | nil => rfl
 | cons a l ih =>
  simp only [List.flatMap_cons, byC, List.cons_append, List.nil_append, abytes, ih, toB, List.map_cons, Option.map_some]
theorem conv_str {s : AS} {v : AV} {l : List Int} (h : Byts s v l) (hz : l ≠ []) : (aconvert T Y_s_uint8 Y_string v s).map (·.1) = some (.str (toB l)) := by
 have hp : 0 < l.length := List.length_pos_iff.2 hz
 rcases h with ⟨rfl, h2, h3⟩ | ⟨a, c, e, rfl, ⟨h1, h2⟩, h3⟩
 ·omega
 ·rcases h3 with h3 | ⟨la, o, C, rfl, hC, h3⟩
  ·omega
  ·have hn : o + l.length ≤ C.length := by
    have := congrArg List.length h3
    rw [List.length_take, List.length_drop, h1] at this
    omega
   have hr : rdc s la o l.length = some (l.flatMap byC) := by
    rw [hC.rdc hn, ← h3, Nat.mul_one]
   have hne : ¬ l.length = 0 := by omega
   simp [aconvert, u_s_uint8, u_string, u_uint8, hr, abytes_flat, hz]
theorem toB_inj : ∀ {l l' : List Int}, (∀ n ∈ l, 0 ≤ n ∧ n < 256) → (∀ n ∈ l', 0 ≤ n ∧ n < 256) → toB l = toB l' → l = l'
 | [], [], _, _, _ => rfl
 | [], _ :: _, _, _, h => by simp [toB] at h
 | _ :: _, [], _, _, h => by simp [toB] at h
 | a :: l, b :: l', h1, h2, h => by
  simp only [toB, List.map_cons, List.cons.injEq] at h
  have ha := h1 a (by simp)
  have hb := h2 b (by simp)
  have e : a.toNat = b.toNat := by
   have := congrArg UInt8.toNat h.1
   rw [UInt8.toNat_ofNat_of_lt' (by have : UInt8.size = 256 := rfl; omega), UInt8.toNat_ofNat_of_lt' (by have : UInt8.size = 256 := rfl; omega)] at this
   exact this
  rw [show a = b by omega, toB_inj (fun n hn => h1 n (by simp [hn])) (fun n hn => h2 n (by simp [hn])) h.2]
/-! ### numbers -/
def byteAt (n : Int) (sh : Nat) : Int := IntKind.wrap .u8 (Int.fdiv n (2 ^ min sh (IntKind.bits .u64)))
def bes (n : Int) (k : Nat) : List Int := (List.range k).map fun i => byteAt n (8 * (k - 1 - i))
theorem bes_len (n : Int) (k : Nat) : (bes n k).length = k := by simp [bes]
theorem absl_byte (n : Int) : absl T Y_s_uint8 1 [(0, .int .u8 n)] = some [.int .u8 n] := absl_one sl_s_uint8 rfl rfl
theorem byte_append {M : List Nat} {s0 s : AS} (hw : WFs s) {v : AV} {l : List Int} (h : GroN byC 1 M s0 s v l) (hM : ∀ x ∈ M, s.h x ≠ none) (n : Int) (hb : l.length + 1 ≤ 2 ^ 30) {K : AV → AS → Prop} (hK : ∀ v' s', GroN byC 1 M s0 s' v' (l ++ [n]) → WFs s' → Mut (labOf v) s s' → K v' s') : RdL (absl T Y_s_uint8 1 [(0, .int .u8 n)]) fun g => NewQ (.cells g 0 false) s fun la s1 => Bd2 (aappend T Y_s_uint8 Y_s_uint8 v (.slc (some (la, 0)) 1 1 true) s1) K :=
 GroN.append1s (f := fun n : Int => AV.int .u8 n) sl_s_uint8 rfl (fun _ => rfl) hw h hM n hb hK
theorem byts_append {M : List Nat} {s0 s : AS} (hw : WFs s) {v x : AV} {l xs : List Int} (h : GroN byC 1 M s0 s v l) (hM : ∀ x ∈ M, s.h x ≠ none) (hx : Byts s x xs) (hb : l.length + xs.length ≤ 2 ^ 30) {K : AV → AS → Prop} (hK : ∀ v' s', GroN byC 1 M s0 s' v' (l ++ xs) → WFs s' → Mut (labOf v) s s' → K v' s') : Bd2 (aappend T Y_s_uint8 Y_s_uint8 v x s) K :=
 GroN.appendS sl_s_uint8 byC_len byC_one hw h hM hx hb u_s_uint8 hK
theorem Put_ok (n : Int) (k : Nat) (hk : 1 ≤ k ∧ k ≤ 8) (hn : k < 8 → Int.fdiv n (2 ^ min (8 * k) (IntKind.bits .u64)) = 0) (s : AS) :
  ACalls Tryz.prog F_wire_Put [.int .u64 n, .int .i64 (k : Nat)] s fun r s' => ∃ v, r = .tup [v, .int .i64 0] ∧ BytN s s' v (bes n k) := by
 refine ACalls.pre fun hw => q_wire_Put _ _ _ _ ⟨fun vs s' => vs = [.bool false] ∧ s' = s, ?_, bsplit.dec (fun h => absurd h (by omega)) (fun _ => bsplit.dec (fun h => absurd h (by omega)) (fun _ => bsplit.dec (fun h => ⟨?_, ?_, rfl⟩) (fun _ => ⟨rfl, rfl⟩)))⟩
 ·rintro b s3 ⟨hb, rfl⟩
  obtain rfl : b = false := by simpa using hb
  refine bsplit.no rfl ⟨fun vs s' => ∃ v, vs = [v] ∧ BytN s3 s' v (bes n k), ?_, fun m vs s' => ∃ (i : Nat) (v : AV), vs = [v, .int .i64 (i : Nat)] ∧ i ≤ k ∧ m = k - i ∧ WFs s' ∧ BytN s3 s' v ((List.range i).map fun j => byteAt n (8 * (k - 1 - j))), k, ⟨0, _, rfl, by omega, rfl, hw, by simpa using GroN.nil⟩, ?_⟩
  ·rintro v5 s6 ⟨v, hv, g⟩
   obtain rfl : v5 = v := by simpa using hv
   exact ⟨_, rfl, g⟩
  ·rintro m v10 n11 s12 ⟨i, v', hin, hi, rfl, w12, g12⟩
   simp only [List.cons.injEq, AV.int.injEq, true_and, and_true] at hin
   obtain ⟨rfl, rfl⟩ := hin
   refine bsplit.dec (fun hlt => ?_) (fun hge => ?_)
   ·have e1 : IntKind.wrap .i64 (8 * (IntKind.wrap .i64 ((IntKind.wrap .i64 ((k : Int) - 1)) - (i : Int)))) = ((8 * (k - 1 - i) : Nat) : Int) := by
     rw [wrap_i (n := (k : Int) - 1) (by omega), wrap_i (n := (k : Int) - 1 - i) (by omega), wrap_i (by omega)]; omega
    rw [e1]
    refine ⟨by omega, ?_⟩
    rw [Int.toNat_natCast]
    refine byte_append w12 g12 (by simp) (byteAt n (8 * (k - 1 - i))) (by simp; omega) fun v' s' g' w' _ => ?_
    refine ⟨k - (i + 1), by omega, i + 1, v', by rw [wrap_i (by omega)]; rfl, by omega, rfl, w', ?_⟩
    rw [List.range_succ, List.map_append]
    exact g'
   ·obtain rfl : i = k := by omega
    exact ⟨v10, rfl, g12⟩
 ·rw [wrap_i (by omega)]; omega
 ·rw [show IntKind.wrap .i64 (8 * (k : Int)) = ((8 * k : Nat) : Int) by rw [wrap_i (by omega)]; omega, Int.toNat_natCast, hn (by omega)]
  rfl
theorem number_ok (n : Int) (k : Nat) (hk : 1 ≤ k ∧ k ≤ 8) (s : AS) : ACalls Tryz.prog F_law19inumber [.int .u64 n, .int .i64 (k : Nat)] s fun v s' => BytN s s' v (bes n k) := by
 refine ACalls.pre fun hw => q_law19inumber _ _ _ _ ⟨fun m vs s' => ∃ (i : Nat) (v : AV), vs = [v, .int .i64 ((k : Int) - 1 - i)] ∧ i ≤ k ∧ m = k - i ∧ WFs s' ∧ BytN s s' v ((List.range i).map fun j => byteAt n (8 * (k - 1 - j))), k, ⟨0, .slc none 0 0 true, by rw [wrap_i (by omega)]; simp, by omega, rfl, hw, GroN.nil⟩, ?_⟩
 rintro m v4 n5 s6 ⟨i, v', hin, hi, rfl, w6, g6⟩
 simp only [List.cons.injEq, AV.int.injEq, true_and, and_true] at hin
 obtain ⟨rfl, rfl⟩ := hin
 refine bsplit.dec (fun hge => ?_) (fun hlt => ?_)
 ·have e1 : IntKind.wrap .u64 (8 * (IntKind.wrap .u64 ((k : Int) - 1 - i))) = ((8 * (k - 1 - i) : Nat) : Int) := by
   rw [wrap_u (n := (k : Int) - 1 - i) (by omega), wrap_u (by omega)]; omega
  rw [e1]
  refine ⟨by omega, ?_⟩
  rw [Int.toNat_natCast]
  refine byte_append w6 g6 (by simp) (byteAt n (8 * (k - 1 - i))) (by simp; omega) fun v' s' g' w' _ => ?_
  refine ⟨k - (i + 1), by omega, i + 1, v', ?_, by omega, rfl, w', ?_⟩
  ·by_cases h : i + 1 ≤ k - 1
   ·rw [wrap_i (by omega)]; congr 3; omega
   ·have : (k : Int) - 1 - i = 0 := by omega
    rw [this, show IntKind.wrap .i64 (0 - 1) = -1 from rfl]; congr 3; omega
  ·rw [List.range_succ, List.map_append]
   exact g'
 ·obtain rfl : i = k := by omega
  exact g6
/-! ### dots, texts -/
def dotB (d : Dot) : List Int := IntKind.wrap .u8 d.r :: bes d.c 8
def textB (t : List UInt8) : List Int := bes (t.length : Nat) 2 ++ strB t
theorem dotB_len (d : Dot) : (dotB d).length = 9 := by simp [dotB, bes_len]
theorem textB_len (t : List UInt8) : (textB t).length = 2 + t.length := by simp [textB, bes_len, strB_len]
theorem bes_ne (n : Int) {k : Nat} (hk : 1 ≤ k) : bes n k ≠ [] := fun h => by have := congrArg List.length h; rw [bes_len] at this; simp at this; omega
theorem wireDot_ok (d : Dot) (hd : 0 ≤ d.r ∧ d.r ≤ 255) (s : AS) : ACalls Tryz.prog F_wire_Dot [.agg (dotC d)] s fun r s' => ∃ v, r = .tup [v, .int .i64 0] ∧ BytN s s' v (dotB d) := by
 refine ACalls.pre fun hw => q_wire_Dot _ _ _ ⟨rfl, NewQ.intro hw rfl fun l1 s2 F2 => ?_⟩
 have c2 := F2.own.at
 refine ⟨fun vs s' => vs = [.bool false] ∧ s' = s2, ?_, d.r, by rw [c2.rd1]; rfl, bsplit.dec (fun h => absurd h (by omega)) (fun _ => ⟨d.r, by rw [c2.rd1]; rfl, by simp; omega, rfl⟩)⟩
 rintro b s5 ⟨hb, rfl⟩
 obtain rfl : b = false := by simpa using hb
 refine bsplit.no rfl ⟨d.c, by rw [c2.rd1]; rfl, ?_⟩
 refine ACalls.use (Put_ok d.c 8 (by omega) (by omega) s5) ?_
 rintro r s8 ⟨v9, rfl, g8⟩ w8
 have e8 := g8.chg.ext
 refine ⟨_, _, rfl, d.r, by rw [(c2.ext e8).rd1]; rfl, _, absl_byte _, NewQ.intro w8 rfl fun l13 s14 F14 => ?_⟩
 refine blit_append F14.wf F14.own.at ((g8.sl byC_len).ext F14.ext) (bes_ne _ (by omega)) (by rw [bes_len]; omega) fun v' s' g' w' => ⟨v', rfl, ?_⟩
 exact ⟨g'.gro, (F2.ext.trans (e8.trans F14.ext)).mut.trans g'.chg, fun la hla => F2.ext.none (e8.none (F14.ext.none (g'.new la hla)))⟩
theorem lawDot_ok (d : Dot) (s : AS) : ACalls Tryz.prog F_law19idot [.agg (dotC d)] s fun v s' => BytN s s' v (dotB d) := by
 refine ACalls.pre fun hw => q_law19idot _ _ _ ⟨rfl, NewQ.intro hw rfl fun l1 s2 F2 => ?_⟩
 have c2 := F2.own.at
 refine ⟨fun z _ v s' => (z = 3 → ∃ la, v = .slc (some (la, 0)) 1 1 true ∧ At s' la (byC (IntKind.wrap .u8 d.r))) ∧ (z = 6 → Byts s' v (bes d.c 8)), fun z _ v => z = 3 → ∃ la, v = .slc (some (la, 0)) 1 1 true, ?_, d.r, by rw [c2.rd1]; rfl, fun s4 e4 w4 _ => ⟨_, absl_byte _, NewQ.intro w4 rfl fun l6 s7 F7 => ⟨F7.ext, ⟨fun _ => ⟨l6, rfl, F7.own.at⟩, by simp⟩, fun _ => ⟨l6, rfl⟩⟩⟩, ⟨.slc (some (0, 0)) 1 1 true, fun _ => ⟨0, rfl⟩⟩, fun v8 hv8 => ⟨d.c, by rw [c2.rd1]; rfl, fun s10 e10 w10 _ => ?_, ⟨.undef, by simp⟩, fun v13 _ s14 e14 w14 hS => ?_⟩⟩
 ·rintro z ks v s s' e ⟨h1, h2⟩
  refine ⟨fun hz => ?_, fun hz => (h2 hz).ext e⟩
  obtain ⟨la, g1, g2⟩ := h1 hz
  exact ⟨la, g1, g2.ext e⟩
 ·refine (number_ok d.c 8 (by omega) s10).mono ?_
  intro v s12 g
  exact ⟨g.chg.ext, ⟨by simp, fun _ => g.sl byC_len⟩, by simp⟩
 ·obtain ⟨la, rfl, ha⟩ := hS.1.1 rfl
  have hb := hS.2.1.2 rfl
  refine blit_append w14 ha hb (bes_ne _ (by omega)) (by rw [bes_len]; omega) fun v' s' g' w' => ?_
  exact ⟨g'.gro, (F2.ext.trans e14).mut.trans g'.chg, fun la hla => F2.ext.none (e14.none (g'.new la hla))⟩
theorem lawText_ok (t : List UInt8) (hn : t.length ≤ 2 ^ 20) (s : AS) : ACalls Tryz.prog F_law19itext [.str t] s fun v s' => BytN s s' v (textB t) := by
 refine ACalls.pre fun hw => q_law19itext _ _ _ ⟨_, alen_str t s, ?_⟩
 dsimp only
 rw [wrap_u (by omega)]
 refine ACalls.use (number_ok _ 2 (by omega) s) ?_
 rintro v2 s3 g3 w3
 exact str_append w3 g3 (by simp) t (by rw [bes_len]; omega) fun v' s' g' w' _ => g'
theorem small_shift {n : Nat} (h : n < 2 ^ 16) : Int.fdiv (n : Int) (2 ^ min (8 * 2) (IntKind.bits .u64)) = 0 := by
 rw [show min (8 * 2) (IntKind.bits .u64) = 16 from rfl]
 rw [Int.fdiv_eq_ediv_of_nonneg _ (by decide)]
 omega
theorem Blob_ok {s : AS} {v : AV} {l : List Int} (h : Byts s v l) (hn : l.length ≤ 65535) : ACalls Tryz.prog F_wire_Blob [v] s fun r s' => ∃ v, r = .tup [v, .int .i64 0] ∧ BytN s s' v (bes (l.length : Nat) 2 ++ l) := by
 refine ACalls.pre fun hw => q_wire_Blob _ _ _ ⟨_, h.lenB u_s_uint8 _, bsplit.dec (fun hh => absurd hh (by omega)) (fun _ => ⟨_, h.lenB u_s_uint8 _, ?_⟩)⟩
 dsimp only
 rw [wrap_u (by omega)]
 refine ACalls.use (Put_ok _ 2 (by omega) (fun _ => small_shift (by omega)) s) ?_
 rintro r s4 ⟨v5, rfl, g4⟩ w4
 refine ⟨_, _, rfl, ?_⟩
 exact byts_append w4 g4 (by simp) (h.ext g4.chg.ext) (by rw [bes_len]; omega) fun v' s' g' w' _ => ⟨v', rfl, g'⟩
end Go.Proofs.YtoklmpkpeanloaaGreat
end
