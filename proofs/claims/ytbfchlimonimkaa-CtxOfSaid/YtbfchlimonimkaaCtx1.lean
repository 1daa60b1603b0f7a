/-
  Contracts: dots.
-/
import Derived.Test.YtbfchlimonimkaaPt
import Derived.Test.YtbfchlimonimkaaAmS
import Derived.Test.YtbfchlimonimkaaPlain1
set_option linter.unusedSimpArgs false
set_option linter.unusedVariables false
namespace Go.Proofs.Ytbfchlimonimkaa
open Go.Am Go.Minster

def dotC (d : Dot) : List AV := [.int .i64 d.r, .int .u64 d.c]
theorem dotC_len (d : Dot) : (dotC d).length = 2 := rfl
theorem dotC_one (d : Dot) : (dotC d).all AV.one = true := rfl

theorem cmp_isNaN__int_ok (a : Int) (s : AS) : ACalls Try.prog F_cmp_isNaN__int [.int .i64 a] s fun v s' => v = .bool false ∧ s' = s := by
  refine q_cmp_isNaN__int _ _ _ ?_
  simp [Q_cmp_isNaN__int]
theorem cmp_isNaN__uint64_ok (a : Int) (s : AS) : ACalls Try.prog F_cmp_isNaN__uint64 [.int .u64 a] s fun v s' => v = .bool false ∧ s' = s := by
  refine q_cmp_isNaN__uint64 _ _ _ ?_
  simp [Q_cmp_isNaN__uint64]

theorem cmp_Compare__int_ok (a b : Int) (s : AS) : ACalls Try.prog F_cmp_Compare__int [.int .i64 a, .int .i64 b] s fun v s' => v = .int .i64 (cmpI a b) ∧ s' = s := by
  refine q_cmp_Compare__int _ _ _ _ ?_
  refine (cmp_isNaN__int_ok _ _).mono ?_
  rintro v s1 ⟨rfl, rfl⟩
  refine ⟨_, rfl, ?_⟩
  refine (cmp_isNaN__int_ok _ _).mono ?_
  rintro v s1 ⟨rfl, rfl⟩
  refine ⟨_, rfl, ?_⟩
  simp only [bsplit_iff, cmpI]
  grind
theorem cmp_Compare__uint64_ok (a b : Int) (s : AS) : ACalls Try.prog F_cmp_Compare__uint64 [.int .u64 a, .int .u64 b] s fun v s' => v = .int .i64 (cmpI a b) ∧ s' = s := by
  refine q_cmp_Compare__uint64 _ _ _ _ ?_
  refine (cmp_isNaN__uint64_ok _ _).mono ?_
  rintro v s1 ⟨rfl, rfl⟩
  refine ⟨_, rfl, ?_⟩
  refine (cmp_isNaN__uint64_ok _ _).mono ?_
  rintro v s1 ⟨rfl, rfl⟩
  refine ⟨_, rfl, ?_⟩
  simp only [bsplit_iff, cmpI]
  grind

theorem ctx_May_ok (d : Dot) (s : AS) : ACalls Try.prog F_ctx_May [.agg (dotC d)] s fun v s' => v = .bool d.may ∧ Ext s s' := by
  refine ACalls.pre fun hw => q_ctx_May _ _ _ ⟨rfl, NewQ.intro hw rfl fun l s1 F => ?_⟩
  simp only [F.own.at.rd1, dotC, List.getElem?_cons_zero, List.getElem?_cons_succ, go_sem, bsplit_iff, F.ext, and_true, Dot.may]
  grind
theorem ref04iMay_ok (d : Dot) (s : AS) : ACalls Try.prog F_ref04iMay [.agg (dotC d)] s fun v s' => v = .bool d.may ∧ Ext s s' := by
  refine ACalls.pre fun hw => q_ref04iMay _ _ _ ⟨rfl, NewQ.intro hw rfl fun l s1 F => ?_⟩
  simp only [F.own.at.rd1, dotC, List.getElem?_cons_zero, List.getElem?_cons_succ, go_sem, bsplit_iff, F.ext, and_true, Dot.may]
  grind
theorem ref04iLess_ok (a b : Dot) (s : AS) : ACalls Try.prog F_ref04iLess [.agg (dotC a), .agg (dotC b)] s fun v s' => v = .bool (a.lt b) ∧ Ext s s' := by
  refine ACalls.pre fun hw => q_ref04iLess _ _ _ _ ⟨rfl, NewQ.intro hw rfl fun l s1 F => ⟨rfl, NewQ.intro F.wf rfl fun l2 s2 F2 => ?_⟩⟩
  have e := F.ext.trans F2.ext
  simp only [(F.own.ext F2.ext).at.rd1, F2.own.at.rd1, dotC, List.getElem?_cons_zero, List.getElem?_cons_succ, go_sem, bsplit_iff, e, and_true, Dot.lt]
  grind
end Go.Proofs.Ytbfchlimonimkaa
