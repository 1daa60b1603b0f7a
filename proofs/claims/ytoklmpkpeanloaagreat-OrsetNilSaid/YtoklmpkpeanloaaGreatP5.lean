/-
  A part of the proof: an abstract machine over the model, and contracts of functions of this program over it.
-/
import Derived.KernelRfl
import Derived.Test.YtoklmpkpeanloaaGreatP4
section
set_option linter.unusedVariables false
set_option maxRecDepth 100000
set_option maxHeartbeats 4000000
namespace Go.Proofs.YtoklmpkpeanloaaGreat
open Go.Am

/-- what slices.SortFunc[[]minster/api.Item,minster/api.Item] asks -/
def Q_slices_SortFunc__s_Item_Item (a0 : AV) (a1 : AV) (s : AS) (R : AV → AS → Prop) : Prop :=
 RdI .i64 (alenB T Y_s_Item a0 s) fun n1 => ACalls Tryz.prog F_math_bits_Len [(.int .u64 (IntKind.wrap .u64 n1))] s fun v2 s3 => ∃ n4 : Int, v2 = .int .i64 n4 ∧ (ACalls Tryz.prog F_slices_pdqsortCmpFunc__Item [a0, (.int .i64 0), (.int .i64 n1), (.int .i64 n4), a1] s3 fun v5 s6 => v5 = .tup [] ∧ (R (.tup []) s6))

def A_slices_SortFunc__s_Item_Item : QA := (.seq .leaf .leaf)

theorem q_slices_SortFunc__s_Item_Item (a0 : AV) (a1 : AV) (s : AS) (R : AV → AS → Prop) (h : Q_slices_SortFunc__s_Item_Item a0 a1 s R) : ACalls Tryz.prog F_slices_SortFunc__s_Item_Item [a0, a1] s R :=
  ACalls.q (n := 14) (rs := []) (A := A_slices_SortFunc__s_Item_Item) hT hmx Tryz.func93 (by kernel_rfl) rfl rfl rfl (by kernel_rfl) (by kernel_rfl) h

/-- what slices.pdqsortCmpFunc[minster/api.Item] asks -/
def Q_slices_pdqsortCmpFunc__Item (a0 : AV) (a1 : Int) (a2 : Int) (a3 : Int) (a4 : AV) (s : AS) (R : AV → AS → Prop) : Prop :=
 LoopQ fun I1 m2 => I1 m2 [(.int .i64 a1), (.int .i64 a2), (.int .i64 a3), (.bool true), (.bool true)] s ∧
 ∀ m3 : Nat, ∀ n4 : Int, ∀ n5 : Int, ∀ n6 : Int, ∀ b7 : Bool, ∀ b8 : Bool, ∀ s9 : AS, I1 m3 [(.int .i64 n4), (.int .i64 n5), (.int .i64 n6), (.bool b7), (.bool b8)] s9 →
 bsplit (decide ((IntKind.wrap .i64 (n5 - n4) : Int) ≤ 12))
 (ACalls Tryz.prog F_slices_insertionSortCmpFunc__Item [a0, (.int .i64 n4), (.int .i64 n5), a4] s9 fun v10 s11 => v10 = .tup [] ∧ (R (.tup []) s11))
 (bsplit ((n6 : Int) == 0)
 (ACalls Tryz.prog F_slices_heapSortCmpFunc__Item [a0, (.int .i64 n4), (.int .i64 n5), a4] s9 fun v12 s13 => v12 = .tup [] ∧ (R (.tup []) s13))
 (JoinQ fun J14 =>
 (∀ n15 : Int, ∀ s16 : AS, J14 [(.int .i64 n15)] s16 →
 ACalls Tryz.prog F_slices_choosePivotCmpFunc__Item [a0, (.int .i64 n4), (.int .i64 n5), a4] s16 fun v17 s18 => ∃ n19 : Int, ∃ n20 : Int, v17 = .tup [(.int .i64 n19), (.int .i64 n20)] ∧ (JoinQ fun J21 =>
 (∀ n22 : Int, ∀ n23 : Int, ∀ s24 : AS, J21 [(.int .i64 n22), (.int .i64 n23)] s24 →
 JoinQ fun J25 =>
 (∀ s26 : AS, J25 [] s26 →
 JoinQ fun J27 =>
 (∀ b28 : Bool, ∀ s29 : AS, J27 [(.bool b28)] s29 →
 bsplit b28
 (ACalls Tryz.prog F_slices_partitionEqualCmpFunc__Item [a0, (.int .i64 n4), (.int .i64 n5), (.int .i64 n22), a4] s29 fun v30 s31 => ∃ n32 : Int, v30 = .int .i64 n32 ∧ (∃ m', m' < m3 ∧ I1 m' [(.int .i64 n32), (.int .i64 n5), (.int .i64 n15), (.bool b7), (.bool b8)] s31))
 (ACalls Tryz.prog F_slices_partitionCmpFunc__Item [a0, (.int .i64 n4), (.int .i64 n5), (.int .i64 n22), a4] s29 fun v33 s34 => ∃ n35 : Int, ∃ b36 : Bool, v33 = .tup [(.int .i64 n35), (.bool b36)] ∧ (NZ 8 (bsplit (decide ((IntKind.wrap .i64 (n35 - n4) : Int) < (IntKind.wrap .i64 (n5 - n35))))
 (ACalls Tryz.prog F_slices_pdqsortCmpFunc__Item [a0, (.int .i64 n4), (.int .i64 n35), (.int .i64 n15), a4] s34 fun v37 s38 => v37 = .tup [] ∧ (∃ m', m' < m3 ∧ I1 m' [(.int .i64 (IntKind.wrap .i64 (n35 + 1))), (.int .i64 n5), (.int .i64 n15), (.bool (decide ((IntKind.wrap .i64 (n35 - n4) : Int) ≥ (IntKind.wrap .i64 (Int.tdiv (IntKind.wrap .i64 (n5 - n4)) 8))))), (.bool b36)] s38))
 (ACalls Tryz.prog F_slices_pdqsortCmpFunc__Item [a0, (.int .i64 (IntKind.wrap .i64 (n35 + 1))), (.int .i64 n5), (.int .i64 n15), a4] s34 fun v39 s40 => v39 = .tup [] ∧ (∃ m', m' < m3 ∧ I1 m' [(.int .i64 n4), (.int .i64 n35), (.int .i64 n15), (.bool (decide ((IntKind.wrap .i64 (n5 - n35) : Int) ≥ (IntKind.wrap .i64 (Int.tdiv (IntKind.wrap .i64 (n5 - n4)) 8))))), (.bool b36)] s40)))))) ∧
 (bsplit (decide ((n4 : Int) > 0)) (IxQ (aindexAddr T Y_s_Item a0 (.int .i64 (IntKind.wrap .i64 (n4 - 1)))) fun l41 o42 => RdL (rdc s26 l41 o42 5) fun g43 => IxQ (aindexAddr T Y_s_Item a0 (.int .i64 n22)) fun l44 o45 => RdL (rdc s26 l44 o45 5) fun g46 => ACallV Tryz.prog a4 [(.agg g43), (.agg g46)] s26 fun v47 s48 => ∃ n49 : Int, v47 = .int .i64 n49 ∧ (J27 [(.bool (!(decide ((n49 : Int) < 0))))] s48)) (J27 [(.bool false)] s26))) ∧
 (JoinQ fun J50 =>
 (∀ b51 : Bool, ∀ s52 : AS, J50 [(.bool b51)] s52 →
 bsplit b51
 (ACalls Tryz.prog F_slices_partialInsertionSortCmpFunc__Item [a0, (.int .i64 n4), (.int .i64 n5), a4] s52 fun v53 s54 => ∃ b55 : Bool, v53 = .bool b55 ∧ (bsplit b55
 (R (.tup []) s54)
 (J25 [] s54)))
 (J25 [] s52)) ∧
 (bsplit b7 (bsplit b8 (J50 [(.bool ((n23 : Int) == 1))] s24) (J50 [(.bool false)] s24)) (J50 [(.bool false)] s24)))) ∧
 (bsplit ((n20 : Int) == 2)
 (ACalls Tryz.prog F_slices_reverseRangeCmpFunc__Item [a0, (.int .i64 n4), (.int .i64 n5), a4] s18 fun v56 s57 => v56 = .tup [] ∧ (J21 [(.int .i64 (IntKind.wrap .i64 ((IntKind.wrap .i64 (n5 - 1)) - (IntKind.wrap .i64 (n19 - n4))))), (.int .i64 1)] s57))
 (J21 [(.int .i64 n19), (.int .i64 n20)] s18)))) ∧
 (bsplit (!b7)
 (ACalls Tryz.prog F_slices_breakPatternsCmpFunc__Item [a0, (.int .i64 n4), (.int .i64 n5), a4] s9 fun v58 s59 => v58 = .tup [] ∧ (J14 [(.int .i64 (IntKind.wrap .i64 (n6 - 1)))] s59))
 (J14 [(.int .i64 n6)] s9))))

def A_slices_pdqsortCmpFunc__Item : QA := (.seq .leaf (.seq .leaf (.wrap (.loop [(1, .int .i64), (2, .int .i64), (3, .int .i64), (10, .bool), (11, .bool)] [(1, 3), (10, 147)] (.wrap (.seq .leaf (.seq (.seq .leaf (.cond (.seq .leaf .leaf) .leaf)) (.seq (.seq .leaf (.cond (.seq .leaf .leaf) .leaf)) (.join [(3, .int .i64)] [(3, 3), (38, 46)] (.seq .leaf (.cond (.seq .leaf .leaf) .leaf)) (.seq .leaf (.join [(13, .int .i64), (14, .int .i64)] [(13, 14), (55, 67)] (.seq .leaf (.cond (.seq .leaf (.seq .leaf .leaf)) .leaf)) (.join [] [(68, 80)] (.join [(75, .bool)] [(68, 75)] .leaf (.cond (.seq .leaf (.cond .leaf .leaf)) .leaf)) (.seq (.join [(97, .bool)] [(81, 97)] (.draw 13) (.cond (.seq .leaf (.seq .leaf .leaf)) .leaf)) (.seq .leaf (.seq .leaf (.seq .leaf (.seq .leaf (.seq .leaf (.cond (.seq .leaf (.seq .leaf .leaf)) (.seq .leaf (.seq .leaf .leaf)))))))))))))))))))))

theorem q_slices_pdqsortCmpFunc__Item (a0 : AV) (a1 : Int) (a2 : Int) (a3 : Int) (a4 : AV) (s : AS) (R : AV → AS → Prop) (h : Q_slices_pdqsortCmpFunc__Item a0 a1 a2 a3 a4 s R) : ACalls Tryz.prog F_slices_pdqsortCmpFunc__Item [a0, (.int .i64 a1), (.int .i64 a2), (.int .i64 a3), a4] s R :=
  ACalls.q (n := 148) (rs := []) (A := A_slices_pdqsortCmpFunc__Item) hT hmx Tryz.func147 (by kernel_rfl) rfl rfl rfl (by kernel_rfl) (by kernel_rfl) h

/-- what slices.insertionSortCmpFunc[minster/api.Item] asks -/
def Q_slices_insertionSortCmpFunc__Item (a0 : AV) (a1 : Int) (a2 : Int) (a3 : AV) (s : AS) (R : AV → AS → Prop) : Prop :=
 LoopQ fun I1 m2 => I1 m2 [(.int .i64 (IntKind.wrap .i64 (a1 + 1)))] s ∧
 ∀ m3 : Nat, ∀ n4 : Int, ∀ s5 : AS, I1 m3 [(.int .i64 n4)] s5 →
 bsplit (decide ((n4 : Int) < a2))
 (LoopQ fun I6 m7 => I6 m7 [(.int .i64 n4)] s5 ∧
 ∀ m8 : Nat, ∀ n9 : Int, ∀ s10 : AS, I6 m8 [(.int .i64 n9)] s10 →
 bsplit (decide ((n9 : Int) > a1)) (IxQ (aindexAddr T Y_s_Item a0 (.int .i64 n9)) fun l11 o12 => RdL (rdc s10 l11 o12 5) fun g13 => IxQ (aindexAddr T Y_s_Item a0 (.int .i64 (IntKind.wrap .i64 (n9 - 1)))) fun l14 o15 => RdL (rdc s10 l14 o15 5) fun g16 => ACallV Tryz.prog a3 [(.agg g13), (.agg g16)] s10 fun v17 s18 => ∃ n19 : Int, v17 = .int .i64 n19 ∧ (bsplit (decide ((n19 : Int) < 0))
 (IxQ (aindexAddr T Y_s_Item a0 (.int .i64 (IntKind.wrap .i64 (n9 - 1)))) fun l20 o21 => RdL (rdc s18 l20 o21 5) fun g22 => IxQ (aindexAddr T Y_s_Item a0 (.int .i64 n9)) fun l23 o24 => RdL (rdc s18 l23 o24 5) fun g25 => IxQ (aindexAddr T Y_s_Item a0 (.int .i64 n9)) fun l26 o27 => OkC (some 5) g22 (StQ (awr s18 l26 o27 g22) fun s28 => IxQ (aindexAddr T Y_s_Item a0 (.int .i64 (IntKind.wrap .i64 (n9 - 1)))) fun l29 o30 => OkC (some 5) g25 (StQ (awr s28 l29 o30 g25) fun s31 => ∃ m', m' < m8 ∧ I6 m' [(.int .i64 (IntKind.wrap .i64 (n9 - 1)))] s31)))
 (∃ m', m' < m3 ∧ I1 m' [(.int .i64 (IntKind.wrap .i64 (n4 + 1)))] s18))) (∃ m', m' < m3 ∧ I1 m' [(.int .i64 (IntKind.wrap .i64 (n4 + 1)))] s10))
 (R (.tup []) s5)

def A_slices_insertionSortCmpFunc__Item : QA := (.seq .leaf (.wrap (.loop [(8, .int .i64)] [(8, 9), (12, 52)] (.seq (.seq .leaf (.cond .leaf .leaf)) (.seq (.wrap (.seq .leaf (.wrap (.loop [(9, .int .i64)] [(9, 9), (18, 52)] (.seq (.seq (.draw 14) (.cond .leaf .leaf)) (.seq (.wrap .calm) .leaf)))))) .leaf)))))

theorem q_slices_insertionSortCmpFunc__Item (a0 : AV) (a1 : Int) (a2 : Int) (a3 : AV) (s : AS) (R : AV → AS → Prop) (h : Q_slices_insertionSortCmpFunc__Item a0 a1 a2 a3 s R) : ACalls Tryz.prog F_slices_insertionSortCmpFunc__Item [a0, (.int .i64 a1), (.int .i64 a2), a3] s R :=
  ACalls.q (n := 53) (rs := []) (A := A_slices_insertionSortCmpFunc__Item) hT hmx Tryz.func169 (by kernel_rfl) rfl rfl rfl (by kernel_rfl) (by kernel_rfl) h

/-- what slices.heapSortCmpFunc[minster/api.Item] asks -/
def Q_slices_heapSortCmpFunc__Item (a0 : AV) (a1 : Int) (a2 : Int) (a3 : AV) (s : AS) (R : AV → AS → Prop) : Prop :=
 JoinQ fun J1 =>
 (∀ s2 : AS, J1 [] s2 →
 LoopQ fun I3 m4 => I3 m4 [(.int .i64 (IntKind.wrap .i64 ((IntKind.wrap .i64 (a2 - a1)) - 1)))] s2 ∧
 ∀ m5 : Nat, ∀ n6 : Int, ∀ s7 : AS, I3 m5 [(.int .i64 n6)] s7 →
 bsplit (decide ((n6 : Int) ≥ 0))
 (IxQ (aindexAddr T Y_s_Item a0 (.int .i64 (IntKind.wrap .i64 (a1 + n6)))) fun l8 o9 => RdL (rdc s7 l8 o9 5) fun g10 => IxQ (aindexAddr T Y_s_Item a0 (.int .i64 a1)) fun l11 o12 => RdL (rdc s7 l11 o12 5) fun g13 => IxQ (aindexAddr T Y_s_Item a0 (.int .i64 a1)) fun l14 o15 => OkC (some 5) g10 (StQ (awr s7 l14 o15 g10) fun s16 => IxQ (aindexAddr T Y_s_Item a0 (.int .i64 (IntKind.wrap .i64 (a1 + n6)))) fun l17 o18 => OkC (some 5) g13 (StQ (awr s16 l17 o18 g13) fun s19 => ACalls Tryz.prog F_slices_siftDownCmpFunc__Item [a0, (.int .i64 0), (.int .i64 n6), (.int .i64 a1), a3] s19 fun v20 s21 => v20 = .tup [] ∧ (∃ m', m' < m5 ∧ I3 m' [(.int .i64 (IntKind.wrap .i64 (n6 - 1)))] s21))))
 (R (.tup []) s7)) ∧
 (NZ 2 (LoopQ fun I22 m23 => I22 m23 [(.int .i64 (IntKind.wrap .i64 (Int.tdiv (IntKind.wrap .i64 ((IntKind.wrap .i64 (a2 - a1)) - 1)) 2)))] s ∧
 ∀ m24 : Nat, ∀ n25 : Int, ∀ s26 : AS, I22 m24 [(.int .i64 n25)] s26 →
 bsplit (decide ((n25 : Int) ≥ 0))
 (ACalls Tryz.prog F_slices_siftDownCmpFunc__Item [a0, (.int .i64 n25), (.int .i64 (IntKind.wrap .i64 (a2 - a1))), (.int .i64 a1), a3] s26 fun v27 s28 => v27 = .tup [] ∧ (∃ m', m' < m24 ∧ I22 m' [(.int .i64 (IntKind.wrap .i64 (n25 - 1)))] s28))
 (J1 [] s26)))

def A_slices_heapSortCmpFunc__Item : QA := (.seq .leaf (.seq .leaf (.seq .leaf (.join [] [(11, 11), (17, 29)] (.seq .leaf (.wrap (.loop [(11, .int .i64)] [(11, 11), (20, 29)] (.seq (.seq .leaf (.cond .leaf .leaf)) (.seq (.wrap .leaf) .leaf))))) (.seq .leaf (.wrap (.loop [(12, .int .i64)] [(12, 12), (32, 59)] (.seq (.seq .leaf (.cond .leaf .leaf)) (.seq (.wrap (.seq .calm .leaf)) .leaf)))))))))

theorem q_slices_heapSortCmpFunc__Item (a0 : AV) (a1 : Int) (a2 : Int) (a3 : AV) (s : AS) (R : AV → AS → Prop) (h : Q_slices_heapSortCmpFunc__Item a0 a1 a2 a3 s R) : ACalls Tryz.prog F_slices_heapSortCmpFunc__Item [a0, (.int .i64 a1), (.int .i64 a2), a3] s R :=
  ACalls.q (n := 60) (rs := []) (A := A_slices_heapSortCmpFunc__Item) hT hmx Tryz.func170 (by kernel_rfl) rfl rfl rfl (by kernel_rfl) (by kernel_rfl) h

/-- what slices.breakPatternsCmpFunc[minster/api.Item] asks -/
def Q_slices_breakPatternsCmpFunc__Item (a0 : AV) (a1 : Int) (a2 : Int) (a3 : AV) (s : AS) (R : AV → AS → Prop) : Prop :=
 bsplit (decide ((IntKind.wrap .i64 (a2 - a1) : Int) ≥ 8))
 (NewQ (.cells [(.int .u64 0)] 0 false) s fun l1 s2 => StQ (awr s2 l1 0 [(.int .u64 (IntKind.wrap .u64 (IntKind.wrap .i64 (a2 - a1))))]) fun s3 => ACalls Tryz.prog F_slices_nextPowerOfTwo [(.int .i64 (IntKind.wrap .i64 (a2 - a1)))] s3 fun v4 s5 => ∃ n6 : Int, v4 = .int .u64 n6 ∧ (NZ 4 (LoopQ fun I7 m8 => I7 m8 [(.int .i64 (IntKind.wrap .i64 ((IntKind.wrap .i64 (a1 + (IntKind.wrap .i64 ((IntKind.wrap .i64 (Int.tdiv (IntKind.wrap .i64 (a2 - a1)) 4)) * 2)))) - 1)))] s5 ∧
 ∀ m9 : Nat, ∀ n10 : Int, ∀ s11 : AS, I7 m9 [(.int .i64 n10)] s11 →
 NZ 4 (bsplit (decide ((n10 : Int) ≤ (IntKind.wrap .i64 ((IntKind.wrap .i64 (a1 + (IntKind.wrap .i64 ((IntKind.wrap .i64 (Int.tdiv (IntKind.wrap .i64 (a2 - a1)) 4)) * 2)))) + 1))))
 (ACalls Tryz.prog F_slices_xorshift_Next [(.ptr (some (l1, 0)))] s11 fun v12 s13 => ∃ n14 : Int, v12 = .int .u64 n14 ∧ (RdA (abinInt .and .u64 n14 (IntKind.wrap .u64 (n6 - 1))) fun v15 => AsInt v15 fun n16 => JoinQ fun J17 =>
 (∀ n18 : Int, ∀ s19 : AS, J17 [(.int .i64 n18)] s19 →
 IxQ (aindexAddr T Y_s_Item a0 (.int .i64 (IntKind.wrap .i64 (a1 + n18)))) fun l20 o21 => RdL (rdc s19 l20 o21 5) fun g22 => IxQ (aindexAddr T Y_s_Item a0 (.int .i64 n10)) fun l23 o24 => RdL (rdc s19 l23 o24 5) fun g25 => IxQ (aindexAddr T Y_s_Item a0 (.int .i64 n10)) fun l26 o27 => OkC (some 5) g22 (StQ (awr s19 l26 o27 g22) fun s28 => IxQ (aindexAddr T Y_s_Item a0 (.int .i64 (IntKind.wrap .i64 (a1 + n18)))) fun l29 o30 => OkC (some 5) g25 (StQ (awr s28 l29 o30 g25) fun s31 => ∃ m', m' < m9 ∧ I7 m' [(.int .i64 (IntKind.wrap .i64 (n10 + 1)))] s31))) ∧
 (bsplit (decide ((IntKind.wrap .i64 n16 : Int) ≥ (IntKind.wrap .i64 (a2 - a1))))
 (J17 [(.int .i64 (IntKind.wrap .i64 ((IntKind.wrap .i64 n16) - (IntKind.wrap .i64 (a2 - a1)))))] s13)
 (J17 [(.int .i64 (IntKind.wrap .i64 n16))] s13))))
 (R (.tup []) s11)))))
 (R (.tup []) s)

def A_slices_breakPatternsCmpFunc__Item : QA := (.seq .leaf (.seq .leaf (.cond (.seq .leaf (.seq .leaf (.seq .leaf (.wrap (.loop [(11, .int .i64)] [(11, 12), (28, 66)] (.seq (.seq .leaf (.cond .leaf .leaf)) (.seq (.wrap (.seq .leaf (.join [(12, .int .i64)] [(12, 12), (43, 48)] (.seq .leaf (.cond .leaf .leaf)) .calm))) .leaf))))))) .leaf)))

theorem q_slices_breakPatternsCmpFunc__Item (a0 : AV) (a1 : Int) (a2 : Int) (a3 : AV) (s : AS) (R : AV → AS → Prop) (h : Q_slices_breakPatternsCmpFunc__Item a0 a1 a2 a3 s R) : ACalls Tryz.prog F_slices_breakPatternsCmpFunc__Item [a0, (.int .i64 a1), (.int .i64 a2), a3] s R :=
  ACalls.q (n := 67) (rs := []) (A := A_slices_breakPatternsCmpFunc__Item) hT hmx Tryz.func171 (by kernel_rfl) rfl rfl rfl (by kernel_rfl) (by kernel_rfl) h

/-- what slices.choosePivotCmpFunc[minster/api.Item] asks -/
def Q_slices_choosePivotCmpFunc__Item (a0 : AV) (a1 : Int) (a2 : Int) (a3 : AV) (s : AS) (R : AV → AS → Prop) : Prop :=
 NewQ (.cells [(.int .i64 0)] 0 false) s fun l1 s2 => NZ 4 (NZ 4 (NZ 4 (JoinQ fun J3 =>
 (∀ n4 : Int, ∀ s5 : AS, J3 [(.int .i64 n4)] s5 →
 RdI .i64 (rd1 s5 l1 0) fun n6 => bsplit ((n6 : Int) == 0)
 (R (.tup [(.int .i64 n4), (.int .i64 1)]) s5)
 (bsplit ((n6 : Int) == 12)
 (R (.tup [(.int .i64 n4), (.int .i64 2)]) s5)
 (R (.tup [(.int .i64 n4), (.int .i64 0)]) s5))) ∧
 (bsplit (decide ((IntKind.wrap .i64 (a2 - a1) : Int) ≥ 8))
 (JoinQ fun J7 =>
 (∀ n8 : Int, ∀ n9 : Int, ∀ n10 : Int, ∀ s11 : AS, J7 [(.int .i64 n8), (.int .i64 n9), (.int .i64 n10)] s11 →
 ACalls Tryz.prog F_slices_medianCmpFunc__Item [a0, (.int .i64 n8), (.int .i64 n9), (.int .i64 n10), (.ptr (some (l1, 0))), a3] s11 fun v12 s13 => ∃ n14 : Int, v12 = .int .i64 n14 ∧ (J3 [(.int .i64 n14)] s13)) ∧
 (bsplit (decide ((IntKind.wrap .i64 (a2 - a1) : Int) ≥ 50))
 (ACalls Tryz.prog F_slices_medianAdjacentCmpFunc__Item [a0, (.int .i64 (IntKind.wrap .i64 (a1 + (IntKind.wrap .i64 ((IntKind.wrap .i64 (Int.tdiv (IntKind.wrap .i64 (a2 - a1)) 4)) * 1))))), (.ptr (some (l1, 0))), a3] s2 fun v15 s16 => ∃ n17 : Int, v15 = .int .i64 n17 ∧ (ACalls Tryz.prog F_slices_medianAdjacentCmpFunc__Item [a0, (.int .i64 (IntKind.wrap .i64 (a1 + (IntKind.wrap .i64 ((IntKind.wrap .i64 (Int.tdiv (IntKind.wrap .i64 (a2 - a1)) 4)) * 2))))), (.ptr (some (l1, 0))), a3] s16 fun v18 s19 => ∃ n20 : Int, v18 = .int .i64 n20 ∧ (ACalls Tryz.prog F_slices_medianAdjacentCmpFunc__Item [a0, (.int .i64 (IntKind.wrap .i64 (a1 + (IntKind.wrap .i64 ((IntKind.wrap .i64 (Int.tdiv (IntKind.wrap .i64 (a2 - a1)) 4)) * 3))))), (.ptr (some (l1, 0))), a3] s19 fun v21 s22 => ∃ n23 : Int, v21 = .int .i64 n23 ∧ (J7 [(.int .i64 n17), (.int .i64 n20), (.int .i64 n23)] s22))))
 (J7 [(.int .i64 (IntKind.wrap .i64 (a1 + (IntKind.wrap .i64 ((IntKind.wrap .i64 (Int.tdiv (IntKind.wrap .i64 (a2 - a1)) 4)) * 1))))), (.int .i64 (IntKind.wrap .i64 (a1 + (IntKind.wrap .i64 ((IntKind.wrap .i64 (Int.tdiv (IntKind.wrap .i64 (a2 - a1)) 4)) * 2))))), (.int .i64 (IntKind.wrap .i64 (a1 + (IntKind.wrap .i64 ((IntKind.wrap .i64 (Int.tdiv (IntKind.wrap .i64 (a2 - a1)) 4)) * 3)))))] s2)))
 (J3 [(.int .i64 (IntKind.wrap .i64 (a1 + (IntKind.wrap .i64 ((IntKind.wrap .i64 (Int.tdiv (IntKind.wrap .i64 (a2 - a1)) 4)) * 2)))))] s2)))))

def A_slices_choosePivotCmpFunc__Item : QA := (.seq .leaf (.seq .leaf (.seq .leaf (.seq .leaf (.seq .leaf (.seq .leaf (.join [(13, .int .i64)] [(12, 14), (33, 54)] (.seq .leaf (.cond (.join [(12, .int .i64), (13, .int .i64), (14, .int .i64)] [(12, 14), (35, 48)] (.seq .leaf (.cond (.seq .leaf (.seq .leaf .leaf)) .leaf)) .leaf) .leaf)) (.seq .leaf (.wrap (.seq .leaf (.cond (.seq .leaf .leaf) (.seq .leaf (.cond (.seq .leaf .leaf) (.seq .leaf .leaf))))))))))))))

theorem q_slices_choosePivotCmpFunc__Item (a0 : AV) (a1 : Int) (a2 : Int) (a3 : AV) (s : AS) (R : AV → AS → Prop) (h : Q_slices_choosePivotCmpFunc__Item a0 a1 a2 a3 s R) : ACalls Tryz.prog F_slices_choosePivotCmpFunc__Item [a0, (.int .i64 a1), (.int .i64 a2), a3] s R :=
  ACalls.q (n := 63) (rs := [.tmp 8, .tmp 9]) (A := A_slices_choosePivotCmpFunc__Item) hT hmx Tryz.func172 (by kernel_rfl) rfl rfl rfl (by kernel_rfl) (by kernel_rfl) h

/-- what slices.reverseRangeCmpFunc[minster/api.Item] asks -/
def Q_slices_reverseRangeCmpFunc__Item (a0 : AV) (a1 : Int) (a2 : Int) (a3 : AV) (s : AS) (R : AV → AS → Prop) : Prop :=
 LoopQ fun I1 m2 => I1 m2 [(.int .i64 a1), (.int .i64 (IntKind.wrap .i64 (a2 - 1)))] s ∧
 ∀ m3 : Nat, ∀ n4 : Int, ∀ n5 : Int, ∀ s6 : AS, I1 m3 [(.int .i64 n4), (.int .i64 n5)] s6 →
 bsplit (decide ((n4 : Int) < n5))
 (IxQ (aindexAddr T Y_s_Item a0 (.int .i64 n5)) fun l7 o8 => RdL (rdc s6 l7 o8 5) fun g9 => IxQ (aindexAddr T Y_s_Item a0 (.int .i64 n4)) fun l10 o11 => RdL (rdc s6 l10 o11 5) fun g12 => IxQ (aindexAddr T Y_s_Item a0 (.int .i64 n4)) fun l13 o14 => OkC (some 5) g9 (StQ (awr s6 l13 o14 g9) fun s15 => IxQ (aindexAddr T Y_s_Item a0 (.int .i64 n5)) fun l16 o17 => OkC (some 5) g12 (StQ (awr s15 l16 o17 g12) fun s18 => ∃ m', m' < m3 ∧ I1 m' [(.int .i64 (IntKind.wrap .i64 (n4 + 1))), (.int .i64 (IntKind.wrap .i64 (n5 - 1)))] s18)))
 (R (.tup []) s6)

def A_slices_reverseRangeCmpFunc__Item : QA := (.seq .leaf (.seq .leaf (.wrap (.loop [(8, .int .i64), (9, .int .i64)] [(8, 9), (13, 33)] (.seq (.seq .leaf (.cond .leaf .leaf)) (.wrap (.seq .calm (.seq .leaf .leaf))))))))

theorem q_slices_reverseRangeCmpFunc__Item (a0 : AV) (a1 : Int) (a2 : Int) (a3 : AV) (s : AS) (R : AV → AS → Prop) (h : Q_slices_reverseRangeCmpFunc__Item a0 a1 a2 a3 s R) : ACalls Tryz.prog F_slices_reverseRangeCmpFunc__Item [a0, (.int .i64 a1), (.int .i64 a2), a3] s R :=
  ACalls.q (n := 34) (rs := []) (A := A_slices_reverseRangeCmpFunc__Item) hT hmx Tryz.func173 (by kernel_rfl) rfl rfl rfl (by kernel_rfl) (by kernel_rfl) h

/-- what slices.partialInsertionSortCmpFunc[minster/api.Item] asks -/
def Q_slices_partialInsertionSortCmpFunc__Item (a0 : AV) (a1 : Int) (a2 : Int) (a3 : AV) (s : AS) (R : AV → AS → Prop) : Prop :=
 LoopQ fun I1 m2 => I1 m2 [(.int .i64 (IntKind.wrap .i64 (a1 + 1))), (.int .i64 0)] s ∧
 ∀ m3 : Nat, ∀ n4 : Int, ∀ n5 : Int, ∀ s6 : AS, I1 m3 [(.int .i64 n4), (.int .i64 n5)] s6 →
 bsplit (decide ((n5 : Int) < 5))
 (JoinQ fun J7 =>
 (∀ n8 : Int, ∀ s9 : AS, J7 [(.int .i64 n8)] s9 →
 bsplit ((n8 : Int) == a2)
 (R (.bool true) s9)
 (bsplit (decide ((IntKind.wrap .i64 (a2 - a1) : Int) < 50))
 (R (.bool false) s9)
 (IxQ (aindexAddr T Y_s_Item a0 (.int .i64 (IntKind.wrap .i64 (n8 - 1)))) fun l10 o11 => RdL (rdc s9 l10 o11 5) fun g12 => IxQ (aindexAddr T Y_s_Item a0 (.int .i64 n8)) fun l13 o14 => RdL (rdc s9 l13 o14 5) fun g15 => IxQ (aindexAddr T Y_s_Item a0 (.int .i64 n8)) fun l16 o17 => OkC (some 5) g12 (StQ (awr s9 l16 o17 g12) fun s18 => IxQ (aindexAddr T Y_s_Item a0 (.int .i64 (IntKind.wrap .i64 (n8 - 1)))) fun l19 o20 => OkC (some 5) g15 (StQ (awr s18 l19 o20 g15) fun s21 => JoinQ fun J22 =>
 (∀ s23 : AS, J22 [] s23 →
 bsplit (decide ((IntKind.wrap .i64 (a2 - n8) : Int) ≥ 2))
 (LoopQ fun I24 m25 => I24 m25 [(.int .i64 (IntKind.wrap .i64 (n8 + 1)))] s23 ∧
 ∀ m26 : Nat, ∀ n27 : Int, ∀ s28 : AS, I24 m26 [(.int .i64 n27)] s28 →
 bsplit (decide ((n27 : Int) < a2))
 (IxQ (aindexAddr T Y_s_Item a0 (.int .i64 n27)) fun l29 o30 => RdL (rdc s28 l29 o30 5) fun g31 => IxQ (aindexAddr T Y_s_Item a0 (.int .i64 (IntKind.wrap .i64 (n27 - 1)))) fun l32 o33 => RdL (rdc s28 l32 o33 5) fun g34 => ACallV Tryz.prog a3 [(.agg g31), (.agg g34)] s28 fun v35 s36 => ∃ n37 : Int, v35 = .int .i64 n37 ∧ (bsplit (!(decide ((n37 : Int) < 0)))
 (∃ m', m' < m3 ∧ I1 m' [(.int .i64 n8), (.int .i64 (IntKind.wrap .i64 (n5 + 1)))] s36)
 (IxQ (aindexAddr T Y_s_Item a0 (.int .i64 (IntKind.wrap .i64 (n27 - 1)))) fun l38 o39 => RdL (rdc s36 l38 o39 5) fun g40 => IxQ (aindexAddr T Y_s_Item a0 (.int .i64 n27)) fun l41 o42 => RdL (rdc s36 l41 o42 5) fun g43 => IxQ (aindexAddr T Y_s_Item a0 (.int .i64 n27)) fun l44 o45 => OkC (some 5) g40 (StQ (awr s36 l44 o45 g40) fun s46 => IxQ (aindexAddr T Y_s_Item a0 (.int .i64 (IntKind.wrap .i64 (n27 - 1)))) fun l47 o48 => OkC (some 5) g43 (StQ (awr s46 l47 o48 g43) fun s49 => ∃ m', m' < m26 ∧ I24 m' [(.int .i64 (IntKind.wrap .i64 (n27 + 1)))] s49)))))
 (∃ m', m' < m3 ∧ I1 m' [(.int .i64 n8), (.int .i64 (IntKind.wrap .i64 (n5 + 1)))] s28))
 (∃ m', m' < m3 ∧ I1 m' [(.int .i64 n8), (.int .i64 (IntKind.wrap .i64 (n5 + 1)))] s23)) ∧
 (bsplit (decide ((IntKind.wrap .i64 (n8 - a1) : Int) ≥ 2))
 (LoopQ fun I50 m51 => I50 m51 [(.int .i64 (IntKind.wrap .i64 (n8 - 1)))] s21 ∧
 ∀ m52 : Nat, ∀ n53 : Int, ∀ s54 : AS, I50 m52 [(.int .i64 n53)] s54 →
 bsplit (decide ((n53 : Int) ≥ 1))
 (IxQ (aindexAddr T Y_s_Item a0 (.int .i64 n53)) fun l55 o56 => RdL (rdc s54 l55 o56 5) fun g57 => IxQ (aindexAddr T Y_s_Item a0 (.int .i64 (IntKind.wrap .i64 (n53 - 1)))) fun l58 o59 => RdL (rdc s54 l58 o59 5) fun g60 => ACallV Tryz.prog a3 [(.agg g57), (.agg g60)] s54 fun v61 s62 => ∃ n63 : Int, v61 = .int .i64 n63 ∧ (bsplit (!(decide ((n63 : Int) < 0)))
 (J22 [] s62)
 (IxQ (aindexAddr T Y_s_Item a0 (.int .i64 (IntKind.wrap .i64 (n53 - 1)))) fun l64 o65 => RdL (rdc s62 l64 o65 5) fun g66 => IxQ (aindexAddr T Y_s_Item a0 (.int .i64 n53)) fun l67 o68 => RdL (rdc s62 l67 o68 5) fun g69 => IxQ (aindexAddr T Y_s_Item a0 (.int .i64 n53)) fun l70 o71 => OkC (some 5) g66 (StQ (awr s62 l70 o71 g66) fun s72 => IxQ (aindexAddr T Y_s_Item a0 (.int .i64 (IntKind.wrap .i64 (n53 - 1)))) fun l73 o74 => OkC (some 5) g69 (StQ (awr s72 l73 o74 g69) fun s75 => ∃ m', m' < m52 ∧ I50 m' [(.int .i64 (IntKind.wrap .i64 (n53 - 1)))] s75)))))
 (J22 [] s54))
 (J22 [] s21))))))) ∧
 (LoopQ fun I76 m77 => I76 m77 [(.int .i64 n4)] s6 ∧
 ∀ m78 : Nat, ∀ n79 : Int, ∀ s80 : AS, I76 m78 [(.int .i64 n79)] s80 →
 bsplit (decide ((n79 : Int) < a2)) (IxQ (aindexAddr T Y_s_Item a0 (.int .i64 n79)) fun l81 o82 => RdL (rdc s80 l81 o82 5) fun g83 => IxQ (aindexAddr T Y_s_Item a0 (.int .i64 (IntKind.wrap .i64 (n79 - 1)))) fun l84 o85 => RdL (rdc s80 l84 o85 5) fun g86 => ACallV Tryz.prog a3 [(.agg g83), (.agg g86)] s80 fun v87 s88 => ∃ n89 : Int, v87 = .int .i64 n89 ∧ (bsplit (!(decide ((n89 : Int) < 0)))
 (∃ m', m' < m78 ∧ I76 m' [(.int .i64 (IntKind.wrap .i64 (n79 + 1)))] s88)
 (J7 [(.int .i64 n79)] s88))) (J7 [(.int .i64 n79)] s80)))
 (R (.bool false) s6)

def A_slices_partialInsertionSortCmpFunc__Item : QA := (.seq .leaf (.seq .leaf (.seq (.seq .leaf (.wrap (.loop [(9, .int .i64), (10, .int .i64)] [(8, 12), (15, 140)] (.seq (.seq .leaf (.cond .leaf .leaf)) (.seq (.wrap (.join [(9, .int .i64)] [(9, 9), (19, 38)] (.wrap (.loop [(9, .int .i64)] [(9, 9), (19, 38)] (.seq (.seq (.draw 14) (.cond .leaf .leaf)) (.wrap .leaf)))) (.seq (.seq .leaf (.cond (.seq .leaf .leaf) .leaf)) (.seq (.seq .leaf (.cond (.seq .leaf .leaf) .leaf)) (.seq .calm (.join [] [(11, 11), (62, 100)] (.seq .leaf (.cond (.seq .leaf (.wrap (.loop [(11, .int .i64)] [(11, 11), (68, 100)] (.seq (.seq .leaf (.cond .leaf .leaf)) (.seq (.wrap (.seq (.seq (.draw 10) (.cond .leaf .leaf)) .calm)) .leaf))))) .leaf)) (.seq .leaf (.cond (.seq .leaf (.wrap (.loop [(12, .int .i64)] [(12, 12), (107, 140)] (.seq (.seq .leaf (.cond .leaf .leaf)) (.seq (.wrap (.seq (.seq (.draw 10) (.cond .leaf .leaf)) .calm)) .leaf))))) .leaf)))))))) .leaf))))) (.seq .leaf .leaf))))

theorem q_slices_partialInsertionSortCmpFunc__Item (a0 : AV) (a1 : Int) (a2 : Int) (a3 : AV) (s : AS) (R : AV → AS → Prop) (h : Q_slices_partialInsertionSortCmpFunc__Item a0 a1 a2 a3 s R) : ACalls Tryz.prog F_slices_partialInsertionSortCmpFunc__Item [a0, (.int .i64 a1), (.int .i64 a2), a3] s R :=
  ACalls.q (n := 141) (rs := [.tmp 8]) (A := A_slices_partialInsertionSortCmpFunc__Item) hT hmx Tryz.func174 (by kernel_rfl) rfl rfl rfl (by kernel_rfl) (by kernel_rfl) h

/-- what slices.partitionEqualCmpFunc[minster/api.Item] asks -/
def Q_slices_partitionEqualCmpFunc__Item (a0 : AV) (a1 : Int) (a2 : Int) (a3 : Int) (a4 : AV) (s : AS) (R : AV → AS → Prop) : Prop :=
 IxQ (aindexAddr T Y_s_Item a0 (.int .i64 a3)) fun l1 o2 => RdL (rdc s l1 o2 5) fun g3 => IxQ (aindexAddr T Y_s_Item a0 (.int .i64 a1)) fun l4 o5 => RdL (rdc s l4 o5 5) fun g6 => IxQ (aindexAddr T Y_s_Item a0 (.int .i64 a1)) fun l7 o8 => OkC (some 5) g3 (StQ (awr s l7 o8 g3) fun s9 => IxQ (aindexAddr T Y_s_Item a0 (.int .i64 a3)) fun l10 o11 => OkC (some 5) g6 (StQ (awr s9 l10 o11 g6) fun s12 => LoopQ fun I13 m14 => I13 m14 [(.int .i64 (IntKind.wrap .i64 (a1 + 1))), (.int .i64 (IntKind.wrap .i64 (a2 - 1)))] s12 ∧
 ∀ m15 : Nat, ∀ n16 : Int, ∀ n17 : Int, ∀ s18 : AS, I13 m15 [(.int .i64 n16), (.int .i64 n17)] s18 →
 JoinQ fun J19 =>
 (∀ n20 : Int, ∀ s21 : AS, J19 [(.int .i64 n20)] s21 →
 JoinQ fun J22 =>
 (∀ n23 : Int, ∀ s24 : AS, J22 [(.int .i64 n23)] s24 →
 bsplit (decide ((n20 : Int) > n23))
 (R (.int .i64 n20) s24)
 (IxQ (aindexAddr T Y_s_Item a0 (.int .i64 n23)) fun l25 o26 => RdL (rdc s24 l25 o26 5) fun g27 => IxQ (aindexAddr T Y_s_Item a0 (.int .i64 n20)) fun l28 o29 => RdL (rdc s24 l28 o29 5) fun g30 => IxQ (aindexAddr T Y_s_Item a0 (.int .i64 n20)) fun l31 o32 => OkC (some 5) g27 (StQ (awr s24 l31 o32 g27) fun s33 => IxQ (aindexAddr T Y_s_Item a0 (.int .i64 n23)) fun l34 o35 => OkC (some 5) g30 (StQ (awr s33 l34 o35 g30) fun s36 => ∃ m', m' < m15 ∧ I13 m' [(.int .i64 (IntKind.wrap .i64 (n20 + 1))), (.int .i64 (IntKind.wrap .i64 (n23 - 1)))] s36)))) ∧
 (LoopQ fun I37 m38 => I37 m38 [(.int .i64 n17)] s21 ∧
 ∀ m39 : Nat, ∀ n40 : Int, ∀ s41 : AS, I37 m39 [(.int .i64 n40)] s41 →
 bsplit (decide ((n20 : Int) ≤ n40)) (IxQ (aindexAddr T Y_s_Item a0 (.int .i64 a1)) fun l42 o43 => RdL (rdc s41 l42 o43 5) fun g44 => IxQ (aindexAddr T Y_s_Item a0 (.int .i64 n40)) fun l45 o46 => RdL (rdc s41 l45 o46 5) fun g47 => ACallV Tryz.prog a4 [(.agg g44), (.agg g47)] s41 fun v48 s49 => ∃ n50 : Int, v48 = .int .i64 n50 ∧ (bsplit (decide ((n50 : Int) < 0))
 (∃ m', m' < m39 ∧ I37 m' [(.int .i64 (IntKind.wrap .i64 (n40 - 1)))] s49)
 (J22 [(.int .i64 n40)] s49))) (J22 [(.int .i64 n40)] s41))) ∧
 (LoopQ fun I51 m52 => I51 m52 [(.int .i64 n16)] s18 ∧
 ∀ m53 : Nat, ∀ n54 : Int, ∀ s55 : AS, I51 m53 [(.int .i64 n54)] s55 →
 bsplit (decide ((n54 : Int) ≤ n17)) (IxQ (aindexAddr T Y_s_Item a0 (.int .i64 a1)) fun l56 o57 => RdL (rdc s55 l56 o57 5) fun g58 => IxQ (aindexAddr T Y_s_Item a0 (.int .i64 n54)) fun l59 o60 => RdL (rdc s55 l59 o60 5) fun g61 => ACallV Tryz.prog a4 [(.agg g58), (.agg g61)] s55 fun v62 s63 => ∃ n64 : Int, v62 = .int .i64 n64 ∧ (bsplit (!(decide ((n64 : Int) < 0)))
 (∃ m', m' < m53 ∧ I51 m' [(.int .i64 (IntKind.wrap .i64 (n54 + 1)))] s63)
 (J19 [(.int .i64 n54)] s63))) (J19 [(.int .i64 n54)] s55))))

def A_slices_partitionEqualCmpFunc__Item : QA := (.seq .leaf (.seq .calm (.seq .leaf (.seq (.wrap (.loop [(11, .int .i64), (12, .int .i64)] [(11, 12), (31, 88)] (.wrap (.join [(11, .int .i64)] [(11, 11), (31, 49)] (.wrap (.loop [(11, .int .i64)] [(11, 11), (31, 49)] (.seq (.seq (.draw 13) (.cond .leaf .leaf)) (.wrap .leaf)))) (.join [(12, .int .i64)] [(12, 12), (50, 67)] (.wrap (.loop [(12, .int .i64)] [(12, 12), (50, 67)] (.seq (.seq (.draw 13) (.cond .leaf .leaf)) (.wrap .leaf)))) (.seq (.seq .leaf (.cond .leaf .leaf)) (.seq .calm (.seq .leaf .leaf)))))))) (.seq .leaf .leaf)))))

theorem q_slices_partitionEqualCmpFunc__Item (a0 : AV) (a1 : Int) (a2 : Int) (a3 : Int) (a4 : AV) (s : AS) (R : AV → AS → Prop) (h : Q_slices_partitionEqualCmpFunc__Item a0 a1 a2 a3 a4 s R) : ACalls Tryz.prog F_slices_partitionEqualCmpFunc__Item [a0, (.int .i64 a1), (.int .i64 a2), (.int .i64 a3), a4] s R :=
  ACalls.q (n := 90) (rs := [.tmp 10]) (A := A_slices_partitionEqualCmpFunc__Item) hT hmx Tryz.func175 (by kernel_rfl) rfl rfl rfl (by kernel_rfl) (by kernel_rfl) h

/-- what slices.partitionCmpFunc[minster/api.Item] asks -/
def Q_slices_partitionCmpFunc__Item (a0 : AV) (a1 : Int) (a2 : Int) (a3 : Int) (a4 : AV) (s : AS) (R : AV → AS → Prop) : Prop :=
 IxQ (aindexAddr T Y_s_Item a0 (.int .i64 a3)) fun l1 o2 => RdL (rdc s l1 o2 5) fun g3 => IxQ (aindexAddr T Y_s_Item a0 (.int .i64 a1)) fun l4 o5 => RdL (rdc s l4 o5 5) fun g6 => IxQ (aindexAddr T Y_s_Item a0 (.int .i64 a1)) fun l7 o8 => OkC (some 5) g3 (StQ (awr s l7 o8 g3) fun s9 => IxQ (aindexAddr T Y_s_Item a0 (.int .i64 a3)) fun l10 o11 => OkC (some 5) g6 (StQ (awr s9 l10 o11 g6) fun s12 => JoinQ fun J13 =>
 (∀ n14 : Int, ∀ s15 : AS, J13 [(.int .i64 n14)] s15 →
 JoinQ fun J16 =>
 (∀ n17 : Int, ∀ s18 : AS, J16 [(.int .i64 n17)] s18 →
 bsplit (decide ((n14 : Int) > n17))
 (IxQ (aindexAddr T Y_s_Item a0 (.int .i64 a1)) fun l19 o20 => RdL (rdc s18 l19 o20 5) fun g21 => IxQ (aindexAddr T Y_s_Item a0 (.int .i64 n17)) fun l22 o23 => RdL (rdc s18 l22 o23 5) fun g24 => IxQ (aindexAddr T Y_s_Item a0 (.int .i64 n17)) fun l25 o26 => OkC (some 5) g21 (StQ (awr s18 l25 o26 g21) fun s27 => IxQ (aindexAddr T Y_s_Item a0 (.int .i64 a1)) fun l28 o29 => OkC (some 5) g24 (StQ (awr s27 l28 o29 g24) fun s30 => R (.tup [(.int .i64 n17), (.bool true)]) s30)))
 (IxQ (aindexAddr T Y_s_Item a0 (.int .i64 n17)) fun l31 o32 => RdL (rdc s18 l31 o32 5) fun g33 => IxQ (aindexAddr T Y_s_Item a0 (.int .i64 n14)) fun l34 o35 => RdL (rdc s18 l34 o35 5) fun g36 => IxQ (aindexAddr T Y_s_Item a0 (.int .i64 n14)) fun l37 o38 => OkC (some 5) g33 (StQ (awr s18 l37 o38 g33) fun s39 => IxQ (aindexAddr T Y_s_Item a0 (.int .i64 n17)) fun l40 o41 => OkC (some 5) g36 (StQ (awr s39 l40 o41 g36) fun s42 => JoinQ fun J43 =>
 (∀ n44 : Int, ∀ s45 : AS, J43 [(.int .i64 n44)] s45 →
 IxQ (aindexAddr T Y_s_Item a0 (.int .i64 a1)) fun l46 o47 => RdL (rdc s45 l46 o47 5) fun g48 => IxQ (aindexAddr T Y_s_Item a0 (.int .i64 n44)) fun l49 o50 => RdL (rdc s45 l49 o50 5) fun g51 => IxQ (aindexAddr T Y_s_Item a0 (.int .i64 n44)) fun l52 o53 => OkC (some 5) g48 (StQ (awr s45 l52 o53 g48) fun s54 => IxQ (aindexAddr T Y_s_Item a0 (.int .i64 a1)) fun l55 o56 => OkC (some 5) g51 (StQ (awr s54 l55 o56 g51) fun s57 => R (.tup [(.int .i64 n44), (.bool false)]) s57))) ∧
 (LoopQ fun I58 m59 => I58 m59 [(.int .i64 (IntKind.wrap .i64 (n14 + 1))), (.int .i64 (IntKind.wrap .i64 (n17 - 1)))] s42 ∧
 ∀ m60 : Nat, ∀ n61 : Int, ∀ n62 : Int, ∀ s63 : AS, I58 m60 [(.int .i64 n61), (.int .i64 n62)] s63 →
 JoinQ fun J64 =>
 (∀ n65 : Int, ∀ s66 : AS, J64 [(.int .i64 n65)] s66 →
 JoinQ fun J67 =>
 (∀ n68 : Int, ∀ s69 : AS, J67 [(.int .i64 n68)] s69 →
 bsplit (decide ((n65 : Int) > n68))
 (J43 [(.int .i64 n68)] s69)
 (IxQ (aindexAddr T Y_s_Item a0 (.int .i64 n68)) fun l70 o71 => RdL (rdc s69 l70 o71 5) fun g72 => IxQ (aindexAddr T Y_s_Item a0 (.int .i64 n65)) fun l73 o74 => RdL (rdc s69 l73 o74 5) fun g75 => IxQ (aindexAddr T Y_s_Item a0 (.int .i64 n65)) fun l76 o77 => OkC (some 5) g72 (StQ (awr s69 l76 o77 g72) fun s78 => IxQ (aindexAddr T Y_s_Item a0 (.int .i64 n68)) fun l79 o80 => OkC (some 5) g75 (StQ (awr s78 l79 o80 g75) fun s81 => ∃ m', m' < m60 ∧ I58 m' [(.int .i64 (IntKind.wrap .i64 (n65 + 1))), (.int .i64 (IntKind.wrap .i64 (n68 - 1)))] s81)))) ∧
 (LoopQ fun I82 m83 => I82 m83 [(.int .i64 n62)] s66 ∧
 ∀ m84 : Nat, ∀ n85 : Int, ∀ s86 : AS, I82 m84 [(.int .i64 n85)] s86 →
 bsplit (decide ((n65 : Int) ≤ n85)) (IxQ (aindexAddr T Y_s_Item a0 (.int .i64 n85)) fun l87 o88 => RdL (rdc s86 l87 o88 5) fun g89 => IxQ (aindexAddr T Y_s_Item a0 (.int .i64 a1)) fun l90 o91 => RdL (rdc s86 l90 o91 5) fun g92 => ACallV Tryz.prog a4 [(.agg g89), (.agg g92)] s86 fun v93 s94 => ∃ n95 : Int, v93 = .int .i64 n95 ∧ (bsplit (!(decide ((n95 : Int) < 0)))
 (∃ m', m' < m84 ∧ I82 m' [(.int .i64 (IntKind.wrap .i64 (n85 - 1)))] s94)
 (J67 [(.int .i64 n85)] s94))) (J67 [(.int .i64 n85)] s86))) ∧
 (LoopQ fun I96 m97 => I96 m97 [(.int .i64 n61)] s63 ∧
 ∀ m98 : Nat, ∀ n99 : Int, ∀ s100 : AS, I96 m98 [(.int .i64 n99)] s100 →
 bsplit (decide ((n99 : Int) ≤ n62)) (IxQ (aindexAddr T Y_s_Item a0 (.int .i64 n99)) fun l101 o102 => RdL (rdc s100 l101 o102 5) fun g103 => IxQ (aindexAddr T Y_s_Item a0 (.int .i64 a1)) fun l104 o105 => RdL (rdc s100 l104 o105 5) fun g106 => ACallV Tryz.prog a4 [(.agg g103), (.agg g106)] s100 fun v107 s108 => ∃ n109 : Int, v107 = .int .i64 n109 ∧ (bsplit (decide ((n109 : Int) < 0))
 (∃ m', m' < m98 ∧ I96 m' [(.int .i64 (IntKind.wrap .i64 (n99 + 1)))] s108)
 (J64 [(.int .i64 n99)] s108))) (J64 [(.int .i64 n99)] s100))))))) ∧
 (LoopQ fun I110 m111 => I110 m111 [(.int .i64 (IntKind.wrap .i64 (a2 - 1)))] s15 ∧
 ∀ m112 : Nat, ∀ n113 : Int, ∀ s114 : AS, I110 m112 [(.int .i64 n113)] s114 →
 bsplit (decide ((n14 : Int) ≤ n113)) (IxQ (aindexAddr T Y_s_Item a0 (.int .i64 n113)) fun l115 o116 => RdL (rdc s114 l115 o116 5) fun g117 => IxQ (aindexAddr T Y_s_Item a0 (.int .i64 a1)) fun l118 o119 => RdL (rdc s114 l118 o119 5) fun g120 => ACallV Tryz.prog a4 [(.agg g117), (.agg g120)] s114 fun v121 s122 => ∃ n123 : Int, v121 = .int .i64 n123 ∧ (bsplit (!(decide ((n123 : Int) < 0)))
 (∃ m', m' < m112 ∧ I110 m' [(.int .i64 (IntKind.wrap .i64 (n113 - 1)))] s122)
 (J16 [(.int .i64 n113)] s122))) (J16 [(.int .i64 n113)] s114))) ∧
 (LoopQ fun I124 m125 => I124 m125 [(.int .i64 (IntKind.wrap .i64 (a1 + 1)))] s12 ∧
 ∀ m126 : Nat, ∀ n127 : Int, ∀ s128 : AS, I124 m126 [(.int .i64 n127)] s128 →
 bsplit (decide ((n127 : Int) ≤ (IntKind.wrap .i64 (a2 - 1)))) (IxQ (aindexAddr T Y_s_Item a0 (.int .i64 n127)) fun l129 o130 => RdL (rdc s128 l129 o130 5) fun g131 => IxQ (aindexAddr T Y_s_Item a0 (.int .i64 a1)) fun l132 o133 => RdL (rdc s128 l132 o133 5) fun g134 => ACallV Tryz.prog a4 [(.agg g131), (.agg g134)] s128 fun v135 s136 => ∃ n137 : Int, v135 = .int .i64 n137 ∧ (bsplit (decide ((n137 : Int) < 0))
 (∃ m', m' < m126 ∧ I124 m' [(.int .i64 (IntKind.wrap .i64 (n127 + 1)))] s136)
 (J13 [(.int .i64 n127)] s136))) (J13 [(.int .i64 n127)] s128))))

def A_slices_partitionCmpFunc__Item : QA := (.seq .leaf (.seq .calm (.seq .leaf (.join [(12, .int .i64)] [(12, 12), (32, 49)] (.wrap (.loop [(12, .int .i64)] [(12, 12), (32, 49)] (.seq (.seq (.draw 13) (.cond .leaf .leaf)) (.wrap .leaf)))) (.join [(13, .int .i64)] [(13, 13), (50, 68)] (.wrap (.loop [(13, .int .i64)] [(13, 13), (50, 68)] (.seq (.seq (.draw 13) (.cond .leaf .leaf)) (.wrap .leaf)))) (.seq (.seq .leaf (.cond (.seq .calm (.seq .leaf .leaf)) .leaf)) (.seq .calm (.seq .leaf (.seq .leaf (.join [(13, .int .i64)] [(12, 13), (105, 162)] (.wrap (.loop [(12, .int .i64), (13, .int .i64)] [(12, 13), (105, 162)] (.wrap (.join [(12, .int .i64)] [(12, 12), (105, 122)] (.wrap (.loop [(12, .int .i64)] [(12, 12), (105, 122)] (.seq (.seq (.draw 13) (.cond .leaf .leaf)) (.wrap .leaf)))) (.join [(13, .int .i64)] [(13, 13), (123, 141)] (.wrap (.loop [(13, .int .i64)] [(13, 13), (123, 141)] (.seq (.seq (.draw 13) (.cond .leaf .leaf)) (.wrap .leaf)))) (.seq (.seq .leaf (.cond .leaf .leaf)) (.seq .calm (.seq .leaf .leaf)))))))) (.seq .calm (.seq .leaf .leaf))))))))))))

theorem q_slices_partitionCmpFunc__Item (a0 : AV) (a1 : Int) (a2 : Int) (a3 : Int) (a4 : AV) (s : AS) (R : AV → AS → Prop) (h : Q_slices_partitionCmpFunc__Item a0 a1 a2 a3 a4 s R) : ACalls Tryz.prog F_slices_partitionCmpFunc__Item [a0, (.int .i64 a1), (.int .i64 a2), (.int .i64 a3), a4] s R :=
  ACalls.q (n := 178) (rs := [.tmp 10, .tmp 11]) (A := A_slices_partitionCmpFunc__Item) hT hmx Tryz.func176 (by kernel_rfl) rfl rfl rfl (by kernel_rfl) (by kernel_rfl) h

/-- what slices.siftDownCmpFunc[minster/api.Item] asks -/
def Q_slices_siftDownCmpFunc__Item (a0 : AV) (a1 : Int) (a2 : Int) (a3 : Int) (a4 : AV) (s : AS) (R : AV → AS → Prop) : Prop :=
 LoopQ fun I1 m2 => I1 m2 [(.int .i64 a1)] s ∧
 ∀ m3 : Nat, ∀ n4 : Int, ∀ s5 : AS, I1 m3 [(.int .i64 n4)] s5 →
 bsplit (decide ((IntKind.wrap .i64 ((IntKind.wrap .i64 (2 * n4)) + 1) : Int) ≥ a2))
 (R (.tup []) s5)
 (JoinQ fun J6 =>
 (∀ n7 : Int, ∀ s8 : AS, J6 [(.int .i64 n7)] s8 →
 IxQ (aindexAddr T Y_s_Item a0 (.int .i64 (IntKind.wrap .i64 (a3 + n4)))) fun l9 o10 => RdL (rdc s8 l9 o10 5) fun g11 => IxQ (aindexAddr T Y_s_Item a0 (.int .i64 (IntKind.wrap .i64 (a3 + n7)))) fun l12 o13 => RdL (rdc s8 l12 o13 5) fun g14 => ACallV Tryz.prog a4 [(.agg g11), (.agg g14)] s8 fun v15 s16 => ∃ n17 : Int, v15 = .int .i64 n17 ∧ (bsplit (!(decide ((n17 : Int) < 0)))
 (R (.tup []) s16)
 (IxQ (aindexAddr T Y_s_Item a0 (.int .i64 (IntKind.wrap .i64 (a3 + n7)))) fun l18 o19 => RdL (rdc s16 l18 o19 5) fun g20 => IxQ (aindexAddr T Y_s_Item a0 (.int .i64 (IntKind.wrap .i64 (a3 + n4)))) fun l21 o22 => RdL (rdc s16 l21 o22 5) fun g23 => IxQ (aindexAddr T Y_s_Item a0 (.int .i64 (IntKind.wrap .i64 (a3 + n4)))) fun l24 o25 => OkC (some 5) g20 (StQ (awr s16 l24 o25 g20) fun s26 => IxQ (aindexAddr T Y_s_Item a0 (.int .i64 (IntKind.wrap .i64 (a3 + n7)))) fun l27 o28 => OkC (some 5) g23 (StQ (awr s26 l27 o28 g23) fun s29 => ∃ m', m' < m3 ∧ I1 m' [(.int .i64 n7)] s29))))) ∧
 (JoinQ fun J30 =>
 (∀ b31 : Bool, ∀ s32 : AS, J30 [(.bool b31)] s32 →
 bsplit b31
 (J6 [(.int .i64 (IntKind.wrap .i64 ((IntKind.wrap .i64 ((IntKind.wrap .i64 (2 * n4)) + 1)) + 1)))] s32)
 (J6 [(.int .i64 (IntKind.wrap .i64 ((IntKind.wrap .i64 (2 * n4)) + 1)))] s32)) ∧
 (bsplit (decide ((IntKind.wrap .i64 ((IntKind.wrap .i64 ((IntKind.wrap .i64 (2 * n4)) + 1)) + 1) : Int) < a2)) (IxQ (aindexAddr T Y_s_Item a0 (.int .i64 (IntKind.wrap .i64 (a3 + (IntKind.wrap .i64 ((IntKind.wrap .i64 (2 * n4)) + 1)))))) fun l33 o34 => RdL (rdc s5 l33 o34 5) fun g35 => IxQ (aindexAddr T Y_s_Item a0 (.int .i64 (IntKind.wrap .i64 ((IntKind.wrap .i64 (a3 + (IntKind.wrap .i64 ((IntKind.wrap .i64 (2 * n4)) + 1)))) + 1)))) fun l36 o37 => RdL (rdc s5 l36 o37 5) fun g38 => ACallV Tryz.prog a4 [(.agg g35), (.agg g38)] s5 fun v39 s40 => ∃ n41 : Int, v39 = .int .i64 n41 ∧ (J30 [(.bool (decide ((n41 : Int) < 0)))] s40)) (J30 [(.bool false)] s5))))

def A_slices_siftDownCmpFunc__Item : QA := (.seq .leaf (.wrap (.loop [(10, .int .i64)] [(10, 11), (13, 81)] (.wrap (.seq .leaf (.seq (.seq .leaf (.cond .leaf .leaf)) (.join [(11, .int .i64)] [(11, 11), (19, 42)] (.join [(40, .bool)] [(19, 40)] (.draw 19) (.cond .leaf .leaf)) (.seq (.seq (.draw 13) (.cond .leaf .leaf)) (.seq .calm .leaf)))))))))

theorem q_slices_siftDownCmpFunc__Item (a0 : AV) (a1 : Int) (a2 : Int) (a3 : Int) (a4 : AV) (s : AS) (R : AV → AS → Prop) (h : Q_slices_siftDownCmpFunc__Item a0 a1 a2 a3 a4 s R) : ACalls Tryz.prog F_slices_siftDownCmpFunc__Item [a0, (.int .i64 a1), (.int .i64 a2), (.int .i64 a3), a4] s R :=
  ACalls.q (n := 82) (rs := []) (A := A_slices_siftDownCmpFunc__Item) hT hmx Tryz.func197 (by kernel_rfl) rfl rfl rfl (by kernel_rfl) (by kernel_rfl) h

/-- what slices.medianAdjacentCmpFunc[minster/api.Item] asks -/
def Q_slices_medianAdjacentCmpFunc__Item (a0 : AV) (a1 : Int) (a2 : Option (Nat × Nat)) (a3 : AV) (s : AS) (R : AV → AS → Prop) : Prop :=
 ACalls Tryz.prog F_slices_medianCmpFunc__Item [a0, (.int .i64 (IntKind.wrap .i64 (a1 - 1))), (.int .i64 a1), (.int .i64 (IntKind.wrap .i64 (a1 + 1))), (.ptr a2), a3] s fun v1 s2 => ∃ n3 : Int, v1 = .int .i64 n3 ∧ (R (.int .i64 n3) s2)

def A_slices_medianAdjacentCmpFunc__Item : QA := (.seq .leaf (.seq .leaf .leaf))

theorem q_slices_medianAdjacentCmpFunc__Item (a0 : AV) (a1 : Int) (a2 : Option (Nat × Nat)) (a3 : AV) (s : AS) (R : AV → AS → Prop) (h : Q_slices_medianAdjacentCmpFunc__Item a0 a1 a2 a3 s R) : ACalls Tryz.prog F_slices_medianAdjacentCmpFunc__Item [a0, (.int .i64 a1), (.ptr a2), a3] s R :=
  ACalls.q (n := 18) (rs := [.tmp 8]) (A := A_slices_medianAdjacentCmpFunc__Item) hT hmx Tryz.func200 (by kernel_rfl) rfl rfl rfl (by kernel_rfl) (by kernel_rfl) h

/-- what slices.medianCmpFunc[minster/api.Item] asks -/
def Q_slices_medianCmpFunc__Item (a0 : AV) (a1 : Int) (a2 : Int) (a3 : Int) (a4 : Option (Nat × Nat)) (a5 : AV) (s : AS) (R : AV → AS → Prop) : Prop :=
 ACalls Tryz.prog F_slices_order2CmpFunc__Item [a0, (.int .i64 a1), (.int .i64 a2), (.ptr a4), a5] s fun v1 s2 => ∃ n3 : Int, ∃ n4 : Int, v1 = .tup [(.int .i64 n3), (.int .i64 n4)] ∧ (ACalls Tryz.prog F_slices_order2CmpFunc__Item [a0, (.int .i64 n4), (.int .i64 a3), (.ptr a4), a5] s2 fun v5 s6 => ∃ n7 : Int, ∃ n8 : Int, v5 = .tup [(.int .i64 n7), (.int .i64 n8)] ∧ (ACalls Tryz.prog F_slices_order2CmpFunc__Item [a0, (.int .i64 n3), (.int .i64 n7), (.ptr a4), a5] s6 fun v9 s10 => ∃ n11 : Int, ∃ n12 : Int, v9 = .tup [(.int .i64 n11), (.int .i64 n12)] ∧ (R (.int .i64 n12) s10)))

def A_slices_medianCmpFunc__Item : QA := (.seq .leaf (.seq .leaf (.seq .leaf (.seq .leaf (.seq .leaf .leaf)))))

theorem q_slices_medianCmpFunc__Item (a0 : AV) (a1 : Int) (a2 : Int) (a3 : Int) (a4 : Option (Nat × Nat)) (a5 : AV) (s : AS) (R : AV → AS → Prop) (h : Q_slices_medianCmpFunc__Item a0 a1 a2 a3 a4 a5 s R) : ACalls Tryz.prog F_slices_medianCmpFunc__Item [a0, (.int .i64 a1), (.int .i64 a2), (.int .i64 a3), (.ptr a4), a5] s R :=
  ACalls.q (n := 41) (rs := [.tmp 12]) (A := A_slices_medianCmpFunc__Item) hT hmx Tryz.func201 (by kernel_rfl) rfl rfl rfl (by kernel_rfl) (by kernel_rfl) h

/-- what slices.order2CmpFunc[minster/api.Item] asks -/
def Q_slices_order2CmpFunc__Item (a0 : AV) (a1 : Int) (a2 : Int) (a3 : Option (Nat × Nat)) (a4 : AV) (s : AS) (R : AV → AS → Prop) : Prop :=
 IxQ (aindexAddr T Y_s_Item a0 (.int .i64 a2)) fun l1 o2 => RdL (rdc s l1 o2 5) fun g3 => IxQ (aindexAddr T Y_s_Item a0 (.int .i64 a1)) fun l4 o5 => RdL (rdc s l4 o5 5) fun g6 => ACallV Tryz.prog a4 [(.agg g3), (.agg g6)] s fun v7 s8 => ∃ n9 : Int, v7 = .int .i64 n9 ∧ (bsplit (decide ((n9 : Int) < 0))
 (AsSome a3 fun l10 o11 => RdI .i64 (rd1 s8 l10 o11) fun n12 => AsSome a3 fun l13 o14 => StQ (awr s8 l13 o14 [(.int .i64 (IntKind.wrap .i64 (n12 + 1)))]) fun s15 => R (.tup [(.int .i64 a2), (.int .i64 a1)]) s15)
 (R (.tup [(.int .i64 a1), (.int .i64 a2)]) s8))

def A_slices_order2CmpFunc__Item : QA := (.seq .leaf (.seq (.seq (.draw 9) (.cond (.seq .leaf (.seq .leaf .leaf)) .leaf)) (.seq .leaf .leaf)))

theorem q_slices_order2CmpFunc__Item (a0 : AV) (a1 : Int) (a2 : Int) (a3 : Option (Nat × Nat)) (a4 : AV) (s : AS) (R : AV → AS → Prop) (h : Q_slices_order2CmpFunc__Item a0 a1 a2 a3 a4 s R) : ACalls Tryz.prog F_slices_order2CmpFunc__Item [a0, (.int .i64 a1), (.int .i64 a2), (.ptr a3), a4] s R :=
  ACalls.q (n := 32) (rs := [.tmp 10, .tmp 11]) (A := A_slices_order2CmpFunc__Item) hT hmx Tryz.func209 (by kernel_rfl) rfl rfl rfl (by kernel_rfl) (by kernel_rfl) h

end Go.Proofs.YtoklmpkpeanloaaGreat
end

section
set_option linter.unusedSimpArgs false
set_option linter.unusedVariables false
set_option linter.unusedSectionVars false
namespace Go.Proofs.YtoklmpkpeanloaaGreat.SI
open Go.Am Go.Minster2 Go.Minster.SI

/-- a comparison of dots -/
class CmpOk (cf : FuncId) : Prop where
  ok : ∀ (a b : Itm) (s : AS), ACalls Tryz.prog cf [.agg (itemC a), .agg (itemC b)] s fun v s' => v = .int .i64 (a.cmp b) ∧ Ext s s'
variable {cf : FuncId} [CmpOk cf]

/-- an array of dots that can be written, and the slice over its first part -/
structure Arr (s : AS) (a : AV) (lo : Nat) (l : List Itm) (rest : List AV) : Prop where
  val : ∃ c e, a = .slc (some (lo, 0)) l.length c e
  obj : ∃ g, s.h lo = some (.cells (l.flatMap itemC ++ rest) g false)
section
variable {s : AS} {a : AV} {lo : Nat} {l : List Itm} {rest : List AV}
theorem dots_len (l : List Itm) : (l.flatMap itemC).length = l.length * 5 := by
  induction l with
  | nil => rfl
  | cons x l ih => simp only [List.flatMap_cons, List.length_append, ih, itemC_len, List.length_cons]; omega
theorem Arr.mut {L : List Nat} {s' : AS} (h : Arr s a lo l rest) (m : Mut L s s') (hL : lo ∉ L) : Arr s' a lo l rest := by
  obtain ⟨h1, g, h2⟩ := h
  exact ⟨h1, g, m.1 _ _ hL h2⟩
theorem Arr.ext {s' : AS} (h : Arr s a lo l rest) (e : Ext s s') : Arr s' a lo l rest := h.mut (L := []) e.mut (by simp)
theorem Arr.ix (h : Arr s a lo l rest) {i : Nat} (hi : i < l.length) : aindexAddr T Y_s_Item a (.int .i64 (i : Nat)) = some (.ptr (some (lo, i * 5))) := by
  obtain ⟨⟨c, e, rfl⟩, _⟩ := h
  have : (0 : Int) ≤ (i : Int) ∧ (i : Int) < (l.length : Int) := by omega
  simp only [aindexAddr, u_s_Item, z_Item, Option.bind_some]
  rw [if_pos this]
  simp
theorem Arr.rd (h : Arr s a lo l rest) {i : Nat} (hi : i < l.length) : rdc s lo (i * 5) 5 = some (itemC (el l i)) := by
  obtain ⟨_, g, h2⟩ := h
  have hat : At s lo (l.flatMap itemC ++ rest) := ⟨_, _, h2⟩
  rw [hat.rdc (by rw [List.length_append, dots_len]; omega)]
  rw [List.drop_append_of_le_length (by rw [dots_len]; omega), List.take_append_of_le_length (by rw [List.length_drop, dots_len]; omega), flat_elem itemC_len (el_get hi)]
theorem flat_set : ∀ (l : List Itm) (i : Nat) (x : Itm) (rest : List AV), i < l.length → wrs (l.flatMap itemC ++ rest) (i * 5) (itemC x) = (l.set i x).flatMap itemC ++ rest
  | [], i, x, rest, h => by simp at h
  | d :: l, 0, x, rest, h => by simp [wrs, itemC]
  | d :: l, i + 1, x, rest, h => by
    have ih := flat_set l i x rest (by simpa using h)
    simp only [List.flatMap_cons, List.set_cons_succ, List.append_assoc, ← ih]
    simp only [wrs, itemC, Nat.add_mul, Nat.one_mul]
    simp
theorem Arr.wr (h : Arr s a lo l rest) (hw : WFs s) {i : Nat} (hi : i < l.length) (x : Itm) {K : AS → Prop} (hk : ∀ s', Arr s' a lo (l.set i x) rest → WFs s' → Mut [lo] s s' → K s') : OkC (some 5) (itemC x) (StQ (awr s lo (i * 5) (itemC x)) K) := by
  obtain ⟨h1, g, h2⟩ := h
  refine ⟨⟨rfl, rfl⟩, StQ.awr hw h2 (by rw [List.length_append, dots_len, itemC_len]; omega) fun s' P => hk s' ⟨?_, g, ?_⟩ P.wf P.mut⟩
  · rw [List.length_set]; exact h1
  · rw [P.at, flat_set l i x rest hi]
/-- data[i], data[j] = data[j], data[i] -/
theorem Arr.swap (h : Arr s a lo l rest) (hw : WFs s) {i j : Nat} (hi : i < l.length) (hj : j < l.length) {K : AS → Prop} (hk : ∀ s', Arr s' a lo (swp l i j) rest → WFs s' → Mut [lo] s s' → K s') :
    IxQ (aindexAddr T Y_s_Item a (.int .i64 (j : Nat))) fun l20 o21 => RdL (rdc s l20 o21 5) fun g22 => IxQ (aindexAddr T Y_s_Item a (.int .i64 (i : Nat))) fun l23 o24 => RdL (rdc s l23 o24 5) fun g25 => IxQ (aindexAddr T Y_s_Item a (.int .i64 (i : Nat))) fun l26 o27 => OkC (some 5) g22 (StQ (awr s l26 o27 g22) fun s28 => IxQ (aindexAddr T Y_s_Item a (.int .i64 (j : Nat))) fun l29 o30 => OkC (some 5) g25 (StQ (awr s28 l29 o30 g25) fun s31 => K s31)) :=
  ⟨_, _, h.ix hj, _, h.rd hj, _, _, h.ix hi, _, h.rd hi, _, _, h.ix hi, h.wr hw hi _ fun s1 h1 w1 m1 =>
    ⟨_, _, h1.ix (by simpa using hj), h1.wr w1 (by simpa using hj) _ fun s2 h2 w2 m2 => hk s2 h2 w2 (m1.trans m2)⟩⟩
/-- cmp(data[i], data[j]) -/
theorem Arr.cmp (h : Arr s a lo l rest) {i j : Nat} (hi : i < l.length) (hj : j < l.length) {K : Int → AS → Prop} (hk : ∀ s', Arr s' a lo l rest → WFs s' → Mut [lo] s s' → K ((el l i).cmp (el l j)) s') :
    IxQ (aindexAddr T Y_s_Item a (.int .i64 (i : Nat))) fun l11 o12 => RdL (rdc s l11 o12 5) fun g13 => IxQ (aindexAddr T Y_s_Item a (.int .i64 (j : Nat))) fun l14 o15 => RdL (rdc s l14 o15 5) fun g16 => ACallV Tryz.prog (.func cf []) [(.agg g13), (.agg g16)] s fun v17 s18 => ∃ n19 : Int, v17 = .int .i64 n19 ∧ K n19 s18 := by
  refine ⟨_, _, h.ix hi, _, h.rd hi, _, _, h.ix hj, _, h.rd hj, ?_⟩
  refine ACalls.use (CmpOk.ok _ _ _) ?_
  rintro v s' ⟨rfl, e⟩ hw
  exact ⟨_, rfl, hk s' (h.ext e) hw e.mut⟩
end

theorem insSort_ok {s : AS} {a : AV} {lo : Nat} {l : List Itm} {rest : List AV} {x y : Nat} (h : Arr s a lo l rest) (hxy : x ≤ y) (hy : y ≤ l.length) (hn : l.length ≤ 2 ^ 40) :
    ACalls Tryz.prog F_slices_insertionSortCmpFunc__Item [a, .int .i64 (x : Nat), .int .i64 (y : Nat), .func cf []] s fun r s' => r = .tup [] ∧ ∃ l', Arr s' a lo l' rest ∧ Sw x y l l' ∧ Srt l' x y ∧ Mut [lo] s s' := by
  refine ACalls.pre fun hw => q_slices_insertionSortCmpFunc__Item _ _ _ _ _ _ ⟨fun m vs s' => ∃ (i : Nat) (l' : List Itm), vs = [.int .i64 (i : Nat)] ∧ x + 1 ≤ i ∧ (i ≤ y ∨ i = x + 1) ∧ m = y - i ∧ Arr s' a lo l' rest ∧ WFs s' ∧ Sw x y l l' ∧ Srt l' x i ∧ Mut [lo] s s', y - (x + 1), ⟨x + 1, l, by rw [wrap_i (by omega)]; rfl, by omega, .inr rfl, rfl, h, hw, .refl _, fun p q h1 h2 h3 => by omega, Mut.refl _ _⟩, ?_⟩
  rintro m n s5 ⟨i, l1, hi, hxi, hiy, rfl, a5, w5, sw5, so5, m5⟩
  simp only [List.cons.injEq, AV.int.injEq, true_and, and_true] at hi
  subst hi
  have hl1 := sw5.len
  refine bsplit.dec (fun hlt => ?_) (fun hge => ⟨rfl, l1, a5, sw5, fun p q h1 h2 h3 => so5 p q h1 h2 (by omega), m5⟩)
  have fin : ∀ s' l', Arr s' a lo l' rest → WFs s' → Sw x y l l' → Srt l' x (i + 1) → Mut [lo] s s' → ∃ m', m' < y - i ∧ ∃ (k : Nat) (l' : List Itm), [AV.int .i64 (IntKind.wrap .i64 ((i : Int) + 1))] = [.int .i64 (k : Nat)] ∧ x + 1 ≤ k ∧ (k ≤ y ∨ k = x + 1) ∧ m' = y - k ∧ Arr s' a lo l' rest ∧ WFs s' ∧ Sw x y l l' ∧ Srt l' x k ∧ Mut [lo] s s' :=
    fun s' l' h1 h2 h3 h4 h5 => ⟨y - (i + 1), by omega, i + 1, l', by rw [wrap_i (by omega)]; rfl, by omega, .inl (by omega), rfl, h1, h2, h3, h4, h5⟩
  refine ⟨fun m vs s' => ∃ (j : Nat) (l' : List Itm), vs = [.int .i64 (j : Nat)] ∧ x ≤ j ∧ j ≤ i ∧ m = j - x ∧ Arr s' a lo l' rest ∧ WFs s' ∧ Sw x y l l' ∧ (∀ p q, x ≤ p → p < q → q ≤ i → q ≠ j → (el l' p).le (el l' q)) ∧ Mut [lo] s s', i - x, ⟨i, l1, rfl, by omega, by omega, rfl, a5, w5, sw5, fun p q h1 h2 h3 h4 => so5 p q h1 h2 (by omega), m5⟩, ?_⟩
  rintro m n s10 ⟨j, l2, hj, hxj, hji, rfl, a10, w10, sw10, so10, m10⟩
  simp only [List.cons.injEq, AV.int.injEq, true_and, and_true] at hj
  subst hj
  have hl2 := sw10.len
  refine bsplit.dec (fun hgt => ?_) (fun hle => fin _ l2 a10 w10 sw10 (ins_end hxj hji (.inl (by omega)) so10) m10)
  rw [wrap_i (by omega), show (j : Int) - 1 = ((j - 1 : Nat) : Int) by omega]
  refine a10.cmp (by omega) (by omega) fun s18 a18 w18 m18 => bsplit.dec (fun hc => ?_) (fun hc => fin _ l2 a18 w18 sw10 (ins_end hxj hji (.inr (Itm.nlt_le (by rw [← Itm.cmp_lt]; exact hc))) so10) (m10.trans m18))
  rw [Itm.cmp_lt] at hc
  refine a18.swap w18 (by omega) (by omega) fun s31 a31 w31 m31 => ⟨j - 1 - x, by omega, j - 1, _, rfl, by omega, by omega, rfl, a31, w31, .step sw10 ⟨by omega, by omega⟩ ⟨by omega, by omega⟩ (by omega), ins_step (by omega) (by omega) hji hc so10, (m10.trans m18).trans m31⟩
end Go.Proofs.YtoklmpkpeanloaaGreat.SI
end

section
set_option linter.unusedSimpArgs false
set_option linter.unusedVariables false
set_option linter.unusedSectionVars false
namespace Go.Proofs.YtoklmpkpeanloaaGreat.SI
open Go.Am Go.Minster2 Go.Minster.SI
variable {cf : FuncId} [CmpOk cf]

theorem wadd {x y : Nat} (h : x + y ≤ 4611686018427387904) : IntKind.wrap .i64 ((x : Int) + (y : Int)) = ((x + y : Nat) : Int) := by rw [wrap_i (by omega)]; omega
theorem wadd1 {x : Nat} (h : x + 1 ≤ 4611686018427387904) : IntKind.wrap .i64 ((x : Int) + 1) = ((x + 1 : Nat) : Int) := by rw [wrap_i (by omega)]; omega
theorem wsub {x y : Nat} (h : y ≤ x) (h' : x ≤ 4611686018427387904) : IntKind.wrap .i64 ((x : Int) - (y : Int)) = ((x - y : Nat) : Int) := by rw [wrap_i (by omega)]; omega
theorem wsub1 {x : Nat} (h : 1 ≤ x) (h' : x ≤ 4611686018427387904) : IntKind.wrap .i64 ((x : Int) - 1) = ((x - 1 : Nat) : Int) := by rw [wrap_i (by omega)]; omega
theorem wmul2 {x : Nat} (h : 2 * x ≤ 4611686018427387904) : IntKind.wrap .i64 (2 * (x : Int)) = ((2 * x : Nat) : Int) := by rw [wrap_i (by omega)]; omega
theorem tdivN (x k : Nat) : Int.tdiv (x : Int) (k : Int) = ((x / k : Nat) : Int) := rfl
theorem wid {x : Nat} (h : x ≤ 4611686018427387904) : IntKind.wrap .i64 (x : Int) = (x : Int) := wrap_i (by omega)

theorem siftDown_ok {s : AS} {a : AV} {lo : Nat} {l : List Itm} {rest : List AV} {k n f : Nat} (h : Arr s a lo l rest) (hl : f + n ≤ l.length) (hn : l.length ≤ 2 ^ 40) (hk : k ≤ 2 ^ 40) (hh : Heap l f n (k + 1)) :
    ACalls Tryz.prog F_slices_siftDownCmpFunc__Item [a, .int .i64 (k : Nat), .int .i64 (n : Nat), .int .i64 (f : Nat), .func cf []] s fun r s' => r = .tup [] ∧ ∃ l', Arr s' a lo l' rest ∧ Sw f (f + n) l l' ∧ Heap l' f n k ∧ Mut [lo] s s' := by
  refine ACalls.pre fun hw => q_slices_siftDownCmpFunc__Item _ _ _ _ _ _ _ ⟨fun m vs s' => ∃ (root : Nat) (l' : List Itm), vs = [.int .i64 (root : Nat)] ∧ root ≤ n + k ∧ m = n + k - root ∧ Arr s' a lo l' rest ∧ WFs s' ∧ Sw f (f + n) l l' ∧ Sift l' f n k root ∧ Mut [lo] s s', n + k - k, ⟨k, l, rfl, by omega, rfl, h, hw, .refl _, hh.sift, Mut.refl _ _⟩, ?_⟩
  rintro m n4 s5 ⟨root, l1, hi, hrt, rfl, a5, w5, sw5, sf5, m5⟩
  simp only [List.cons.injEq, AV.int.injEq, true_and, and_true] at hi
  subst hi
  have hl1 := sw5.len
  rw [wmul2 (by omega), wadd1 (by omega)]
  refine bsplit.dec (fun hge => ⟨rfl, l1, a5, sw5, sf5.done fun c h0 hc hp => by omega, m5⟩) (fun hlt => ?_)
  refine ⟨fun vs s' => ∃ child : Nat, vs = [.int .i64 (child : Nat)] ∧ (child = 2 * root + 1 ∨ child = 2 * root + 2) ∧ child < n ∧ Arr s' a lo l1 rest ∧ WFs s' ∧ Mut [lo] s s' ∧ (∀ c, 0 < c → c < n → (c - 1) / 2 = root → (el l1 (f + c)).le (el l1 (f + child))), ?_, ?_⟩
  · rintro n7 s8 ⟨child, hc, hch, hcn, a8, w8, m8, hmax⟩
    simp only [List.cons.injEq, AV.int.injEq, true_and, and_true] at hc
    subst hc
    rw [wadd (by omega), wadd (by omega)]
    refine a8.cmp (by omega) (by omega) fun s16 a16 w16 m16 => ?_
    refine bsplit.mk (fun hc => ?_) (fun hc => ?_)
    · have hle := Itm.nlt_le (show ¬ (el l1 (f + root)).lt (el l1 (f + child)) = true by rw [← Itm.cmp_lt]; simpa using hc)
      exact ⟨rfl, l1, a16, sw5, sf5.done fun c h0 hc hp => Itm.le_trans (hmax c h0 hc hp) hle, m8.trans m16⟩
    · have hlt2 : (el l1 (f + root)).lt (el l1 (f + child)) = true := by rw [← Itm.cmp_lt]; simpa using hc
      refine a16.swap w16 (by omega) (by omega) fun s29 a29 w29 m29 => ⟨n + k - child, by omega, child, _, rfl, by omega, rfl, a29, w29, .step sw5 ⟨by omega, by omega⟩ ⟨by omega, by omega⟩ (by omega), sf5.step (by omega) hch hcn hlt2 hmax, (m8.trans m16).trans m29⟩
  · refine ⟨fun vs s' => ∃ t, vs = [.bool t] ∧ Arr s' a lo l1 rest ∧ WFs s' ∧ Mut [lo] s s' ∧ (t = true → 2 * root + 2 < n ∧ (el l1 (f + (2 * root + 1))).lt (el l1 (f + (2 * root + 2))) = true) ∧ (t = false → 2 * root + 2 < n → (el l1 (f + (2 * root + 2))).le (el l1 (f + (2 * root + 1)))), ?_, ?_⟩
    · rintro b s32 ⟨t, ht, a32, w32, m32, h1, h2⟩
      simp only [List.cons.injEq, AV.bool.injEq, and_true] at ht
      subst ht
      refine bsplit.mk (fun hb => ?_) (fun hb => ?_)
      · obtain ⟨h3, h4⟩ := h1 hb
        rw [wadd1 (by omega)]
        refine ⟨2 * root + 2, rfl, .inr rfl, h3, a32, w32, m32, fun c h0 hc hp => ?_⟩
        rcases (show c = 2 * root + 1 ∨ c = 2 * root + 2 by omega) with rfl | rfl
        · exact Itm.lt_le h4
        · exact Itm.le_refl _
      · refine ⟨2 * root + 1, rfl, .inl rfl, by omega, a32, w32, m32, fun c h0 hc hp => ?_⟩
        rcases (show c = 2 * root + 1 ∨ c = 2 * root + 2 by omega) with rfl | rfl
        · exact Itm.le_refl _
        · exact h2 hb hc
    · rw [wadd1 (by omega)]
      refine bsplit.dec (fun hlt2 => ?_) (fun hge => ⟨false, rfl, a5, w5, m5, by simp, fun _ h => by omega⟩)
      rw [wadd (by omega), wadd1 (by omega)]
      refine a5.cmp (by omega) (by omega) fun s40 a40 w40 m40 => ⟨_, rfl, a40, w40, m5.trans m40, fun h => ⟨by omega, ?_⟩, fun h _ => ?_⟩
      · have := of_decide_eq_true h
        rw [Itm.cmp_lt] at this
        exact this
      · have := of_decide_eq_false h
        rw [Itm.cmp_lt] at this
        exact Itm.nlt_le this

theorem heapSort_ok {s : AS} {a : AV} {lo : Nat} {l : List Itm} {rest : List AV} {x y : Nat} (h : Arr s a lo l rest) (hxy : x < y) (hy : y ≤ l.length) (hn : l.length ≤ 2 ^ 40) :
    ACalls Tryz.prog F_slices_heapSortCmpFunc__Item [a, .int .i64 (x : Nat), .int .i64 (y : Nat), .func cf []] s fun r s' => r = .tup [] ∧ ∃ l', Arr s' a lo l' rest ∧ Sw x y l l' ∧ Srt l' x y ∧ Mut [lo] s s' := by
  refine ACalls.pre fun hw => q_slices_heapSortCmpFunc__Item _ _ _ _ _ _ ⟨fun vs s' => ∃ l', Arr s' a lo l' rest ∧ WFs s' ∧ Sw x y l l' ∧ Heap l' x (y - x) 0 ∧ Mut [lo] s s', ?_, by decide, ?_⟩
  · rintro s2 ⟨l1, a2, w2, sw2, hp2, m2⟩
    have hl1 := sw2.len
    rw [wsub (by omega) (by omega), wsub1 (by omega) (by omega)]
    refine ⟨fun m vs s' => ∃ (i : Nat) (l' : List Itm), vs = [.int .i64 ((i : Int) - 1)] ∧ i ≤ y - x ∧ m = 2 * i ∧ Arr s' a lo l' rest ∧ WFs s' ∧ Sw x y l l' ∧ Heap l' x i 0 ∧ Tail l' x y i ∧ Mut [lo] s s', 2 * (y - x), ⟨y - x, l1, by congr 2; omega, by omega, rfl, a2, w2, sw2, hp2, fun p q _ _ _ _ => by omega, m2⟩, ?_⟩
    rintro m n6 s7 ⟨i, l2, hi, hiy, rfl, a7, w7, sw7, hp7, tl7, m7⟩
    simp only [List.cons.injEq, AV.int.injEq, true_and, and_true] at hi
    subst hi
    have hl2 := sw7.len
    refine bsplit.dec (fun hge => ?_) (fun hlt => ?_)
    · obtain ⟨j, rfl⟩ : ∃ j, i = j + 1 := ⟨i - 1, by omega⟩
      rw [show (((j + 1 : Nat) : Int) - 1) = (j : Int) by omega, wadd (by omega)]
      obtain ⟨t1, t2⟩ := tl7.swap (n := j) (by omega) (by omega) hp7
      refine a7.swap w7 (by omega) (by omega) fun s23 a23 w23 m23 => ?_
      have sw23 : Sw x y l (swp l2 x (x + j)) := .step sw7 ⟨by omega, by omega⟩ ⟨by omega, by omega⟩ (by omega)
      refine ACalls.use (siftDown_ok (k := 0) (n := j) (f := x) a23 (by rw [swp_len]; omega) (by rw [swp_len]; omega) (by omega) t2) ?_
      rintro r s25 ⟨rfl, l3, a25, sw25, hp25, m25⟩ w25
      refine ⟨rfl, 2 * j, by omega, j, l3, by rw [wrap_i' (by omega)], by omega, rfl, a25, w25, sw23.trans (sw25.widen (Nat.le_refl _) (by omega) (by rw [swp_len]; omega)), hp25, t1.sw sw25, (m7.trans m23).trans m25⟩
    · obtain rfl : i = 0 := by omega
      exact ⟨rfl, l2, a7, sw7, fun p q h1 h2 h3 => tl7 p q h1 h2 h3 (by omega), m7⟩
  · rw [wsub (by omega) (by omega), wsub1 (by omega) (by omega), show (2 : Int) = ((2 : Nat) : Int) by rfl, tdivN, wid (by omega)]
    refine ⟨fun m vs s' => ∃ (i : Nat) (l' : List Itm), vs = [.int .i64 ((i : Int) - 1)] ∧ i ≤ y - x ∧ m = 2 * i ∧ Arr s' a lo l' rest ∧ WFs s' ∧ Sw x y l l' ∧ Heap l' x (y - x) i ∧ Mut [lo] s s', 2 * ((y - x - 1) / 2 + 1), ⟨(y - x - 1) / 2 + 1, l, by congr 2; omega, by omega, rfl, h, hw, .refl _, fun c _ _ _ => by omega, Mut.refl _ _⟩, ?_⟩
    rintro m n29 s30 ⟨i, l2, hi, hiy, rfl, a30, w30, sw30, hp30, m30⟩
    simp only [List.cons.injEq, AV.int.injEq, true_and, and_true] at hi
    subst hi
    have hl2 := sw30.len
    refine bsplit.dec (fun hge => ?_) (fun hlt => ?_)
    · obtain ⟨j, rfl⟩ : ∃ j, i = j + 1 := ⟨i - 1, by omega⟩
      rw [show (((j + 1 : Nat) : Int) - 1) = (j : Int) by omega]
      refine ACalls.use (siftDown_ok (k := j) (n := y - x) (f := x) a30 (by omega) (by omega) (by omega) hp30) ?_
      rintro r s32 ⟨rfl, l3, a32, sw32, hp32, m32⟩ w32
      refine ⟨rfl, 2 * j, by omega, j, l3, by rw [wrap_i' (by omega)], by omega, rfl, a32, w32, sw30.trans (by rw [show x + (y - x) = y by omega] at sw32; exact sw32), hp32, m30.trans m32⟩
    · obtain rfl : i = 0 := by omega
      exact ⟨l2, a30, w30, sw30, hp30, m30⟩
end Go.Proofs.YtoklmpkpeanloaaGreat.SI
end

section
set_option linter.unusedSimpArgs false
set_option linter.unusedVariables false
set_option linter.unusedSectionVars false
namespace Go.Proofs.YtoklmpkpeanloaaGreat.SI
open Go.Am Go.Minster2 Go.Minster.SI
variable {cf : FuncId} [CmpOk cf]

theorem reverse_ok {s : AS} {a : AV} {lo : Nat} {l : List Itm} {rest : List AV} {x y : Nat} (h : Arr s a lo l rest) (hxy : x < y) (hy : y ≤ l.length) (hn : l.length ≤ 2 ^ 40) :
    ACalls Tryz.prog F_slices_reverseRangeCmpFunc__Item [a, .int .i64 (x : Nat), .int .i64 (y : Nat), .func cf []] s fun r s' => r = .tup [] ∧ ∃ l', Arr s' a lo l' rest ∧ Sw x y l l' ∧ Mut [lo] s s' := by
  refine ACalls.pre fun hw => q_slices_reverseRangeCmpFunc__Item _ _ _ _ _ _ ⟨fun m vs s' => ∃ (i j : Nat) (l' : List Itm), vs = [.int .i64 (i : Nat), .int .i64 (j : Nat)] ∧ x ≤ i ∧ j < y ∧ i ≤ j + 1 ∧ m = j + 1 - i ∧ Arr s' a lo l' rest ∧ WFs s' ∧ Sw x y l l' ∧ Mut [lo] s s', y - 1 + 1 - x, ⟨x, y - 1, l, by rw [wsub1 (by omega) (by omega)], by omega, by omega, by omega, rfl, h, hw, .refl _, Mut.refl _ _⟩, ?_⟩
  rintro m n4 n5 s6 ⟨i, j, l1, hij, hx, hj, hle, rfl, a6, w6, sw6, m6⟩
  simp only [List.cons.injEq, AV.int.injEq, true_and, and_true] at hij
  obtain ⟨rfl, rfl⟩ := hij
  have hl1 := sw6.len
  refine bsplit.dec (fun hlt => ?_) (fun hge => ⟨rfl, l1, a6, sw6, m6⟩)
  refine a6.swap w6 (by omega) (by omega) fun s18 a18 w18 m18 => ?_
  rw [wadd1 (by omega), wsub1 (by omega) (by omega)]
  exact ⟨j - 1 + 1 - (i + 1), by omega, i + 1, j - 1, _, rfl, by omega, by omega, by omega, rfl, a18, w18, .step sw6 ⟨by omega, by omega⟩ ⟨by omega, by omega⟩ (by omega), m6.trans m18⟩

/-- a partition in the making, in memory -/
structure PSt (L G : Itm → Itm → Prop) (s : AS) (a : AV) (lo : Nat) (rest : List AV) (l : List Itm) (x y : Nat) (s' : AS) (l' : List Itm) (i j : Nat) : Prop where
  arr : Arr s' a lo l' rest
  wf : WFs s'
  sw : Sw x y l l'
  prt : Prt L G l' x y i j
  chg : Mut [lo] s s'
theorem PSt.to {L G : Itm → Itm → Prop} {s : AS} {a : AV} {lo : Nat} {rest : List AV} {l : List Itm} {x y : Nat} {s' s'' : AS} {l' : List Itm} {i j i' j' : Nat} (h : PSt L G s a lo rest l x y s' l' i j) (ha : Arr s'' a lo l' rest) (hw : WFs s'') (m : Mut [lo] s' s'') (hp : Prt L G l' x y i' j') : PSt L G s a lo rest l x y s'' l' i' j' :=
  ⟨ha, hw, h.sw, hp, h.chg.trans m⟩

theorem partition_ok {s : AS} {a : AV} {lo : Nat} {l : List Itm} {rest : List AV} {x y p : Nat} (h : Arr s a lo l rest) (hp : x ≤ p ∧ p < y) (hy : y ≤ l.length) (hn : l.length ≤ 2 ^ 40) :
    ACalls Tryz.prog F_slices_partitionCmpFunc__Item [a, .int .i64 (x : Nat), .int .i64 (y : Nat), .int .i64 (p : Nat), .func cf []] s fun r s' => ∃ (m : Nat) (b : Bool) (l' : List Itm), r = .tup [.int .i64 (m : Nat), .bool b] ∧ Arr s' a lo l' rest ∧ Sw x y l l' ∧ Parted l' x y m ∧ Mut [lo] s s' := by
  refine ACalls.pre fun hw => q_slices_partitionCmpFunc__Item _ _ _ _ _ _ _ ?_
  refine h.swap hw (by omega) (by omega) fun s12 a12 w12 m12 => ?_
  have sw12 : Sw x y l (swp l x p) := .step (.refl _) ⟨by omega, by omega⟩ hp hy
  have fin : ∀ s' l' i j, PSt Lt Ge s a lo rest l x y s' l' i j → j < i → ∀ s'' , Arr s'' a lo (swp l' j x) rest → Mut [lo] s' s'' → ∀ b : Bool, ∃ (m : Nat) (b' : Bool) (l' : List Itm), AV.tup [.int .i64 (j : Nat), .bool b] = .tup [.int .i64 (m : Nat), .bool b'] ∧ Arr s'' a lo l' rest ∧ Sw x y l l' ∧ Parted l' x y m ∧ Mut [lo] s s'' := by
    intro s' l' i j st hij s'' a2 m2 b
    have := st.prt.ij
    have := st.prt.xi
    have := st.prt.jy
    have hl' := st.sw.len
    exact ⟨j, b, _, rfl, a2, .step st.sw ⟨by omega, by omega⟩ ⟨by omega, by omega⟩ (by omega), st.prt.fin (by omega) hij, st.chg.trans m2⟩
  have ngt : ∀ {u v : Itm}, ¬ u.cmp v < 0 → Ge u v := fun h => Itm.nlt_le (by rw [← Itm.cmp_lt]; exact h)
  have ylt : ∀ {u v : Itm}, u.cmp v < 0 → Lt u v := fun h => Itm.cmp_lt.1 h
  refine ⟨fun vs s' => ∃ (i : Nat) (l' : List Itm), vs = [.int .i64 (i : Nat)] ∧ PSt Lt Ge s a lo rest l x y s' l' i (y - 1) ∧ (i ≤ y - 1 → Ge (el l' i) (el l' x)), ?_, ?_⟩
  · rintro n14 s15 ⟨i, l1, hi, st15, g15⟩
    simp only [List.cons.injEq, AV.int.injEq, true_and, and_true] at hi
    subst hi
    have hl1 := st15.sw.len
    have hxi := st15.prt.xi
    have hiy := st15.prt.ij
    refine ⟨fun vs s' => ∃ j : Nat, vs = [.int .i64 (j : Nat)] ∧ PSt Lt Ge s a lo rest l x y s' l1 i j ∧ (i ≤ j → Lt (el l1 j) (el l1 x)), ?_, ?_⟩
    · rintro n17 s18 ⟨j, hj, st18, g18⟩
      simp only [List.cons.injEq, AV.int.injEq, true_and, and_true] at hj
      subst hj
      have hjy := st18.prt.jy
      have hij := st18.prt.ij
      refine bsplit.dec (fun hgt => ?_) (fun hle => ?_)
      · refine st18.arr.swap st18.wf (by omega) (by omega) fun s30 a30 w30 m30 => fin _ _ _ _ st18 (by omega) _ a30 m30 true
      · have hne : i ≠ j := by
          rintro rfl
          have h1 := g15 (by omega)
          have h2 := g18 (by omega)
          rw [Lt] at h2; rw [Ge, Itm.le] at h1
          rw [h1] at h2; cases h2
        refine st18.arr.swap st18.wf (by omega) (by omega) fun s42 a42 w42 m42 => ?_
        have st42 : PSt Lt Ge s a lo rest l x y s42 (swp l1 i j) (i + 1) (j - 1) := ⟨a42, w42, .step st18.sw ⟨by omega, by omega⟩ ⟨by omega, by omega⟩ (by omega), st18.prt.swap (by omega) (by omega) (g18 (by omega)) (g15 (by omega)), st18.chg.trans m42⟩
        refine ⟨fun vs s' => ∃ (i j : Nat) (l' : List Itm), vs = [.int .i64 (j : Nat)] ∧ j < i ∧ PSt Lt Ge s a lo rest l x y s' l' i j, ?_, ?_⟩
        · rintro n44 s45 ⟨i', j', l', hj', hij', st45⟩
          simp only [List.cons.injEq, AV.int.injEq, true_and, and_true] at hj'
          subst hj'
          have := st45.prt.jy
          have := st45.prt.xi
          have := st45.sw.len
          refine st45.arr.swap st45.wf (by omega) (by omega) fun s57 a57 w57 m57 => fin _ _ _ _ st45 hij' _ a57 m57 false
        · rw [wadd1 (by omega), wsub1 (by omega) (by omega)]
          refine ⟨fun m vs s' => ∃ (i j : Nat) (l' : List Itm), vs = [.int .i64 (i : Nat), .int .i64 (j : Nat)] ∧ m = j + 1 - i ∧ PSt Lt Ge s a lo rest l x y s' l' i j, _, ⟨i + 1, j - 1, _, rfl, rfl, st42⟩, ?_⟩
          rintro m n61 n62 s63 ⟨i2, j2, l2, hij2, rfl, st63⟩
          simp only [List.cons.injEq, AV.int.injEq, true_and, and_true] at hij2
          obtain ⟨rfl, rfl⟩ := hij2
          have hl2 := st63.sw.len
          have hx2 := st63.prt.xi
          have hjy2 := st63.prt.jy
          have hij2 := st63.prt.ij
          refine ⟨fun vs s' => ∃ (i : Nat), vs = [.int .i64 (i : Nat)] ∧ i2 ≤ i ∧ PSt Lt Ge s a lo rest l x y s' l2 i j2 ∧ (i ≤ j2 → Ge (el l2 i) (el l2 x)), ?_, ?_⟩
          · rintro n65 s66 ⟨i3, hi3, hi23, st66, g66⟩
            simp only [List.cons.injEq, AV.int.injEq, true_and, and_true] at hi3
            subst hi3
            have hx3 := st66.prt.xi
            have hij3 := st66.prt.ij
            refine ⟨fun vs s' => ∃ j : Nat, vs = [.int .i64 (j : Nat)] ∧ j ≤ j2 ∧ PSt Lt Ge s a lo rest l x y s' l2 i3 j ∧ (i3 ≤ j → Lt (el l2 j) (el l2 x)), ?_, ?_⟩
            · rintro n68 s69 ⟨j3, hj3, hj23, st69, g69⟩
              simp only [List.cons.injEq, AV.int.injEq, true_and, and_true] at hj3
              subst hj3
              have hjy3 := st69.prt.jy
              have hij4 := st69.prt.ij
              refine bsplit.dec (fun hgt => ⟨i3, j3, l2, rfl, by omega, st69⟩) (fun hle => ?_)
              have hne : i3 ≠ j3 := by
                rintro rfl
                have h1 := g66 (by omega)
                have h2 := g69 (by omega)
                rw [Lt] at h2; rw [Ge, Itm.le] at h1
                rw [h1] at h2; cases h2
              refine st69.arr.swap st69.wf (by omega) (by omega) fun s81 a81 w81 m81 => ?_
              rw [wadd1 (by omega), wsub1 (by omega) (by omega)]
              exact ⟨j3 - 1 + 1 - (i3 + 1), by omega, i3 + 1, j3 - 1, _, rfl, rfl, a81, w81, .step st69.sw ⟨by omega, by omega⟩ ⟨by omega, by omega⟩ (by omega), st69.prt.swap (by omega) (by omega) (g69 (by omega)) (g66 (by omega)), st69.chg.trans m81⟩
            · refine ⟨fun m vs s' => ∃ j : Nat, vs = [.int .i64 (j : Nat)] ∧ j ≤ j2 ∧ m = 2 * j ∧ PSt Lt Ge s a lo rest l x y s' l2 i3 j, 2 * j2, ⟨j2, rfl, by omega, rfl, st66⟩, ?_⟩
              rintro m n85 s86 ⟨j3, hj3, hj23, rfl, st86⟩
              simp only [List.cons.injEq, AV.int.injEq, true_and, and_true] at hj3
              subst hj3
              have hjy3 := st86.prt.jy
              refine bsplit.dec (fun hle => ?_) (fun hgt => ⟨j3, rfl, hj23, st86, fun h => by omega⟩)
              refine st86.arr.cmp (by omega) (by omega) fun s94 a94 w94 m94 => bsplit.mk (fun hc => ?_) (fun hc => ?_)
              · have hc' := ngt (by simpa using hc)
                rw [wsub1 (by omega) (by omega)]
                exact ⟨2 * (j3 - 1), by omega, j3 - 1, rfl, by omega, rfl, st86.to a94 w94 m94 (st86.prt.right (by omega) hc')⟩
              · have hc' := ylt (by simpa using hc)
                exact ⟨j3, rfl, hj23, st86.to a94 w94 m94 st86.prt, fun _ => hc'⟩
          · refine ⟨fun m vs s' => ∃ i : Nat, vs = [.int .i64 (i : Nat)] ∧ i2 ≤ i ∧ m = y - i ∧ PSt Lt Ge s a lo rest l x y s' l2 i j2, y - i2, ⟨i2, rfl, by omega, rfl, st63⟩, ?_⟩
            rintro m n99 s100 ⟨i3, hi3, hi23, rfl, st100⟩
            simp only [List.cons.injEq, AV.int.injEq, true_and, and_true] at hi3
            subst hi3
            have hx3 := st100.prt.xi
            refine bsplit.dec (fun hle => ?_) (fun hgt => ⟨i3, rfl, hi23, st100, fun h => by omega⟩)
            refine st100.arr.cmp (by omega) (by omega) fun s108 a108 w108 m108 => bsplit.dec (fun hc => ?_) (fun hc => ?_)
            · rw [wadd1 (by omega)]
              exact ⟨y - (i3 + 1), by omega, i3 + 1, rfl, by omega, rfl, st100.to a108 w108 m108 (st100.prt.left (by omega) (ylt hc))⟩
            · exact ⟨i3, rfl, hi23, st100.to a108 w108 m108 st100.prt, fun _ => ngt hc⟩
    · rw [wsub1 (by omega) (by omega)]
      refine ⟨fun m vs s' => ∃ j : Nat, vs = [.int .i64 (j : Nat)] ∧ m = 2 * j ∧ PSt Lt Ge s a lo rest l x y s' l1 i j, 2 * (y - 1), ⟨y - 1, rfl, rfl, st15⟩, ?_⟩
      rintro m n113 s114 ⟨j3, hj3, rfl, st114⟩
      simp only [List.cons.injEq, AV.int.injEq, true_and, and_true] at hj3
      subst hj3
      have hjy3 := st114.prt.jy
      refine bsplit.dec (fun hle => ?_) (fun hgt => ⟨j3, rfl, st114, fun h => by omega⟩)
      refine st114.arr.cmp (by omega) (by omega) fun s122 a122 w122 m122 => bsplit.mk (fun hc => ?_) (fun hc => ?_)
      · have hc' := ngt (by simpa using hc)
        rw [wsub1 (by omega) (by omega)]
        exact ⟨2 * (j3 - 1), by omega, j3 - 1, rfl, rfl, st114.to a122 w122 m122 (st114.prt.right (by omega) hc')⟩
      · have hc' := ylt (by simpa using hc)
        exact ⟨j3, rfl, st114.to a122 w122 m122 st114.prt, fun _ => hc'⟩
  · rw [wadd1 (by omega), wsub1 (by omega) (by omega)]
    refine ⟨fun m vs s' => ∃ i : Nat, vs = [.int .i64 (i : Nat)] ∧ m = y - i ∧ PSt Lt Ge s a lo rest l x y s' (swp l x p) i (y - 1), y - (x + 1), ⟨x + 1, rfl, rfl, a12, w12, sw12, Prt.start (by omega), m12⟩, ?_⟩
    rintro m n127 s128 ⟨i3, hi3, rfl, st128⟩
    simp only [List.cons.injEq, AV.int.injEq, true_and, and_true] at hi3
    subst hi3
    have hx3 := st128.prt.xi
    have hl3 := st128.sw.len
    refine bsplit.dec (fun hle => ?_) (fun hgt => ⟨i3, _, rfl, st128, fun h => by omega⟩)
    refine st128.arr.cmp (by omega) (by omega) fun s136 a136 w136 m136 => bsplit.dec (fun hc => ?_) (fun hc => ?_)
    · rw [wadd1 (by omega)]
      exact ⟨y - (i3 + 1), by omega, i3 + 1, rfl, rfl, st128.to a136 w136 m136 (st128.prt.left (by omega) (ylt hc))⟩
    · exact ⟨i3, _, rfl, st128.to a136 w136 m136 st128.prt, fun _ => ngt hc⟩
end Go.Proofs.YtoklmpkpeanloaaGreat.SI
end

section
set_option linter.unusedSimpArgs false
set_option linter.unusedVariables false
set_option linter.unusedSectionVars false
namespace Go.Proofs.YtoklmpkpeanloaaGreat.SI
open Go.Am Go.Minster2 Go.Minster.SI
variable {cf : FuncId} [CmpOk cf]

theorem partEq_ok {s : AS} {a : AV} {lo : Nat} {l : List Itm} {rest : List AV} {x y p : Nat} (h : Arr s a lo l rest) (hp : x ≤ p ∧ p < y) (hy : y ≤ l.length) (hn : l.length ≤ 2 ^ 40) :
    ACalls Tryz.prog F_slices_partitionEqualCmpFunc__Item [a, .int .i64 (x : Nat), .int .i64 (y : Nat), .int .i64 (p : Nat), .func cf []] s fun r s' => ∃ (i j : Nat) (l' : List Itm), r = .int .i64 (i : Nat) ∧ Arr s' a lo l' rest ∧ Sw x y l l' ∧ Prt Le' Gt' l' x y i j ∧ j < i ∧ el l' x = el l p ∧ Mut [lo] s s' := by
  refine ACalls.pre fun hw => q_slices_partitionEqualCmpFunc__Item _ _ _ _ _ _ _ ?_
  refine h.swap hw (by omega) (by omega) fun s12 a12 w12 m12 => ?_
  have sw12 : Sw x y l (swp l x p) := .step (.refl _) ⟨by omega, by omega⟩ hp hy
  have ex12 : el (swp l x p) x = el l p := by
    rw [el_swp (by omega) (by omega)]
    split
    · rename_i e; rw [e]
    · rw [if_pos rfl]
  have ngt : ∀ {u v : Itm}, ¬ u.cmp v < 0 → Le' v u := fun h => Itm.nlt_le (by rw [← Itm.cmp_lt]; exact h)
  have ylt : ∀ {u v : Itm}, u.cmp v < 0 → Gt' v u := fun h => Itm.cmp_lt.1 h
  rw [wadd1 (by omega), wsub1 (by omega) (by omega)]
  refine ⟨fun m vs s' => ∃ (i j : Nat) (l' : List Itm), vs = [.int .i64 (i : Nat), .int .i64 (j : Nat)] ∧ m = j + 1 - i ∧ PSt Le' Gt' s a lo rest l x y s' l' i j ∧ el l' x = el l p, _, ⟨x + 1, y - 1, _, rfl, rfl, ⟨a12, w12, sw12, Prt.start (by omega), m12⟩, ex12⟩, ?_⟩
  rintro m n16 n17 s18 ⟨i2, j2, l2, hij2, rfl, st18, ex18⟩
  simp only [List.cons.injEq, AV.int.injEq, true_and, and_true] at hij2
  obtain ⟨rfl, rfl⟩ := hij2
  have hl2 := st18.sw.len
  have hx2 := st18.prt.xi
  have hjy2 := st18.prt.jy
  have hij2 := st18.prt.ij
  refine ⟨fun vs s' => ∃ (i : Nat), vs = [.int .i64 (i : Nat)] ∧ i2 ≤ i ∧ PSt Le' Gt' s a lo rest l x y s' l2 i j2 ∧ (i ≤ j2 → Gt' (el l2 i) (el l2 x)), ?_, ?_⟩
  · rintro n20 s21 ⟨i3, hi3, hi23, st21, g21⟩
    simp only [List.cons.injEq, AV.int.injEq, true_and, and_true] at hi3
    subst hi3
    have hx3 := st21.prt.xi
    have hij3 := st21.prt.ij
    refine ⟨fun vs s' => ∃ j : Nat, vs = [.int .i64 (j : Nat)] ∧ j ≤ j2 ∧ PSt Le' Gt' s a lo rest l x y s' l2 i3 j ∧ (i3 ≤ j → Le' (el l2 j) (el l2 x)), ?_, ?_⟩
    · rintro n23 s24 ⟨j3, hj3, hj23, st24, g24⟩
      simp only [List.cons.injEq, AV.int.injEq, true_and, and_true] at hj3
      subst hj3
      have hjy3 := st24.prt.jy
      have hij4 := st24.prt.ij
      refine bsplit.dec (fun hgt => ⟨i3, j3, l2, rfl, st24.arr, st24.sw, st24.prt, by omega, ex18, st24.chg⟩) (fun hle => ?_)
      have hne : i3 ≠ j3 := by
        rintro rfl
        have h1 := g21 (by omega)
        have h2 := g24 (by omega)
        rw [Gt'] at h1; rw [Le', Itm.le] at h2
        rw [h2] at h1; cases h1
      refine st24.arr.swap st24.wf (by omega) (by omega) fun s36 a36 w36 m36 => ?_
      rw [wadd1 (by omega), wsub1 (by omega) (by omega)]
      exact ⟨j3 - 1 + 1 - (i3 + 1), by omega, i3 + 1, j3 - 1, _, rfl, rfl, ⟨a36, w36, .step st24.sw ⟨by omega, by omega⟩ ⟨by omega, by omega⟩ (by omega), st24.prt.swap (by omega) (by omega) (g24 (by omega)) (g21 (by omega)), st24.chg.trans m36⟩, by rw [el_swp (by omega) (by omega), if_neg (by omega), if_neg (by omega)]; exact ex18⟩
    · refine ⟨fun m vs s' => ∃ j : Nat, vs = [.int .i64 (j : Nat)] ∧ j ≤ j2 ∧ m = 2 * j ∧ PSt Le' Gt' s a lo rest l x y s' l2 i3 j, 2 * j2, ⟨j2, rfl, by omega, rfl, st21⟩, ?_⟩
      rintro m n40 s41 ⟨j3, hj3, hj23, rfl, st41⟩
      simp only [List.cons.injEq, AV.int.injEq, true_and, and_true] at hj3
      subst hj3
      have hjy3 := st41.prt.jy
      refine bsplit.dec (fun hle => ?_) (fun hgt => ⟨j3, rfl, hj23, st41, fun h => by omega⟩)
      refine st41.arr.cmp (by omega) (by omega) fun s49 a49 w49 m49 => bsplit.dec (fun hc => ?_) (fun hc => ?_)
      · rw [wsub1 (by omega) (by omega)]
        exact ⟨2 * (j3 - 1), by omega, j3 - 1, rfl, by omega, rfl, st41.to a49 w49 m49 (st41.prt.right (by omega) (ylt hc))⟩
      · exact ⟨j3, rfl, hj23, st41.to a49 w49 m49 st41.prt, fun _ => ngt hc⟩
  · refine ⟨fun m vs s' => ∃ i : Nat, vs = [.int .i64 (i : Nat)] ∧ i2 ≤ i ∧ m = y - i ∧ PSt Le' Gt' s a lo rest l x y s' l2 i j2, y - i2, ⟨i2, rfl, by omega, rfl, st18⟩, ?_⟩
    rintro m n54 s55 ⟨i3, hi3, hi23, rfl, st55⟩
    simp only [List.cons.injEq, AV.int.injEq, true_and, and_true] at hi3
    subst hi3
    have hx3 := st55.prt.xi
    refine bsplit.dec (fun hle => ?_) (fun hgt => ⟨i3, rfl, hi23, st55, fun h => by omega⟩)
    refine st55.arr.cmp (by omega) (by omega) fun s63 a63 w63 m63 => bsplit.mk (fun hc => ?_) (fun hc => ?_)
    · have hc' := ngt (by simpa using hc)
      rw [wadd1 (by omega)]
      exact ⟨y - (i3 + 1), by omega, i3 + 1, rfl, by omega, rfl, st55.to a63 w63 m63 (st55.prt.left (by omega) hc')⟩
    · have hc' := ylt (by simpa using hc)
      exact ⟨i3, rfl, hi23, st55.to a63 w63 m63 st55.prt, fun _ => hc'⟩

/-- all of a part of memory, permuted -/
structure WSt (s : AS) (a : AV) (lo : Nat) (rest : List AV) (l : List Itm) (x y : Nat) (s' : AS) (l' : List Itm) : Prop where
  arr : Arr s' a lo l' rest
  wf : WFs s'
  sw : Sw x y l l'
  chg : Mut [lo] s s'
theorem WSt.to {s : AS} {a : AV} {lo : Nat} {rest : List AV} {l : List Itm} {x y : Nat} {s' s'' : AS} {l' : List Itm} (h : WSt s a lo rest l x y s' l') (ha : Arr s'' a lo l' rest) (hw : WFs s'') (m : Mut [lo] s' s'') : WSt s a lo rest l x y s'' l' := ⟨ha, hw, h.sw, h.chg.trans m⟩
theorem WSt.swap {s : AS} {a : AV} {lo : Nat} {rest : List AV} {l : List Itm} {x y : Nat} {s' s'' : AS} {l' : List Itm} {i j : Nat} (h : WSt s a lo rest l x y s' l') (hy : y ≤ l.length) (hi : x ≤ i ∧ i < y) (hj : x ≤ j ∧ j < y) (ha : Arr s'' a lo (swp l' i j) rest) (hw : WFs s'') (m : Mut [lo] s' s'') : WSt s a lo rest l x y s'' (swp l' i j) :=
  ⟨ha, hw, .step h.sw hi hj (by rw [h.sw.len]; exact hy), h.chg.trans m⟩

theorem srt_ext1 {l : List Itm} {x i : Nat} (h : Srt l x i) (hx : x < i) (hle : (el l (i - 1)).le (el l i)) : Srt l x (i + 1) := by
  intro p q h1 h2 h3
  by_cases e : q = i
  · subst e
    by_cases e2 : p = q - 1
    · rw [e2]; exact hle
    · exact Itm.le_trans (h p (q - 1) h1 (by omega) (by omega)) hle
  · exact h p q h1 h2 (by omega)
theorem low_sw {l l' : List Itm} {x y : Nat} (h : Sw x y l l') (hlow : 0 < x → ∀ q, x ≤ q → q < y → (el l (x - 1)).le (el l q)) : 0 < x → ∀ q, x ≤ q → q < y → (el l' (x - 1)).le (el l' q) := by
  intro h0 q h1 h2
  obtain ⟨j, hj, e⟩ := h.mem (k := q) ⟨h1, h2⟩
  rw [h.out (.inl (by omega)), e]
  exact hlow h0 j hj.1 hj.2

theorem partial_ok {s : AS} {a : AV} {lo : Nat} {l : List Itm} {rest : List AV} {x y : Nat} (h : Arr s a lo l rest) (hxy : x < y) (hy : y ≤ l.length) (hn : l.length ≤ 2 ^ 40) (hlow : 0 < x → ∀ q, x ≤ q → q < y → (el l (x - 1)).le (el l q)) :
    ACalls Tryz.prog F_slices_partialInsertionSortCmpFunc__Item [a, .int .i64 (x : Nat), .int .i64 (y : Nat), .func cf []] s fun r s' => ∃ (b : Bool) (l' : List Itm), r = .bool b ∧ WSt s a lo rest l x y s' l' ∧ (b = true → Srt l' x y) := by
  have w0 : WFs s → WSt s a lo rest l x y s l := fun hw => ⟨h, hw, .refl _, Mut.refl _ _⟩
  refine ACalls.pre fun hw => q_slices_partialInsertionSortCmpFunc__Item _ _ _ _ _ _ ?_
  rw [Q_slices_partialInsertionSortCmpFunc__Item, wadd1 (by omega)]
  refine ⟨fun m vs s' => ∃ (i k : Nat) (l' : List Itm), vs = [.int .i64 (i : Nat), .int .i64 (k : Nat)] ∧ k ≤ 5 ∧ m = 5 - k ∧ x + 1 ≤ i ∧ i ≤ y ∧ WSt s a lo rest l x y s' l' ∧ Srt l' x i, 5, ⟨x + 1, 0, l, rfl, by omega, rfl, by omega, by omega, w0 hw, fun p q _ _ _ => by omega⟩, ?_⟩
  rintro m n4 n5 s6 ⟨i0, k, l1, hik, hk, rfl, hi1, hi2, st6, so6⟩
  simp only [List.cons.injEq, AV.int.injEq, true_and, and_true] at hik
  obtain ⟨rfl, rfl⟩ := hik
  refine bsplit.dec (fun hlt5 => ?_) (fun _ => ⟨false, l1, rfl, st6, by simp⟩)
  refine ⟨fun vs s' => ∃ (i : Nat) (l' : List Itm), vs = [.int .i64 (i : Nat)] ∧ x + 1 ≤ i ∧ i ≤ y ∧ WSt s a lo rest l x y s' l' ∧ Srt l' x i ∧ (i < y → (el l' i).lt (el l' (i - 1)) = true), ?_, ?_⟩
  · rintro n8 s9 ⟨i, l2, hi, hi3, hi4, st9, so9, g9⟩
    simp only [List.cons.injEq, AV.int.injEq, true_and, and_true] at hi
    subst hi
    have hl2 := st9.sw.len
    refine bsplit.mk (fun he => ?_) (fun hne => ?_)
    · have : i = y := by simp at he; omega
      subst this
      exact ⟨true, l2, rfl, st9, fun _ => so9⟩
    have hiy : i < y := by simp at hne; omega
    rw [wsub (by omega) (by omega)]
    refine bsplit.dec (fun _ => ⟨false, l2, rfl, st9, by simp⟩) (fun _ => ?_)
    rw [wsub1 (by omega) (by omega)]
    refine st9.arr.swap st9.wf (by omega) (by omega) fun s21 a21 w21 m21 => ?_
    have st21 := st9.swap hy ⟨by omega, by omega⟩ ⟨by omega, by omega⟩ a21 w21 m21
    have so21 : ∀ p q, x ≤ p → p < q → q ≤ i - 1 → q ≠ i - 1 → (el (swp l2 i (i - 1)) p).le (el (swp l2 i (i - 1)) q) := by
      intro p q h1 h2 h3 h4
      rw [el_swp (by omega) (by omega), el_swp (by omega) (by omega), if_neg (by omega), if_neg (by omega), if_neg (by omega), if_neg (by omega)]
      exact so9 p q h1 h2 (by omega)
    have next : ∀ s' l', WSt s a lo rest l x y s' l' → Srt l' x i → ∃ m', m' < 5 - k ∧ ∃ (i' k' : Nat) (l' : List Itm), [AV.int .i64 (i : Nat), .int .i64 (IntKind.wrap .i64 ((k : Int) + 1))] = [.int .i64 (i' : Nat), .int .i64 (k' : Nat)] ∧ k' ≤ 5 ∧ m' = 5 - k' ∧ x + 1 ≤ i' ∧ i' ≤ y ∧ WSt s a lo rest l x y s' l' ∧ Srt l' x i' :=
      fun s' l' h1 h2 => ⟨5 - (k + 1), by omega, i, k + 1, l', by rw [wadd1 (by omega)], by omega, rfl, by omega, by omega, h1, h2⟩
    refine ⟨fun vs s' => ∃ l', WSt s a lo rest l x y s' l' ∧ Srt l' x i, ?_, ?_⟩
    · rintro s23 ⟨l3, st23, so23⟩
      rw [wsub (by omega) (by omega)]
      refine bsplit.dec (fun _ => ?_) (fun _ => next _ _ st23 so23)
      rw [wadd1 (by omega)]
      refine ⟨fun m vs s' => ∃ (j : Nat) (l' : List Itm), vs = [.int .i64 (j : Nat)] ∧ i + 1 ≤ j ∧ m = y - j ∧ WSt s a lo rest l x y s' l' ∧ Srt l' x i, y - (i + 1), ⟨i + 1, l3, rfl, by omega, rfl, st23, so23⟩, ?_⟩
      rintro m n27 s28 ⟨j, l4, hj, hij, rfl, st28, so28⟩
      simp only [List.cons.injEq, AV.int.injEq, true_and, and_true] at hj
      subst hj
      have hl4 := st28.sw.len
      refine bsplit.dec (fun hjy => ?_) (fun _ => next _ _ st28 so28)
      rw [wsub1 (by omega) (by omega)]
      refine st28.arr.cmp (by omega) (by omega) fun s36 a36 w36 m36 => bsplit.mk (fun _ => next _ _ (st28.to a36 w36 m36) so28) (fun _ => ?_)
      refine a36.swap w36 (by omega) (by omega) fun s49 a49 w49 m49 => ?_
      rw [wadd1 (by omega)]
      refine ⟨y - (j + 1), by omega, j + 1, _, rfl, by omega, rfl, (st28.to a36 w36 m36).swap hy ⟨by omega, by omega⟩ ⟨by omega, by omega⟩ a49 w49 m49, fun p q h1 h2 h3 => ?_⟩
      rw [el_swp (by omega) (by omega), el_swp (by omega) (by omega), if_neg (by omega), if_neg (by omega), if_neg (by omega), if_neg (by omega)]
      exact so28 p q h1 h2 h3
    · rw [wsub (by omega) (by omega)]
      refine bsplit.dec (fun h2 => ?_) (fun h2 => ⟨_, st21, fun p q h1 h2 h3 => by omega⟩)
      refine ⟨fun m vs s' => ∃ (j : Nat) (l' : List Itm), vs = [.int .i64 (j : Nat)] ∧ x ≤ j ∧ j ≤ i - 1 ∧ m = 2 * j ∧ WSt s a lo rest l x y s' l' ∧ (∀ p q, x ≤ p → p < q → q ≤ i - 1 → q ≠ j → (el l' p).le (el l' q)), 2 * (i - 1), ⟨i - 1, _, rfl, by omega, by omega, rfl, st21, so21⟩, ?_⟩
      rintro m n53 s54 ⟨j, l4, hj, hxj, hji, rfl, st54, so54⟩
      simp only [List.cons.injEq, AV.int.injEq, true_and, and_true] at hj
      subst hj
      have hl4 := st54.sw.len
      have fin : ∀ s', WSt s a lo rest l x y s' l4 → (j = x ∨ (el l4 (j - 1)).le (el l4 j)) → ∃ l', WSt s a lo rest l x y s' l' ∧ Srt l' x i := by
        intro s' h1 h2
        have := ins_end hxj hji h2 so54
        rw [show i - 1 + 1 = i by omega] at this
        exact ⟨l4, h1, this⟩
      refine bsplit.dec (fun hj1 => ?_) (fun hj1 => fin _ st54 (.inl (by omega)))
      rw [wsub1 (by omega) (by omega)]
      refine st54.arr.cmp (by omega) (by omega) fun s62 a62 w62 m62 => bsplit.mk (fun hc => fin _ (st54.to a62 w62 m62) (.inr (Itm.nlt_le (by rw [← Itm.cmp_lt]; simpa using hc)))) (fun hc => ?_)
      have hc' : (el l4 j).lt (el l4 (j - 1)) = true := by rw [← Itm.cmp_lt]; simpa using hc
      have hxj' : x < j := by
        rcases Nat.lt_or_ge x j with h' | h'
        · exact h'
        · exfalso
          obtain rfl : x = j := by omega
          have := low_sw st54.sw hlow (by omega) x (by omega) (by omega)
          rw [Itm.le] at this
          rw [this] at hc'; cases hc'
      refine a62.swap w62 (by omega) (by omega) fun s75 a75 w75 m75 => ?_
      exact ⟨2 * (j - 1), by omega, j - 1, _, rfl, by omega, by omega, rfl, (st54.to a62 w62 m62).swap hy ⟨by omega, by omega⟩ ⟨by omega, by omega⟩ a75 w75 m75, ins_step (by omega) hxj' hji hc' so54⟩
  · refine ⟨fun m vs s' => ∃ (i : Nat), vs = [.int .i64 (i : Nat)] ∧ x + 1 ≤ i ∧ i ≤ y ∧ m = y - i ∧ WSt s a lo rest l x y s' l1 ∧ Srt l1 x i, y - i0, ⟨i0, rfl, hi1, hi2, rfl, st6, so6⟩, ?_⟩
    rintro m n79 s80 ⟨i, hi, hi3, hi4, rfl, st80, so80⟩
    simp only [List.cons.injEq, AV.int.injEq, true_and, and_true] at hi
    subst hi
    have hl1 := st80.sw.len
    refine bsplit.dec (fun hiy => ?_) (fun hge => ⟨i, l1, rfl, hi3, hi4, st80, so80, fun h => by omega⟩)
    rw [wsub1 (by omega) (by omega)]
    refine st80.arr.cmp (by omega) (by omega) fun s88 a88 w88 m88 => bsplit.mk (fun hc => ?_) (fun hc => ?_)
    · rw [wadd1 (by omega)]
      exact ⟨y - (i + 1), by omega, i + 1, rfl, by omega, by omega, rfl, st80.to a88 w88 m88, srt_ext1 so80 (by omega) (Itm.nlt_le (by rw [← Itm.cmp_lt]; simpa using hc))⟩
    · exact ⟨i, l1, rfl, hi3, hi4, st80.to a88 w88 m88, so80, fun _ => by rw [← Itm.cmp_lt]; simpa using hc⟩
end Go.Proofs.YtoklmpkpeanloaaGreat.SI
end

section
set_option linter.unusedSimpArgs false
set_option linter.unusedVariables false
set_option linter.unusedSectionVars false
namespace Go.Proofs.YtoklmpkpeanloaaGreat.SI
open Go.Am Go.Minster2 Go.Minster.SI
variable {cf : FuncId} [CmpOk cf]

noncomputable def bitsChk (x : Nat) : Bool := match aindex T Y_string (.str [0, 1, 2, 2, 3, 3, 3, 3, 4, 4, 4, 4, 4, 4, 4, 4, 5, 5, 5, 5, 5, 5, 5, 5, 5, 5, 5, 5, 5, 5, 5, 5, 6, 6, 6, 6, 6, 6, 6, 6, 6, 6, 6, 6, 6, 6, 6, 6, 6, 6, 6, 6, 6, 6, 6, 6, 6, 6, 6, 6, 6, 6, 6, 6, 7, 7, 7, 7, 7, 7, 7, 7, 7, 7, 7, 7, 7, 7, 7, 7, 7, 7, 7, 7, 7, 7, 7, 7, 7, 7, 7, 7, 7, 7, 7, 7, 7, 7, 7, 7, 7, 7, 7, 7, 7, 7, 7, 7, 7, 7, 7, 7, 7, 7, 7, 7, 7, 7, 7, 7, 7, 7, 7, 7, 7, 7, 7, 7, 8, 8, 8, 8, 8, 8, 8, 8, 8, 8, 8, 8, 8, 8, 8, 8, 8, 8, 8, 8, 8, 8, 8, 8, 8, 8, 8, 8, 8, 8, 8, 8, 8, 8, 8, 8, 8, 8, 8, 8, 8, 8, 8, 8, 8, 8, 8, 8, 8, 8, 8, 8, 8, 8, 8, 8, 8, 8, 8, 8, 8, 8, 8, 8, 8, 8, 8, 8, 8, 8, 8, 8, 8, 8, 8, 8, 8, 8, 8, 8, 8, 8, 8, 8, 8, 8, 8, 8, 8, 8, 8, 8, 8, 8, 8, 8, 8, 8, 8, 8, 8, 8, 8, 8, 8, 8, 8, 8, 8, 8, 8, 8, 8, 8, 8, 8, 8, 8, 8, 8, 8, 8, 8, 8, 8, 8, 8, 8]) (.int .u8 (IntKind.wrap .u8 (x : Nat))) with
  | some (.int .u8 k) => decide (0 ≤ k ∧ k ≤ 8 ∧ (x = 0 ∨ (x < 2 ^ k.toNat ∧ 2 ^ k.toNat ≤ 2 * x)))
  | _ => false
theorem bits_all : (List.range 256).all bitsChk = true := by kernel_rfl
theorem bits_get {x : Nat} (h : x < 256) : ∃ k : Nat, aindex T Y_string (.str [0, 1, 2, 2, 3, 3, 3, 3, 4, 4, 4, 4, 4, 4, 4, 4, 5, 5, 5, 5, 5, 5, 5, 5, 5, 5, 5, 5, 5, 5, 5, 5, 6, 6, 6, 6, 6, 6, 6, 6, 6, 6, 6, 6, 6, 6, 6, 6, 6, 6, 6, 6, 6, 6, 6, 6, 6, 6, 6, 6, 6, 6, 6, 6, 7, 7, 7, 7, 7, 7, 7, 7, 7, 7, 7, 7, 7, 7, 7, 7, 7, 7, 7, 7, 7, 7, 7, 7, 7, 7, 7, 7, 7, 7, 7, 7, 7, 7, 7, 7, 7, 7, 7, 7, 7, 7, 7, 7, 7, 7, 7, 7, 7, 7, 7, 7, 7, 7, 7, 7, 7, 7, 7, 7, 7, 7, 7, 7, 8, 8, 8, 8, 8, 8, 8, 8, 8, 8, 8, 8, 8, 8, 8, 8, 8, 8, 8, 8, 8, 8, 8, 8, 8, 8, 8, 8, 8, 8, 8, 8, 8, 8, 8, 8, 8, 8, 8, 8, 8, 8, 8, 8, 8, 8, 8, 8, 8, 8, 8, 8, 8, 8, 8, 8, 8, 8, 8, 8, 8, 8, 8, 8, 8, 8, 8, 8, 8, 8, 8, 8, 8, 8, 8, 8, 8, 8, 8, 8, 8, 8, 8, 8, 8, 8, 8, 8, 8, 8, 8, 8, 8, 8, 8, 8, 8, 8, 8, 8, 8, 8, 8, 8, 8, 8, 8, 8, 8, 8, 8, 8, 8, 8, 8, 8, 8, 8, 8, 8, 8, 8, 8, 8, 8, 8, 8, 8]) (.int .u8 (IntKind.wrap .u8 (x : Nat))) = some (.int .u8 (k : Nat)) ∧ k ≤ 8 ∧ (x = 0 ∨ (x < 2 ^ k ∧ 2 ^ k ≤ 2 * x)) := by
  have := List.all_eq_true.1 bits_all x (List.mem_range.2 h)
  unfold bitsChk at this
  split at this
  · rename_i k hk
    obtain ⟨h1, h2, h3⟩ := of_decide_eq_true this
    refine ⟨k.toNat, ?_, by omega, h3⟩
    rw [hk, Int.toNat_of_nonneg h1]
  · cases this
theorem len_ok {x : Nat} (hx : x < 65536) (s : AS) : ACalls Tryz.prog F_math_bits_Len [.int .u64 (x : Nat)] s fun r s' => ∃ k : Nat, r = .int .i64 (k : Nat) ∧ k ≤ 16 ∧ (0 < x → x < 2 ^ k ∧ 2 ^ k ≤ 2 * x) ∧ s' = s := by
  refine q_math_bits_Len _ _ _ ?_
  suffices h : ACalls Tryz.prog F_math_bits_Len64 [.int .u64 (x : Nat)] s fun r s' => ∃ k : Nat, r = .int .i64 (k : Nat) ∧ k ≤ 16 ∧ (0 < x → x < 2 ^ k ∧ 2 ^ k ≤ 2 * x) ∧ s' = s from
    h.mono (by rintro r s' ⟨k, rfl, h1, h2, rfl⟩; exact ⟨_, rfl, k, rfl, h1, h2, rfl⟩)
  refine q_math_bits_Len64 _ _ _ ⟨fun vs s' => vs = [.int .u64 (x : Nat), .int .i64 0] ∧ s' = s, ?_, bsplit.dec (fun h => by omega) (fun _ => ⟨rfl, rfl⟩)⟩
  rintro n2 n3 s4 ⟨hv, rfl⟩
  simp only [List.cons.injEq, AV.int.injEq, true_and, and_true] at hv
  obtain ⟨rfl, rfl⟩ := hv
  refine ⟨fun vs s' => vs = [.int .u64 (x : Nat), .int .i64 0] ∧ s' = s4, ?_, bsplit.dec (fun h => by omega) (fun _ => ⟨rfl, rfl⟩)⟩
  rintro n6 n7 s8 ⟨hv, rfl⟩
  simp only [List.cons.injEq, AV.int.injEq, true_and, and_true] at hv
  obtain ⟨rfl, rfl⟩ := hv
  refine ⟨fun vs s' => ∃ y b : Nat, vs = [.int .u64 (y : Nat), .int .i64 (b : Nat)] ∧ y < 256 ∧ ((b = 0 ∧ y = x) ∨ (b = 8 ∧ y = x / 256 ∧ 0 < y)) ∧ s' = s8, ?_, bsplit.dec (fun h => ⟨by decide, x / 256, 8, ?_, by omega, .inr ⟨rfl, rfl, by omega⟩, rfl⟩) (fun h => ⟨x, 0, rfl, by omega, .inl ⟨rfl, rfl⟩, rfl⟩)⟩
  · rintro n10 n11 s12 ⟨y, b, hv, hy, hb, rfl⟩
    simp only [List.cons.injEq, AV.int.injEq, true_and, and_true] at hv
    obtain ⟨rfl, rfl⟩ := hv
    obtain ⟨k, hk, h1, h2⟩ := bits_get hy
    refine ⟨_, hk, b + k, ?_, by omega, fun h0 => ?_, rfl⟩
    · rw [wrap_i (n := (k : Int)) (by omega), wrap_i (by omega)]; rfl
    · rcases hb with ⟨rfl, rfl⟩ | ⟨rfl, hyx, h3⟩
      · rw [Nat.zero_add]; omega
      · rw [Nat.pow_add]
        rcases h2 with h2 | ⟨h2, h4⟩
        · omega
        · generalize 2 ^ k = w at h2 h4 ⊢
          omega
  · have : Int.fdiv (x : Int) (2 ^ min (Int.toNat 8) (IntKind.bits .u64)) = ((x / 256 : Nat) : Int) := by
      show Int.fdiv (x : Int) ((256 : Nat) : Int) = _
      rw [Int.fdiv_eq_ediv_of_nonneg _ (by omega)]; rfl
    rw [this]; rfl

theorem pow2_ok {x : Nat} (hx : x < 65536) (h0 : 0 < x) (s : AS) : ACalls Tryz.prog F_slices_nextPowerOfTwo [.int .i64 (x : Nat)] s fun r s' => ∃ k : Nat, r = .int .u64 ((2 ^ k : Nat) : Int) ∧ k ≤ 16 ∧ x < 2 ^ k ∧ 2 ^ k ≤ 2 * x ∧ s' = s := by
  refine q_slices_nextPowerOfTwo _ _ _ ?_
  rw [Q_slices_nextPowerOfTwo, wrap_u (by omega)]
  refine (len_ok hx s).mono ?_
  rintro r s' ⟨k, rfl, h1, h2, rfl⟩
  obtain ⟨h3, h4⟩ := h2 h0
  refine ⟨_, rfl, by omega, k, ?_, h1, h3, h4, rfl⟩
  have e : min (Int.toNat (k : Int)) (IntKind.bits .u64) = k := by
    rw [Int.toNat_natCast]
    exact Nat.min_eq_left (Nat.le_trans h1 (by decide))
  rw [e, Int.one_mul, wrap_u]
  · rw [Int.natCast_pow]; rfl
  · have : (2 : Int) ^ k = ((2 ^ k : Nat) : Int) := by rw [Int.natCast_pow]; rfl
    rw [this]; omega

theorem xor_some (n m : Int) : ∃ w : Int, abinInt .xor .u64 n m = some (.int .u64 w) := ⟨_, rfl⟩
theorem RdA.xor {n m : Int} {K : AV → Prop} (h : ∀ w : Int, K (.int .u64 w)) : RdA (abinInt .xor .u64 n m) K := ⟨_, (xor_some n m).choose_spec, h _⟩
theorem xstep {s : AS} {q : Nat} {v0 v : AV} {K : AS → Prop} (hw : WFs s) (ho : Am.Own s q [v0]) (hv : v.one = true) (h : ∀ s', Am.Own s' q [v] → WFs s' → Mut [q] s s' → K s') : AsSome (some (q, 0)) fun l o => qstore T Y_slices_xorshift s l o v K :=
  qstore_one hv z_slices_xorshift (StQ.own hw ho (by simp) fun s' P => h s' P.at P.wf P.mut)
theorem rdq {s : AS} {q : Nat} {n : Int} {K : Int → Prop} (ho : Am.Own s q [.int .u64 n]) (h : K n) : AsSome (some (q, 0)) fun l o => RdI .u64 (rd1 s l o) K := ⟨n, by rw [ho.at.rd1]; rfl, h⟩
set_option maxRecDepth 100000 in
theorem xnext_ok {s : AS} {q : Nat} {n : Int} (h : Am.Own s q [.int .u64 n]) : ACalls Tryz.prog F_slices_xorshift_Next [.ptr (some (q, 0))] s fun r s' => ∃ m m' : Int, r = .int .u64 m ∧ Am.Own s' q [.int .u64 m'] ∧ Mut [q] s s' := by
  refine ACalls.pre fun hw => q_slices_xorshift_Next _ _ _ ?_
  refine rdq h ?_
  refine rdq h ?_
  refine ⟨by decide, ?_⟩
  refine RdA.xor fun w => ?_
  try dsimp only
  refine xstep (v := .int .u64 w) hw h rfl fun s10 o10 w10 m10 => ?_
  refine rdq o10 ?_
  refine rdq o10 ?_
  refine ⟨by decide, ?_⟩
  refine RdA.xor fun w => ?_
  try dsimp only
  refine xstep (v := .int .u64 w) w10 o10 rfl fun s20 o20 w20 m20 => ?_
  refine rdq o20 ?_
  refine rdq o20 ?_
  refine ⟨by decide, ?_⟩
  refine RdA.xor fun w => ?_
  try dsimp only
  refine xstep (v := .int .u64 w) w20 o20 rfl fun s30 o30 w30 m30 => ?_
  exact rdq o30 ⟨_, _, rfl, o30, (m10.trans m20).trans m30⟩

theorem and_small {n : Int} {k : Nat} (hk : k ≤ 16) : ∃ w : Nat, abinInt .and .u64 n (IntKind.wrap .u64 (((2 ^ k : Nat) : Int) - 1)) = some (.int .u64 (w : Nat)) ∧ w < 2 ^ k := by
  have h1 : 0 < 2 ^ k := Nat.pow_pos (by omega)
  have h2 : 2 ^ k ≤ 65536 := Nat.le_trans (Nat.pow_le_pow_right (by omega) hk) (by decide)
  refine ⟨(BitVec.ofInt 64 n &&& BitVec.ofInt 64 (((2 ^ k - 1 : Nat) : Int))).toNat, ?_, ?_⟩
  · rw [wrap_u (by omega)]
    rw [show (((2 ^ k : Nat) : Int) - 1) = ((2 ^ k - 1 : Nat) : Int) by omega]
    have key : ∀ z : BitVec 64, IntKind.wrap .u64 (z.toNat : Int) = (z.toNat : Int) := fun z => wrap_u ⟨by omega, by have := z.isLt; omega⟩
    exact congrArg (fun u => some (AV.int .u64 u)) (key (BitVec.ofInt 64 n &&& BitVec.ofInt 64 (((2 ^ k - 1 : Nat) : Int))))
  · rw [BitVec.toNat_and]
    have h3 := @Nat.and_le_right (BitVec.ofInt 64 n).toNat (BitVec.ofInt 64 (((2 ^ k - 1 : Nat) : Int))).toNat
    have h4 : (BitVec.ofInt 64 (((2 ^ k - 1 : Nat) : Int))).toNat = 2 ^ k - 1 := by
      rw [BitVec.ofInt_natCast, BitVec.toNat_ofNat]
      exact Nat.mod_eq_of_lt (by omega)
    omega

theorem break_ok {s : AS} {a : AV} {lo : Nat} {l : List Itm} {rest : List AV} {x y : Nat} (h : Arr s a lo l rest) (hxy : x < y) (hy : y ≤ l.length) (hn : l.length < 65536) :
    ACalls Tryz.prog F_slices_breakPatternsCmpFunc__Item [a, .int .i64 (x : Nat), .int .i64 (y : Nat), .func cf []] s fun r s' => r = .tup [] ∧ ∃ l', WSt s a lo rest l x y s' l' := by
  refine ACalls.pre fun hw => q_slices_breakPatternsCmpFunc__Item _ _ _ _ _ _ ?_
  have hlo : s.h lo ≠ none := by obtain ⟨_, g, h2⟩ := h; rw [h2]; simp
  rw [Q_slices_breakPatternsCmpFunc__Item, wsub (by omega) (by omega)]
  refine bsplit.dec (fun h8 => ?_) (fun _ => ⟨rfl, l, h, hw, .refl _, Mut.refl _ _⟩)
  refine NewQ.intro hw rfl fun q s2 F => StQ.own F.wf F.own (by simp) fun s3 P => ?_
  have o3 : Am.Own s3 q [_] := P.at
  have hq : q ≠ lo := by rintro rfl; exact hlo F.no
  have a3 : Arr s3 a lo l rest := (h.ext F.ext).mut P.mut (by simp; exact fun e => hq e.symm)
  have m3 : Mut [lo] s s3 := ⟨fun z o hz ho => by
    have := F.ext.1 z o ho
    exact P.mut.1 z o (by simp; rintro rfl; rw [F.no] at ho; cases ho) this, Nat.le_trans F.ext.2 P.mut.2⟩
  refine ACalls.use (pow2_ok (x := y - x) (by omega) (by omega) s3) ?_
  rintro r s5 ⟨k, rfl, hk, hk1, hk2, rfl⟩ hw5
  refine ⟨_, rfl, by decide, ?_⟩
  rw [show (4 : Int) = ((4 : Nat) : Int) by rfl, tdivN, wid (by omega), show (((y - x) / 4 : Nat) : Int) * 2 = (((y - x) / 4 * 2 : Nat) : Int) by omega, wid (by omega), wadd (by omega), wsub1 (by omega) (by omega), wadd1 (by omega)]
  generalize hd : x + (y - x) / 4 * 2 = d
  refine ⟨fun m vs s' => ∃ (i : Nat) (l' : List Itm) (v : Int), vs = [.int .i64 (i : Nat)] ∧ d - 1 ≤ i ∧ m = d + 2 - i ∧ Am.Own s' q [.int .u64 v] ∧ WSt s a lo rest l x y s' l', d + 2 - (d - 1), ⟨d - 1, l, _, rfl, by omega, rfl, o3, a3, hw5, .refl _, m3⟩, ?_⟩
  rintro m n10 s11 ⟨i, l1, v, hi, hdi, rfl, o11, st11⟩
  simp only [List.cons.injEq, AV.int.injEq, true_and, and_true] at hi
  subst hi
  have hl1 := st11.sw.len
  refine ⟨by decide, bsplit.dec (fun hle => ?_) (fun _ => ⟨rfl, l1, st11⟩)⟩
  refine ACalls.use (xnext_ok o11) ?_
  rintro r s13 ⟨w1, w2, rfl, o13, m13⟩ hw13
  have a13 : Arr s13 a lo l1 rest := st11.arr.mut m13 (by simp; exact fun e => hq e.symm)
  have M13 : Mut [lo] s s13 := ⟨fun z o hz ho => m13.1 z o (by simp; rintro rfl; rw [F.no] at ho; cases ho) (st11.chg.1 z o hz ho), Nat.le_trans st11.chg.2 m13.2⟩
  have st13 : WSt s a lo rest l x y s13 l1 := ⟨a13, hw13, st11.sw, M13⟩
  obtain ⟨w, hw1, hw2⟩ := and_small (n := w1) hk
  refine ⟨_, rfl, _, hw1, ?_⟩
  show JoinQ _
  rw [wid (by omega)]
  refine ⟨fun vs s' => s' = s13 ∧ ∃ t : Nat, vs = [.int .i64 (t : Nat)] ∧ t < y - x, ?_, bsplit.dec (fun hge => ⟨rfl, w - (y - x), by rw [wsub (by omega) (by omega)], by omega⟩) (fun hlt => ⟨rfl, w, rfl, by omega⟩)⟩
  rintro n18 s19 ⟨rfl, t, ht, hty⟩
  simp only [List.cons.injEq, AV.int.injEq, true_and, and_true] at ht
  subst ht
  rw [wadd (by omega)]
  refine st13.arr.swap st13.wf (by omega) (by omega) fun s31 a31 w31 m31 => ?_
  rw [wadd1 (by omega)]
  exact ⟨d + 2 - (i + 1), by omega, i + 1, _, _, rfl, by omega, rfl, o13.mut m31 (by simpa using hq), st13.swap hy ⟨by omega, by omega⟩ ⟨by omega, by omega⟩ a31 w31 m31⟩
end Go.Proofs.YtoklmpkpeanloaaGreat.SI
end

section
set_option linter.unusedSimpArgs false
set_option linter.unusedVariables false
set_option linter.unusedSectionVars false
namespace Go.Proofs.YtoklmpkpeanloaaGreat.SI
open Go.Am Go.Minster2 Go.Minster.SI
variable {cf : FuncId} [CmpOk cf]

theorem mut_sub {L L' : List Nat} {s s' : AS} (h : Mut L s s') (hs : ∀ x ∈ L, x ∈ L') : Mut L' s s' := ⟨fun x o hx ho => h.1 x o (fun hm => hx (hs x hm)) ho, h.2⟩
/-- a counter beside the array -/
structure Ct (s : AS) (a : AV) (lo : Nat) (l : List Itm) (rest : List AV) (q : Nat) (s' : AS) : Prop where
  ne : q ≠ lo
  own : ∃ c : Int, Am.Own s' q [.int .i64 c]
  arr : Arr s' a lo l rest
  wf : WFs s'
  chg : Mut [q, lo] s s'
section
variable {s s0 : AS} {a : AV} {lo : Nat} {l : List Itm} {rest : List AV} {q : Nat}
theorem order2_ok (h : Ct s0 a lo l rest q s) {x y : Nat} (hx : x < l.length) (hy : y < l.length) :
    ACalls Tryz.prog F_slices_order2CmpFunc__Item [a, .int .i64 (x : Nat), .int .i64 (y : Nat), .ptr (some (q, 0)), .func cf []] s fun r s' => ∃ u v : Nat, r = .tup [.int .i64 (u : Nat), .int .i64 (v : Nat)] ∧ (u = x ∨ u = y) ∧ (v = x ∨ v = y) ∧ Ct s0 a lo l rest q s' := by
  refine q_slices_order2CmpFunc__Item _ _ _ _ _ _ _ ?_
  refine h.arr.cmp hy hx fun s8 a8 w8 m8 => ?_
  obtain ⟨c, o⟩ := h.own
  have o8 : Am.Own s8 q _ := o.mut m8 (by simpa using h.ne)
  have M8 : Mut [q, lo] s0 s8 := h.chg.trans (mut_sub m8 (by simp))
  refine bsplit.dec (fun _ => ?_) (fun _ => ⟨x, y, rfl, .inl rfl, .inr rfl, h.ne, ⟨c, o8⟩, a8, w8, M8⟩)
  refine ⟨c, by rw [o8.at.rd1]; rfl, StQ.own w8 o8 (by simp) fun s15 P => ⟨y, x, rfl, .inr rfl, .inl rfl, h.ne, ⟨_, P.at⟩, a8.mut P.mut (by simp; exact fun e => h.ne e.symm), P.wf, M8.trans (mut_sub P.mut (by simp))⟩⟩
theorem median_ok (h : Ct s0 a lo l rest q s) {x y z : Nat} (hx : x < l.length) (hy : y < l.length) (hz : z < l.length) :
    ACalls Tryz.prog F_slices_medianCmpFunc__Item [a, .int .i64 (x : Nat), .int .i64 (y : Nat), .int .i64 (z : Nat), .ptr (some (q, 0)), .func cf []] s fun r s' => ∃ u : Nat, r = .int .i64 (u : Nat) ∧ (u = x ∨ u = y ∨ u = z) ∧ Ct s0 a lo l rest q s' := by
  refine q_slices_medianCmpFunc__Item _ _ _ _ _ _ _ _ ?_
  refine (order2_ok h hx hy).mono ?_
  rintro r s2 ⟨u1, v1, rfl, hu1, hv1, h2⟩
  refine ⟨_, _, rfl, (order2_ok h2 (by omega) hz).mono ?_⟩
  rintro r s6 ⟨u2, v2, rfl, hu2, hv2, h6⟩
  refine ⟨_, _, rfl, (order2_ok h6 (by omega) (by omega)).mono ?_⟩
  rintro r s10 ⟨u3, v3, rfl, hu3, hv3, h10⟩
  exact ⟨_, _, rfl, v3, rfl, by omega, h10⟩
theorem medAdj_ok (h : Ct s0 a lo l rest q s) {x : Nat} (h0 : 1 ≤ x) (hx : x + 1 < l.length) (hn : l.length < 65536) :
    ACalls Tryz.prog F_slices_medianAdjacentCmpFunc__Item [a, .int .i64 (x : Nat), .ptr (some (q, 0)), .func cf []] s fun r s' => ∃ u : Nat, r = .int .i64 (u : Nat) ∧ (x ≤ u + 1 ∧ u ≤ x + 1) ∧ Ct s0 a lo l rest q s' := by
  refine q_slices_medianAdjacentCmpFunc__Item _ _ _ _ _ _ ?_
  rw [Q_slices_medianAdjacentCmpFunc__Item, wsub1 (by omega) (by omega), wadd1 (by omega)]
  refine (median_ok h (by omega) (by omega) (by omega)).mono ?_
  rintro r s' ⟨u, rfl, hu, h'⟩
  exact ⟨_, rfl, u, rfl, by omega, h'⟩
theorem choose_ok {x y : Nat} (h : Arr s a lo l rest) (hxy : x < y) (hy : y ≤ l.length) (hn : l.length < 65536) :
    ACalls Tryz.prog F_slices_choosePivotCmpFunc__Item [a, .int .i64 (x : Nat), .int .i64 (y : Nat), .func cf []] s fun r s' => ∃ (p : Nat) (t : Int), r = .tup [.int .i64 (p : Nat), .int .i64 t] ∧ (x ≤ p ∧ p < y) ∧ Arr s' a lo l rest ∧ Mut [lo] s s' := by
  have hlo : s.h lo ≠ none := by obtain ⟨_, g, h2⟩ := h; rw [h2]; simp
  refine ACalls.pre fun hw => q_slices_choosePivotCmpFunc__Item _ _ _ _ _ _ (NewQ.intro hw rfl fun q s2 F => ⟨by decide, by decide, by decide, ?_⟩)
  have hq : q ≠ lo := by rintro rfl; exact hlo F.no
  have c2 : Ct s2 a lo l rest q s2 := ⟨hq, ⟨_, F.own⟩, h.ext F.ext, F.wf, Mut.refl _ _⟩
  have back : ∀ s', Ct s2 a lo l rest q s' → Mut [lo] s s' := fun s' c => ⟨fun z o hz ho => c.chg.1 z o (by
    simp only [List.mem_cons, List.not_mem_nil, or_false, not_or]
    exact ⟨(by rintro rfl; rw [F.no] at ho; cases ho), by simpa using hz⟩) (F.ext.1 z o ho), Nat.le_trans F.ext.2 c.chg.2⟩
  have w4 : ∀ k : Nat, k ≤ 3 → IntKind.wrap .i64 ((x : Int) + IntKind.wrap .i64 (IntKind.wrap .i64 (Int.tdiv (IntKind.wrap .i64 ((y : Int) - (x : Int))) 4) * ((k : Nat) : Int))) = ((x + (y - x) / 4 * k : Nat) : Int) := by
    intro k hk
    have hm : (y - x) / 4 * k ≤ (y - x) / 4 * 3 := Nat.mul_le_mul_left _ hk
    rw [wsub (by omega) (by omega), show (4 : Int) = ((4 : Nat) : Int) by rfl, tdivN, wid (by omega), ← Int.natCast_mul, wid (by omega), wadd (by omega)]
  have w1 := w4 1 (by omega)
  have w2 := w4 2 (by omega)
  have w3 := w4 3 (by omega)
  simp only [Int.natCast_one, show ((2 : Nat) : Int) = 2 by rfl, show ((3 : Nat) : Int) = 3 by rfl] at w1 w2 w3
  rw [w1, w2, w3, wsub (by omega) (by omega)]
  refine ⟨fun vs s' => ∃ p : Nat, vs = [.int .i64 (p : Nat)] ∧ (x ≤ p ∧ p < y) ∧ Ct s2 a lo l rest q s', ?_, bsplit.dec (fun h8 => ?_) (fun _ => ⟨_, rfl, by omega, c2⟩)⟩
  · rintro n4 s5 ⟨p, hp, hpy, c5⟩
    simp only [List.cons.injEq, AV.int.injEq, true_and, and_true] at hp
    subst hp
    obtain ⟨c, o⟩ := c5.own
    refine ⟨c, by rw [o.at.rd1]; rfl, ?_⟩
    refine bsplit.mk (fun _ => ⟨p, _, rfl, hpy, c5.arr, back _ c5⟩) (fun _ => bsplit.mk (fun _ => ⟨p, _, rfl, hpy, c5.arr, back _ c5⟩) (fun _ => ⟨p, _, rfl, hpy, c5.arr, back _ c5⟩))
  · refine ⟨fun vs s' => ∃ i j k : Nat, vs = [.int .i64 (i : Nat), .int .i64 (j : Nat), .int .i64 (k : Nat)] ∧ (x ≤ i ∧ i < y) ∧ (x ≤ j ∧ j < y) ∧ (x ≤ k ∧ k < y) ∧ Ct s2 a lo l rest q s', ?_, bsplit.dec (fun h50 => ?_) (fun _ => ⟨_, _, _, rfl, by omega, by omega, by omega, c2⟩)⟩
    · rintro n8 n9 n10 s11 ⟨i, j, k, hv, hi, hj, hk, c11⟩
      simp only [List.cons.injEq, AV.int.injEq, true_and, and_true] at hv
      obtain ⟨rfl, rfl, rfl⟩ := hv
      refine (median_ok c11 (by omega) (by omega) (by omega)).mono ?_
      rintro r s13 ⟨u, rfl, hu, c13⟩
      exact ⟨_, rfl, u, rfl, by omega, c13⟩
    · refine (medAdj_ok c2 (by omega) (by omega) hn).mono ?_
      rintro r s16 ⟨i, rfl, hi, c16⟩
      refine ⟨_, rfl, (medAdj_ok c16 (by omega) (by omega) hn).mono ?_⟩
      rintro r s19 ⟨j, rfl, hj, c19⟩
      refine ⟨_, rfl, (medAdj_ok c19 (by omega) (by omega) hn).mono ?_⟩
      rintro r s22 ⟨k, rfl, hk, c22⟩
      exact ⟨_, rfl, i, j, k, rfl, by omega, by omega, by omega, c22⟩
end
end Go.Proofs.YtoklmpkpeanloaaGreat.SI
end

section
set_option linter.unusedSimpArgs false
set_option linter.unusedVariables false
set_option linter.unusedSectionVars false
namespace Go.Proofs.YtoklmpkpeanloaaGreat.SI
open Go.Am Go.Minster2 Go.Minster.SI
variable {cf : FuncId} [CmpOk cf]

/-- sorted but for [c, d) -/
structure Gd (s : AS) (a : AV) (lo : Nat) (rest : List AV) (l : List Itm) (x y : Nat) (s' : AS) (l' : List Itm) (c d : Nat) : Prop where
  st : WSt s a lo rest l x y s' l'
  ar : Around l' x y c d
  xc : x ≤ c
  cd : c ≤ d
  dy : d ≤ y
section
variable {s : AS} {a : AV} {lo : Nat} {rest : List AV} {l : List Itm} {x y : Nat}
theorem Gd.sub {s' s'' : AS} {l' l'' : List Itm} {c d c' d' : Nat} (h : Gd s a lo rest l x y s' l' c d) (hy : y ≤ l.length) (ha : Arr s'' a lo l'' rest) (hw : WFs s'') (hs : Sw c' d' l' l'') (m : Mut [lo] s' s'') (hc : c ≤ c') (hd : d' ≤ d) : WSt s a lo rest l x y s'' l'' :=
  ⟨ha, hw, h.st.sw.trans (hs.widen (Nat.le_trans h.xc hc) (Nat.le_trans hd h.dy) (by rw [h.st.sw.len]; exact hy)), h.st.chg.trans m⟩
theorem Gd.perm {s' s'' : AS} {l' l'' : List Itm} {c d : Nat} (h : Gd s a lo rest l x y s' l' c d) (hy : y ≤ l.length) (ha : Arr s'' a lo l'' rest) (hw : WFs s'') (hs : Sw c d l' l'') (m : Mut [lo] s' s'') : Gd s a lo rest l x y s'' l'' c d :=
  ⟨h.sub hy ha hw hs m (Nat.le_refl _) (Nat.le_refl _), h.ar.sw h.xc h.dy hs, h.xc, h.cd, h.dy⟩
theorem Gd.to {s' s'' : AS} {l' : List Itm} {c d : Nat} (h : Gd s a lo rest l x y s' l' c d) (ha : Arr s'' a lo l' rest) (hw : WFs s'') (m : Mut [lo] s' s'') : Gd s a lo rest l x y s'' l' c d :=
  ⟨h.st.to ha hw m, h.ar, h.xc, h.cd, h.dy⟩
theorem Gd.low {s' : AS} {l' : List Itm} {c d : Nat} (h : Gd s a lo rest l x y s' l' c d) (hlow : 0 < x → ∀ q, x ≤ q → q < y → (el l (x - 1)).le (el l q)) : 0 < c → ∀ q, c ≤ q → q < d → (el l' (c - 1)).le (el l' q) := by
  intro h0 q h1 h2
  have := h.xc
  have := h.dy
  by_cases e : c = x
  · subst e
    exact low_sw h.st.sw hlow h0 q h1 (by omega)
  · exact h.ar (c - 1) q (by omega) (by omega) (by omega) (.inl (by omega))
end

theorem pdq_ok {a : AV} {lo : Nat} {rest : List AV} : ∀ (n : Nat) {s : AS} {l : List Itm} {x y : Nat} (lim : Int), y - x = n → Arr s a lo l rest → x ≤ y → y ≤ l.length → l.length < 65536 → (0 < x → ∀ q, x ≤ q → q < y → (el l (x - 1)).le (el l q)) →
    ACalls Tryz.prog F_slices_pdqsortCmpFunc__Item [a, .int .i64 (x : Nat), .int .i64 (y : Nat), .int .i64 lim, .func cf []] s fun r s' => r = .tup [] ∧ ∃ l', WSt s a lo rest l x y s' l' ∧ Srt l' x y := by
  intro n
  induction n using Nat.strongRecOn with
  | _ n IH =>
  intro s l x y lim hn h hxy hy hl hlow
  refine ACalls.pre fun hw => q_slices_pdqsortCmpFunc__Item _ _ _ _ _ _ _ ⟨fun m vs s' => ∃ (c d : Nat) (li : Int) (b1 b2 : Bool) (l' : List Itm), vs = [.int .i64 (c : Nat), .int .i64 (d : Nat), .int .i64 li, .bool b1, .bool b2] ∧ m = d - c ∧ Gd s a lo rest l x y s' l' c d, y - x, ⟨x, y, lim, true, true, l, rfl, rfl, ⟨h, hw, .refl _, Mut.refl _ _⟩, Around.start _ _ _, by omega, by omega, by omega⟩, ?_⟩
  rintro m n4 n5 n6 b7 b8 s9 ⟨c, d, li, b1, b2, l1, hv, rfl, g9⟩
  simp only [List.cons.injEq, AV.int.injEq, AV.bool.injEq, true_and, and_true] at hv
  obtain ⟨rfl, rfl, rfl, rfl, rfl⟩ := hv
  have hxc := g9.xc
  have hcd := g9.cd
  have hdy := g9.dy
  have hl1 := g9.st.sw.len
  rw [wsub (by omega) (by omega)]
  refine bsplit.dec (fun h12 => ?_) (fun h12 => bsplit.mk (fun _ => ?_) (fun _ => ?_))
  · refine ACalls.use (insSort_ok g9.st.arr hcd (by omega) (by omega)) ?_
    rintro r s11 ⟨rfl, l2, a11, sw11, so11, m11⟩ w11
    have g11 := g9.perm hy a11 w11 sw11 m11
    exact ⟨rfl, rfl, l2, g11.st, g11.ar.srt so11⟩
  · refine ACalls.use (heapSort_ok g9.st.arr (by omega) (by omega) (by omega)) ?_
    rintro r s11 ⟨rfl, l2, a11, sw11, so11, m11⟩ w11
    have g11 := g9.perm hy a11 w11 sw11 m11
    exact ⟨rfl, rfl, l2, g11.st, g11.ar.srt so11⟩
  have hcd' : c < d := by omega
  refine ⟨fun vs s' => ∃ (li : Int) (l' : List Itm), vs = [.int .i64 li] ∧ Gd s a lo rest l x y s' l' c d, ?_, bsplit.mk (fun _ => ?_) (fun _ => ⟨_, l1, rfl, g9⟩)⟩
  · rintro n15 s16 ⟨li2, l2, hv, g16⟩
    simp only [List.cons.injEq, AV.int.injEq, true_and, and_true] at hv
    subst hv
    have hl2 := g16.st.sw.len
    refine ACalls.use (choose_ok g16.st.arr hcd' (by omega) (by omega)) ?_
    rintro r s18 ⟨p, t, rfl, hp, a18, m18⟩ w18
    have g18 := g16.to a18 w18 m18
    refine ⟨_, _, rfl, fun vs s' => ∃ (p : Nat) (t : Int) (l' : List Itm), vs = [.int .i64 (p : Nat), .int .i64 t] ∧ (c ≤ p ∧ p < d) ∧ Gd s a lo rest l x y s' l' c d, ?_, bsplit.mk (fun _ => ?_) (fun _ => ⟨p, t, l2, rfl, hp, g18⟩)⟩
    · rintro n22 n23 s24 ⟨p, t, l3, hv, hp, g24⟩
      simp only [List.cons.injEq, AV.int.injEq, true_and, and_true] at hv
      obtain ⟨rfl, rfl⟩ := hv
      refine ⟨fun vs s' => ∃ l', Gd s a lo rest l x y s' l' c d, ?_, ?_⟩
      · rintro s26 ⟨l4, g26⟩
        have hl4 := g26.st.sw.len
        refine ⟨fun vs s' => ∃ b, vs = [.bool b] ∧ Gd s a lo rest l x y s' l4 c d ∧ (b = true → 0 < c ∧ (el l4 p).le (el l4 (c - 1))), ?_, ?_⟩
        · rintro b28 s29 ⟨b, hv, g29, hb⟩
          simp only [List.cons.injEq, AV.bool.injEq, and_true] at hv
          subst hv
          refine bsplit.mk (fun hb1 => ?_) (fun _ => ?_)
          · obtain ⟨hc0, hle⟩ := hb hb1
            refine ACalls.use (partEq_ok g29.st.arr hp (by omega) (by omega)) ?_
            rintro r s31 ⟨i, j, l5, rfl, a31, sw31, pr31, hji, ex31, m31⟩ w31
            have g31 := g29.perm hy a31 w31 sw31 m31
            have hxi := pr31.xi
            have hjd := pr31.jy
            have hij := pr31.ij
            refine ⟨_, rfl, d - i, by omega, i, d, _, _, _, l5, rfl, rfl, g31.st, g31.ar.equal hxc hdy pr31 hji (fun k h1 h2 => ?_), by omega, by omega, by omega⟩
            rw [ex31]
            refine Itm.le_trans hle ?_
            have := g31.low hlow hc0 k h1 h2
            rw [sw31.out (.inl (by omega))] at this
            exact this
          · refine ACalls.use (partition_ok g29.st.arr hp (by omega) (by omega)) ?_
            rintro r s34 ⟨mm, bb, l5, rfl, a34, sw34, pa34, m34⟩ w34
            have g34 := g29.perm hy a34 w34 sw34 m34
            have hcm := pa34.xm
            have hmd := pa34.my
            have hl5 := g34.st.sw.len
            have hlow5 := g34.low hlow
            refine ⟨_, _, rfl, by decide, ?_⟩
            rw [wadd1 (by omega)]
            refine bsplit.mk (fun _ => ?_) (fun _ => ?_)
            · refine ACalls.use (IH (mm - c) (by omega) (s := s34) (l := l5) (x := c) (y := mm) _ rfl a34 hcm (by omega) (by omega) (fun h0 q h1 h2 => hlow5 h0 q h1 (by omega))) ?_
              rintro r s38 ⟨rfl, l6, st38, so38⟩ w38
              refine ⟨rfl, d - (mm + 1), by omega, mm + 1, d, _, _, _, l6, rfl, rfl, g34.sub hy st38.arr w38 st38.sw st38.chg (Nat.le_refl _) (by omega), g34.ar.right hxc hdy pa34 st38.sw so38, by omega, by omega, by omega⟩
            · refine ACalls.use (IH (d - (mm + 1)) (by omega) (s := s34) (l := l5) (x := mm + 1) (y := d) _ rfl a34 (by omega) (by omega) (by omega) (fun h0 q h1 h2 => by
                rw [Nat.add_sub_cancel]; exact pa34.ge q (by omega) h2)) ?_
              rintro r s38 ⟨rfl, l6, st38, so38⟩ w38
              refine ⟨rfl, mm - c, by omega, c, mm, _, _, _, l6, rfl, rfl, g34.sub hy st38.arr w38 st38.sw st38.chg (by omega) (Nat.le_refl _), g34.ar.left hxc hdy pa34 st38.sw so38, by omega, by omega, by omega⟩
        · refine bsplit.dec (fun hc0 => ?_) (fun _ => ⟨false, rfl, g26, by simp⟩)
          rw [wsub1 (by omega) (by omega)]
          refine g26.st.arr.cmp (by omega) (by omega) fun s48 a48 w48 m48 => ⟨_, rfl, g26.to a48 w48 m48, fun hb => ⟨by omega, ?_⟩⟩
          exact Itm.nlt_le (by rw [← Itm.cmp_lt]; simpa using hb)
      · refine ⟨fun vs s' => ∃ b, vs = [.bool b] ∧ s' = s24, ?_, bsplit.mk (fun _ => bsplit.mk (fun _ => ⟨_, rfl, rfl⟩) (fun _ => ⟨_, rfl, rfl⟩)) (fun _ => ⟨_, rfl, rfl⟩)⟩
        rintro b51 s52 ⟨b, hv, rfl⟩
        simp only [List.cons.injEq, AV.bool.injEq, and_true] at hv
        subst hv
        have hl3 := g24.st.sw.len
        refine bsplit.mk (fun _ => ?_) (fun _ => ⟨l3, g24⟩)
        refine ACalls.use (partial_ok g24.st.arr hcd' (by omega) (by omega) (g24.low hlow)) ?_
        rintro r s54 ⟨b, l4, rfl, st54, hs⟩ w54
        have g54 := g24.perm hy st54.arr w54 st54.sw st54.chg
        exact ⟨_, rfl, bsplit.mk (fun hb => ⟨rfl, l4, g54.st, g54.ar.srt (hs hb)⟩) (fun _ => ⟨l4, g54⟩)⟩
    · refine ACalls.use (reverse_ok g18.st.arr hcd' (by omega) (by omega)) ?_
      rintro r s57 ⟨rfl, l3, a57, sw57, m57⟩ w57
      rw [wsub1 (by omega) (by omega), wsub (by omega) (by omega), wsub (by omega) (by omega)]
      exact ⟨rfl, d - 1 - (p - c), 1, l3, rfl, by omega, g18.perm hy a57 w57 sw57 m57⟩
  · refine ACalls.use (break_ok g9.st.arr hcd' (by omega) (by omega)) ?_
    rintro r s59 ⟨rfl, l2, st59⟩ w59
    exact ⟨rfl, _, l2, rfl, g9.perm hy st59.arr w59 st59.sw st59.chg⟩

theorem sort_ok {s : AS} {a : AV} {lo : Nat} {rest : List AV} {l : List Itm} (h : Arr s a lo l rest) (hl : l.length < 65536) :
    ACalls Tryz.prog F_slices_SortFunc__s_Item_Item [a, .func cf []] s fun r s' => r = .tup [] ∧ ∃ l', Arr s' a lo l' rest ∧ l'.Perm l ∧ Srt l' 0 l'.length ∧ Mut [lo] s s' := by
  refine q_slices_SortFunc__s_Item_Item _ _ _ _ ?_
  have hlen : alenB T Y_s_Item a s = some (.int .i64 (l.length : Nat)) := by
    obtain ⟨⟨c, e, rfl⟩, _⟩ := h
    simp [alenB, u_s_Item]
  refine ⟨_, hlen, ?_⟩
  dsimp only
  rw [wrap_u (by omega)]
  refine ACalls.use (len_ok hl s) ?_
  rintro r s3 ⟨k, rfl, _, _, rfl⟩ w3
  refine ⟨_, rfl, ?_⟩
  refine (pdq_ok (l.length - 0) (x := 0) (y := l.length) k rfl h (by omega) (by omega) hl (by omega)).mono ?_
  rintro r s6 ⟨rfl, l', st, so⟩
  exact ⟨rfl, rfl, l', st.arr, st.sw.perm, by rw [st.sw.len]; exact so, st.chg⟩
end Go.Proofs.YtoklmpkpeanloaaGreat.SI
end

section

end

section
set_option linter.unusedVariables false
set_option maxRecDepth 100000
set_option maxHeartbeats 4000000
namespace Go.Proofs.YtoklmpkpeanloaaGreat
open Go.Am

/-- what slices.SortFunc[[]minster/api.Key,minster/api.Key] asks -/
def Q_slices_SortFunc__s_Key_Key (a0 : AV) (a1 : AV) (s : AS) (R : AV → AS → Prop) : Prop :=
 RdI .i64 (alenB T Y_s_Key a0 s) fun n1 => ACalls Tryz.prog F_math_bits_Len [(.int .u64 (IntKind.wrap .u64 n1))] s fun v2 s3 => ∃ n4 : Int, v2 = .int .i64 n4 ∧ (ACalls Tryz.prog F_slices_pdqsortCmpFunc__Key [a0, (.int .i64 0), (.int .i64 n1), (.int .i64 n4), a1] s3 fun v5 s6 => v5 = .tup [] ∧ (R (.tup []) s6))

def A_slices_SortFunc__s_Key_Key : QA := (.seq .leaf .leaf)

theorem q_slices_SortFunc__s_Key_Key (a0 : AV) (a1 : AV) (s : AS) (R : AV → AS → Prop) (h : Q_slices_SortFunc__s_Key_Key a0 a1 s R) : ACalls Tryz.prog F_slices_SortFunc__s_Key_Key [a0, a1] s R :=
  ACalls.q (n := 14) (rs := []) (A := A_slices_SortFunc__s_Key_Key) hT hmx Tryz.func136 (by kernel_rfl) rfl rfl rfl (by kernel_rfl) (by kernel_rfl) h

/-- what slices.pdqsortCmpFunc[minster/api.Key] asks -/
def Q_slices_pdqsortCmpFunc__Key (a0 : AV) (a1 : Int) (a2 : Int) (a3 : Int) (a4 : AV) (s : AS) (R : AV → AS → Prop) : Prop :=
 LoopQ fun I1 m2 => I1 m2 [(.int .i64 a1), (.int .i64 a2), (.int .i64 a3), (.bool true), (.bool true)] s ∧
 ∀ m3 : Nat, ∀ n4 : Int, ∀ n5 : Int, ∀ n6 : Int, ∀ b7 : Bool, ∀ b8 : Bool, ∀ s9 : AS, I1 m3 [(.int .i64 n4), (.int .i64 n5), (.int .i64 n6), (.bool b7), (.bool b8)] s9 →
 bsplit (decide ((IntKind.wrap .i64 (n5 - n4) : Int) ≤ 12))
 (ACalls Tryz.prog F_slices_insertionSortCmpFunc__Key [a0, (.int .i64 n4), (.int .i64 n5), a4] s9 fun v10 s11 => v10 = .tup [] ∧ (R (.tup []) s11))
 (bsplit ((n6 : Int) == 0)
 (ACalls Tryz.prog F_slices_heapSortCmpFunc__Key [a0, (.int .i64 n4), (.int .i64 n5), a4] s9 fun v12 s13 => v12 = .tup [] ∧ (R (.tup []) s13))
 (JoinQ fun J14 =>
 (∀ n15 : Int, ∀ s16 : AS, J14 [(.int .i64 n15)] s16 →
 ACalls Tryz.prog F_slices_choosePivotCmpFunc__Key [a0, (.int .i64 n4), (.int .i64 n5), a4] s16 fun v17 s18 => ∃ n19 : Int, ∃ n20 : Int, v17 = .tup [(.int .i64 n19), (.int .i64 n20)] ∧ (JoinQ fun J21 =>
 (∀ n22 : Int, ∀ n23 : Int, ∀ s24 : AS, J21 [(.int .i64 n22), (.int .i64 n23)] s24 →
 JoinQ fun J25 =>
 (∀ s26 : AS, J25 [] s26 →
 JoinQ fun J27 =>
 (∀ b28 : Bool, ∀ s29 : AS, J27 [(.bool b28)] s29 →
 bsplit b28
 (ACalls Tryz.prog F_slices_partitionEqualCmpFunc__Key [a0, (.int .i64 n4), (.int .i64 n5), (.int .i64 n22), a4] s29 fun v30 s31 => ∃ n32 : Int, v30 = .int .i64 n32 ∧ (∃ m', m' < m3 ∧ I1 m' [(.int .i64 n32), (.int .i64 n5), (.int .i64 n15), (.bool b7), (.bool b8)] s31))
 (ACalls Tryz.prog F_slices_partitionCmpFunc__Key [a0, (.int .i64 n4), (.int .i64 n5), (.int .i64 n22), a4] s29 fun v33 s34 => ∃ n35 : Int, ∃ b36 : Bool, v33 = .tup [(.int .i64 n35), (.bool b36)] ∧ (NZ 8 (bsplit (decide ((IntKind.wrap .i64 (n35 - n4) : Int) < (IntKind.wrap .i64 (n5 - n35))))
 (ACalls Tryz.prog F_slices_pdqsortCmpFunc__Key [a0, (.int .i64 n4), (.int .i64 n35), (.int .i64 n15), a4] s34 fun v37 s38 => v37 = .tup [] ∧ (∃ m', m' < m3 ∧ I1 m' [(.int .i64 (IntKind.wrap .i64 (n35 + 1))), (.int .i64 n5), (.int .i64 n15), (.bool (decide ((IntKind.wrap .i64 (n35 - n4) : Int) ≥ (IntKind.wrap .i64 (Int.tdiv (IntKind.wrap .i64 (n5 - n4)) 8))))), (.bool b36)] s38))
 (ACalls Tryz.prog F_slices_pdqsortCmpFunc__Key [a0, (.int .i64 (IntKind.wrap .i64 (n35 + 1))), (.int .i64 n5), (.int .i64 n15), a4] s34 fun v39 s40 => v39 = .tup [] ∧ (∃ m', m' < m3 ∧ I1 m' [(.int .i64 n4), (.int .i64 n35), (.int .i64 n15), (.bool (decide ((IntKind.wrap .i64 (n5 - n35) : Int) ≥ (IntKind.wrap .i64 (Int.tdiv (IntKind.wrap .i64 (n5 - n4)) 8))))), (.bool b36)] s40)))))) ∧
 (bsplit (decide ((n4 : Int) > 0)) (IxQ (aindexAddr T Y_s_Key a0 (.int .i64 (IntKind.wrap .i64 (n4 - 1)))) fun l41 o42 => RdL (rdc s26 l41 o42 2) fun g43 => IxQ (aindexAddr T Y_s_Key a0 (.int .i64 n22)) fun l44 o45 => RdL (rdc s26 l44 o45 2) fun g46 => ACallV Tryz.prog a4 [(.agg g43), (.agg g46)] s26 fun v47 s48 => ∃ n49 : Int, v47 = .int .i64 n49 ∧ (J27 [(.bool (!(decide ((n49 : Int) < 0))))] s48)) (J27 [(.bool false)] s26))) ∧
 (JoinQ fun J50 =>
 (∀ b51 : Bool, ∀ s52 : AS, J50 [(.bool b51)] s52 →
 bsplit b51
 (ACalls Tryz.prog F_slices_partialInsertionSortCmpFunc__Key [a0, (.int .i64 n4), (.int .i64 n5), a4] s52 fun v53 s54 => ∃ b55 : Bool, v53 = .bool b55 ∧ (bsplit b55
 (R (.tup []) s54)
 (J25 [] s54)))
 (J25 [] s52)) ∧
 (bsplit b7 (bsplit b8 (J50 [(.bool ((n23 : Int) == 1))] s24) (J50 [(.bool false)] s24)) (J50 [(.bool false)] s24)))) ∧
 (bsplit ((n20 : Int) == 2)
 (ACalls Tryz.prog F_slices_reverseRangeCmpFunc__Key [a0, (.int .i64 n4), (.int .i64 n5), a4] s18 fun v56 s57 => v56 = .tup [] ∧ (J21 [(.int .i64 (IntKind.wrap .i64 ((IntKind.wrap .i64 (n5 - 1)) - (IntKind.wrap .i64 (n19 - n4))))), (.int .i64 1)] s57))
 (J21 [(.int .i64 n19), (.int .i64 n20)] s18)))) ∧
 (bsplit (!b7)
 (ACalls Tryz.prog F_slices_breakPatternsCmpFunc__Key [a0, (.int .i64 n4), (.int .i64 n5), a4] s9 fun v58 s59 => v58 = .tup [] ∧ (J14 [(.int .i64 (IntKind.wrap .i64 (n6 - 1)))] s59))
 (J14 [(.int .i64 n6)] s9))))

def A_slices_pdqsortCmpFunc__Key : QA := (.seq .leaf (.seq .leaf (.wrap (.loop [(1, .int .i64), (2, .int .i64), (3, .int .i64), (10, .bool), (11, .bool)] [(1, 3), (10, 147)] (.wrap (.seq .leaf (.seq (.seq .leaf (.cond (.seq .leaf .leaf) .leaf)) (.seq (.seq .leaf (.cond (.seq .leaf .leaf) .leaf)) (.join [(3, .int .i64)] [(3, 3), (38, 46)] (.seq .leaf (.cond (.seq .leaf .leaf) .leaf)) (.seq .leaf (.join [(13, .int .i64), (14, .int .i64)] [(13, 14), (55, 67)] (.seq .leaf (.cond (.seq .leaf (.seq .leaf .leaf)) .leaf)) (.join [] [(68, 80)] (.join [(75, .bool)] [(68, 75)] .leaf (.cond (.seq .leaf (.cond .leaf .leaf)) .leaf)) (.seq (.join [(97, .bool)] [(81, 97)] (.draw 13) (.cond (.seq .leaf (.seq .leaf .leaf)) .leaf)) (.seq .leaf (.seq .leaf (.seq .leaf (.seq .leaf (.seq .leaf (.cond (.seq .leaf (.seq .leaf .leaf)) (.seq .leaf (.seq .leaf .leaf)))))))))))))))))))))

theorem q_slices_pdqsortCmpFunc__Key (a0 : AV) (a1 : Int) (a2 : Int) (a3 : Int) (a4 : AV) (s : AS) (R : AV → AS → Prop) (h : Q_slices_pdqsortCmpFunc__Key a0 a1 a2 a3 a4 s R) : ACalls Tryz.prog F_slices_pdqsortCmpFunc__Key [a0, (.int .i64 a1), (.int .i64 a2), (.int .i64 a3), a4] s R :=
  ACalls.q (n := 148) (rs := []) (A := A_slices_pdqsortCmpFunc__Key) hT hmx Tryz.func163 (by kernel_rfl) rfl rfl rfl (by kernel_rfl) (by kernel_rfl) h

/-- what slices.insertionSortCmpFunc[minster/api.Key] asks -/
def Q_slices_insertionSortCmpFunc__Key (a0 : AV) (a1 : Int) (a2 : Int) (a3 : AV) (s : AS) (R : AV → AS → Prop) : Prop :=
 LoopQ fun I1 m2 => I1 m2 [(.int .i64 (IntKind.wrap .i64 (a1 + 1)))] s ∧
 ∀ m3 : Nat, ∀ n4 : Int, ∀ s5 : AS, I1 m3 [(.int .i64 n4)] s5 →
 bsplit (decide ((n4 : Int) < a2))
 (LoopQ fun I6 m7 => I6 m7 [(.int .i64 n4)] s5 ∧
 ∀ m8 : Nat, ∀ n9 : Int, ∀ s10 : AS, I6 m8 [(.int .i64 n9)] s10 →
 bsplit (decide ((n9 : Int) > a1)) (IxQ (aindexAddr T Y_s_Key a0 (.int .i64 n9)) fun l11 o12 => RdL (rdc s10 l11 o12 2) fun g13 => IxQ (aindexAddr T Y_s_Key a0 (.int .i64 (IntKind.wrap .i64 (n9 - 1)))) fun l14 o15 => RdL (rdc s10 l14 o15 2) fun g16 => ACallV Tryz.prog a3 [(.agg g13), (.agg g16)] s10 fun v17 s18 => ∃ n19 : Int, v17 = .int .i64 n19 ∧ (bsplit (decide ((n19 : Int) < 0))
 (IxQ (aindexAddr T Y_s_Key a0 (.int .i64 (IntKind.wrap .i64 (n9 - 1)))) fun l20 o21 => RdL (rdc s18 l20 o21 2) fun g22 => IxQ (aindexAddr T Y_s_Key a0 (.int .i64 n9)) fun l23 o24 => RdL (rdc s18 l23 o24 2) fun g25 => IxQ (aindexAddr T Y_s_Key a0 (.int .i64 n9)) fun l26 o27 => OkC (some 2) g22 (StQ (awr s18 l26 o27 g22) fun s28 => IxQ (aindexAddr T Y_s_Key a0 (.int .i64 (IntKind.wrap .i64 (n9 - 1)))) fun l29 o30 => OkC (some 2) g25 (StQ (awr s28 l29 o30 g25) fun s31 => ∃ m', m' < m8 ∧ I6 m' [(.int .i64 (IntKind.wrap .i64 (n9 - 1)))] s31)))
 (∃ m', m' < m3 ∧ I1 m' [(.int .i64 (IntKind.wrap .i64 (n4 + 1)))] s18))) (∃ m', m' < m3 ∧ I1 m' [(.int .i64 (IntKind.wrap .i64 (n4 + 1)))] s10))
 (R (.tup []) s5)

def A_slices_insertionSortCmpFunc__Key : QA := (.seq .leaf (.wrap (.loop [(8, .int .i64)] [(8, 9), (12, 52)] (.seq (.seq .leaf (.cond .leaf .leaf)) (.seq (.wrap (.seq .leaf (.wrap (.loop [(9, .int .i64)] [(9, 9), (18, 52)] (.seq (.seq (.draw 14) (.cond .leaf .leaf)) (.seq (.wrap .calm) .leaf)))))) .leaf)))))

theorem q_slices_insertionSortCmpFunc__Key (a0 : AV) (a1 : Int) (a2 : Int) (a3 : AV) (s : AS) (R : AV → AS → Prop) (h : Q_slices_insertionSortCmpFunc__Key a0 a1 a2 a3 s R) : ACalls Tryz.prog F_slices_insertionSortCmpFunc__Key [a0, (.int .i64 a1), (.int .i64 a2), a3] s R :=
  ACalls.q (n := 53) (rs := []) (A := A_slices_insertionSortCmpFunc__Key) hT hmx Tryz.func181 (by kernel_rfl) rfl rfl rfl (by kernel_rfl) (by kernel_rfl) h

/-- what slices.heapSortCmpFunc[minster/api.Key] asks -/
def Q_slices_heapSortCmpFunc__Key (a0 : AV) (a1 : Int) (a2 : Int) (a3 : AV) (s : AS) (R : AV → AS → Prop) : Prop :=
 JoinQ fun J1 =>
 (∀ s2 : AS, J1 [] s2 →
 LoopQ fun I3 m4 => I3 m4 [(.int .i64 (IntKind.wrap .i64 ((IntKind.wrap .i64 (a2 - a1)) - 1)))] s2 ∧
 ∀ m5 : Nat, ∀ n6 : Int, ∀ s7 : AS, I3 m5 [(.int .i64 n6)] s7 →
 bsplit (decide ((n6 : Int) ≥ 0))
 (IxQ (aindexAddr T Y_s_Key a0 (.int .i64 (IntKind.wrap .i64 (a1 + n6)))) fun l8 o9 => RdL (rdc s7 l8 o9 2) fun g10 => IxQ (aindexAddr T Y_s_Key a0 (.int .i64 a1)) fun l11 o12 => RdL (rdc s7 l11 o12 2) fun g13 => IxQ (aindexAddr T Y_s_Key a0 (.int .i64 a1)) fun l14 o15 => OkC (some 2) g10 (StQ (awr s7 l14 o15 g10) fun s16 => IxQ (aindexAddr T Y_s_Key a0 (.int .i64 (IntKind.wrap .i64 (a1 + n6)))) fun l17 o18 => OkC (some 2) g13 (StQ (awr s16 l17 o18 g13) fun s19 => ACalls Tryz.prog F_slices_siftDownCmpFunc__Key [a0, (.int .i64 0), (.int .i64 n6), (.int .i64 a1), a3] s19 fun v20 s21 => v20 = .tup [] ∧ (∃ m', m' < m5 ∧ I3 m' [(.int .i64 (IntKind.wrap .i64 (n6 - 1)))] s21))))
 (R (.tup []) s7)) ∧
 (NZ 2 (LoopQ fun I22 m23 => I22 m23 [(.int .i64 (IntKind.wrap .i64 (Int.tdiv (IntKind.wrap .i64 ((IntKind.wrap .i64 (a2 - a1)) - 1)) 2)))] s ∧
 ∀ m24 : Nat, ∀ n25 : Int, ∀ s26 : AS, I22 m24 [(.int .i64 n25)] s26 →
 bsplit (decide ((n25 : Int) ≥ 0))
 (ACalls Tryz.prog F_slices_siftDownCmpFunc__Key [a0, (.int .i64 n25), (.int .i64 (IntKind.wrap .i64 (a2 - a1))), (.int .i64 a1), a3] s26 fun v27 s28 => v27 = .tup [] ∧ (∃ m', m' < m24 ∧ I22 m' [(.int .i64 (IntKind.wrap .i64 (n25 - 1)))] s28))
 (J1 [] s26)))

def A_slices_heapSortCmpFunc__Key : QA := (.seq .leaf (.seq .leaf (.seq .leaf (.join [] [(11, 11), (17, 29)] (.seq .leaf (.wrap (.loop [(11, .int .i64)] [(11, 11), (20, 29)] (.seq (.seq .leaf (.cond .leaf .leaf)) (.seq (.wrap .leaf) .leaf))))) (.seq .leaf (.wrap (.loop [(12, .int .i64)] [(12, 12), (32, 59)] (.seq (.seq .leaf (.cond .leaf .leaf)) (.seq (.wrap (.seq .calm .leaf)) .leaf)))))))))

theorem q_slices_heapSortCmpFunc__Key (a0 : AV) (a1 : Int) (a2 : Int) (a3 : AV) (s : AS) (R : AV → AS → Prop) (h : Q_slices_heapSortCmpFunc__Key a0 a1 a2 a3 s R) : ACalls Tryz.prog F_slices_heapSortCmpFunc__Key [a0, (.int .i64 a1), (.int .i64 a2), a3] s R :=
  ACalls.q (n := 60) (rs := []) (A := A_slices_heapSortCmpFunc__Key) hT hmx Tryz.func182 (by kernel_rfl) rfl rfl rfl (by kernel_rfl) (by kernel_rfl) h

/-- what slices.breakPatternsCmpFunc[minster/api.Key] asks -/
def Q_slices_breakPatternsCmpFunc__Key (a0 : AV) (a1 : Int) (a2 : Int) (a3 : AV) (s : AS) (R : AV → AS → Prop) : Prop :=
 bsplit (decide ((IntKind.wrap .i64 (a2 - a1) : Int) ≥ 8))
 (NewQ (.cells [(.int .u64 0)] 0 false) s fun l1 s2 => StQ (awr s2 l1 0 [(.int .u64 (IntKind.wrap .u64 (IntKind.wrap .i64 (a2 - a1))))]) fun s3 => ACalls Tryz.prog F_slices_nextPowerOfTwo [(.int .i64 (IntKind.wrap .i64 (a2 - a1)))] s3 fun v4 s5 => ∃ n6 : Int, v4 = .int .u64 n6 ∧ (NZ 4 (LoopQ fun I7 m8 => I7 m8 [(.int .i64 (IntKind.wrap .i64 ((IntKind.wrap .i64 (a1 + (IntKind.wrap .i64 ((IntKind.wrap .i64 (Int.tdiv (IntKind.wrap .i64 (a2 - a1)) 4)) * 2)))) - 1)))] s5 ∧
 ∀ m9 : Nat, ∀ n10 : Int, ∀ s11 : AS, I7 m9 [(.int .i64 n10)] s11 →
 NZ 4 (bsplit (decide ((n10 : Int) ≤ (IntKind.wrap .i64 ((IntKind.wrap .i64 (a1 + (IntKind.wrap .i64 ((IntKind.wrap .i64 (Int.tdiv (IntKind.wrap .i64 (a2 - a1)) 4)) * 2)))) + 1))))
 (ACalls Tryz.prog F_slices_xorshift_Next [(.ptr (some (l1, 0)))] s11 fun v12 s13 => ∃ n14 : Int, v12 = .int .u64 n14 ∧ (RdA (abinInt .and .u64 n14 (IntKind.wrap .u64 (n6 - 1))) fun v15 => AsInt v15 fun n16 => JoinQ fun J17 =>
 (∀ n18 : Int, ∀ s19 : AS, J17 [(.int .i64 n18)] s19 →
 IxQ (aindexAddr T Y_s_Key a0 (.int .i64 (IntKind.wrap .i64 (a1 + n18)))) fun l20 o21 => RdL (rdc s19 l20 o21 2) fun g22 => IxQ (aindexAddr T Y_s_Key a0 (.int .i64 n10)) fun l23 o24 => RdL (rdc s19 l23 o24 2) fun g25 => IxQ (aindexAddr T Y_s_Key a0 (.int .i64 n10)) fun l26 o27 => OkC (some 2) g22 (StQ (awr s19 l26 o27 g22) fun s28 => IxQ (aindexAddr T Y_s_Key a0 (.int .i64 (IntKind.wrap .i64 (a1 + n18)))) fun l29 o30 => OkC (some 2) g25 (StQ (awr s28 l29 o30 g25) fun s31 => ∃ m', m' < m9 ∧ I7 m' [(.int .i64 (IntKind.wrap .i64 (n10 + 1)))] s31))) ∧
 (bsplit (decide ((IntKind.wrap .i64 n16 : Int) ≥ (IntKind.wrap .i64 (a2 - a1))))
 (J17 [(.int .i64 (IntKind.wrap .i64 ((IntKind.wrap .i64 n16) - (IntKind.wrap .i64 (a2 - a1)))))] s13)
 (J17 [(.int .i64 (IntKind.wrap .i64 n16))] s13))))
 (R (.tup []) s11)))))
 (R (.tup []) s)

def A_slices_breakPatternsCmpFunc__Key : QA := (.seq .leaf (.seq .leaf (.cond (.seq .leaf (.seq .leaf (.seq .leaf (.wrap (.loop [(11, .int .i64)] [(11, 12), (28, 66)] (.seq (.seq .leaf (.cond .leaf .leaf)) (.seq (.wrap (.seq .leaf (.join [(12, .int .i64)] [(12, 12), (43, 48)] (.seq .leaf (.cond .leaf .leaf)) .calm))) .leaf))))))) .leaf)))

theorem q_slices_breakPatternsCmpFunc__Key (a0 : AV) (a1 : Int) (a2 : Int) (a3 : AV) (s : AS) (R : AV → AS → Prop) (h : Q_slices_breakPatternsCmpFunc__Key a0 a1 a2 a3 s R) : ACalls Tryz.prog F_slices_breakPatternsCmpFunc__Key [a0, (.int .i64 a1), (.int .i64 a2), a3] s R :=
  ACalls.q (n := 67) (rs := []) (A := A_slices_breakPatternsCmpFunc__Key) hT hmx Tryz.func183 (by kernel_rfl) rfl rfl rfl (by kernel_rfl) (by kernel_rfl) h

/-- what slices.choosePivotCmpFunc[minster/api.Key] asks -/
def Q_slices_choosePivotCmpFunc__Key (a0 : AV) (a1 : Int) (a2 : Int) (a3 : AV) (s : AS) (R : AV → AS → Prop) : Prop :=
 NewQ (.cells [(.int .i64 0)] 0 false) s fun l1 s2 => NZ 4 (NZ 4 (NZ 4 (JoinQ fun J3 =>
 (∀ n4 : Int, ∀ s5 : AS, J3 [(.int .i64 n4)] s5 →
 RdI .i64 (rd1 s5 l1 0) fun n6 => bsplit ((n6 : Int) == 0)
 (R (.tup [(.int .i64 n4), (.int .i64 1)]) s5)
 (bsplit ((n6 : Int) == 12)
 (R (.tup [(.int .i64 n4), (.int .i64 2)]) s5)
 (R (.tup [(.int .i64 n4), (.int .i64 0)]) s5))) ∧
 (bsplit (decide ((IntKind.wrap .i64 (a2 - a1) : Int) ≥ 8))
 (JoinQ fun J7 =>
 (∀ n8 : Int, ∀ n9 : Int, ∀ n10 : Int, ∀ s11 : AS, J7 [(.int .i64 n8), (.int .i64 n9), (.int .i64 n10)] s11 →
 ACalls Tryz.prog F_slices_medianCmpFunc__Key [a0, (.int .i64 n8), (.int .i64 n9), (.int .i64 n10), (.ptr (some (l1, 0))), a3] s11 fun v12 s13 => ∃ n14 : Int, v12 = .int .i64 n14 ∧ (J3 [(.int .i64 n14)] s13)) ∧
 (bsplit (decide ((IntKind.wrap .i64 (a2 - a1) : Int) ≥ 50))
 (ACalls Tryz.prog F_slices_medianAdjacentCmpFunc__Key [a0, (.int .i64 (IntKind.wrap .i64 (a1 + (IntKind.wrap .i64 ((IntKind.wrap .i64 (Int.tdiv (IntKind.wrap .i64 (a2 - a1)) 4)) * 1))))), (.ptr (some (l1, 0))), a3] s2 fun v15 s16 => ∃ n17 : Int, v15 = .int .i64 n17 ∧ (ACalls Tryz.prog F_slices_medianAdjacentCmpFunc__Key [a0, (.int .i64 (IntKind.wrap .i64 (a1 + (IntKind.wrap .i64 ((IntKind.wrap .i64 (Int.tdiv (IntKind.wrap .i64 (a2 - a1)) 4)) * 2))))), (.ptr (some (l1, 0))), a3] s16 fun v18 s19 => ∃ n20 : Int, v18 = .int .i64 n20 ∧ (ACalls Tryz.prog F_slices_medianAdjacentCmpFunc__Key [a0, (.int .i64 (IntKind.wrap .i64 (a1 + (IntKind.wrap .i64 ((IntKind.wrap .i64 (Int.tdiv (IntKind.wrap .i64 (a2 - a1)) 4)) * 3))))), (.ptr (some (l1, 0))), a3] s19 fun v21 s22 => ∃ n23 : Int, v21 = .int .i64 n23 ∧ (J7 [(.int .i64 n17), (.int .i64 n20), (.int .i64 n23)] s22))))
 (J7 [(.int .i64 (IntKind.wrap .i64 (a1 + (IntKind.wrap .i64 ((IntKind.wrap .i64 (Int.tdiv (IntKind.wrap .i64 (a2 - a1)) 4)) * 1))))), (.int .i64 (IntKind.wrap .i64 (a1 + (IntKind.wrap .i64 ((IntKind.wrap .i64 (Int.tdiv (IntKind.wrap .i64 (a2 - a1)) 4)) * 2))))), (.int .i64 (IntKind.wrap .i64 (a1 + (IntKind.wrap .i64 ((IntKind.wrap .i64 (Int.tdiv (IntKind.wrap .i64 (a2 - a1)) 4)) * 3)))))] s2)))
 (J3 [(.int .i64 (IntKind.wrap .i64 (a1 + (IntKind.wrap .i64 ((IntKind.wrap .i64 (Int.tdiv (IntKind.wrap .i64 (a2 - a1)) 4)) * 2)))))] s2)))))

def A_slices_choosePivotCmpFunc__Key : QA := (.seq .leaf (.seq .leaf (.seq .leaf (.seq .leaf (.seq .leaf (.seq .leaf (.join [(13, .int .i64)] [(12, 14), (33, 54)] (.seq .leaf (.cond (.join [(12, .int .i64), (13, .int .i64), (14, .int .i64)] [(12, 14), (35, 48)] (.seq .leaf (.cond (.seq .leaf (.seq .leaf .leaf)) .leaf)) .leaf) .leaf)) (.seq .leaf (.wrap (.seq .leaf (.cond (.seq .leaf .leaf) (.seq .leaf (.cond (.seq .leaf .leaf) (.seq .leaf .leaf))))))))))))))

theorem q_slices_choosePivotCmpFunc__Key (a0 : AV) (a1 : Int) (a2 : Int) (a3 : AV) (s : AS) (R : AV → AS → Prop) (h : Q_slices_choosePivotCmpFunc__Key a0 a1 a2 a3 s R) : ACalls Tryz.prog F_slices_choosePivotCmpFunc__Key [a0, (.int .i64 a1), (.int .i64 a2), a3] s R :=
  ACalls.q (n := 63) (rs := [.tmp 8, .tmp 9]) (A := A_slices_choosePivotCmpFunc__Key) hT hmx Tryz.func184 (by kernel_rfl) rfl rfl rfl (by kernel_rfl) (by kernel_rfl) h

/-- what slices.reverseRangeCmpFunc[minster/api.Key] asks -/
def Q_slices_reverseRangeCmpFunc__Key (a0 : AV) (a1 : Int) (a2 : Int) (a3 : AV) (s : AS) (R : AV → AS → Prop) : Prop :=
 LoopQ fun I1 m2 => I1 m2 [(.int .i64 a1), (.int .i64 (IntKind.wrap .i64 (a2 - 1)))] s ∧
 ∀ m3 : Nat, ∀ n4 : Int, ∀ n5 : Int, ∀ s6 : AS, I1 m3 [(.int .i64 n4), (.int .i64 n5)] s6 →
 bsplit (decide ((n4 : Int) < n5))
 (IxQ (aindexAddr T Y_s_Key a0 (.int .i64 n5)) fun l7 o8 => RdL (rdc s6 l7 o8 2) fun g9 => IxQ (aindexAddr T Y_s_Key a0 (.int .i64 n4)) fun l10 o11 => RdL (rdc s6 l10 o11 2) fun g12 => IxQ (aindexAddr T Y_s_Key a0 (.int .i64 n4)) fun l13 o14 => OkC (some 2) g9 (StQ (awr s6 l13 o14 g9) fun s15 => IxQ (aindexAddr T Y_s_Key a0 (.int .i64 n5)) fun l16 o17 => OkC (some 2) g12 (StQ (awr s15 l16 o17 g12) fun s18 => ∃ m', m' < m3 ∧ I1 m' [(.int .i64 (IntKind.wrap .i64 (n4 + 1))), (.int .i64 (IntKind.wrap .i64 (n5 - 1)))] s18)))
 (R (.tup []) s6)

def A_slices_reverseRangeCmpFunc__Key : QA := (.seq .leaf (.seq .leaf (.wrap (.loop [(8, .int .i64), (9, .int .i64)] [(8, 9), (13, 33)] (.seq (.seq .leaf (.cond .leaf .leaf)) (.wrap (.seq .calm (.seq .leaf .leaf))))))))

theorem q_slices_reverseRangeCmpFunc__Key (a0 : AV) (a1 : Int) (a2 : Int) (a3 : AV) (s : AS) (R : AV → AS → Prop) (h : Q_slices_reverseRangeCmpFunc__Key a0 a1 a2 a3 s R) : ACalls Tryz.prog F_slices_reverseRangeCmpFunc__Key [a0, (.int .i64 a1), (.int .i64 a2), a3] s R :=
  ACalls.q (n := 34) (rs := []) (A := A_slices_reverseRangeCmpFunc__Key) hT hmx Tryz.func185 (by kernel_rfl) rfl rfl rfl (by kernel_rfl) (by kernel_rfl) h

/-- what slices.partialInsertionSortCmpFunc[minster/api.Key] asks -/
def Q_slices_partialInsertionSortCmpFunc__Key (a0 : AV) (a1 : Int) (a2 : Int) (a3 : AV) (s : AS) (R : AV → AS → Prop) : Prop :=
 LoopQ fun I1 m2 => I1 m2 [(.int .i64 (IntKind.wrap .i64 (a1 + 1))), (.int .i64 0)] s ∧
 ∀ m3 : Nat, ∀ n4 : Int, ∀ n5 : Int, ∀ s6 : AS, I1 m3 [(.int .i64 n4), (.int .i64 n5)] s6 →
 bsplit (decide ((n5 : Int) < 5))
 (JoinQ fun J7 =>
 (∀ n8 : Int, ∀ s9 : AS, J7 [(.int .i64 n8)] s9 →
 bsplit ((n8 : Int) == a2)
 (R (.bool true) s9)
 (bsplit (decide ((IntKind.wrap .i64 (a2 - a1) : Int) < 50))
 (R (.bool false) s9)
 (IxQ (aindexAddr T Y_s_Key a0 (.int .i64 (IntKind.wrap .i64 (n8 - 1)))) fun l10 o11 => RdL (rdc s9 l10 o11 2) fun g12 => IxQ (aindexAddr T Y_s_Key a0 (.int .i64 n8)) fun l13 o14 => RdL (rdc s9 l13 o14 2) fun g15 => IxQ (aindexAddr T Y_s_Key a0 (.int .i64 n8)) fun l16 o17 => OkC (some 2) g12 (StQ (awr s9 l16 o17 g12) fun s18 => IxQ (aindexAddr T Y_s_Key a0 (.int .i64 (IntKind.wrap .i64 (n8 - 1)))) fun l19 o20 => OkC (some 2) g15 (StQ (awr s18 l19 o20 g15) fun s21 => JoinQ fun J22 =>
 (∀ s23 : AS, J22 [] s23 →
 bsplit (decide ((IntKind.wrap .i64 (a2 - n8) : Int) ≥ 2))
 (LoopQ fun I24 m25 => I24 m25 [(.int .i64 (IntKind.wrap .i64 (n8 + 1)))] s23 ∧
 ∀ m26 : Nat, ∀ n27 : Int, ∀ s28 : AS, I24 m26 [(.int .i64 n27)] s28 →
 bsplit (decide ((n27 : Int) < a2))
 (IxQ (aindexAddr T Y_s_Key a0 (.int .i64 n27)) fun l29 o30 => RdL (rdc s28 l29 o30 2) fun g31 => IxQ (aindexAddr T Y_s_Key a0 (.int .i64 (IntKind.wrap .i64 (n27 - 1)))) fun l32 o33 => RdL (rdc s28 l32 o33 2) fun g34 => ACallV Tryz.prog a3 [(.agg g31), (.agg g34)] s28 fun v35 s36 => ∃ n37 : Int, v35 = .int .i64 n37 ∧ (bsplit (!(decide ((n37 : Int) < 0)))
 (∃ m', m' < m3 ∧ I1 m' [(.int .i64 n8), (.int .i64 (IntKind.wrap .i64 (n5 + 1)))] s36)
 (IxQ (aindexAddr T Y_s_Key a0 (.int .i64 (IntKind.wrap .i64 (n27 - 1)))) fun l38 o39 => RdL (rdc s36 l38 o39 2) fun g40 => IxQ (aindexAddr T Y_s_Key a0 (.int .i64 n27)) fun l41 o42 => RdL (rdc s36 l41 o42 2) fun g43 => IxQ (aindexAddr T Y_s_Key a0 (.int .i64 n27)) fun l44 o45 => OkC (some 2) g40 (StQ (awr s36 l44 o45 g40) fun s46 => IxQ (aindexAddr T Y_s_Key a0 (.int .i64 (IntKind.wrap .i64 (n27 - 1)))) fun l47 o48 => OkC (some 2) g43 (StQ (awr s46 l47 o48 g43) fun s49 => ∃ m', m' < m26 ∧ I24 m' [(.int .i64 (IntKind.wrap .i64 (n27 + 1)))] s49)))))
 (∃ m', m' < m3 ∧ I1 m' [(.int .i64 n8), (.int .i64 (IntKind.wrap .i64 (n5 + 1)))] s28))
 (∃ m', m' < m3 ∧ I1 m' [(.int .i64 n8), (.int .i64 (IntKind.wrap .i64 (n5 + 1)))] s23)) ∧
 (bsplit (decide ((IntKind.wrap .i64 (n8 - a1) : Int) ≥ 2))
 (LoopQ fun I50 m51 => I50 m51 [(.int .i64 (IntKind.wrap .i64 (n8 - 1)))] s21 ∧
 ∀ m52 : Nat, ∀ n53 : Int, ∀ s54 : AS, I50 m52 [(.int .i64 n53)] s54 →
 bsplit (decide ((n53 : Int) ≥ 1))
 (IxQ (aindexAddr T Y_s_Key a0 (.int .i64 n53)) fun l55 o56 => RdL (rdc s54 l55 o56 2) fun g57 => IxQ (aindexAddr T Y_s_Key a0 (.int .i64 (IntKind.wrap .i64 (n53 - 1)))) fun l58 o59 => RdL (rdc s54 l58 o59 2) fun g60 => ACallV Tryz.prog a3 [(.agg g57), (.agg g60)] s54 fun v61 s62 => ∃ n63 : Int, v61 = .int .i64 n63 ∧ (bsplit (!(decide ((n63 : Int) < 0)))
 (J22 [] s62)
 (IxQ (aindexAddr T Y_s_Key a0 (.int .i64 (IntKind.wrap .i64 (n53 - 1)))) fun l64 o65 => RdL (rdc s62 l64 o65 2) fun g66 => IxQ (aindexAddr T Y_s_Key a0 (.int .i64 n53)) fun l67 o68 => RdL (rdc s62 l67 o68 2) fun g69 => IxQ (aindexAddr T Y_s_Key a0 (.int .i64 n53)) fun l70 o71 => OkC (some 2) g66 (StQ (awr s62 l70 o71 g66) fun s72 => IxQ (aindexAddr T Y_s_Key a0 (.int .i64 (IntKind.wrap .i64 (n53 - 1)))) fun l73 o74 => OkC (some 2) g69 (StQ (awr s72 l73 o74 g69) fun s75 => ∃ m', m' < m52 ∧ I50 m' [(.int .i64 (IntKind.wrap .i64 (n53 - 1)))] s75)))))
 (J22 [] s54))
 (J22 [] s21))))))) ∧
 (LoopQ fun I76 m77 => I76 m77 [(.int .i64 n4)] s6 ∧
 ∀ m78 : Nat, ∀ n79 : Int, ∀ s80 : AS, I76 m78 [(.int .i64 n79)] s80 →
 bsplit (decide ((n79 : Int) < a2)) (IxQ (aindexAddr T Y_s_Key a0 (.int .i64 n79)) fun l81 o82 => RdL (rdc s80 l81 o82 2) fun g83 => IxQ (aindexAddr T Y_s_Key a0 (.int .i64 (IntKind.wrap .i64 (n79 - 1)))) fun l84 o85 => RdL (rdc s80 l84 o85 2) fun g86 => ACallV Tryz.prog a3 [(.agg g83), (.agg g86)] s80 fun v87 s88 => ∃ n89 : Int, v87 = .int .i64 n89 ∧ (bsplit (!(decide ((n89 : Int) < 0)))
 (∃ m', m' < m78 ∧ I76 m' [(.int .i64 (IntKind.wrap .i64 (n79 + 1)))] s88)
 (J7 [(.int .i64 n79)] s88))) (J7 [(.int .i64 n79)] s80)))
 (R (.bool false) s6)

def A_slices_partialInsertionSortCmpFunc__Key : QA := (.seq .leaf (.seq .leaf (.seq (.seq .leaf (.wrap (.loop [(9, .int .i64), (10, .int .i64)] [(8, 12), (15, 140)] (.seq (.seq .leaf (.cond .leaf .leaf)) (.seq (.wrap (.join [(9, .int .i64)] [(9, 9), (19, 38)] (.wrap (.loop [(9, .int .i64)] [(9, 9), (19, 38)] (.seq (.seq (.draw 14) (.cond .leaf .leaf)) (.wrap .leaf)))) (.seq (.seq .leaf (.cond (.seq .leaf .leaf) .leaf)) (.seq (.seq .leaf (.cond (.seq .leaf .leaf) .leaf)) (.seq .calm (.join [] [(11, 11), (62, 100)] (.seq .leaf (.cond (.seq .leaf (.wrap (.loop [(11, .int .i64)] [(11, 11), (68, 100)] (.seq (.seq .leaf (.cond .leaf .leaf)) (.seq (.wrap (.seq (.seq (.draw 10) (.cond .leaf .leaf)) .calm)) .leaf))))) .leaf)) (.seq .leaf (.cond (.seq .leaf (.wrap (.loop [(12, .int .i64)] [(12, 12), (107, 140)] (.seq (.seq .leaf (.cond .leaf .leaf)) (.seq (.wrap (.seq (.seq (.draw 10) (.cond .leaf .leaf)) .calm)) .leaf))))) .leaf)))))))) .leaf))))) (.seq .leaf .leaf))))

theorem q_slices_partialInsertionSortCmpFunc__Key (a0 : AV) (a1 : Int) (a2 : Int) (a3 : AV) (s : AS) (R : AV → AS → Prop) (h : Q_slices_partialInsertionSortCmpFunc__Key a0 a1 a2 a3 s R) : ACalls Tryz.prog F_slices_partialInsertionSortCmpFunc__Key [a0, (.int .i64 a1), (.int .i64 a2), a3] s R :=
  ACalls.q (n := 141) (rs := [.tmp 8]) (A := A_slices_partialInsertionSortCmpFunc__Key) hT hmx Tryz.func186 (by kernel_rfl) rfl rfl rfl (by kernel_rfl) (by kernel_rfl) h

/-- what slices.partitionEqualCmpFunc[minster/api.Key] asks -/
def Q_slices_partitionEqualCmpFunc__Key (a0 : AV) (a1 : Int) (a2 : Int) (a3 : Int) (a4 : AV) (s : AS) (R : AV → AS → Prop) : Prop :=
 IxQ (aindexAddr T Y_s_Key a0 (.int .i64 a3)) fun l1 o2 => RdL (rdc s l1 o2 2) fun g3 => IxQ (aindexAddr T Y_s_Key a0 (.int .i64 a1)) fun l4 o5 => RdL (rdc s l4 o5 2) fun g6 => IxQ (aindexAddr T Y_s_Key a0 (.int .i64 a1)) fun l7 o8 => OkC (some 2) g3 (StQ (awr s l7 o8 g3) fun s9 => IxQ (aindexAddr T Y_s_Key a0 (.int .i64 a3)) fun l10 o11 => OkC (some 2) g6 (StQ (awr s9 l10 o11 g6) fun s12 => LoopQ fun I13 m14 => I13 m14 [(.int .i64 (IntKind.wrap .i64 (a1 + 1))), (.int .i64 (IntKind.wrap .i64 (a2 - 1)))] s12 ∧
 ∀ m15 : Nat, ∀ n16 : Int, ∀ n17 : Int, ∀ s18 : AS, I13 m15 [(.int .i64 n16), (.int .i64 n17)] s18 →
 JoinQ fun J19 =>
 (∀ n20 : Int, ∀ s21 : AS, J19 [(.int .i64 n20)] s21 →
 JoinQ fun J22 =>
 (∀ n23 : Int, ∀ s24 : AS, J22 [(.int .i64 n23)] s24 →
 bsplit (decide ((n20 : Int) > n23))
 (R (.int .i64 n20) s24)
 (IxQ (aindexAddr T Y_s_Key a0 (.int .i64 n23)) fun l25 o26 => RdL (rdc s24 l25 o26 2) fun g27 => IxQ (aindexAddr T Y_s_Key a0 (.int .i64 n20)) fun l28 o29 => RdL (rdc s24 l28 o29 2) fun g30 => IxQ (aindexAddr T Y_s_Key a0 (.int .i64 n20)) fun l31 o32 => OkC (some 2) g27 (StQ (awr s24 l31 o32 g27) fun s33 => IxQ (aindexAddr T Y_s_Key a0 (.int .i64 n23)) fun l34 o35 => OkC (some 2) g30 (StQ (awr s33 l34 o35 g30) fun s36 => ∃ m', m' < m15 ∧ I13 m' [(.int .i64 (IntKind.wrap .i64 (n20 + 1))), (.int .i64 (IntKind.wrap .i64 (n23 - 1)))] s36)))) ∧
 (LoopQ fun I37 m38 => I37 m38 [(.int .i64 n17)] s21 ∧
 ∀ m39 : Nat, ∀ n40 : Int, ∀ s41 : AS, I37 m39 [(.int .i64 n40)] s41 →
 bsplit (decide ((n20 : Int) ≤ n40)) (IxQ (aindexAddr T Y_s_Key a0 (.int .i64 a1)) fun l42 o43 => RdL (rdc s41 l42 o43 2) fun g44 => IxQ (aindexAddr T Y_s_Key a0 (.int .i64 n40)) fun l45 o46 => RdL (rdc s41 l45 o46 2) fun g47 => ACallV Tryz.prog a4 [(.agg g44), (.agg g47)] s41 fun v48 s49 => ∃ n50 : Int, v48 = .int .i64 n50 ∧ (bsplit (decide ((n50 : Int) < 0))
 (∃ m', m' < m39 ∧ I37 m' [(.int .i64 (IntKind.wrap .i64 (n40 - 1)))] s49)
 (J22 [(.int .i64 n40)] s49))) (J22 [(.int .i64 n40)] s41))) ∧
 (LoopQ fun I51 m52 => I51 m52 [(.int .i64 n16)] s18 ∧
 ∀ m53 : Nat, ∀ n54 : Int, ∀ s55 : AS, I51 m53 [(.int .i64 n54)] s55 →
 bsplit (decide ((n54 : Int) ≤ n17)) (IxQ (aindexAddr T Y_s_Key a0 (.int .i64 a1)) fun l56 o57 => RdL (rdc s55 l56 o57 2) fun g58 => IxQ (aindexAddr T Y_s_Key a0 (.int .i64 n54)) fun l59 o60 => RdL (rdc s55 l59 o60 2) fun g61 => ACallV Tryz.prog a4 [(.agg g58), (.agg g61)] s55 fun v62 s63 => ∃ n64 : Int, v62 = .int .i64 n64 ∧ (bsplit (!(decide ((n64 : Int) < 0)))
 (∃ m', m' < m53 ∧ I51 m' [(.int .i64 (IntKind.wrap .i64 (n54 + 1)))] s63)
 (J19 [(.int .i64 n54)] s63))) (J19 [(.int .i64 n54)] s55))))

def A_slices_partitionEqualCmpFunc__Key : QA := (.seq .leaf (.seq .calm (.seq .leaf (.seq (.wrap (.loop [(11, .int .i64), (12, .int .i64)] [(11, 12), (31, 88)] (.wrap (.join [(11, .int .i64)] [(11, 11), (31, 49)] (.wrap (.loop [(11, .int .i64)] [(11, 11), (31, 49)] (.seq (.seq (.draw 13) (.cond .leaf .leaf)) (.wrap .leaf)))) (.join [(12, .int .i64)] [(12, 12), (50, 67)] (.wrap (.loop [(12, .int .i64)] [(12, 12), (50, 67)] (.seq (.seq (.draw 13) (.cond .leaf .leaf)) (.wrap .leaf)))) (.seq (.seq .leaf (.cond .leaf .leaf)) (.seq .calm (.seq .leaf .leaf)))))))) (.seq .leaf .leaf)))))

theorem q_slices_partitionEqualCmpFunc__Key (a0 : AV) (a1 : Int) (a2 : Int) (a3 : Int) (a4 : AV) (s : AS) (R : AV → AS → Prop) (h : Q_slices_partitionEqualCmpFunc__Key a0 a1 a2 a3 a4 s R) : ACalls Tryz.prog F_slices_partitionEqualCmpFunc__Key [a0, (.int .i64 a1), (.int .i64 a2), (.int .i64 a3), a4] s R :=
  ACalls.q (n := 90) (rs := [.tmp 10]) (A := A_slices_partitionEqualCmpFunc__Key) hT hmx Tryz.func187 (by kernel_rfl) rfl rfl rfl (by kernel_rfl) (by kernel_rfl) h

/-- what slices.partitionCmpFunc[minster/api.Key] asks -/
def Q_slices_partitionCmpFunc__Key (a0 : AV) (a1 : Int) (a2 : Int) (a3 : Int) (a4 : AV) (s : AS) (R : AV → AS → Prop) : Prop :=
 IxQ (aindexAddr T Y_s_Key a0 (.int .i64 a3)) fun l1 o2 => RdL (rdc s l1 o2 2) fun g3 => IxQ (aindexAddr T Y_s_Key a0 (.int .i64 a1)) fun l4 o5 => RdL (rdc s l4 o5 2) fun g6 => IxQ (aindexAddr T Y_s_Key a0 (.int .i64 a1)) fun l7 o8 => OkC (some 2) g3 (StQ (awr s l7 o8 g3) fun s9 => IxQ (aindexAddr T Y_s_Key a0 (.int .i64 a3)) fun l10 o11 => OkC (some 2) g6 (StQ (awr s9 l10 o11 g6) fun s12 => JoinQ fun J13 =>
 (∀ n14 : Int, ∀ s15 : AS, J13 [(.int .i64 n14)] s15 →
 JoinQ fun J16 =>
 (∀ n17 : Int, ∀ s18 : AS, J16 [(.int .i64 n17)] s18 →
 bsplit (decide ((n14 : Int) > n17))
 (IxQ (aindexAddr T Y_s_Key a0 (.int .i64 a1)) fun l19 o20 => RdL (rdc s18 l19 o20 2) fun g21 => IxQ (aindexAddr T Y_s_Key a0 (.int .i64 n17)) fun l22 o23 => RdL (rdc s18 l22 o23 2) fun g24 => IxQ (aindexAddr T Y_s_Key a0 (.int .i64 n17)) fun l25 o26 => OkC (some 2) g21 (StQ (awr s18 l25 o26 g21) fun s27 => IxQ (aindexAddr T Y_s_Key a0 (.int .i64 a1)) fun l28 o29 => OkC (some 2) g24 (StQ (awr s27 l28 o29 g24) fun s30 => R (.tup [(.int .i64 n17), (.bool true)]) s30)))
 (IxQ (aindexAddr T Y_s_Key a0 (.int .i64 n17)) fun l31 o32 => RdL (rdc s18 l31 o32 2) fun g33 => IxQ (aindexAddr T Y_s_Key a0 (.int .i64 n14)) fun l34 o35 => RdL (rdc s18 l34 o35 2) fun g36 => IxQ (aindexAddr T Y_s_Key a0 (.int .i64 n14)) fun l37 o38 => OkC (some 2) g33 (StQ (awr s18 l37 o38 g33) fun s39 => IxQ (aindexAddr T Y_s_Key a0 (.int .i64 n17)) fun l40 o41 => OkC (some 2) g36 (StQ (awr s39 l40 o41 g36) fun s42 => JoinQ fun J43 =>
 (∀ n44 : Int, ∀ s45 : AS, J43 [(.int .i64 n44)] s45 →
 IxQ (aindexAddr T Y_s_Key a0 (.int .i64 a1)) fun l46 o47 => RdL (rdc s45 l46 o47 2) fun g48 => IxQ (aindexAddr T Y_s_Key a0 (.int .i64 n44)) fun l49 o50 => RdL (rdc s45 l49 o50 2) fun g51 => IxQ (aindexAddr T Y_s_Key a0 (.int .i64 n44)) fun l52 o53 => OkC (some 2) g48 (StQ (awr s45 l52 o53 g48) fun s54 => IxQ (aindexAddr T Y_s_Key a0 (.int .i64 a1)) fun l55 o56 => OkC (some 2) g51 (StQ (awr s54 l55 o56 g51) fun s57 => R (.tup [(.int .i64 n44), (.bool false)]) s57))) ∧
 (LoopQ fun I58 m59 => I58 m59 [(.int .i64 (IntKind.wrap .i64 (n14 + 1))), (.int .i64 (IntKind.wrap .i64 (n17 - 1)))] s42 ∧
 ∀ m60 : Nat, ∀ n61 : Int, ∀ n62 : Int, ∀ s63 : AS, I58 m60 [(.int .i64 n61), (.int .i64 n62)] s63 →
 JoinQ fun J64 =>
 (∀ n65 : Int, ∀ s66 : AS, J64 [(.int .i64 n65)] s66 →
 JoinQ fun J67 =>
 (∀ n68 : Int, ∀ s69 : AS, J67 [(.int .i64 n68)] s69 →
 bsplit (decide ((n65 : Int) > n68))
 (J43 [(.int .i64 n68)] s69)
 (IxQ (aindexAddr T Y_s_Key a0 (.int .i64 n68)) fun l70 o71 => RdL (rdc s69 l70 o71 2) fun g72 => IxQ (aindexAddr T Y_s_Key a0 (.int .i64 n65)) fun l73 o74 => RdL (rdc s69 l73 o74 2) fun g75 => IxQ (aindexAddr T Y_s_Key a0 (.int .i64 n65)) fun l76 o77 => OkC (some 2) g72 (StQ (awr s69 l76 o77 g72) fun s78 => IxQ (aindexAddr T Y_s_Key a0 (.int .i64 n68)) fun l79 o80 => OkC (some 2) g75 (StQ (awr s78 l79 o80 g75) fun s81 => ∃ m', m' < m60 ∧ I58 m' [(.int .i64 (IntKind.wrap .i64 (n65 + 1))), (.int .i64 (IntKind.wrap .i64 (n68 - 1)))] s81)))) ∧
 (LoopQ fun I82 m83 => I82 m83 [(.int .i64 n62)] s66 ∧
 ∀ m84 : Nat, ∀ n85 : Int, ∀ s86 : AS, I82 m84 [(.int .i64 n85)] s86 →
 bsplit (decide ((n65 : Int) ≤ n85)) (IxQ (aindexAddr T Y_s_Key a0 (.int .i64 n85)) fun l87 o88 => RdL (rdc s86 l87 o88 2) fun g89 => IxQ (aindexAddr T Y_s_Key a0 (.int .i64 a1)) fun l90 o91 => RdL (rdc s86 l90 o91 2) fun g92 => ACallV Tryz.prog a4 [(.agg g89), (.agg g92)] s86 fun v93 s94 => ∃ n95 : Int, v93 = .int .i64 n95 ∧ (bsplit (!(decide ((n95 : Int) < 0)))
 (∃ m', m' < m84 ∧ I82 m' [(.int .i64 (IntKind.wrap .i64 (n85 - 1)))] s94)
 (J67 [(.int .i64 n85)] s94))) (J67 [(.int .i64 n85)] s86))) ∧
 (LoopQ fun I96 m97 => I96 m97 [(.int .i64 n61)] s63 ∧
 ∀ m98 : Nat, ∀ n99 : Int, ∀ s100 : AS, I96 m98 [(.int .i64 n99)] s100 →
 bsplit (decide ((n99 : Int) ≤ n62)) (IxQ (aindexAddr T Y_s_Key a0 (.int .i64 n99)) fun l101 o102 => RdL (rdc s100 l101 o102 2) fun g103 => IxQ (aindexAddr T Y_s_Key a0 (.int .i64 a1)) fun l104 o105 => RdL (rdc s100 l104 o105 2) fun g106 => ACallV Tryz.prog a4 [(.agg g103), (.agg g106)] s100 fun v107 s108 => ∃ n109 : Int, v107 = .int .i64 n109 ∧ (bsplit (decide ((n109 : Int) < 0))
 (∃ m', m' < m98 ∧ I96 m' [(.int .i64 (IntKind.wrap .i64 (n99 + 1)))] s108)
 (J64 [(.int .i64 n99)] s108))) (J64 [(.int .i64 n99)] s100))))))) ∧
 (LoopQ fun I110 m111 => I110 m111 [(.int .i64 (IntKind.wrap .i64 (a2 - 1)))] s15 ∧
 ∀ m112 : Nat, ∀ n113 : Int, ∀ s114 : AS, I110 m112 [(.int .i64 n113)] s114 →
 bsplit (decide ((n14 : Int) ≤ n113)) (IxQ (aindexAddr T Y_s_Key a0 (.int .i64 n113)) fun l115 o116 => RdL (rdc s114 l115 o116 2) fun g117 => IxQ (aindexAddr T Y_s_Key a0 (.int .i64 a1)) fun l118 o119 => RdL (rdc s114 l118 o119 2) fun g120 => ACallV Tryz.prog a4 [(.agg g117), (.agg g120)] s114 fun v121 s122 => ∃ n123 : Int, v121 = .int .i64 n123 ∧ (bsplit (!(decide ((n123 : Int) < 0)))
 (∃ m', m' < m112 ∧ I110 m' [(.int .i64 (IntKind.wrap .i64 (n113 - 1)))] s122)
 (J16 [(.int .i64 n113)] s122))) (J16 [(.int .i64 n113)] s114))) ∧
 (LoopQ fun I124 m125 => I124 m125 [(.int .i64 (IntKind.wrap .i64 (a1 + 1)))] s12 ∧
 ∀ m126 : Nat, ∀ n127 : Int, ∀ s128 : AS, I124 m126 [(.int .i64 n127)] s128 →
 bsplit (decide ((n127 : Int) ≤ (IntKind.wrap .i64 (a2 - 1)))) (IxQ (aindexAddr T Y_s_Key a0 (.int .i64 n127)) fun l129 o130 => RdL (rdc s128 l129 o130 2) fun g131 => IxQ (aindexAddr T Y_s_Key a0 (.int .i64 a1)) fun l132 o133 => RdL (rdc s128 l132 o133 2) fun g134 => ACallV Tryz.prog a4 [(.agg g131), (.agg g134)] s128 fun v135 s136 => ∃ n137 : Int, v135 = .int .i64 n137 ∧ (bsplit (decide ((n137 : Int) < 0))
 (∃ m', m' < m126 ∧ I124 m' [(.int .i64 (IntKind.wrap .i64 (n127 + 1)))] s136)
 (J13 [(.int .i64 n127)] s136))) (J13 [(.int .i64 n127)] s128))))

def A_slices_partitionCmpFunc__Key : QA := (.seq .leaf (.seq .calm (.seq .leaf (.join [(12, .int .i64)] [(12, 12), (32, 49)] (.wrap (.loop [(12, .int .i64)] [(12, 12), (32, 49)] (.seq (.seq (.draw 13) (.cond .leaf .leaf)) (.wrap .leaf)))) (.join [(13, .int .i64)] [(13, 13), (50, 68)] (.wrap (.loop [(13, .int .i64)] [(13, 13), (50, 68)] (.seq (.seq (.draw 13) (.cond .leaf .leaf)) (.wrap .leaf)))) (.seq (.seq .leaf (.cond (.seq .calm (.seq .leaf .leaf)) .leaf)) (.seq .calm (.seq .leaf (.seq .leaf (.join [(13, .int .i64)] [(12, 13), (105, 162)] (.wrap (.loop [(12, .int .i64), (13, .int .i64)] [(12, 13), (105, 162)] (.wrap (.join [(12, .int .i64)] [(12, 12), (105, 122)] (.wrap (.loop [(12, .int .i64)] [(12, 12), (105, 122)] (.seq (.seq (.draw 13) (.cond .leaf .leaf)) (.wrap .leaf)))) (.join [(13, .int .i64)] [(13, 13), (123, 141)] (.wrap (.loop [(13, .int .i64)] [(13, 13), (123, 141)] (.seq (.seq (.draw 13) (.cond .leaf .leaf)) (.wrap .leaf)))) (.seq (.seq .leaf (.cond .leaf .leaf)) (.seq .calm (.seq .leaf .leaf)))))))) (.seq .calm (.seq .leaf .leaf))))))))))))

theorem q_slices_partitionCmpFunc__Key (a0 : AV) (a1 : Int) (a2 : Int) (a3 : Int) (a4 : AV) (s : AS) (R : AV → AS → Prop) (h : Q_slices_partitionCmpFunc__Key a0 a1 a2 a3 a4 s R) : ACalls Tryz.prog F_slices_partitionCmpFunc__Key [a0, (.int .i64 a1), (.int .i64 a2), (.int .i64 a3), a4] s R :=
  ACalls.q (n := 178) (rs := [.tmp 10, .tmp 11]) (A := A_slices_partitionCmpFunc__Key) hT hmx Tryz.func188 (by kernel_rfl) rfl rfl rfl (by kernel_rfl) (by kernel_rfl) h

/-- what slices.siftDownCmpFunc[minster/api.Key] asks -/
def Q_slices_siftDownCmpFunc__Key (a0 : AV) (a1 : Int) (a2 : Int) (a3 : Int) (a4 : AV) (s : AS) (R : AV → AS → Prop) : Prop :=
 LoopQ fun I1 m2 => I1 m2 [(.int .i64 a1)] s ∧
 ∀ m3 : Nat, ∀ n4 : Int, ∀ s5 : AS, I1 m3 [(.int .i64 n4)] s5 →
 bsplit (decide ((IntKind.wrap .i64 ((IntKind.wrap .i64 (2 * n4)) + 1) : Int) ≥ a2))
 (R (.tup []) s5)
 (JoinQ fun J6 =>
 (∀ n7 : Int, ∀ s8 : AS, J6 [(.int .i64 n7)] s8 →
 IxQ (aindexAddr T Y_s_Key a0 (.int .i64 (IntKind.wrap .i64 (a3 + n4)))) fun l9 o10 => RdL (rdc s8 l9 o10 2) fun g11 => IxQ (aindexAddr T Y_s_Key a0 (.int .i64 (IntKind.wrap .i64 (a3 + n7)))) fun l12 o13 => RdL (rdc s8 l12 o13 2) fun g14 => ACallV Tryz.prog a4 [(.agg g11), (.agg g14)] s8 fun v15 s16 => ∃ n17 : Int, v15 = .int .i64 n17 ∧ (bsplit (!(decide ((n17 : Int) < 0)))
 (R (.tup []) s16)
 (IxQ (aindexAddr T Y_s_Key a0 (.int .i64 (IntKind.wrap .i64 (a3 + n7)))) fun l18 o19 => RdL (rdc s16 l18 o19 2) fun g20 => IxQ (aindexAddr T Y_s_Key a0 (.int .i64 (IntKind.wrap .i64 (a3 + n4)))) fun l21 o22 => RdL (rdc s16 l21 o22 2) fun g23 => IxQ (aindexAddr T Y_s_Key a0 (.int .i64 (IntKind.wrap .i64 (a3 + n4)))) fun l24 o25 => OkC (some 2) g20 (StQ (awr s16 l24 o25 g20) fun s26 => IxQ (aindexAddr T Y_s_Key a0 (.int .i64 (IntKind.wrap .i64 (a3 + n7)))) fun l27 o28 => OkC (some 2) g23 (StQ (awr s26 l27 o28 g23) fun s29 => ∃ m', m' < m3 ∧ I1 m' [(.int .i64 n7)] s29))))) ∧
 (JoinQ fun J30 =>
 (∀ b31 : Bool, ∀ s32 : AS, J30 [(.bool b31)] s32 →
 bsplit b31
 (J6 [(.int .i64 (IntKind.wrap .i64 ((IntKind.wrap .i64 ((IntKind.wrap .i64 (2 * n4)) + 1)) + 1)))] s32)
 (J6 [(.int .i64 (IntKind.wrap .i64 ((IntKind.wrap .i64 (2 * n4)) + 1)))] s32)) ∧
 (bsplit (decide ((IntKind.wrap .i64 ((IntKind.wrap .i64 ((IntKind.wrap .i64 (2 * n4)) + 1)) + 1) : Int) < a2)) (IxQ (aindexAddr T Y_s_Key a0 (.int .i64 (IntKind.wrap .i64 (a3 + (IntKind.wrap .i64 ((IntKind.wrap .i64 (2 * n4)) + 1)))))) fun l33 o34 => RdL (rdc s5 l33 o34 2) fun g35 => IxQ (aindexAddr T Y_s_Key a0 (.int .i64 (IntKind.wrap .i64 ((IntKind.wrap .i64 (a3 + (IntKind.wrap .i64 ((IntKind.wrap .i64 (2 * n4)) + 1)))) + 1)))) fun l36 o37 => RdL (rdc s5 l36 o37 2) fun g38 => ACallV Tryz.prog a4 [(.agg g35), (.agg g38)] s5 fun v39 s40 => ∃ n41 : Int, v39 = .int .i64 n41 ∧ (J30 [(.bool (decide ((n41 : Int) < 0)))] s40)) (J30 [(.bool false)] s5))))

def A_slices_siftDownCmpFunc__Key : QA := (.seq .leaf (.wrap (.loop [(10, .int .i64)] [(10, 11), (13, 81)] (.wrap (.seq .leaf (.seq (.seq .leaf (.cond .leaf .leaf)) (.join [(11, .int .i64)] [(11, 11), (19, 42)] (.join [(40, .bool)] [(19, 40)] (.draw 19) (.cond .leaf .leaf)) (.seq (.seq (.draw 13) (.cond .leaf .leaf)) (.seq .calm .leaf)))))))))

theorem q_slices_siftDownCmpFunc__Key (a0 : AV) (a1 : Int) (a2 : Int) (a3 : Int) (a4 : AV) (s : AS) (R : AV → AS → Prop) (h : Q_slices_siftDownCmpFunc__Key a0 a1 a2 a3 a4 s R) : ACalls Tryz.prog F_slices_siftDownCmpFunc__Key [a0, (.int .i64 a1), (.int .i64 a2), (.int .i64 a3), a4] s R :=
  ACalls.q (n := 82) (rs := []) (A := A_slices_siftDownCmpFunc__Key) hT hmx Tryz.func203 (by kernel_rfl) rfl rfl rfl (by kernel_rfl) (by kernel_rfl) h

/-- what slices.medianAdjacentCmpFunc[minster/api.Key] asks -/
def Q_slices_medianAdjacentCmpFunc__Key (a0 : AV) (a1 : Int) (a2 : Option (Nat × Nat)) (a3 : AV) (s : AS) (R : AV → AS → Prop) : Prop :=
 ACalls Tryz.prog F_slices_medianCmpFunc__Key [a0, (.int .i64 (IntKind.wrap .i64 (a1 - 1))), (.int .i64 a1), (.int .i64 (IntKind.wrap .i64 (a1 + 1))), (.ptr a2), a3] s fun v1 s2 => ∃ n3 : Int, v1 = .int .i64 n3 ∧ (R (.int .i64 n3) s2)

def A_slices_medianAdjacentCmpFunc__Key : QA := (.seq .leaf (.seq .leaf .leaf))

theorem q_slices_medianAdjacentCmpFunc__Key (a0 : AV) (a1 : Int) (a2 : Option (Nat × Nat)) (a3 : AV) (s : AS) (R : AV → AS → Prop) (h : Q_slices_medianAdjacentCmpFunc__Key a0 a1 a2 a3 s R) : ACalls Tryz.prog F_slices_medianAdjacentCmpFunc__Key [a0, (.int .i64 a1), (.ptr a2), a3] s R :=
  ACalls.q (n := 18) (rs := [.tmp 8]) (A := A_slices_medianAdjacentCmpFunc__Key) hT hmx Tryz.func204 (by kernel_rfl) rfl rfl rfl (by kernel_rfl) (by kernel_rfl) h

/-- what slices.medianCmpFunc[minster/api.Key] asks -/
def Q_slices_medianCmpFunc__Key (a0 : AV) (a1 : Int) (a2 : Int) (a3 : Int) (a4 : Option (Nat × Nat)) (a5 : AV) (s : AS) (R : AV → AS → Prop) : Prop :=
 ACalls Tryz.prog F_slices_order2CmpFunc__Key [a0, (.int .i64 a1), (.int .i64 a2), (.ptr a4), a5] s fun v1 s2 => ∃ n3 : Int, ∃ n4 : Int, v1 = .tup [(.int .i64 n3), (.int .i64 n4)] ∧ (ACalls Tryz.prog F_slices_order2CmpFunc__Key [a0, (.int .i64 n4), (.int .i64 a3), (.ptr a4), a5] s2 fun v5 s6 => ∃ n7 : Int, ∃ n8 : Int, v5 = .tup [(.int .i64 n7), (.int .i64 n8)] ∧ (ACalls Tryz.prog F_slices_order2CmpFunc__Key [a0, (.int .i64 n3), (.int .i64 n7), (.ptr a4), a5] s6 fun v9 s10 => ∃ n11 : Int, ∃ n12 : Int, v9 = .tup [(.int .i64 n11), (.int .i64 n12)] ∧ (R (.int .i64 n12) s10)))

def A_slices_medianCmpFunc__Key : QA := (.seq .leaf (.seq .leaf (.seq .leaf (.seq .leaf (.seq .leaf .leaf)))))

theorem q_slices_medianCmpFunc__Key (a0 : AV) (a1 : Int) (a2 : Int) (a3 : Int) (a4 : Option (Nat × Nat)) (a5 : AV) (s : AS) (R : AV → AS → Prop) (h : Q_slices_medianCmpFunc__Key a0 a1 a2 a3 a4 a5 s R) : ACalls Tryz.prog F_slices_medianCmpFunc__Key [a0, (.int .i64 a1), (.int .i64 a2), (.int .i64 a3), (.ptr a4), a5] s R :=
  ACalls.q (n := 41) (rs := [.tmp 12]) (A := A_slices_medianCmpFunc__Key) hT hmx Tryz.func205 (by kernel_rfl) rfl rfl rfl (by kernel_rfl) (by kernel_rfl) h

/-- what slices.order2CmpFunc[minster/api.Key] asks -/
def Q_slices_order2CmpFunc__Key (a0 : AV) (a1 : Int) (a2 : Int) (a3 : Option (Nat × Nat)) (a4 : AV) (s : AS) (R : AV → AS → Prop) : Prop :=
 IxQ (aindexAddr T Y_s_Key a0 (.int .i64 a2)) fun l1 o2 => RdL (rdc s l1 o2 2) fun g3 => IxQ (aindexAddr T Y_s_Key a0 (.int .i64 a1)) fun l4 o5 => RdL (rdc s l4 o5 2) fun g6 => ACallV Tryz.prog a4 [(.agg g3), (.agg g6)] s fun v7 s8 => ∃ n9 : Int, v7 = .int .i64 n9 ∧ (bsplit (decide ((n9 : Int) < 0))
 (AsSome a3 fun l10 o11 => RdI .i64 (rd1 s8 l10 o11) fun n12 => AsSome a3 fun l13 o14 => StQ (awr s8 l13 o14 [(.int .i64 (IntKind.wrap .i64 (n12 + 1)))]) fun s15 => R (.tup [(.int .i64 a2), (.int .i64 a1)]) s15)
 (R (.tup [(.int .i64 a1), (.int .i64 a2)]) s8))

def A_slices_order2CmpFunc__Key : QA := (.seq .leaf (.seq (.seq (.draw 9) (.cond (.seq .leaf (.seq .leaf .leaf)) .leaf)) (.seq .leaf .leaf)))

theorem q_slices_order2CmpFunc__Key (a0 : AV) (a1 : Int) (a2 : Int) (a3 : Option (Nat × Nat)) (a4 : AV) (s : AS) (R : AV → AS → Prop) (h : Q_slices_order2CmpFunc__Key a0 a1 a2 a3 a4 s R) : ACalls Tryz.prog F_slices_order2CmpFunc__Key [a0, (.int .i64 a1), (.int .i64 a2), (.ptr a3), a4] s R :=
  ACalls.q (n := 32) (rs := [.tmp 10, .tmp 11]) (A := A_slices_order2CmpFunc__Key) hT hmx Tryz.func210 (by kernel_rfl) rfl rfl rfl (by kernel_rfl) (by kernel_rfl) h

end Go.Proofs.YtoklmpkpeanloaaGreat
end

section
set_option linter.unusedSimpArgs false
set_option linter.unusedVariables false
set_option linter.unusedSectionVars false
namespace Go.Proofs.YtoklmpkpeanloaaGreat.SK
open Go.Am Go.Minster2 Go.Minster.SK

/-- a comparison of dots -/
class CmpOk (cf : FuncId) : Prop where
  ok : ∀ (a b : Key) (s : AS), ACalls Tryz.prog cf [.agg (keyC a), .agg (keyC b)] s fun v s' => v = .int .i64 (a.cmp b) ∧ Ext s s'
variable {cf : FuncId} [CmpOk cf]

/-- an array of dots that can be written, and the slice over its first part -/
structure Arr (s : AS) (a : AV) (lo : Nat) (l : List Key) (rest : List AV) : Prop where
  val : ∃ c e, a = .slc (some (lo, 0)) l.length c e
  obj : ∃ g, s.h lo = some (.cells (l.flatMap keyC ++ rest) g false)
section
variable {s : AS} {a : AV} {lo : Nat} {l : List Key} {rest : List AV}
theorem dots_len (l : List Key) : (l.flatMap keyC).length = l.length * 2 := by
  induction l with
  | nil => rfl
  | cons x l ih => simp only [List.flatMap_cons, List.length_append, ih, keyC_len, List.length_cons]; omega
theorem Arr.mut {L : List Nat} {s' : AS} (h : Arr s a lo l rest) (m : Mut L s s') (hL : lo ∉ L) : Arr s' a lo l rest := by
  obtain ⟨h1, g, h2⟩ := h
  exact ⟨h1, g, m.1 _ _ hL h2⟩
theorem Arr.ext {s' : AS} (h : Arr s a lo l rest) (e : Ext s s') : Arr s' a lo l rest := h.mut (L := []) e.mut (by simp)
theorem Arr.ix (h : Arr s a lo l rest) {i : Nat} (hi : i < l.length) : aindexAddr T Y_s_Key a (.int .i64 (i : Nat)) = some (.ptr (some (lo, i * 2))) := by
  obtain ⟨⟨c, e, rfl⟩, _⟩ := h
  have : (0 : Int) ≤ (i : Int) ∧ (i : Int) < (l.length : Int) := by omega
  simp only [aindexAddr, u_s_Key, z_Key, Option.bind_some]
  rw [if_pos this]
  simp
theorem Arr.rd (h : Arr s a lo l rest) {i : Nat} (hi : i < l.length) : rdc s lo (i * 2) 2 = some (keyC (el l i)) := by
  obtain ⟨_, g, h2⟩ := h
  have hat : At s lo (l.flatMap keyC ++ rest) := ⟨_, _, h2⟩
  rw [hat.rdc (by rw [List.length_append, dots_len]; omega)]
  rw [List.drop_append_of_le_length (by rw [dots_len]; omega), List.take_append_of_le_length (by rw [List.length_drop, dots_len]; omega), flat_elem keyC_len (el_get hi)]
theorem flat_set : ∀ (l : List Key) (i : Nat) (x : Key) (rest : List AV), i < l.length → wrs (l.flatMap keyC ++ rest) (i * 2) (keyC x) = (l.set i x).flatMap keyC ++ rest
  | [], i, x, rest, h => by simp at h
  | d :: l, 0, x, rest, h => by simp [wrs, keyC]
  | d :: l, i + 1, x, rest, h => by
    have ih := flat_set l i x rest (by simpa using h)
    simp only [List.flatMap_cons, List.set_cons_succ, List.append_assoc, ← ih]
    simp only [wrs, keyC, Nat.add_mul, Nat.one_mul]
    simp
theorem Arr.wr (h : Arr s a lo l rest) (hw : WFs s) {i : Nat} (hi : i < l.length) (x : Key) {K : AS → Prop} (hk : ∀ s', Arr s' a lo (l.set i x) rest → WFs s' → Mut [lo] s s' → K s') : OkC (some 2) (keyC x) (StQ (awr s lo (i * 2) (keyC x)) K) := by
  obtain ⟨h1, g, h2⟩ := h
  refine ⟨⟨rfl, rfl⟩, StQ.awr hw h2 (by rw [List.length_append, dots_len, keyC_len]; omega) fun s' P => hk s' ⟨?_, g, ?_⟩ P.wf P.mut⟩
  · rw [List.length_set]; exact h1
  · rw [P.at, flat_set l i x rest hi]
/-- data[i], data[j] = data[j], data[i] -/
theorem Arr.swap (h : Arr s a lo l rest) (hw : WFs s) {i j : Nat} (hi : i < l.length) (hj : j < l.length) {K : AS → Prop} (hk : ∀ s', Arr s' a lo (swp l i j) rest → WFs s' → Mut [lo] s s' → K s') :
    IxQ (aindexAddr T Y_s_Key a (.int .i64 (j : Nat))) fun l20 o21 => RdL (rdc s l20 o21 2) fun g22 => IxQ (aindexAddr T Y_s_Key a (.int .i64 (i : Nat))) fun l23 o24 => RdL (rdc s l23 o24 2) fun g25 => IxQ (aindexAddr T Y_s_Key a (.int .i64 (i : Nat))) fun l26 o27 => OkC (some 2) g22 (StQ (awr s l26 o27 g22) fun s28 => IxQ (aindexAddr T Y_s_Key a (.int .i64 (j : Nat))) fun l29 o30 => OkC (some 2) g25 (StQ (awr s28 l29 o30 g25) fun s31 => K s31)) :=
  ⟨_, _, h.ix hj, _, h.rd hj, _, _, h.ix hi, _, h.rd hi, _, _, h.ix hi, h.wr hw hi _ fun s1 h1 w1 m1 =>
    ⟨_, _, h1.ix (by simpa using hj), h1.wr w1 (by simpa using hj) _ fun s2 h2 w2 m2 => hk s2 h2 w2 (m1.trans m2)⟩⟩
/-- cmp(data[i], data[j]) -/
theorem Arr.cmp (h : Arr s a lo l rest) {i j : Nat} (hi : i < l.length) (hj : j < l.length) {K : Int → AS → Prop} (hk : ∀ s', Arr s' a lo l rest → WFs s' → Mut [lo] s s' → K ((el l i).cmp (el l j)) s') :
    IxQ (aindexAddr T Y_s_Key a (.int .i64 (i : Nat))) fun l11 o12 => RdL (rdc s l11 o12 2) fun g13 => IxQ (aindexAddr T Y_s_Key a (.int .i64 (j : Nat))) fun l14 o15 => RdL (rdc s l14 o15 2) fun g16 => ACallV Tryz.prog (.func cf []) [(.agg g13), (.agg g16)] s fun v17 s18 => ∃ n19 : Int, v17 = .int .i64 n19 ∧ K n19 s18 := by
  refine ⟨_, _, h.ix hi, _, h.rd hi, _, _, h.ix hj, _, h.rd hj, ?_⟩
  refine ACalls.use (CmpOk.ok _ _ _) ?_
  rintro v s' ⟨rfl, e⟩ hw
  exact ⟨_, rfl, hk s' (h.ext e) hw e.mut⟩
end

theorem insSort_ok {s : AS} {a : AV} {lo : Nat} {l : List Key} {rest : List AV} {x y : Nat} (h : Arr s a lo l rest) (hxy : x ≤ y) (hy : y ≤ l.length) (hn : l.length ≤ 2 ^ 40) :
    ACalls Tryz.prog F_slices_insertionSortCmpFunc__Key [a, .int .i64 (x : Nat), .int .i64 (y : Nat), .func cf []] s fun r s' => r = .tup [] ∧ ∃ l', Arr s' a lo l' rest ∧ Sw x y l l' ∧ Srt l' x y ∧ Mut [lo] s s' := by
  refine ACalls.pre fun hw => q_slices_insertionSortCmpFunc__Key _ _ _ _ _ _ ⟨fun m vs s' => ∃ (i : Nat) (l' : List Key), vs = [.int .i64 (i : Nat)] ∧ x + 1 ≤ i ∧ (i ≤ y ∨ i = x + 1) ∧ m = y - i ∧ Arr s' a lo l' rest ∧ WFs s' ∧ Sw x y l l' ∧ Srt l' x i ∧ Mut [lo] s s', y - (x + 1), ⟨x + 1, l, by rw [wrap_i (by omega)]; rfl, by omega, .inr rfl, rfl, h, hw, .refl _, fun p q h1 h2 h3 => by omega, Mut.refl _ _⟩, ?_⟩
  rintro m n s5 ⟨i, l1, hi, hxi, hiy, rfl, a5, w5, sw5, so5, m5⟩
  simp only [List.cons.injEq, AV.int.injEq, true_and, and_true] at hi
  subst hi
  have hl1 := sw5.len
  refine bsplit.dec (fun hlt => ?_) (fun hge => ⟨rfl, l1, a5, sw5, fun p q h1 h2 h3 => so5 p q h1 h2 (by omega), m5⟩)
  have fin : ∀ s' l', Arr s' a lo l' rest → WFs s' → Sw x y l l' → Srt l' x (i + 1) → Mut [lo] s s' → ∃ m', m' < y - i ∧ ∃ (k : Nat) (l' : List Key), [AV.int .i64 (IntKind.wrap .i64 ((i : Int) + 1))] = [.int .i64 (k : Nat)] ∧ x + 1 ≤ k ∧ (k ≤ y ∨ k = x + 1) ∧ m' = y - k ∧ Arr s' a lo l' rest ∧ WFs s' ∧ Sw x y l l' ∧ Srt l' x k ∧ Mut [lo] s s' :=
    fun s' l' h1 h2 h3 h4 h5 => ⟨y - (i + 1), by omega, i + 1, l', by rw [wrap_i (by omega)]; rfl, by omega, .inl (by omega), rfl, h1, h2, h3, h4, h5⟩
  refine ⟨fun m vs s' => ∃ (j : Nat) (l' : List Key), vs = [.int .i64 (j : Nat)] ∧ x ≤ j ∧ j ≤ i ∧ m = j - x ∧ Arr s' a lo l' rest ∧ WFs s' ∧ Sw x y l l' ∧ (∀ p q, x ≤ p → p < q → q ≤ i → q ≠ j → (el l' p).le (el l' q)) ∧ Mut [lo] s s', i - x, ⟨i, l1, rfl, by omega, by omega, rfl, a5, w5, sw5, fun p q h1 h2 h3 h4 => so5 p q h1 h2 (by omega), m5⟩, ?_⟩
  rintro m n s10 ⟨j, l2, hj, hxj, hji, rfl, a10, w10, sw10, so10, m10⟩
  simp only [List.cons.injEq, AV.int.injEq, true_and, and_true] at hj
  subst hj
  have hl2 := sw10.len
  refine bsplit.dec (fun hgt => ?_) (fun hle => fin _ l2 a10 w10 sw10 (ins_end hxj hji (.inl (by omega)) so10) m10)
  rw [wrap_i (by omega), show (j : Int) - 1 = ((j - 1 : Nat) : Int) by omega]
  refine a10.cmp (by omega) (by omega) fun s18 a18 w18 m18 => bsplit.dec (fun hc => ?_) (fun hc => fin _ l2 a18 w18 sw10 (ins_end hxj hji (.inr (Key.nlt_le (by rw [← Key.cmp_lt]; exact hc))) so10) (m10.trans m18))
  rw [Key.cmp_lt] at hc
  refine a18.swap w18 (by omega) (by omega) fun s31 a31 w31 m31 => ⟨j - 1 - x, by omega, j - 1, _, rfl, by omega, by omega, rfl, a31, w31, .step sw10 ⟨by omega, by omega⟩ ⟨by omega, by omega⟩ (by omega), ins_step (by omega) (by omega) hji hc so10, (m10.trans m18).trans m31⟩
end Go.Proofs.YtoklmpkpeanloaaGreat.SK
end

section
set_option linter.unusedSimpArgs false
set_option linter.unusedVariables false
set_option linter.unusedSectionVars false
namespace Go.Proofs.YtoklmpkpeanloaaGreat.SK
open Go.Am Go.Minster2 Go.Minster.SK
variable {cf : FuncId} [CmpOk cf]

theorem wadd {x y : Nat} (h : x + y ≤ 4611686018427387904) : IntKind.wrap .i64 ((x : Int) + (y : Int)) = ((x + y : Nat) : Int) := by rw [wrap_i (by omega)]; omega
theorem wadd1 {x : Nat} (h : x + 1 ≤ 4611686018427387904) : IntKind.wrap .i64 ((x : Int) + 1) = ((x + 1 : Nat) : Int) := by rw [wrap_i (by omega)]; omega
theorem wsub {x y : Nat} (h : y ≤ x) (h' : x ≤ 4611686018427387904) : IntKind.wrap .i64 ((x : Int) - (y : Int)) = ((x - y : Nat) : Int) := by rw [wrap_i (by omega)]; omega
theorem wsub1 {x : Nat} (h : 1 ≤ x) (h' : x ≤ 4611686018427387904) : IntKind.wrap .i64 ((x : Int) - 1) = ((x - 1 : Nat) : Int) := by rw [wrap_i (by omega)]; omega
theorem wmul2 {x : Nat} (h : 2 * x ≤ 4611686018427387904) : IntKind.wrap .i64 (2 * (x : Int)) = ((2 * x : Nat) : Int) := by rw [wrap_i (by omega)]; omega
theorem tdivN (x k : Nat) : Int.tdiv (x : Int) (k : Int) = ((x / k : Nat) : Int) := rfl
theorem wid {x : Nat} (h : x ≤ 4611686018427387904) : IntKind.wrap .i64 (x : Int) = (x : Int) := wrap_i (by omega)

theorem siftDown_ok {s : AS} {a : AV} {lo : Nat} {l : List Key} {rest : List AV} {k n f : Nat} (h : Arr s a lo l rest) (hl : f + n ≤ l.length) (hn : l.length ≤ 2 ^ 40) (hk : k ≤ 2 ^ 40) (hh : Heap l f n (k + 1)) :
    ACalls Tryz.prog F_slices_siftDownCmpFunc__Key [a, .int .i64 (k : Nat), .int .i64 (n : Nat), .int .i64 (f : Nat), .func cf []] s fun r s' => r = .tup [] ∧ ∃ l', Arr s' a lo l' rest ∧ Sw f (f + n) l l' ∧ Heap l' f n k ∧ Mut [lo] s s' := by
  refine ACalls.pre fun hw => q_slices_siftDownCmpFunc__Key _ _ _ _ _ _ _ ⟨fun m vs s' => ∃ (root : Nat) (l' : List Key), vs = [.int .i64 (root : Nat)] ∧ root ≤ n + k ∧ m = n + k - root ∧ Arr s' a lo l' rest ∧ WFs s' ∧ Sw f (f + n) l l' ∧ Sift l' f n k root ∧ Mut [lo] s s', n + k - k, ⟨k, l, rfl, by omega, rfl, h, hw, .refl _, hh.sift, Mut.refl _ _⟩, ?_⟩
  rintro m n4 s5 ⟨root, l1, hi, hrt, rfl, a5, w5, sw5, sf5, m5⟩
  simp only [List.cons.injEq, AV.int.injEq, true_and, and_true] at hi
  subst hi
  have hl1 := sw5.len
  rw [wmul2 (by omega), wadd1 (by omega)]
  refine bsplit.dec (fun hge => ⟨rfl, l1, a5, sw5, sf5.done fun c h0 hc hp => by omega, m5⟩) (fun hlt => ?_)
  refine ⟨fun vs s' => ∃ child : Nat, vs = [.int .i64 (child : Nat)] ∧ (child = 2 * root + 1 ∨ child = 2 * root + 2) ∧ child < n ∧ Arr s' a lo l1 rest ∧ WFs s' ∧ Mut [lo] s s' ∧ (∀ c, 0 < c → c < n → (c - 1) / 2 = root → (el l1 (f + c)).le (el l1 (f + child))), ?_, ?_⟩
  · rintro n7 s8 ⟨child, hc, hch, hcn, a8, w8, m8, hmax⟩
    simp only [List.cons.injEq, AV.int.injEq, true_and, and_true] at hc
    subst hc
    rw [wadd (by omega), wadd (by omega)]
    refine a8.cmp (by omega) (by omega) fun s16 a16 w16 m16 => ?_
    refine bsplit.mk (fun hc => ?_) (fun hc => ?_)
    · have hle := Key.nlt_le (show ¬ (el l1 (f + root)).lt (el l1 (f + child)) = true by rw [← Key.cmp_lt]; simpa using hc)
      exact ⟨rfl, l1, a16, sw5, sf5.done fun c h0 hc hp => Key.le_trans (hmax c h0 hc hp) hle, m8.trans m16⟩
    · have hlt2 : (el l1 (f + root)).lt (el l1 (f + child)) = true := by rw [← Key.cmp_lt]; simpa using hc
      refine a16.swap w16 (by omega) (by omega) fun s29 a29 w29 m29 => ⟨n + k - child, by omega, child, _, rfl, by omega, rfl, a29, w29, .step sw5 ⟨by omega, by omega⟩ ⟨by omega, by omega⟩ (by omega), sf5.step (by omega) hch hcn hlt2 hmax, (m8.trans m16).trans m29⟩
  · refine ⟨fun vs s' => ∃ t, vs = [.bool t] ∧ Arr s' a lo l1 rest ∧ WFs s' ∧ Mut [lo] s s' ∧ (t = true → 2 * root + 2 < n ∧ (el l1 (f + (2 * root + 1))).lt (el l1 (f + (2 * root + 2))) = true) ∧ (t = false → 2 * root + 2 < n → (el l1 (f + (2 * root + 2))).le (el l1 (f + (2 * root + 1)))), ?_, ?_⟩
    · rintro b s32 ⟨t, ht, a32, w32, m32, h1, h2⟩
      simp only [List.cons.injEq, AV.bool.injEq, and_true] at ht
      subst ht
      refine bsplit.mk (fun hb => ?_) (fun hb => ?_)
      · obtain ⟨h3, h4⟩ := h1 hb
        rw [wadd1 (by omega)]
        refine ⟨2 * root + 2, rfl, .inr rfl, h3, a32, w32, m32, fun c h0 hc hp => ?_⟩
        rcases (show c = 2 * root + 1 ∨ c = 2 * root + 2 by omega) with rfl | rfl
        · exact Key.lt_le h4
        · exact Key.le_refl _
      · refine ⟨2 * root + 1, rfl, .inl rfl, by omega, a32, w32, m32, fun c h0 hc hp => ?_⟩
        rcases (show c = 2 * root + 1 ∨ c = 2 * root + 2 by omega) with rfl | rfl
        · exact Key.le_refl _
        · exact h2 hb hc
    · rw [wadd1 (by omega)]
      refine bsplit.dec (fun hlt2 => ?_) (fun hge => ⟨false, rfl, a5, w5, m5, by simp, fun _ h => by omega⟩)
      rw [wadd (by omega), wadd1 (by omega)]
      refine a5.cmp (by omega) (by omega) fun s40 a40 w40 m40 => ⟨_, rfl, a40, w40, m5.trans m40, fun h => ⟨by omega, ?_⟩, fun h _ => ?_⟩
      · have := of_decide_eq_true h
        rw [Key.cmp_lt] at this
        exact this
      · have := of_decide_eq_false h
        rw [Key.cmp_lt] at this
        exact Key.nlt_le this

theorem heapSort_ok {s : AS} {a : AV} {lo : Nat} {l : List Key} {rest : List AV} {x y : Nat} (h : Arr s a lo l rest) (hxy : x < y) (hy : y ≤ l.length) (hn : l.length ≤ 2 ^ 40) :
    ACalls Tryz.prog F_slices_heapSortCmpFunc__Key [a, .int .i64 (x : Nat), .int .i64 (y : Nat), .func cf []] s fun r s' => r = .tup [] ∧ ∃ l', Arr s' a lo l' rest ∧ Sw x y l l' ∧ Srt l' x y ∧ Mut [lo] s s' := by
  refine ACalls.pre fun hw => q_slices_heapSortCmpFunc__Key _ _ _ _ _ _ ⟨fun vs s' => ∃ l', Arr s' a lo l' rest ∧ WFs s' ∧ Sw x y l l' ∧ Heap l' x (y - x) 0 ∧ Mut [lo] s s', ?_, by decide, ?_⟩
  · rintro s2 ⟨l1, a2, w2, sw2, hp2, m2⟩
    have hl1 := sw2.len
    rw [wsub (by omega) (by omega), wsub1 (by omega) (by omega)]
    refine ⟨fun m vs s' => ∃ (i : Nat) (l' : List Key), vs = [.int .i64 ((i : Int) - 1)] ∧ i ≤ y - x ∧ m = 2 * i ∧ Arr s' a lo l' rest ∧ WFs s' ∧ Sw x y l l' ∧ Heap l' x i 0 ∧ Tail l' x y i ∧ Mut [lo] s s', 2 * (y - x), ⟨y - x, l1, by congr 2; omega, by omega, rfl, a2, w2, sw2, hp2, fun p q _ _ _ _ => by omega, m2⟩, ?_⟩
    rintro m n6 s7 ⟨i, l2, hi, hiy, rfl, a7, w7, sw7, hp7, tl7, m7⟩
    simp only [List.cons.injEq, AV.int.injEq, true_and, and_true] at hi
    subst hi
    have hl2 := sw7.len
    refine bsplit.dec (fun hge => ?_) (fun hlt => ?_)
    · obtain ⟨j, rfl⟩ : ∃ j, i = j + 1 := ⟨i - 1, by omega⟩
      rw [show (((j + 1 : Nat) : Int) - 1) = (j : Int) by omega, wadd (by omega)]
      obtain ⟨t1, t2⟩ := tl7.swap (n := j) (by omega) (by omega) hp7
      refine a7.swap w7 (by omega) (by omega) fun s23 a23 w23 m23 => ?_
      have sw23 : Sw x y l (swp l2 x (x + j)) := .step sw7 ⟨by omega, by omega⟩ ⟨by omega, by omega⟩ (by omega)
      refine ACalls.use (siftDown_ok (k := 0) (n := j) (f := x) a23 (by rw [swp_len]; omega) (by rw [swp_len]; omega) (by omega) t2) ?_
      rintro r s25 ⟨rfl, l3, a25, sw25, hp25, m25⟩ w25
      refine ⟨rfl, 2 * j, by omega, j, l3, by rw [wrap_i' (by omega)], by omega, rfl, a25, w25, sw23.trans (sw25.widen (Nat.le_refl _) (by omega) (by rw [swp_len]; omega)), hp25, t1.sw sw25, (m7.trans m23).trans m25⟩
    · obtain rfl : i = 0 := by omega
      exact ⟨rfl, l2, a7, sw7, fun p q h1 h2 h3 => tl7 p q h1 h2 h3 (by omega), m7⟩
  · rw [wsub (by omega) (by omega), wsub1 (by omega) (by omega), show (2 : Int) = ((2 : Nat) : Int) by rfl, tdivN, wid (by omega)]
    refine ⟨fun m vs s' => ∃ (i : Nat) (l' : List Key), vs = [.int .i64 ((i : Int) - 1)] ∧ i ≤ y - x ∧ m = 2 * i ∧ Arr s' a lo l' rest ∧ WFs s' ∧ Sw x y l l' ∧ Heap l' x (y - x) i ∧ Mut [lo] s s', 2 * ((y - x - 1) / 2 + 1), ⟨(y - x - 1) / 2 + 1, l, by congr 2; omega, by omega, rfl, h, hw, .refl _, fun c _ _ _ => by omega, Mut.refl _ _⟩, ?_⟩
    rintro m n29 s30 ⟨i, l2, hi, hiy, rfl, a30, w30, sw30, hp30, m30⟩
    simp only [List.cons.injEq, AV.int.injEq, true_and, and_true] at hi
    subst hi
    have hl2 := sw30.len
    refine bsplit.dec (fun hge => ?_) (fun hlt => ?_)
    · obtain ⟨j, rfl⟩ : ∃ j, i = j + 1 := ⟨i - 1, by omega⟩
      rw [show (((j + 1 : Nat) : Int) - 1) = (j : Int) by omega]
      refine ACalls.use (siftDown_ok (k := j) (n := y - x) (f := x) a30 (by omega) (by omega) (by omega) hp30) ?_
      rintro r s32 ⟨rfl, l3, a32, sw32, hp32, m32⟩ w32
      refine ⟨rfl, 2 * j, by omega, j, l3, by rw [wrap_i' (by omega)], by omega, rfl, a32, w32, sw30.trans (by rw [show x + (y - x) = y by omega] at sw32; exact sw32), hp32, m30.trans m32⟩
    · obtain rfl : i = 0 := by omega
      exact ⟨l2, a30, w30, sw30, hp30, m30⟩
end Go.Proofs.YtoklmpkpeanloaaGreat.SK
end

section
set_option linter.unusedSimpArgs false
set_option linter.unusedVariables false
set_option linter.unusedSectionVars false
namespace Go.Proofs.YtoklmpkpeanloaaGreat.SK
open Go.Am Go.Minster2 Go.Minster.SK
variable {cf : FuncId} [CmpOk cf]

theorem reverse_ok {s : AS} {a : AV} {lo : Nat} {l : List Key} {rest : List AV} {x y : Nat} (h : Arr s a lo l rest) (hxy : x < y) (hy : y ≤ l.length) (hn : l.length ≤ 2 ^ 40) :
    ACalls Tryz.prog F_slices_reverseRangeCmpFunc__Key [a, .int .i64 (x : Nat), .int .i64 (y : Nat), .func cf []] s fun r s' => r = .tup [] ∧ ∃ l', Arr s' a lo l' rest ∧ Sw x y l l' ∧ Mut [lo] s s' := by
  refine ACalls.pre fun hw => q_slices_reverseRangeCmpFunc__Key _ _ _ _ _ _ ⟨fun m vs s' => ∃ (i j : Nat) (l' : List Key), vs = [.int .i64 (i : Nat), .int .i64 (j : Nat)] ∧ x ≤ i ∧ j < y ∧ i ≤ j + 1 ∧ m = j + 1 - i ∧ Arr s' a lo l' rest ∧ WFs s' ∧ Sw x y l l' ∧ Mut [lo] s s', y - 1 + 1 - x, ⟨x, y - 1, l, by rw [wsub1 (by omega) (by omega)], by omega, by omega, by omega, rfl, h, hw, .refl _, Mut.refl _ _⟩, ?_⟩
  rintro m n4 n5 s6 ⟨i, j, l1, hij, hx, hj, hle, rfl, a6, w6, sw6, m6⟩
  simp only [List.cons.injEq, AV.int.injEq, true_and, and_true] at hij
  obtain ⟨rfl, rfl⟩ := hij
  have hl1 := sw6.len
  refine bsplit.dec (fun hlt => ?_) (fun hge => ⟨rfl, l1, a6, sw6, m6⟩)
  refine a6.swap w6 (by omega) (by omega) fun s18 a18 w18 m18 => ?_
  rw [wadd1 (by omega), wsub1 (by omega) (by omega)]
  exact ⟨j - 1 + 1 - (i + 1), by omega, i + 1, j - 1, _, rfl, by omega, by omega, by omega, rfl, a18, w18, .step sw6 ⟨by omega, by omega⟩ ⟨by omega, by omega⟩ (by omega), m6.trans m18⟩

/-- a partition in the making, in memory -/
structure PSt (L G : Key → Key → Prop) (s : AS) (a : AV) (lo : Nat) (rest : List AV) (l : List Key) (x y : Nat) (s' : AS) (l' : List Key) (i j : Nat) : Prop where
  arr : Arr s' a lo l' rest
  wf : WFs s'
  sw : Sw x y l l'
  prt : Prt L G l' x y i j
  chg : Mut [lo] s s'
theorem PSt.to {L G : Key → Key → Prop} {s : AS} {a : AV} {lo : Nat} {rest : List AV} {l : List Key} {x y : Nat} {s' s'' : AS} {l' : List Key} {i j i' j' : Nat} (h : PSt L G s a lo rest l x y s' l' i j) (ha : Arr s'' a lo l' rest) (hw : WFs s'') (m : Mut [lo] s' s'') (hp : Prt L G l' x y i' j') : PSt L G s a lo rest l x y s'' l' i' j' :=
  ⟨ha, hw, h.sw, hp, h.chg.trans m⟩

theorem partition_ok {s : AS} {a : AV} {lo : Nat} {l : List Key} {rest : List AV} {x y p : Nat} (h : Arr s a lo l rest) (hp : x ≤ p ∧ p < y) (hy : y ≤ l.length) (hn : l.length ≤ 2 ^ 40) :
    ACalls Tryz.prog F_slices_partitionCmpFunc__Key [a, .int .i64 (x : Nat), .int .i64 (y : Nat), .int .i64 (p : Nat), .func cf []] s fun r s' => ∃ (m : Nat) (b : Bool) (l' : List Key), r = .tup [.int .i64 (m : Nat), .bool b] ∧ Arr s' a lo l' rest ∧ Sw x y l l' ∧ Parted l' x y m ∧ Mut [lo] s s' := by
  refine ACalls.pre fun hw => q_slices_partitionCmpFunc__Key _ _ _ _ _ _ _ ?_
  refine h.swap hw (by omega) (by omega) fun s12 a12 w12 m12 => ?_
  have sw12 : Sw x y l (swp l x p) := .step (.refl _) ⟨by omega, by omega⟩ hp hy
  have fin : ∀ s' l' i j, PSt Lt Ge s a lo rest l x y s' l' i j → j < i → ∀ s'' , Arr s'' a lo (swp l' j x) rest → Mut [lo] s' s'' → ∀ b : Bool, ∃ (m : Nat) (b' : Bool) (l' : List Key), AV.tup [.int .i64 (j : Nat), .bool b] = .tup [.int .i64 (m : Nat), .bool b'] ∧ Arr s'' a lo l' rest ∧ Sw x y l l' ∧ Parted l' x y m ∧ Mut [lo] s s'' := by
    intro s' l' i j st hij s'' a2 m2 b
    have := st.prt.ij
    have := st.prt.xi
    have := st.prt.jy
    have hl' := st.sw.len
    exact ⟨j, b, _, rfl, a2, .step st.sw ⟨by omega, by omega⟩ ⟨by omega, by omega⟩ (by omega), st.prt.fin (by omega) hij, st.chg.trans m2⟩
  have ngt : ∀ {u v : Key}, ¬ u.cmp v < 0 → Ge u v := fun h => Key.nlt_le (by rw [← Key.cmp_lt]; exact h)
  have ylt : ∀ {u v : Key}, u.cmp v < 0 → Lt u v := fun h => Key.cmp_lt.1 h
  refine ⟨fun vs s' => ∃ (i : Nat) (l' : List Key), vs = [.int .i64 (i : Nat)] ∧ PSt Lt Ge s a lo rest l x y s' l' i (y - 1) ∧ (i ≤ y - 1 → Ge (el l' i) (el l' x)), ?_, ?_⟩
  · rintro n14 s15 ⟨i, l1, hi, st15, g15⟩
    simp only [List.cons.injEq, AV.int.injEq, true_and, and_true] at hi
    subst hi
    have hl1 := st15.sw.len
    have hxi := st15.prt.xi
    have hiy := st15.prt.ij
    refine ⟨fun vs s' => ∃ j : Nat, vs = [.int .i64 (j : Nat)] ∧ PSt Lt Ge s a lo rest l x y s' l1 i j ∧ (i ≤ j → Lt (el l1 j) (el l1 x)), ?_, ?_⟩
    · rintro n17 s18 ⟨j, hj, st18, g18⟩
      simp only [List.cons.injEq, AV.int.injEq, true_and, and_true] at hj
      subst hj
      have hjy := st18.prt.jy
      have hij := st18.prt.ij
      refine bsplit.dec (fun hgt => ?_) (fun hle => ?_)
      · refine st18.arr.swap st18.wf (by omega) (by omega) fun s30 a30 w30 m30 => fin _ _ _ _ st18 (by omega) _ a30 m30 true
      · have hne : i ≠ j := by
          rintro rfl
          have h1 := g15 (by omega)
          have h2 := g18 (by omega)
          rw [Lt] at h2; rw [Ge, Key.le] at h1
          rw [h1] at h2; cases h2
        refine st18.arr.swap st18.wf (by omega) (by omega) fun s42 a42 w42 m42 => ?_
        have st42 : PSt Lt Ge s a lo rest l x y s42 (swp l1 i j) (i + 1) (j - 1) := ⟨a42, w42, .step st18.sw ⟨by omega, by omega⟩ ⟨by omega, by omega⟩ (by omega), st18.prt.swap (by omega) (by omega) (g18 (by omega)) (g15 (by omega)), st18.chg.trans m42⟩
        refine ⟨fun vs s' => ∃ (i j : Nat) (l' : List Key), vs = [.int .i64 (j : Nat)] ∧ j < i ∧ PSt Lt Ge s a lo rest l x y s' l' i j, ?_, ?_⟩
        · rintro n44 s45 ⟨i', j', l', hj', hij', st45⟩
          simp only [List.cons.injEq, AV.int.injEq, true_and, and_true] at hj'
          subst hj'
          have := st45.prt.jy
          have := st45.prt.xi
          have := st45.sw.len
          refine st45.arr.swap st45.wf (by omega) (by omega) fun s57 a57 w57 m57 => fin _ _ _ _ st45 hij' _ a57 m57 false
        · rw [wadd1 (by omega), wsub1 (by omega) (by omega)]
          refine ⟨fun m vs s' => ∃ (i j : Nat) (l' : List Key), vs = [.int .i64 (i : Nat), .int .i64 (j : Nat)] ∧ m = j + 1 - i ∧ PSt Lt Ge s a lo rest l x y s' l' i j, _, ⟨i + 1, j - 1, _, rfl, rfl, st42⟩, ?_⟩
          rintro m n61 n62 s63 ⟨i2, j2, l2, hij2, rfl, st63⟩
          simp only [List.cons.injEq, AV.int.injEq, true_and, and_true] at hij2
          obtain ⟨rfl, rfl⟩ := hij2
          have hl2 := st63.sw.len
          have hx2 := st63.prt.xi
          have hjy2 := st63.prt.jy
          have hij2 := st63.prt.ij
          refine ⟨fun vs s' => ∃ (i : Nat), vs = [.int .i64 (i : Nat)] ∧ i2 ≤ i ∧ PSt Lt Ge s a lo rest l x y s' l2 i j2 ∧ (i ≤ j2 → Ge (el l2 i) (el l2 x)), ?_, ?_⟩
          · rintro n65 s66 ⟨i3, hi3, hi23, st66, g66⟩
            simp only [List.cons.injEq, AV.int.injEq, true_and, and_true] at hi3
            subst hi3
            have hx3 := st66.prt.xi
            have hij3 := st66.prt.ij
            refine ⟨fun vs s' => ∃ j : Nat, vs = [.int .i64 (j : Nat)] ∧ j ≤ j2 ∧ PSt Lt Ge s a lo rest l x y s' l2 i3 j ∧ (i3 ≤ j → Lt (el l2 j) (el l2 x)), ?_, ?_⟩
            · rintro n68 s69 ⟨j3, hj3, hj23, st69, g69⟩
              simp only [List.cons.injEq, AV.int.injEq, true_and, and_true] at hj3
              subst hj3
              have hjy3 := st69.prt.jy
              have hij4 := st69.prt.ij
              refine bsplit.dec (fun hgt => ⟨i3, j3, l2, rfl, by omega, st69⟩) (fun hle => ?_)
              have hne : i3 ≠ j3 := by
                rintro rfl
                have h1 := g66 (by omega)
                have h2 := g69 (by omega)
                rw [Lt] at h2; rw [Ge, Key.le] at h1
                rw [h1] at h2; cases h2
              refine st69.arr.swap st69.wf (by omega) (by omega) fun s81 a81 w81 m81 => ?_
              rw [wadd1 (by omega), wsub1 (by omega) (by omega)]
              exact ⟨j3 - 1 + 1 - (i3 + 1), by omega, i3 + 1, j3 - 1, _, rfl, rfl, a81, w81, .step st69.sw ⟨by omega, by omega⟩ ⟨by omega, by omega⟩ (by omega), st69.prt.swap (by omega) (by omega) (g69 (by omega)) (g66 (by omega)), st69.chg.trans m81⟩
            · refine ⟨fun m vs s' => ∃ j : Nat, vs = [.int .i64 (j : Nat)] ∧ j ≤ j2 ∧ m = 2 * j ∧ PSt Lt Ge s a lo rest l x y s' l2 i3 j, 2 * j2, ⟨j2, rfl, by omega, rfl, st66⟩, ?_⟩
              rintro m n85 s86 ⟨j3, hj3, hj23, rfl, st86⟩
              simp only [List.cons.injEq, AV.int.injEq, true_and, and_true] at hj3
              subst hj3
              have hjy3 := st86.prt.jy
              refine bsplit.dec (fun hle => ?_) (fun hgt => ⟨j3, rfl, hj23, st86, fun h => by omega⟩)
              refine st86.arr.cmp (by omega) (by omega) fun s94 a94 w94 m94 => bsplit.mk (fun hc => ?_) (fun hc => ?_)
              · have hc' := ngt (by simpa using hc)
                rw [wsub1 (by omega) (by omega)]
                exact ⟨2 * (j3 - 1), by omega, j3 - 1, rfl, by omega, rfl, st86.to a94 w94 m94 (st86.prt.right (by omega) hc')⟩
              · have hc' := ylt (by simpa using hc)
                exact ⟨j3, rfl, hj23, st86.to a94 w94 m94 st86.prt, fun _ => hc'⟩
          · refine ⟨fun m vs s' => ∃ i : Nat, vs = [.int .i64 (i : Nat)] ∧ i2 ≤ i ∧ m = y - i ∧ PSt Lt Ge s a lo rest l x y s' l2 i j2, y - i2, ⟨i2, rfl, by omega, rfl, st63⟩, ?_⟩
            rintro m n99 s100 ⟨i3, hi3, hi23, rfl, st100⟩
            simp only [List.cons.injEq, AV.int.injEq, true_and, and_true] at hi3
            subst hi3
            have hx3 := st100.prt.xi
            refine bsplit.dec (fun hle => ?_) (fun hgt => ⟨i3, rfl, hi23, st100, fun h => by omega⟩)
            refine st100.arr.cmp (by omega) (by omega) fun s108 a108 w108 m108 => bsplit.dec (fun hc => ?_) (fun hc => ?_)
            · rw [wadd1 (by omega)]
              exact ⟨y - (i3 + 1), by omega, i3 + 1, rfl, by omega, rfl, st100.to a108 w108 m108 (st100.prt.left (by omega) (ylt hc))⟩
            · exact ⟨i3, rfl, hi23, st100.to a108 w108 m108 st100.prt, fun _ => ngt hc⟩
    · rw [wsub1 (by omega) (by omega)]
      refine ⟨fun m vs s' => ∃ j : Nat, vs = [.int .i64 (j : Nat)] ∧ m = 2 * j ∧ PSt Lt Ge s a lo rest l x y s' l1 i j, 2 * (y - 1), ⟨y - 1, rfl, rfl, st15⟩, ?_⟩
      rintro m n113 s114 ⟨j3, hj3, rfl, st114⟩
      simp only [List.cons.injEq, AV.int.injEq, true_and, and_true] at hj3
      subst hj3
      have hjy3 := st114.prt.jy
      refine bsplit.dec (fun hle => ?_) (fun hgt => ⟨j3, rfl, st114, fun h => by omega⟩)
      refine st114.arr.cmp (by omega) (by omega) fun s122 a122 w122 m122 => bsplit.mk (fun hc => ?_) (fun hc => ?_)
      · have hc' := ngt (by simpa using hc)
        rw [wsub1 (by omega) (by omega)]
        exact ⟨2 * (j3 - 1), by omega, j3 - 1, rfl, rfl, st114.to a122 w122 m122 (st114.prt.right (by omega) hc')⟩
      · have hc' := ylt (by simpa using hc)
        exact ⟨j3, rfl, st114.to a122 w122 m122 st114.prt, fun _ => hc'⟩
  · rw [wadd1 (by omega), wsub1 (by omega) (by omega)]
    refine ⟨fun m vs s' => ∃ i : Nat, vs = [.int .i64 (i : Nat)] ∧ m = y - i ∧ PSt Lt Ge s a lo rest l x y s' (swp l x p) i (y - 1), y - (x + 1), ⟨x + 1, rfl, rfl, a12, w12, sw12, Prt.start (by omega), m12⟩, ?_⟩
    rintro m n127 s128 ⟨i3, hi3, rfl, st128⟩
    simp only [List.cons.injEq, AV.int.injEq, true_and, and_true] at hi3
    subst hi3
    have hx3 := st128.prt.xi
    have hl3 := st128.sw.len
    refine bsplit.dec (fun hle => ?_) (fun hgt => ⟨i3, _, rfl, st128, fun h => by omega⟩)
    refine st128.arr.cmp (by omega) (by omega) fun s136 a136 w136 m136 => bsplit.dec (fun hc => ?_) (fun hc => ?_)
    · rw [wadd1 (by omega)]
      exact ⟨y - (i3 + 1), by omega, i3 + 1, rfl, rfl, st128.to a136 w136 m136 (st128.prt.left (by omega) (ylt hc))⟩
    · exact ⟨i3, _, rfl, st128.to a136 w136 m136 st128.prt, fun _ => ngt hc⟩
end Go.Proofs.YtoklmpkpeanloaaGreat.SK
end

section
set_option linter.unusedSimpArgs false
set_option linter.unusedVariables false
set_option linter.unusedSectionVars false
namespace Go.Proofs.YtoklmpkpeanloaaGreat.SK
open Go.Am Go.Minster2 Go.Minster.SK
variable {cf : FuncId} [CmpOk cf]

theorem partEq_ok {s : AS} {a : AV} {lo : Nat} {l : List Key} {rest : List AV} {x y p : Nat} (h : Arr s a lo l rest) (hp : x ≤ p ∧ p < y) (hy : y ≤ l.length) (hn : l.length ≤ 2 ^ 40) :
    ACalls Tryz.prog F_slices_partitionEqualCmpFunc__Key [a, .int .i64 (x : Nat), .int .i64 (y : Nat), .int .i64 (p : Nat), .func cf []] s fun r s' => ∃ (i j : Nat) (l' : List Key), r = .int .i64 (i : Nat) ∧ Arr s' a lo l' rest ∧ Sw x y l l' ∧ Prt Le' Gt' l' x y i j ∧ j < i ∧ el l' x = el l p ∧ Mut [lo] s s' := by
  refine ACalls.pre fun hw => q_slices_partitionEqualCmpFunc__Key _ _ _ _ _ _ _ ?_
  refine h.swap hw (by omega) (by omega) fun s12 a12 w12 m12 => ?_
  have sw12 : Sw x y l (swp l x p) := .step (.refl _) ⟨by omega, by omega⟩ hp hy
  have ex12 : el (swp l x p) x = el l p := by
    rw [el_swp (by omega) (by omega)]
    split
    · rename_i e; rw [e]
    · rw [if_pos rfl]
  have ngt : ∀ {u v : Key}, ¬ u.cmp v < 0 → Le' v u := fun h => Key.nlt_le (by rw [← Key.cmp_lt]; exact h)
  have ylt : ∀ {u v : Key}, u.cmp v < 0 → Gt' v u := fun h => Key.cmp_lt.1 h
  rw [wadd1 (by omega), wsub1 (by omega) (by omega)]
  refine ⟨fun m vs s' => ∃ (i j : Nat) (l' : List Key), vs = [.int .i64 (i : Nat), .int .i64 (j : Nat)] ∧ m = j + 1 - i ∧ PSt Le' Gt' s a lo rest l x y s' l' i j ∧ el l' x = el l p, _, ⟨x + 1, y - 1, _, rfl, rfl, ⟨a12, w12, sw12, Prt.start (by omega), m12⟩, ex12⟩, ?_⟩
  rintro m n16 n17 s18 ⟨i2, j2, l2, hij2, rfl, st18, ex18⟩
  simp only [List.cons.injEq, AV.int.injEq, true_and, and_true] at hij2
  obtain ⟨rfl, rfl⟩ := hij2
  have hl2 := st18.sw.len
  have hx2 := st18.prt.xi
  have hjy2 := st18.prt.jy
  have hij2 := st18.prt.ij
  refine ⟨fun vs s' => ∃ (i : Nat), vs = [.int .i64 (i : Nat)] ∧ i2 ≤ i ∧ PSt Le' Gt' s a lo rest l x y s' l2 i j2 ∧ (i ≤ j2 → Gt' (el l2 i) (el l2 x)), ?_, ?_⟩
  · rintro n20 s21 ⟨i3, hi3, hi23, st21, g21⟩
    simp only [List.cons.injEq, AV.int.injEq, true_and, and_true] at hi3
    subst hi3
    have hx3 := st21.prt.xi
    have hij3 := st21.prt.ij
    refine ⟨fun vs s' => ∃ j : Nat, vs = [.int .i64 (j : Nat)] ∧ j ≤ j2 ∧ PSt Le' Gt' s a lo rest l x y s' l2 i3 j ∧ (i3 ≤ j → Le' (el l2 j) (el l2 x)), ?_, ?_⟩
    · rintro n23 s24 ⟨j3, hj3, hj23, st24, g24⟩
      simp only [List.cons.injEq, AV.int.injEq, true_and, and_true] at hj3
      subst hj3
      have hjy3 := st24.prt.jy
      have hij4 := st24.prt.ij
      refine bsplit.dec (fun hgt => ⟨i3, j3, l2, rfl, st24.arr, st24.sw, st24.prt, by omega, ex18, st24.chg⟩) (fun hle => ?_)
      have hne : i3 ≠ j3 := by
        rintro rfl
        have h1 := g21 (by omega)
        have h2 := g24 (by omega)
        rw [Gt'] at h1; rw [Le', Key.le] at h2
        rw [h2] at h1; cases h1
      refine st24.arr.swap st24.wf (by omega) (by omega) fun s36 a36 w36 m36 => ?_
      rw [wadd1 (by omega), wsub1 (by omega) (by omega)]
      exact ⟨j3 - 1 + 1 - (i3 + 1), by omega, i3 + 1, j3 - 1, _, rfl, rfl, ⟨a36, w36, .step st24.sw ⟨by omega, by omega⟩ ⟨by omega, by omega⟩ (by omega), st24.prt.swap (by omega) (by omega) (g24 (by omega)) (g21 (by omega)), st24.chg.trans m36⟩, by rw [el_swp (by omega) (by omega), if_neg (by omega), if_neg (by omega)]; exact ex18⟩
    · refine ⟨fun m vs s' => ∃ j : Nat, vs = [.int .i64 (j : Nat)] ∧ j ≤ j2 ∧ m = 2 * j ∧ PSt Le' Gt' s a lo rest l x y s' l2 i3 j, 2 * j2, ⟨j2, rfl, by omega, rfl, st21⟩, ?_⟩
      rintro m n40 s41 ⟨j3, hj3, hj23, rfl, st41⟩
      simp only [List.cons.injEq, AV.int.injEq, true_and, and_true] at hj3
      subst hj3
      have hjy3 := st41.prt.jy
      refine bsplit.dec (fun hle => ?_) (fun hgt => ⟨j3, rfl, hj23, st41, fun h => by omega⟩)
      refine st41.arr.cmp (by omega) (by omega) fun s49 a49 w49 m49 => bsplit.dec (fun hc => ?_) (fun hc => ?_)
      · rw [wsub1 (by omega) (by omega)]
        exact ⟨2 * (j3 - 1), by omega, j3 - 1, rfl, by omega, rfl, st41.to a49 w49 m49 (st41.prt.right (by omega) (ylt hc))⟩
      · exact ⟨j3, rfl, hj23, st41.to a49 w49 m49 st41.prt, fun _ => ngt hc⟩
  · refine ⟨fun m vs s' => ∃ i : Nat, vs = [.int .i64 (i : Nat)] ∧ i2 ≤ i ∧ m = y - i ∧ PSt Le' Gt' s a lo rest l x y s' l2 i j2, y - i2, ⟨i2, rfl, by omega, rfl, st18⟩, ?_⟩
    rintro m n54 s55 ⟨i3, hi3, hi23, rfl, st55⟩
    simp only [List.cons.injEq, AV.int.injEq, true_and, and_true] at hi3
    subst hi3
    have hx3 := st55.prt.xi
    refine bsplit.dec (fun hle => ?_) (fun hgt => ⟨i3, rfl, hi23, st55, fun h => by omega⟩)
    refine st55.arr.cmp (by omega) (by omega) fun s63 a63 w63 m63 => bsplit.mk (fun hc => ?_) (fun hc => ?_)
    · have hc' := ngt (by simpa using hc)
      rw [wadd1 (by omega)]
      exact ⟨y - (i3 + 1), by omega, i3 + 1, rfl, by omega, rfl, st55.to a63 w63 m63 (st55.prt.left (by omega) hc')⟩
    · have hc' := ylt (by simpa using hc)
      exact ⟨i3, rfl, hi23, st55.to a63 w63 m63 st55.prt, fun _ => hc'⟩

/-- all of a part of memory, permuted -/
structure WSt (s : AS) (a : AV) (lo : Nat) (rest : List AV) (l : List Key) (x y : Nat) (s' : AS) (l' : List Key) : Prop where
  arr : Arr s' a lo l' rest
  wf : WFs s'
  sw : Sw x y l l'
  chg : Mut [lo] s s'
theorem WSt.to {s : AS} {a : AV} {lo : Nat} {rest : List AV} {l : List Key} {x y : Nat} {s' s'' : AS} {l' : List Key} (h : WSt s a lo rest l x y s' l') (ha : Arr s'' a lo l' rest) (hw : WFs s'') (m : Mut [lo] s' s'') : WSt s a lo rest l x y s'' l' := ⟨ha, hw, h.sw, h.chg.trans m⟩
theorem WSt.swap {s : AS} {a : AV} {lo : Nat} {rest : List AV} {l : List Key} {x y : Nat} {s' s'' : AS} {l' : List Key} {i j : Nat} (h : WSt s a lo rest l x y s' l') (hy : y ≤ l.length) (hi : x ≤ i ∧ i < y) (hj : x ≤ j ∧ j < y) (ha : Arr s'' a lo (swp l' i j) rest) (hw : WFs s'') (m : Mut [lo] s' s'') : WSt s a lo rest l x y s'' (swp l' i j) :=
  ⟨ha, hw, .step h.sw hi hj (by rw [h.sw.len]; exact hy), h.chg.trans m⟩

theorem srt_ext1 {l : List Key} {x i : Nat} (h : Srt l x i) (hx : x < i) (hle : (el l (i - 1)).le (el l i)) : Srt l x (i + 1) := by
  intro p q h1 h2 h3
  by_cases e : q = i
  · subst e
    by_cases e2 : p = q - 1
    · rw [e2]; exact hle
    · exact Key.le_trans (h p (q - 1) h1 (by omega) (by omega)) hle
  · exact h p q h1 h2 (by omega)
theorem low_sw {l l' : List Key} {x y : Nat} (h : Sw x y l l') (hlow : 0 < x → ∀ q, x ≤ q → q < y → (el l (x - 1)).le (el l q)) : 0 < x → ∀ q, x ≤ q → q < y → (el l' (x - 1)).le (el l' q) := by
  intro h0 q h1 h2
  obtain ⟨j, hj, e⟩ := h.mem (k := q) ⟨h1, h2⟩
  rw [h.out (.inl (by omega)), e]
  exact hlow h0 j hj.1 hj.2

theorem partial_ok {s : AS} {a : AV} {lo : Nat} {l : List Key} {rest : List AV} {x y : Nat} (h : Arr s a lo l rest) (hxy : x < y) (hy : y ≤ l.length) (hn : l.length ≤ 2 ^ 40) (hlow : 0 < x → ∀ q, x ≤ q → q < y → (el l (x - 1)).le (el l q)) :
    ACalls Tryz.prog F_slices_partialInsertionSortCmpFunc__Key [a, .int .i64 (x : Nat), .int .i64 (y : Nat), .func cf []] s fun r s' => ∃ (b : Bool) (l' : List Key), r = .bool b ∧ WSt s a lo rest l x y s' l' ∧ (b = true → Srt l' x y) := by
  have w0 : WFs s → WSt s a lo rest l x y s l := fun hw => ⟨h, hw, .refl _, Mut.refl _ _⟩
  refine ACalls.pre fun hw => q_slices_partialInsertionSortCmpFunc__Key _ _ _ _ _ _ ?_
  rw [Q_slices_partialInsertionSortCmpFunc__Key, wadd1 (by omega)]
  refine ⟨fun m vs s' => ∃ (i k : Nat) (l' : List Key), vs = [.int .i64 (i : Nat), .int .i64 (k : Nat)] ∧ k ≤ 5 ∧ m = 5 - k ∧ x + 1 ≤ i ∧ i ≤ y ∧ WSt s a lo rest l x y s' l' ∧ Srt l' x i, 5, ⟨x + 1, 0, l, rfl, by omega, rfl, by omega, by omega, w0 hw, fun p q _ _ _ => by omega⟩, ?_⟩
  rintro m n4 n5 s6 ⟨i0, k, l1, hik, hk, rfl, hi1, hi2, st6, so6⟩
  simp only [List.cons.injEq, AV.int.injEq, true_and, and_true] at hik
  obtain ⟨rfl, rfl⟩ := hik
  refine bsplit.dec (fun hlt5 => ?_) (fun _ => ⟨false, l1, rfl, st6, by simp⟩)
  refine ⟨fun vs s' => ∃ (i : Nat) (l' : List Key), vs = [.int .i64 (i : Nat)] ∧ x + 1 ≤ i ∧ i ≤ y ∧ WSt s a lo rest l x y s' l' ∧ Srt l' x i ∧ (i < y → (el l' i).lt (el l' (i - 1)) = true), ?_, ?_⟩
  · rintro n8 s9 ⟨i, l2, hi, hi3, hi4, st9, so9, g9⟩
    simp only [List.cons.injEq, AV.int.injEq, true_and, and_true] at hi
    subst hi
    have hl2 := st9.sw.len
    refine bsplit.mk (fun he => ?_) (fun hne => ?_)
    · have : i = y := by simp at he; omega
      subst this
      exact ⟨true, l2, rfl, st9, fun _ => so9⟩
    have hiy : i < y := by simp at hne; omega
    rw [wsub (by omega) (by omega)]
    refine bsplit.dec (fun _ => ⟨false, l2, rfl, st9, by simp⟩) (fun _ => ?_)
    rw [wsub1 (by omega) (by omega)]
    refine st9.arr.swap st9.wf (by omega) (by omega) fun s21 a21 w21 m21 => ?_
    have st21 := st9.swap hy ⟨by omega, by omega⟩ ⟨by omega, by omega⟩ a21 w21 m21
    have so21 : ∀ p q, x ≤ p → p < q → q ≤ i - 1 → q ≠ i - 1 → (el (swp l2 i (i - 1)) p).le (el (swp l2 i (i - 1)) q) := by
      intro p q h1 h2 h3 h4
      rw [el_swp (by omega) (by omega), el_swp (by omega) (by omega), if_neg (by omega), if_neg (by omega), if_neg (by omega), if_neg (by omega)]
      exact so9 p q h1 h2 (by omega)
    have next : ∀ s' l', WSt s a lo rest l x y s' l' → Srt l' x i → ∃ m', m' < 5 - k ∧ ∃ (i' k' : Nat) (l' : List Key), [AV.int .i64 (i : Nat), .int .i64 (IntKind.wrap .i64 ((k : Int) + 1))] = [.int .i64 (i' : Nat), .int .i64 (k' : Nat)] ∧ k' ≤ 5 ∧ m' = 5 - k' ∧ x + 1 ≤ i' ∧ i' ≤ y ∧ WSt s a lo rest l x y s' l' ∧ Srt l' x i' :=
      fun s' l' h1 h2 => ⟨5 - (k + 1), by omega, i, k + 1, l', by rw [wadd1 (by omega)], by omega, rfl, by omega, by omega, h1, h2⟩
    refine ⟨fun vs s' => ∃ l', WSt s a lo rest l x y s' l' ∧ Srt l' x i, ?_, ?_⟩
    · rintro s23 ⟨l3, st23, so23⟩
      rw [wsub (by omega) (by omega)]
      refine bsplit.dec (fun _ => ?_) (fun _ => next _ _ st23 so23)
      rw [wadd1 (by omega)]
      refine ⟨fun m vs s' => ∃ (j : Nat) (l' : List Key), vs = [.int .i64 (j : Nat)] ∧ i + 1 ≤ j ∧ m = y - j ∧ WSt s a lo rest l x y s' l' ∧ Srt l' x i, y - (i + 1), ⟨i + 1, l3, rfl, by omega, rfl, st23, so23⟩, ?_⟩
      rintro m n27 s28 ⟨j, l4, hj, hij, rfl, st28, so28⟩
      simp only [List.cons.injEq, AV.int.injEq, true_and, and_true] at hj
      subst hj
      have hl4 := st28.sw.len
      refine bsplit.dec (fun hjy => ?_) (fun _ => next _ _ st28 so28)
      rw [wsub1 (by omega) (by omega)]
      refine st28.arr.cmp (by omega) (by omega) fun s36 a36 w36 m36 => bsplit.mk (fun _ => next _ _ (st28.to a36 w36 m36) so28) (fun _ => ?_)
      refine a36.swap w36 (by omega) (by omega) fun s49 a49 w49 m49 => ?_
      rw [wadd1 (by omega)]
      refine ⟨y - (j + 1), by omega, j + 1, _, rfl, by omega, rfl, (st28.to a36 w36 m36).swap hy ⟨by omega, by omega⟩ ⟨by omega, by omega⟩ a49 w49 m49, fun p q h1 h2 h3 => ?_⟩
      rw [el_swp (by omega) (by omega), el_swp (by omega) (by omega), if_neg (by omega), if_neg (by omega), if_neg (by omega), if_neg (by omega)]
      exact so28 p q h1 h2 h3
    · rw [wsub (by omega) (by omega)]
      refine bsplit.dec (fun h2 => ?_) (fun h2 => ⟨_, st21, fun p q h1 h2 h3 => by omega⟩)
      refine ⟨fun m vs s' => ∃ (j : Nat) (l' : List Key), vs = [.int .i64 (j : Nat)] ∧ x ≤ j ∧ j ≤ i - 1 ∧ m = 2 * j ∧ WSt s a lo rest l x y s' l' ∧ (∀ p q, x ≤ p → p < q → q ≤ i - 1 → q ≠ j → (el l' p).le (el l' q)), 2 * (i - 1), ⟨i - 1, _, rfl, by omega, by omega, rfl, st21, so21⟩, ?_⟩
      rintro m n53 s54 ⟨j, l4, hj, hxj, hji, rfl, st54, so54⟩
      simp only [List.cons.injEq, AV.int.injEq, true_and, and_true] at hj
      subst hj
      have hl4 := st54.sw.len
      have fin : ∀ s', WSt s a lo rest l x y s' l4 → (j = x ∨ (el l4 (j - 1)).le (el l4 j)) → ∃ l', WSt s a lo rest l x y s' l' ∧ Srt l' x i := by
        intro s' h1 h2
        have := ins_end hxj hji h2 so54
        rw [show i - 1 + 1 = i by omega] at this
        exact ⟨l4, h1, this⟩
      refine bsplit.dec (fun hj1 => ?_) (fun hj1 => fin _ st54 (.inl (by omega)))
      rw [wsub1 (by omega) (by omega)]
      refine st54.arr.cmp (by omega) (by omega) fun s62 a62 w62 m62 => bsplit.mk (fun hc => fin _ (st54.to a62 w62 m62) (.inr (Key.nlt_le (by rw [← Key.cmp_lt]; simpa using hc)))) (fun hc => ?_)
      have hc' : (el l4 j).lt (el l4 (j - 1)) = true := by rw [← Key.cmp_lt]; simpa using hc
      have hxj' : x < j := by
        rcases Nat.lt_or_ge x j with h' | h'
        · exact h'
        · exfalso
          obtain rfl : x = j := by omega
          have := low_sw st54.sw hlow (by omega) x (by omega) (by omega)
          rw [Key.le] at this
          rw [this] at hc'; cases hc'
      refine a62.swap w62 (by omega) (by omega) fun s75 a75 w75 m75 => ?_
      exact ⟨2 * (j - 1), by omega, j - 1, _, rfl, by omega, by omega, rfl, (st54.to a62 w62 m62).swap hy ⟨by omega, by omega⟩ ⟨by omega, by omega⟩ a75 w75 m75, ins_step (by omega) hxj' hji hc' so54⟩
  · refine ⟨fun m vs s' => ∃ (i : Nat), vs = [.int .i64 (i : Nat)] ∧ x + 1 ≤ i ∧ i ≤ y ∧ m = y - i ∧ WSt s a lo rest l x y s' l1 ∧ Srt l1 x i, y - i0, ⟨i0, rfl, hi1, hi2, rfl, st6, so6⟩, ?_⟩
    rintro m n79 s80 ⟨i, hi, hi3, hi4, rfl, st80, so80⟩
    simp only [List.cons.injEq, AV.int.injEq, true_and, and_true] at hi
    subst hi
    have hl1 := st80.sw.len
    refine bsplit.dec (fun hiy => ?_) (fun hge => ⟨i, l1, rfl, hi3, hi4, st80, so80, fun h => by omega⟩)
    rw [wsub1 (by omega) (by omega)]
    refine st80.arr.cmp (by omega) (by omega) fun s88 a88 w88 m88 => bsplit.mk (fun hc => ?_) (fun hc => ?_)
    · rw [wadd1 (by omega)]
      exact ⟨y - (i + 1), by omega, i + 1, rfl, by omega, by omega, rfl, st80.to a88 w88 m88, srt_ext1 so80 (by omega) (Key.nlt_le (by rw [← Key.cmp_lt]; simpa using hc))⟩
    · exact ⟨i, l1, rfl, hi3, hi4, st80.to a88 w88 m88, so80, fun _ => by rw [← Key.cmp_lt]; simpa using hc⟩
end Go.Proofs.YtoklmpkpeanloaaGreat.SK
end

section
set_option linter.unusedSimpArgs false
set_option linter.unusedVariables false
set_option linter.unusedSectionVars false
namespace Go.Proofs.YtoklmpkpeanloaaGreat.SK
open Go.Am Go.Minster2 Go.Minster.SK
variable {cf : FuncId} [CmpOk cf]

noncomputable def bitsChk (x : Nat) : Bool := match aindex T Y_string (.str [0, 1, 2, 2, 3, 3, 3, 3, 4, 4, 4, 4, 4, 4, 4, 4, 5, 5, 5, 5, 5, 5, 5, 5, 5, 5, 5, 5, 5, 5, 5, 5, 6, 6, 6, 6, 6, 6, 6, 6, 6, 6, 6, 6, 6, 6, 6, 6, 6, 6, 6, 6, 6, 6, 6, 6, 6, 6, 6, 6, 6, 6, 6, 6, 7, 7, 7, 7, 7, 7, 7, 7, 7, 7, 7, 7, 7, 7, 7, 7, 7, 7, 7, 7, 7, 7, 7, 7, 7, 7, 7, 7, 7, 7, 7, 7, 7, 7, 7, 7, 7, 7, 7, 7, 7, 7, 7, 7, 7, 7, 7, 7, 7, 7, 7, 7, 7, 7, 7, 7, 7, 7, 7, 7, 7, 7, 7, 7, 8, 8, 8, 8, 8, 8, 8, 8, 8, 8, 8, 8, 8, 8, 8, 8, 8, 8, 8, 8, 8, 8, 8, 8, 8, 8, 8, 8, 8, 8, 8, 8, 8, 8, 8, 8, 8, 8, 8, 8, 8, 8, 8, 8, 8, 8, 8, 8, 8, 8, 8, 8, 8, 8, 8, 8, 8, 8, 8, 8, 8, 8, 8, 8, 8, 8, 8, 8, 8, 8, 8, 8, 8, 8, 8, 8, 8, 8, 8, 8, 8, 8, 8, 8, 8, 8, 8, 8, 8, 8, 8, 8, 8, 8, 8, 8, 8, 8, 8, 8, 8, 8, 8, 8, 8, 8, 8, 8, 8, 8, 8, 8, 8, 8, 8, 8, 8, 8, 8, 8, 8, 8, 8, 8, 8, 8, 8, 8]) (.int .u8 (IntKind.wrap .u8 (x : Nat))) with
  | some (.int .u8 k) => decide (0 ≤ k ∧ k ≤ 8 ∧ (x = 0 ∨ (x < 2 ^ k.toNat ∧ 2 ^ k.toNat ≤ 2 * x)))
  | _ => false
theorem bits_all : (List.range 256).all bitsChk = true := by kernel_rfl
theorem bits_get {x : Nat} (h : x < 256) : ∃ k : Nat, aindex T Y_string (.str [0, 1, 2, 2, 3, 3, 3, 3, 4, 4, 4, 4, 4, 4, 4, 4, 5, 5, 5, 5, 5, 5, 5, 5, 5, 5, 5, 5, 5, 5, 5, 5, 6, 6, 6, 6, 6, 6, 6, 6, 6, 6, 6, 6, 6, 6, 6, 6, 6, 6, 6, 6, 6, 6, 6, 6, 6, 6, 6, 6, 6, 6, 6, 6, 7, 7, 7, 7, 7, 7, 7, 7, 7, 7, 7, 7, 7, 7, 7, 7, 7, 7, 7, 7, 7, 7, 7, 7, 7, 7, 7, 7, 7, 7, 7, 7, 7, 7, 7, 7, 7, 7, 7, 7, 7, 7, 7, 7, 7, 7, 7, 7, 7, 7, 7, 7, 7, 7, 7, 7, 7, 7, 7, 7, 7, 7, 7, 7, 8, 8, 8, 8, 8, 8, 8, 8, 8, 8, 8, 8, 8, 8, 8, 8, 8, 8, 8, 8, 8, 8, 8, 8, 8, 8, 8, 8, 8, 8, 8, 8, 8, 8, 8, 8, 8, 8, 8, 8, 8, 8, 8, 8, 8, 8, 8, 8, 8, 8, 8, 8, 8, 8, 8, 8, 8, 8, 8, 8, 8, 8, 8, 8, 8, 8, 8, 8, 8, 8, 8, 8, 8, 8, 8, 8, 8, 8, 8, 8, 8, 8, 8, 8, 8, 8, 8, 8, 8, 8, 8, 8, 8, 8, 8, 8, 8, 8, 8, 8, 8, 8, 8, 8, 8, 8, 8, 8, 8, 8, 8, 8, 8, 8, 8, 8, 8, 8, 8, 8, 8, 8, 8, 8, 8, 8, 8, 8]) (.int .u8 (IntKind.wrap .u8 (x : Nat))) = some (.int .u8 (k : Nat)) ∧ k ≤ 8 ∧ (x = 0 ∨ (x < 2 ^ k ∧ 2 ^ k ≤ 2 * x)) := by
  have := List.all_eq_true.1 bits_all x (List.mem_range.2 h)
  unfold bitsChk at this
  split at this
  · rename_i k hk
    obtain ⟨h1, h2, h3⟩ := of_decide_eq_true this
    refine ⟨k.toNat, ?_, by omega, h3⟩
    rw [hk, Int.toNat_of_nonneg h1]
  · cases this
theorem len_ok {x : Nat} (hx : x < 65536) (s : AS) : ACalls Tryz.prog F_math_bits_Len [.int .u64 (x : Nat)] s fun r s' => ∃ k : Nat, r = .int .i64 (k : Nat) ∧ k ≤ 16 ∧ (0 < x → x < 2 ^ k ∧ 2 ^ k ≤ 2 * x) ∧ s' = s := by
  refine q_math_bits_Len _ _ _ ?_
  suffices h : ACalls Tryz.prog F_math_bits_Len64 [.int .u64 (x : Nat)] s fun r s' => ∃ k : Nat, r = .int .i64 (k : Nat) ∧ k ≤ 16 ∧ (0 < x → x < 2 ^ k ∧ 2 ^ k ≤ 2 * x) ∧ s' = s from
    h.mono (by rintro r s' ⟨k, rfl, h1, h2, rfl⟩; exact ⟨_, rfl, k, rfl, h1, h2, rfl⟩)
  refine q_math_bits_Len64 _ _ _ ⟨fun vs s' => vs = [.int .u64 (x : Nat), .int .i64 0] ∧ s' = s, ?_, bsplit.dec (fun h => by omega) (fun _ => ⟨rfl, rfl⟩)⟩
  rintro n2 n3 s4 ⟨hv, rfl⟩
  simp only [List.cons.injEq, AV.int.injEq, true_and, and_true] at hv
  obtain ⟨rfl, rfl⟩ := hv
  refine ⟨fun vs s' => vs = [.int .u64 (x : Nat), .int .i64 0] ∧ s' = s4, ?_, bsplit.dec (fun h => by omega) (fun _ => ⟨rfl, rfl⟩)⟩
  rintro n6 n7 s8 ⟨hv, rfl⟩
  simp only [List.cons.injEq, AV.int.injEq, true_and, and_true] at hv
  obtain ⟨rfl, rfl⟩ := hv
  refine ⟨fun vs s' => ∃ y b : Nat, vs = [.int .u64 (y : Nat), .int .i64 (b : Nat)] ∧ y < 256 ∧ ((b = 0 ∧ y = x) ∨ (b = 8 ∧ y = x / 256 ∧ 0 < y)) ∧ s' = s8, ?_, bsplit.dec (fun h => ⟨by decide, x / 256, 8, ?_, by omega, .inr ⟨rfl, rfl, by omega⟩, rfl⟩) (fun h => ⟨x, 0, rfl, by omega, .inl ⟨rfl, rfl⟩, rfl⟩)⟩
  · rintro n10 n11 s12 ⟨y, b, hv, hy, hb, rfl⟩
    simp only [List.cons.injEq, AV.int.injEq, true_and, and_true] at hv
    obtain ⟨rfl, rfl⟩ := hv
    obtain ⟨k, hk, h1, h2⟩ := bits_get hy
    refine ⟨_, hk, b + k, ?_, by omega, fun h0 => ?_, rfl⟩
    · rw [wrap_i (n := (k : Int)) (by omega), wrap_i (by omega)]; rfl
    · rcases hb with ⟨rfl, rfl⟩ | ⟨rfl, hyx, h3⟩
      · rw [Nat.zero_add]; omega
      · rw [Nat.pow_add]
        rcases h2 with h2 | ⟨h2, h4⟩
        · omega
        · generalize 2 ^ k = w at h2 h4 ⊢
          omega
  · have : Int.fdiv (x : Int) (2 ^ min (Int.toNat 8) (IntKind.bits .u64)) = ((x / 256 : Nat) : Int) := by
      show Int.fdiv (x : Int) ((256 : Nat) : Int) = _
      rw [Int.fdiv_eq_ediv_of_nonneg _ (by omega)]; rfl
    rw [this]; rfl

theorem pow2_ok {x : Nat} (hx : x < 65536) (h0 : 0 < x) (s : AS) : ACalls Tryz.prog F_slices_nextPowerOfTwo [.int .i64 (x : Nat)] s fun r s' => ∃ k : Nat, r = .int .u64 ((2 ^ k : Nat) : Int) ∧ k ≤ 16 ∧ x < 2 ^ k ∧ 2 ^ k ≤ 2 * x ∧ s' = s := by
  refine q_slices_nextPowerOfTwo _ _ _ ?_
  rw [Q_slices_nextPowerOfTwo, wrap_u (by omega)]
  refine (len_ok hx s).mono ?_
  rintro r s' ⟨k, rfl, h1, h2, rfl⟩
  obtain ⟨h3, h4⟩ := h2 h0
  refine ⟨_, rfl, by omega, k, ?_, h1, h3, h4, rfl⟩
  have e : min (Int.toNat (k : Int)) (IntKind.bits .u64) = k := by
    rw [Int.toNat_natCast]
    exact Nat.min_eq_left (Nat.le_trans h1 (by decide))
  rw [e, Int.one_mul, wrap_u]
  · rw [Int.natCast_pow]; rfl
  · have : (2 : Int) ^ k = ((2 ^ k : Nat) : Int) := by rw [Int.natCast_pow]; rfl
    rw [this]; omega

theorem xor_some (n m : Int) : ∃ w : Int, abinInt .xor .u64 n m = some (.int .u64 w) := ⟨_, rfl⟩
theorem RdA.xor {n m : Int} {K : AV → Prop} (h : ∀ w : Int, K (.int .u64 w)) : RdA (abinInt .xor .u64 n m) K := ⟨_, (xor_some n m).choose_spec, h _⟩
theorem xstep {s : AS} {q : Nat} {v0 v : AV} {K : AS → Prop} (hw : WFs s) (ho : Am.Own s q [v0]) (hv : v.one = true) (h : ∀ s', Am.Own s' q [v] → WFs s' → Mut [q] s s' → K s') : AsSome (some (q, 0)) fun l o => qstore T Y_slices_xorshift s l o v K :=
  qstore_one hv z_slices_xorshift (StQ.own hw ho (by simp) fun s' P => h s' P.at P.wf P.mut)
theorem rdq {s : AS} {q : Nat} {n : Int} {K : Int → Prop} (ho : Am.Own s q [.int .u64 n]) (h : K n) : AsSome (some (q, 0)) fun l o => RdI .u64 (rd1 s l o) K := ⟨n, by rw [ho.at.rd1]; rfl, h⟩
set_option maxRecDepth 100000 in
theorem xnext_ok {s : AS} {q : Nat} {n : Int} (h : Am.Own s q [.int .u64 n]) : ACalls Tryz.prog F_slices_xorshift_Next [.ptr (some (q, 0))] s fun r s' => ∃ m m' : Int, r = .int .u64 m ∧ Am.Own s' q [.int .u64 m'] ∧ Mut [q] s s' := by
  refine ACalls.pre fun hw => q_slices_xorshift_Next _ _ _ ?_
  refine rdq h ?_
  refine rdq h ?_
  refine ⟨by decide, ?_⟩
  refine RdA.xor fun w => ?_
  try dsimp only
  refine xstep (v := .int .u64 w) hw h rfl fun s10 o10 w10 m10 => ?_
  refine rdq o10 ?_
  refine rdq o10 ?_
  refine ⟨by decide, ?_⟩
  refine RdA.xor fun w => ?_
  try dsimp only
  refine xstep (v := .int .u64 w) w10 o10 rfl fun s20 o20 w20 m20 => ?_
  refine rdq o20 ?_
  refine rdq o20 ?_
  refine ⟨by decide, ?_⟩
  refine RdA.xor fun w => ?_
  try dsimp only
  refine xstep (v := .int .u64 w) w20 o20 rfl fun s30 o30 w30 m30 => ?_
  exact rdq o30 ⟨_, _, rfl, o30, (m10.trans m20).trans m30⟩

theorem and_small {n : Int} {k : Nat} (hk : k ≤ 16) : ∃ w : Nat, abinInt .and .u64 n (IntKind.wrap .u64 (((2 ^ k : Nat) : Int) - 1)) = some (.int .u64 (w : Nat)) ∧ w < 2 ^ k := by
  have h1 : 0 < 2 ^ k := Nat.pow_pos (by omega)
  have h2 : 2 ^ k ≤ 65536 := Nat.le_trans (Nat.pow_le_pow_right (by omega) hk) (by decide)
  refine ⟨(BitVec.ofInt 64 n &&& BitVec.ofInt 64 (((2 ^ k - 1 : Nat) : Int))).toNat, ?_, ?_⟩
  · rw [wrap_u (by omega)]
    rw [show (((2 ^ k : Nat) : Int) - 1) = ((2 ^ k - 1 : Nat) : Int) by omega]
    have key : ∀ z : BitVec 64, IntKind.wrap .u64 (z.toNat : Int) = (z.toNat : Int) := fun z => wrap_u ⟨by omega, by have := z.isLt; omega⟩
    exact congrArg (fun u => some (AV.int .u64 u)) (key (BitVec.ofInt 64 n &&& BitVec.ofInt 64 (((2 ^ k - 1 : Nat) : Int))))
  · rw [BitVec.toNat_and]
    have h3 := @Nat.and_le_right (BitVec.ofInt 64 n).toNat (BitVec.ofInt 64 (((2 ^ k - 1 : Nat) : Int))).toNat
    have h4 : (BitVec.ofInt 64 (((2 ^ k - 1 : Nat) : Int))).toNat = 2 ^ k - 1 := by
      rw [BitVec.ofInt_natCast, BitVec.toNat_ofNat]
      exact Nat.mod_eq_of_lt (by omega)
    omega

theorem break_ok {s : AS} {a : AV} {lo : Nat} {l : List Key} {rest : List AV} {x y : Nat} (h : Arr s a lo l rest) (hxy : x < y) (hy : y ≤ l.length) (hn : l.length < 65536) :
    ACalls Tryz.prog F_slices_breakPatternsCmpFunc__Key [a, .int .i64 (x : Nat), .int .i64 (y : Nat), .func cf []] s fun r s' => r = .tup [] ∧ ∃ l', WSt s a lo rest l x y s' l' := by
  refine ACalls.pre fun hw => q_slices_breakPatternsCmpFunc__Key _ _ _ _ _ _ ?_
  have hlo : s.h lo ≠ none := by obtain ⟨_, g, h2⟩ := h; rw [h2]; simp
  rw [Q_slices_breakPatternsCmpFunc__Key, wsub (by omega) (by omega)]
  refine bsplit.dec (fun h8 => ?_) (fun _ => ⟨rfl, l, h, hw, .refl _, Mut.refl _ _⟩)
  refine NewQ.intro hw rfl fun q s2 F => StQ.own F.wf F.own (by simp) fun s3 P => ?_
  have o3 : Am.Own s3 q [_] := P.at
  have hq : q ≠ lo := by rintro rfl; exact hlo F.no
  have a3 : Arr s3 a lo l rest := (h.ext F.ext).mut P.mut (by simp; exact fun e => hq e.symm)
  have m3 : Mut [lo] s s3 := ⟨fun z o hz ho => by
    have := F.ext.1 z o ho
    exact P.mut.1 z o (by simp; rintro rfl; rw [F.no] at ho; cases ho) this, Nat.le_trans F.ext.2 P.mut.2⟩
  refine ACalls.use (pow2_ok (x := y - x) (by omega) (by omega) s3) ?_
  rintro r s5 ⟨k, rfl, hk, hk1, hk2, rfl⟩ hw5
  refine ⟨_, rfl, by decide, ?_⟩
  rw [show (4 : Int) = ((4 : Nat) : Int) by rfl, tdivN, wid (by omega), show (((y - x) / 4 : Nat) : Int) * 2 = (((y - x) / 4 * 2 : Nat) : Int) by omega, wid (by omega), wadd (by omega), wsub1 (by omega) (by omega), wadd1 (by omega)]
  generalize hd : x + (y - x) / 4 * 2 = d
  refine ⟨fun m vs s' => ∃ (i : Nat) (l' : List Key) (v : Int), vs = [.int .i64 (i : Nat)] ∧ d - 1 ≤ i ∧ m = d + 2 - i ∧ Am.Own s' q [.int .u64 v] ∧ WSt s a lo rest l x y s' l', d + 2 - (d - 1), ⟨d - 1, l, _, rfl, by omega, rfl, o3, a3, hw5, .refl _, m3⟩, ?_⟩
  rintro m n10 s11 ⟨i, l1, v, hi, hdi, rfl, o11, st11⟩
  simp only [List.cons.injEq, AV.int.injEq, true_and, and_true] at hi
  subst hi
  have hl1 := st11.sw.len
  refine ⟨by decide, bsplit.dec (fun hle => ?_) (fun _ => ⟨rfl, l1, st11⟩)⟩
  refine ACalls.use (xnext_ok o11) ?_
  rintro r s13 ⟨w1, w2, rfl, o13, m13⟩ hw13
  have a13 : Arr s13 a lo l1 rest := st11.arr.mut m13 (by simp; exact fun e => hq e.symm)
  have M13 : Mut [lo] s s13 := ⟨fun z o hz ho => m13.1 z o (by simp; rintro rfl; rw [F.no] at ho; cases ho) (st11.chg.1 z o hz ho), Nat.le_trans st11.chg.2 m13.2⟩
  have st13 : WSt s a lo rest l x y s13 l1 := ⟨a13, hw13, st11.sw, M13⟩
  obtain ⟨w, hw1, hw2⟩ := and_small (n := w1) hk
  refine ⟨_, rfl, _, hw1, ?_⟩
  show JoinQ _
  rw [wid (by omega)]
  refine ⟨fun vs s' => s' = s13 ∧ ∃ t : Nat, vs = [.int .i64 (t : Nat)] ∧ t < y - x, ?_, bsplit.dec (fun hge => ⟨rfl, w - (y - x), by rw [wsub (by omega) (by omega)], by omega⟩) (fun hlt => ⟨rfl, w, rfl, by omega⟩)⟩
  rintro n18 s19 ⟨rfl, t, ht, hty⟩
  simp only [List.cons.injEq, AV.int.injEq, true_and, and_true] at ht
  subst ht
  rw [wadd (by omega)]
  refine st13.arr.swap st13.wf (by omega) (by omega) fun s31 a31 w31 m31 => ?_
  rw [wadd1 (by omega)]
  exact ⟨d + 2 - (i + 1), by omega, i + 1, _, _, rfl, by omega, rfl, o13.mut m31 (by simpa using hq), st13.swap hy ⟨by omega, by omega⟩ ⟨by omega, by omega⟩ a31 w31 m31⟩
end Go.Proofs.YtoklmpkpeanloaaGreat.SK
end

section
set_option linter.unusedSimpArgs false
set_option linter.unusedVariables false
set_option linter.unusedSectionVars false
namespace Go.Proofs.YtoklmpkpeanloaaGreat.SK
open Go.Am Go.Minster2 Go.Minster.SK
variable {cf : FuncId} [CmpOk cf]

theorem mut_sub {L L' : List Nat} {s s' : AS} (h : Mut L s s') (hs : ∀ x ∈ L, x ∈ L') : Mut L' s s' := ⟨fun x o hx ho => h.1 x o (fun hm => hx (hs x hm)) ho, h.2⟩
/-- a counter beside the array -/
structure Ct (s : AS) (a : AV) (lo : Nat) (l : List Key) (rest : List AV) (q : Nat) (s' : AS) : Prop where
  ne : q ≠ lo
  own : ∃ c : Int, Am.Own s' q [.int .i64 c]
  arr : Arr s' a lo l rest
  wf : WFs s'
  chg : Mut [q, lo] s s'
section
variable {s s0 : AS} {a : AV} {lo : Nat} {l : List Key} {rest : List AV} {q : Nat}
theorem order2_ok (h : Ct s0 a lo l rest q s) {x y : Nat} (hx : x < l.length) (hy : y < l.length) :
    ACalls Tryz.prog F_slices_order2CmpFunc__Key [a, .int .i64 (x : Nat), .int .i64 (y : Nat), .ptr (some (q, 0)), .func cf []] s fun r s' => ∃ u v : Nat, r = .tup [.int .i64 (u : Nat), .int .i64 (v : Nat)] ∧ (u = x ∨ u = y) ∧ (v = x ∨ v = y) ∧ Ct s0 a lo l rest q s' := by
  refine q_slices_order2CmpFunc__Key _ _ _ _ _ _ _ ?_
  refine h.arr.cmp hy hx fun s8 a8 w8 m8 => ?_
  obtain ⟨c, o⟩ := h.own
  have o8 : Am.Own s8 q _ := o.mut m8 (by simpa using h.ne)
  have M8 : Mut [q, lo] s0 s8 := h.chg.trans (mut_sub m8 (by simp))
  refine bsplit.dec (fun _ => ?_) (fun _ => ⟨x, y, rfl, .inl rfl, .inr rfl, h.ne, ⟨c, o8⟩, a8, w8, M8⟩)
  refine ⟨c, by rw [o8.at.rd1]; rfl, StQ.own w8 o8 (by simp) fun s15 P => ⟨y, x, rfl, .inr rfl, .inl rfl, h.ne, ⟨_, P.at⟩, a8.mut P.mut (by simp; exact fun e => h.ne e.symm), P.wf, M8.trans (mut_sub P.mut (by simp))⟩⟩
theorem median_ok (h : Ct s0 a lo l rest q s) {x y z : Nat} (hx : x < l.length) (hy : y < l.length) (hz : z < l.length) :
    ACalls Tryz.prog F_slices_medianCmpFunc__Key [a, .int .i64 (x : Nat), .int .i64 (y : Nat), .int .i64 (z : Nat), .ptr (some (q, 0)), .func cf []] s fun r s' => ∃ u : Nat, r = .int .i64 (u : Nat) ∧ (u = x ∨ u = y ∨ u = z) ∧ Ct s0 a lo l rest q s' := by
  refine q_slices_medianCmpFunc__Key _ _ _ _ _ _ _ _ ?_
  refine (order2_ok h hx hy).mono ?_
  rintro r s2 ⟨u1, v1, rfl, hu1, hv1, h2⟩
  refine ⟨_, _, rfl, (order2_ok h2 (by omega) hz).mono ?_⟩
  rintro r s6 ⟨u2, v2, rfl, hu2, hv2, h6⟩
  refine ⟨_, _, rfl, (order2_ok h6 (by omega) (by omega)).mono ?_⟩
  rintro r s10 ⟨u3, v3, rfl, hu3, hv3, h10⟩
  exact ⟨_, _, rfl, v3, rfl, by omega, h10⟩
theorem medAdj_ok (h : Ct s0 a lo l rest q s) {x : Nat} (h0 : 1 ≤ x) (hx : x + 1 < l.length) (hn : l.length < 65536) :
    ACalls Tryz.prog F_slices_medianAdjacentCmpFunc__Key [a, .int .i64 (x : Nat), .ptr (some (q, 0)), .func cf []] s fun r s' => ∃ u : Nat, r = .int .i64 (u : Nat) ∧ (x ≤ u + 1 ∧ u ≤ x + 1) ∧ Ct s0 a lo l rest q s' := by
  refine q_slices_medianAdjacentCmpFunc__Key _ _ _ _ _ _ ?_
  rw [Q_slices_medianAdjacentCmpFunc__Key, wsub1 (by omega) (by omega), wadd1 (by omega)]
  refine (median_ok h (by omega) (by omega) (by omega)).mono ?_
  rintro r s' ⟨u, rfl, hu, h'⟩
  exact ⟨_, rfl, u, rfl, by omega, h'⟩
theorem choose_ok {x y : Nat} (h : Arr s a lo l rest) (hxy : x < y) (hy : y ≤ l.length) (hn : l.length < 65536) :
    ACalls Tryz.prog F_slices_choosePivotCmpFunc__Key [a, .int .i64 (x : Nat), .int .i64 (y : Nat), .func cf []] s fun r s' => ∃ (p : Nat) (t : Int), r = .tup [.int .i64 (p : Nat), .int .i64 t] ∧ (x ≤ p ∧ p < y) ∧ Arr s' a lo l rest ∧ Mut [lo] s s' := by
  have hlo : s.h lo ≠ none := by obtain ⟨_, g, h2⟩ := h; rw [h2]; simp
  refine ACalls.pre fun hw => q_slices_choosePivotCmpFunc__Key _ _ _ _ _ _ (NewQ.intro hw rfl fun q s2 F => ⟨by decide, by decide, by decide, ?_⟩)
  have hq : q ≠ lo := by rintro rfl; exact hlo F.no
  have c2 : Ct s2 a lo l rest q s2 := ⟨hq, ⟨_, F.own⟩, h.ext F.ext, F.wf, Mut.refl _ _⟩
  have back : ∀ s', Ct s2 a lo l rest q s' → Mut [lo] s s' := fun s' c => ⟨fun z o hz ho => c.chg.1 z o (by
    simp only [List.mem_cons, List.not_mem_nil, or_false, not_or]
    exact ⟨(by rintro rfl; rw [F.no] at ho; cases ho), by simpa using hz⟩) (F.ext.1 z o ho), Nat.le_trans F.ext.2 c.chg.2⟩
  have w4 : ∀ k : Nat, k ≤ 3 → IntKind.wrap .i64 ((x : Int) + IntKind.wrap .i64 (IntKind.wrap .i64 (Int.tdiv (IntKind.wrap .i64 ((y : Int) - (x : Int))) 4) * ((k : Nat) : Int))) = ((x + (y - x) / 4 * k : Nat) : Int) := by
    intro k hk
    have hm : (y - x) / 4 * k ≤ (y - x) / 4 * 3 := Nat.mul_le_mul_left _ hk
    rw [wsub (by omega) (by omega), show (4 : Int) = ((4 : Nat) : Int) by rfl, tdivN, wid (by omega), ← Int.natCast_mul, wid (by omega), wadd (by omega)]
  have w1 := w4 1 (by omega)
  have w2 := w4 2 (by omega)
  have w3 := w4 3 (by omega)
  simp only [Int.natCast_one, show ((2 : Nat) : Int) = 2 by rfl, show ((3 : Nat) : Int) = 3 by rfl] at w1 w2 w3
  rw [w1, w2, w3, wsub (by omega) (by omega)]
  refine ⟨fun vs s' => ∃ p : Nat, vs = [.int .i64 (p : Nat)] ∧ (x ≤ p ∧ p < y) ∧ Ct s2 a lo l rest q s', ?_, bsplit.dec (fun h8 => ?_) (fun _ => ⟨_, rfl, by omega, c2⟩)⟩
  · rintro n4 s5 ⟨p, hp, hpy, c5⟩
    simp only [List.cons.injEq, AV.int.injEq, true_and, and_true] at hp
    subst hp
    obtain ⟨c, o⟩ := c5.own
    refine ⟨c, by rw [o.at.rd1]; rfl, ?_⟩
    refine bsplit.mk (fun _ => ⟨p, _, rfl, hpy, c5.arr, back _ c5⟩) (fun _ => bsplit.mk (fun _ => ⟨p, _, rfl, hpy, c5.arr, back _ c5⟩) (fun _ => ⟨p, _, rfl, hpy, c5.arr, back _ c5⟩))
  · refine ⟨fun vs s' => ∃ i j k : Nat, vs = [.int .i64 (i : Nat), .int .i64 (j : Nat), .int .i64 (k : Nat)] ∧ (x ≤ i ∧ i < y) ∧ (x ≤ j ∧ j < y) ∧ (x ≤ k ∧ k < y) ∧ Ct s2 a lo l rest q s', ?_, bsplit.dec (fun h50 => ?_) (fun _ => ⟨_, _, _, rfl, by omega, by omega, by omega, c2⟩)⟩
    · rintro n8 n9 n10 s11 ⟨i, j, k, hv, hi, hj, hk, c11⟩
      simp only [List.cons.injEq, AV.int.injEq, true_and, and_true] at hv
      obtain ⟨rfl, rfl, rfl⟩ := hv
      refine (median_ok c11 (by omega) (by omega) (by omega)).mono ?_
      rintro r s13 ⟨u, rfl, hu, c13⟩
      exact ⟨_, rfl, u, rfl, by omega, c13⟩
    · refine (medAdj_ok c2 (by omega) (by omega) hn).mono ?_
      rintro r s16 ⟨i, rfl, hi, c16⟩
      refine ⟨_, rfl, (medAdj_ok c16 (by omega) (by omega) hn).mono ?_⟩
      rintro r s19 ⟨j, rfl, hj, c19⟩
      refine ⟨_, rfl, (medAdj_ok c19 (by omega) (by omega) hn).mono ?_⟩
      rintro r s22 ⟨k, rfl, hk, c22⟩
      exact ⟨_, rfl, i, j, k, rfl, by omega, by omega, by omega, c22⟩
end
end Go.Proofs.YtoklmpkpeanloaaGreat.SK
end

section
set_option linter.unusedSimpArgs false
set_option linter.unusedVariables false
set_option linter.unusedSectionVars false
namespace Go.Proofs.YtoklmpkpeanloaaGreat.SK
open Go.Am Go.Minster2 Go.Minster.SK
variable {cf : FuncId} [CmpOk cf]

/-- sorted but for [c, d) -/
structure Gd (s : AS) (a : AV) (lo : Nat) (rest : List AV) (l : List Key) (x y : Nat) (s' : AS) (l' : List Key) (c d : Nat) : Prop where
  st : WSt s a lo rest l x y s' l'
  ar : Around l' x y c d
  xc : x ≤ c
  cd : c ≤ d
  dy : d ≤ y
section
variable {s : AS} {a : AV} {lo : Nat} {rest : List AV} {l : List Key} {x y : Nat}
theorem Gd.sub {s' s'' : AS} {l' l'' : List Key} {c d c' d' : Nat} (h : Gd s a lo rest l x y s' l' c d) (hy : y ≤ l.length) (ha : Arr s'' a lo l'' rest) (hw : WFs s'') (hs : Sw c' d' l' l'') (m : Mut [lo] s' s'') (hc : c ≤ c') (hd : d' ≤ d) : WSt s a lo rest l x y s'' l'' :=
  ⟨ha, hw, h.st.sw.trans (hs.widen (Nat.le_trans h.xc hc) (Nat.le_trans hd h.dy) (by rw [h.st.sw.len]; exact hy)), h.st.chg.trans m⟩
theorem Gd.perm {s' s'' : AS} {l' l'' : List Key} {c d : Nat} (h : Gd s a lo rest l x y s' l' c d) (hy : y ≤ l.length) (ha : Arr s'' a lo l'' rest) (hw : WFs s'') (hs : Sw c d l' l'') (m : Mut [lo] s' s'') : Gd s a lo rest l x y s'' l'' c d :=
  ⟨h.sub hy ha hw hs m (Nat.le_refl _) (Nat.le_refl _), h.ar.sw h.xc h.dy hs, h.xc, h.cd, h.dy⟩
theorem Gd.to {s' s'' : AS} {l' : List Key} {c d : Nat} (h : Gd s a lo rest l x y s' l' c d) (ha : Arr s'' a lo l' rest) (hw : WFs s'') (m : Mut [lo] s' s'') : Gd s a lo rest l x y s'' l' c d :=
  ⟨h.st.to ha hw m, h.ar, h.xc, h.cd, h.dy⟩
theorem Gd.low {s' : AS} {l' : List Key} {c d : Nat} (h : Gd s a lo rest l x y s' l' c d) (hlow : 0 < x → ∀ q, x ≤ q → q < y → (el l (x - 1)).le (el l q)) : 0 < c → ∀ q, c ≤ q → q < d → (el l' (c - 1)).le (el l' q) := by
  intro h0 q h1 h2
  have := h.xc
  have := h.dy
  by_cases e : c = x
  · subst e
    exact low_sw h.st.sw hlow h0 q h1 (by omega)
  · exact h.ar (c - 1) q (by omega) (by omega) (by omega) (.inl (by omega))
end

theorem pdq_ok {a : AV} {lo : Nat} {rest : List AV} : ∀ (n : Nat) {s : AS} {l : List Key} {x y : Nat} (lim : Int), y - x = n → Arr s a lo l rest → x ≤ y → y ≤ l.length → l.length < 65536 → (0 < x → ∀ q, x ≤ q → q < y → (el l (x - 1)).le (el l q)) →
    ACalls Tryz.prog F_slices_pdqsortCmpFunc__Key [a, .int .i64 (x : Nat), .int .i64 (y : Nat), .int .i64 lim, .func cf []] s fun r s' => r = .tup [] ∧ ∃ l', WSt s a lo rest l x y s' l' ∧ Srt l' x y := by
  intro n
  induction n using Nat.strongRecOn with
  | _ n IH =>
  intro s l x y lim hn h hxy hy hl hlow
  refine ACalls.pre fun hw => q_slices_pdqsortCmpFunc__Key _ _ _ _ _ _ _ ⟨fun m vs s' => ∃ (c d : Nat) (li : Int) (b1 b2 : Bool) (l' : List Key), vs = [.int .i64 (c : Nat), .int .i64 (d : Nat), .int .i64 li, .bool b1, .bool b2] ∧ m = d - c ∧ Gd s a lo rest l x y s' l' c d, y - x, ⟨x, y, lim, true, true, l, rfl, rfl, ⟨h, hw, .refl _, Mut.refl _ _⟩, Around.start _ _ _, by omega, by omega, by omega⟩, ?_⟩
  rintro m n4 n5 n6 b7 b8 s9 ⟨c, d, li, b1, b2, l1, hv, rfl, g9⟩
  simp only [List.cons.injEq, AV.int.injEq, AV.bool.injEq, true_and, and_true] at hv
  obtain ⟨rfl, rfl, rfl, rfl, rfl⟩ := hv
  have hxc := g9.xc
  have hcd := g9.cd
  have hdy := g9.dy
  have hl1 := g9.st.sw.len
  rw [wsub (by omega) (by omega)]
  refine bsplit.dec (fun h12 => ?_) (fun h12 => bsplit.mk (fun _ => ?_) (fun _ => ?_))
  · refine ACalls.use (insSort_ok g9.st.arr hcd (by omega) (by omega)) ?_
    rintro r s11 ⟨rfl, l2, a11, sw11, so11, m11⟩ w11
    have g11 := g9.perm hy a11 w11 sw11 m11
    exact ⟨rfl, rfl, l2, g11.st, g11.ar.srt so11⟩
  · refine ACalls.use (heapSort_ok g9.st.arr (by omega) (by omega) (by omega)) ?_
    rintro r s11 ⟨rfl, l2, a11, sw11, so11, m11⟩ w11
    have g11 := g9.perm hy a11 w11 sw11 m11
    exact ⟨rfl, rfl, l2, g11.st, g11.ar.srt so11⟩
  have hcd' : c < d := by omega
  refine ⟨fun vs s' => ∃ (li : Int) (l' : List Key), vs = [.int .i64 li] ∧ Gd s a lo rest l x y s' l' c d, ?_, bsplit.mk (fun _ => ?_) (fun _ => ⟨_, l1, rfl, g9⟩)⟩
  · rintro n15 s16 ⟨li2, l2, hv, g16⟩
    simp only [List.cons.injEq, AV.int.injEq, true_and, and_true] at hv
    subst hv
    have hl2 := g16.st.sw.len
    refine ACalls.use (choose_ok g16.st.arr hcd' (by omega) (by omega)) ?_
    rintro r s18 ⟨p, t, rfl, hp, a18, m18⟩ w18
    have g18 := g16.to a18 w18 m18
    refine ⟨_, _, rfl, fun vs s' => ∃ (p : Nat) (t : Int) (l' : List Key), vs = [.int .i64 (p : Nat), .int .i64 t] ∧ (c ≤ p ∧ p < d) ∧ Gd s a lo rest l x y s' l' c d, ?_, bsplit.mk (fun _ => ?_) (fun _ => ⟨p, t, l2, rfl, hp, g18⟩)⟩
    · rintro n22 n23 s24 ⟨p, t, l3, hv, hp, g24⟩
      simp only [List.cons.injEq, AV.int.injEq, true_and, and_true] at hv
      obtain ⟨rfl, rfl⟩ := hv
      refine ⟨fun vs s' => ∃ l', Gd s a lo rest l x y s' l' c d, ?_, ?_⟩
      · rintro s26 ⟨l4, g26⟩
        have hl4 := g26.st.sw.len
        refine ⟨fun vs s' => ∃ b, vs = [.bool b] ∧ Gd s a lo rest l x y s' l4 c d ∧ (b = true → 0 < c ∧ (el l4 p).le (el l4 (c - 1))), ?_, ?_⟩
        · rintro b28 s29 ⟨b, hv, g29, hb⟩
          simp only [List.cons.injEq, AV.bool.injEq, and_true] at hv
          subst hv
          refine bsplit.mk (fun hb1 => ?_) (fun _ => ?_)
          · obtain ⟨hc0, hle⟩ := hb hb1
            refine ACalls.use (partEq_ok g29.st.arr hp (by omega) (by omega)) ?_
            rintro r s31 ⟨i, j, l5, rfl, a31, sw31, pr31, hji, ex31, m31⟩ w31
            have g31 := g29.perm hy a31 w31 sw31 m31
            have hxi := pr31.xi
            have hjd := pr31.jy
            have hij := pr31.ij
            refine ⟨_, rfl, d - i, by omega, i, d, _, _, _, l5, rfl, rfl, g31.st, g31.ar.equal hxc hdy pr31 hji (fun k h1 h2 => ?_), by omega, by omega, by omega⟩
            rw [ex31]
            refine Key.le_trans hle ?_
            have := g31.low hlow hc0 k h1 h2
            rw [sw31.out (.inl (by omega))] at this
            exact this
          · refine ACalls.use (partition_ok g29.st.arr hp (by omega) (by omega)) ?_
            rintro r s34 ⟨mm, bb, l5, rfl, a34, sw34, pa34, m34⟩ w34
            have g34 := g29.perm hy a34 w34 sw34 m34
            have hcm := pa34.xm
            have hmd := pa34.my
            have hl5 := g34.st.sw.len
            have hlow5 := g34.low hlow
            refine ⟨_, _, rfl, by decide, ?_⟩
            rw [wadd1 (by omega)]
            refine bsplit.mk (fun _ => ?_) (fun _ => ?_)
            · refine ACalls.use (IH (mm - c) (by omega) (s := s34) (l := l5) (x := c) (y := mm) _ rfl a34 hcm (by omega) (by omega) (fun h0 q h1 h2 => hlow5 h0 q h1 (by omega))) ?_
              rintro r s38 ⟨rfl, l6, st38, so38⟩ w38
              refine ⟨rfl, d - (mm + 1), by omega, mm + 1, d, _, _, _, l6, rfl, rfl, g34.sub hy st38.arr w38 st38.sw st38.chg (Nat.le_refl _) (by omega), g34.ar.right hxc hdy pa34 st38.sw so38, by omega, by omega, by omega⟩
            · refine ACalls.use (IH (d - (mm + 1)) (by omega) (s := s34) (l := l5) (x := mm + 1) (y := d) _ rfl a34 (by omega) (by omega) (by omega) (fun h0 q h1 h2 => by
                rw [Nat.add_sub_cancel]; exact pa34.ge q (by omega) h2)) ?_
              rintro r s38 ⟨rfl, l6, st38, so38⟩ w38
              refine ⟨rfl, mm - c, by omega, c, mm, _, _, _, l6, rfl, rfl, g34.sub hy st38.arr w38 st38.sw st38.chg (by omega) (Nat.le_refl _), g34.ar.left hxc hdy pa34 st38.sw so38, by omega, by omega, by omega⟩
        · refine bsplit.dec (fun hc0 => ?_) (fun _ => ⟨false, rfl, g26, by simp⟩)
          rw [wsub1 (by omega) (by omega)]
          refine g26.st.arr.cmp (by omega) (by omega) fun s48 a48 w48 m48 => ⟨_, rfl, g26.to a48 w48 m48, fun hb => ⟨by omega, ?_⟩⟩
          exact Key.nlt_le (by rw [← Key.cmp_lt]; simpa using hb)
      · refine ⟨fun vs s' => ∃ b, vs = [.bool b] ∧ s' = s24, ?_, bsplit.mk (fun _ => bsplit.mk (fun _ => ⟨_, rfl, rfl⟩) (fun _ => ⟨_, rfl, rfl⟩)) (fun _ => ⟨_, rfl, rfl⟩)⟩
        rintro b51 s52 ⟨b, hv, rfl⟩
        simp only [List.cons.injEq, AV.bool.injEq, and_true] at hv
        subst hv
        have hl3 := g24.st.sw.len
        refine bsplit.mk (fun _ => ?_) (fun _ => ⟨l3, g24⟩)
        refine ACalls.use (partial_ok g24.st.arr hcd' (by omega) (by omega) (g24.low hlow)) ?_
        rintro r s54 ⟨b, l4, rfl, st54, hs⟩ w54
        have g54 := g24.perm hy st54.arr w54 st54.sw st54.chg
        exact ⟨_, rfl, bsplit.mk (fun hb => ⟨rfl, l4, g54.st, g54.ar.srt (hs hb)⟩) (fun _ => ⟨l4, g54⟩)⟩
    · refine ACalls.use (reverse_ok g18.st.arr hcd' (by omega) (by omega)) ?_
      rintro r s57 ⟨rfl, l3, a57, sw57, m57⟩ w57
      rw [wsub1 (by omega) (by omega), wsub (by omega) (by omega), wsub (by omega) (by omega)]
      exact ⟨rfl, d - 1 - (p - c), 1, l3, rfl, by omega, g18.perm hy a57 w57 sw57 m57⟩
  · refine ACalls.use (break_ok g9.st.arr hcd' (by omega) (by omega)) ?_
    rintro r s59 ⟨rfl, l2, st59⟩ w59
    exact ⟨rfl, _, l2, rfl, g9.perm hy st59.arr w59 st59.sw st59.chg⟩

theorem sort_ok {s : AS} {a : AV} {lo : Nat} {rest : List AV} {l : List Key} (h : Arr s a lo l rest) (hl : l.length < 65536) :
    ACalls Tryz.prog F_slices_SortFunc__s_Key_Key [a, .func cf []] s fun r s' => r = .tup [] ∧ ∃ l', Arr s' a lo l' rest ∧ l'.Perm l ∧ Srt l' 0 l'.length ∧ Mut [lo] s s' := by
  refine q_slices_SortFunc__s_Key_Key _ _ _ _ ?_
  have hlen : alenB T Y_s_Key a s = some (.int .i64 (l.length : Nat)) := by
    obtain ⟨⟨c, e, rfl⟩, _⟩ := h
    simp [alenB, u_s_Key]
  refine ⟨_, hlen, ?_⟩
  dsimp only
  rw [wrap_u (by omega)]
  refine ACalls.use (len_ok hl s) ?_
  rintro r s3 ⟨k, rfl, _, _, rfl⟩ w3
  refine ⟨_, rfl, ?_⟩
  refine (pdq_ok (l.length - 0) (x := 0) (y := l.length) k rfl h (by omega) (by omega) hl (by omega)).mono ?_
  rintro r s6 ⟨rfl, l', st, so⟩
  exact ⟨rfl, rfl, l', st.arr, st.sw.perm, by rw [st.sw.len]; exact so, st.chg⟩
end Go.Proofs.YtoklmpkpeanloaaGreat.SK
end

section
set_option linter.unusedSimpArgs false
set_option linter.unusedVariables false
namespace Go.Proofs.YtoklmpkpeanloaaGreat
open Go.Am Go.Minster Go.Minster2

theorem isNaN_str (a : List UInt8) (s : AS) : ACalls Tryz.prog F_cmp_isNaN__string [.str a] s fun v s' => v = .bool false ∧ s' = s :=
  q_cmp_isNaN__string _ _ _ ⟨by simp, rfl⟩
theorem cmp_str (a b : List UInt8) (s : AS) : ACalls Tryz.prog F_cmp_Compare__string [.str a, .str b] s fun v s' => v = .int .i64 (cmpS a b) ∧ s' = s := by
  refine q_cmp_Compare__string _ _ _ _ ?_
  refine ACalls.use (isNaN_str a s) ?_
  rintro v s' ⟨rfl, rfl⟩ _
  refine ⟨_, rfl, ?_⟩
  refine ACalls.use (isNaN_str b s') ?_
  rintro v s ⟨rfl, rfl⟩ _
  refine ⟨_, rfl, bsplit.no rfl (bsplit.no rfl (bsplit.mk (fun h => ⟨?_, rfl⟩) (fun h => bsplit.mk (fun h2 => ⟨?_, rfl⟩) (fun h2 => ⟨?_, rfl⟩))))⟩
  · simp [cmpS, h]
  · have : a ≠ b := by rintro rfl; simp at h2
    simp [cmpS, h, this]
  · have : a = b := by simpa [h] using h2
    subst this
    simp [cmpS, bytesLt_irrefl]
theorem orset_order_ok (a b : Dot) (s : AS) : ACalls Tryz.prog F_orset_order [.agg (dotC a), .agg (dotC b)] s fun v s' => v = .int .i64 (a.cmp b) ∧ Ext s s' := by
  refine ACalls.pre fun hw => q_orset_order _ _ _ _ ⟨rfl, NewQ.intro hw rfl fun l s1 F => ⟨rfl, NewQ.intro F.wf rfl fun l2 s2 F2 => ?_⟩⟩
  have e := F.ext.trans F2.ext
  refine ⟨fun _ _ _ _ => True, fun _ _ v => v = .int .i64 (cmpI a.r b.r), fun _ _ _ _ _ _ _ => trivial, ?_⟩
  simp only [(F.own.ext F2.ext).at.rd1, F2.own.at.rd1, dotC, List.getElem?_cons_zero, List.getElem?_cons_succ, go_sem]
  refine ⟨fun s7 _ _ _ => ?_, ⟨_, rfl⟩, ?_⟩
  · refine (cmp_Compare__int_ok _ _ _).mono ?_
    rintro v s' ⟨rfl, rfl⟩
    exact ⟨_, rfl, Ext.refl _, trivial, rfl⟩
  · rintro v rfl
    refine ⟨_, rfl, fun s15 e15 _ _ => ?_⟩
    refine ACalls.use (cmp_Compare__uint64_ok _ _ _) ?_
    rintro v s' ⟨rfl, rfl⟩ hw'
    refine ⟨_, rfl, ?_⟩
    have habs : absl T Y_s_int 2 [(0, .int .i64 (cmpI a.r b.r)), (1, .int .i64 (cmpI a.c b.c))] = some [.int .i64 (cmpI a.r b.r), .int .i64 (cmpI a.c b.c)] := by
      simp only [absl, u_s_int, z_int, zr_int, Option.bind_some, acells_int]; rfl
    rw [habs]
    simp only [go_sem]
    refine NewQ.intro hw' rfl fun l3 s3 F3 => ?_
    refine (cmp_Or__int_ok2 _ _ F3.own.at).mono ?_
    rintro v s' ⟨rfl, rfl⟩
    refine ⟨_, rfl, ?_, e.trans (e15.trans F3.ext)⟩
    simp only [Dot.cmp]
instance : CmpOk F_orset_order := ⟨orset_order_ok⟩
theorem items1_ok (a b : Itm) (s : AS) : ACalls Tryz.prog F_orset_Set_Items_1 [.agg (itemC a), .agg (itemC b)] s fun v s' => v = .int .i64 (a.cmp b) ∧ Ext s s' := by
  refine ACalls.pre fun hw => q_orset_Set_Items_1 _ _ _ _ ⟨rfl, NewQ.intro hw rfl fun l s1 F => ⟨rfl, NewQ.intro F.wf rfl fun l2 s2 F2 => ?_⟩⟩
  refine ⟨dotC a.dot, (F.own.ext F2.ext).at.rdc (by simp [itemC]), dotC b.dot, F2.own.at.rdc (by simp [itemC]), ?_⟩
  refine ACalls.use (orset_order_ok _ _ _) ?_
  rintro v s' ⟨rfl, e⟩ _
  exact ⟨_, rfl, rfl, (F.ext.trans F2.ext).trans e⟩
instance : SI.CmpOk F_orset_Set_Items_1 := ⟨items1_ok⟩
theorem keys1_ok (a b : Key) (s : AS) : ACalls Tryz.prog F_orset_Set_Keys_1 [.agg (keyC a), .agg (keyC b)] s fun v s' => v = .int .i64 (a.cmp b) ∧ Ext s s' := by
  refine ACalls.pre fun hw => q_orset_Set_Keys_1 _ _ _ _ ⟨rfl, NewQ.intro hw rfl fun l s1 F => ⟨rfl, NewQ.intro F.wf rfl fun l2 s2 F2 => ?_⟩⟩
  have e := F.ext.trans F2.ext
  refine ⟨fun _ _ _ _ => True, fun _ _ v => v = .int .i64 (cmpS a.t b.t), fun _ _ _ _ _ _ _ => trivial, ?_⟩
  simp only [(F.own.ext F2.ext).at.rd1, F2.own.at.rd1, keyC, List.getElem?_cons_zero, List.getElem?_cons_succ, go_sem]
  refine ⟨fun s7 _ _ _ => ?_, ⟨_, rfl⟩, ?_⟩
  · refine (cmp_str _ _ _).mono ?_
    rintro v s' ⟨rfl, rfl⟩
    exact ⟨_, rfl, Ext.refl _, trivial, rfl⟩
  · rintro v rfl
    refine ⟨_, rfl, fun s15 e15 _ _ => ?_⟩
    refine ACalls.use (cmp_str _ _ _) ?_
    rintro v s' ⟨rfl, rfl⟩ hw'
    refine ⟨_, rfl, ?_⟩
    have habs : absl T Y_s_int 2 [(0, .int .i64 (cmpS a.t b.t)), (1, .int .i64 (cmpS a.d b.d))] = some [.int .i64 (cmpS a.t b.t), .int .i64 (cmpS a.d b.d)] := by
      simp only [absl, u_s_int, z_int, zr_int, Option.bind_some, acells_int]; rfl
    rw [habs]
    simp only [go_sem]
    refine NewQ.intro hw' rfl fun l3 s3 F3 => ?_
    refine (cmp_Or__int_ok2 _ _ F3.own.at).mono ?_
    rintro v s' ⟨rfl, rfl⟩
    refine ⟨_, rfl, ?_, e.trans (e15.trans F3.ext)⟩
    simp only [Key.cmp]
instance : SK.CmpOk F_orset_Set_Keys_1 := ⟨keys1_ok⟩

def nameOk (t : List UInt8) : Bool := decide (1 ≤ t.length ∧ t.length ≤ 32)
theorem alen_str (t : List UInt8) (s : AS) : alenB T Y_string (.str t) s = some (.int .i64 (t.length : Nat)) := by simp [alenB, u_string]
theorem name_ok (t : List UInt8) (s : AS) : ACalls Tryz.prog F_orset_name [.str t] s fun v s' => v = .bool (nameOk t) ∧ s' = s := by
  refine q_orset_name _ _ _ ⟨_, alen_str t s, bsplit.dec (fun h => ⟨_, alen_str t s, ?_, rfl⟩) (fun h => ⟨?_, rfl⟩)⟩
  · congr 1
    rw [nameOk, decide_eq_decide]; omega
  · congr 1
    symm
    rw [nameOk, decide_eq_false_iff_not]; omega
def _root_.Go.Minster2.Key.may (k : Key) : Bool := nameOk k.t && nameOk k.d
def _root_.Go.Minster2.Itm.may (i : Itm) : Bool := i.dot.may && (if i.gone then decide (i.key = ⟨[], []⟩) else i.key.may)
theorem MayKey_ok (k : Key) (s : AS) : ACalls Tryz.prog F_orset_MayKey [.agg (keyC k)] s fun v s' => v = .bool k.may ∧ Ext s s' := by
  refine ACalls.pre fun hw => q_orset_MayKey _ _ _ ⟨rfl, NewQ.intro hw rfl fun l s1 F => ⟨k.t, by rw [F.own.at.rd1]; rfl, ?_⟩⟩
  refine ACalls.use (name_ok _ _) ?_
  rintro v s2 ⟨rfl, rfl⟩ _
  refine ⟨_, rfl, bsplit.mk (fun h => ⟨k.d, by rw [F.own.at.rd1]; rfl, ?_⟩) (fun h => ⟨by rw [Key.may, h]; rfl, F.ext⟩)⟩
  refine ACalls.use (name_ok _ _) ?_
  rintro v s3 ⟨rfl, rfl⟩ _
  exact ⟨_, rfl, by rw [Key.may, h]; rfl, F.ext⟩
theorem tri_Key : triples (T.und Y_Key) = some [(false, Y_string, 0), (false, Y_string, 1)] := by kernel_rfl
theorem et_Key : T.eqt Y_Key = true := by kernel_rfl
theorem key_eq (a b : Key) : aeq T 100 Y_Key (.agg (keyC a)) (.agg (keyC b)) = some (decide (a = b)) := by
  rw [aeq_tri tri_Key et_Key]
  simp only [eqTri, cond_false, part_s ag_string, keyC, List.getElem?_cons_zero, List.getElem?_cons_succ, Option.bind_some, aeqStr u_string]
  cases a; cases b
  simp only [Key.mk.injEq]
  rename_i r c r' c'
  by_cases h1 : r = r' <;> by_cases h2 : c = c' <;> simp [h1, h2]
theorem key0_build : abuild T Y_Key [] = some (.agg (keyC ⟨[], []⟩)) := by kernel_rfl
theorem May_ok (i : Itm) (s : AS) : ACalls Tryz.prog F_orset_May [.agg (itemC i)] s fun v s' => v = .bool i.may ∧ Ext s s' := by
  refine ACalls.pre fun hw => q_orset_May _ _ _ ⟨rfl, NewQ.intro hw rfl fun l s1 F => ⟨i.gone, by rw [F.own.at.rd1]; rfl, ?_⟩⟩
  have gd : ∀ s', Ext s1 s' → rdc s' l 0 2 = some (dotC i.dot) := fun s' e => (F.own.ext e).at.rdc (by simp [itemC])
  have gk : ∀ s', Ext s1 s' → rdc s' l 2 2 = some (keyC i.key) := fun s' e => (F.own.ext e).at.rdc (by simp [itemC])
  refine bsplit.mk (fun h => ?_) (fun h => ?_)
  · refine ⟨_, gd _ (Ext.refl _), ?_⟩
    refine ACalls.use (ctx_May_ok _ _) ?_
    rintro v s2 ⟨rfl, e2⟩ _
    refine ⟨_, rfl, bsplit.mk (fun h2 => ⟨_, gk _ e2, _, key0_build, _, key_eq _ _, ?_, F.ext.trans e2⟩) (fun h2 => ⟨by simp [Itm.may, h2], F.ext.trans e2⟩)⟩
    simp [Itm.may, h, h2]
  · refine ⟨_, gd _ (Ext.refl _), ?_⟩
    refine ACalls.use (ctx_May_ok _ _) ?_
    rintro v s2 ⟨rfl, e2⟩ _
    refine ⟨_, rfl, bsplit.mk (fun h2 => ⟨_, gk _ e2, ?_⟩) (fun h2 => ⟨by simp [Itm.may, h2], F.ext.trans e2⟩)⟩
    refine ACalls.use (MayKey_ok _ _) ?_
    rintro v s3 ⟨rfl, e3⟩ _
    exact ⟨_, rfl, by simp [Itm.may, h, h2], F.ext.trans (e2.trans e3)⟩
end Go.Proofs.YtoklmpkpeanloaaGreat
end

section
set_option linter.unusedSimpArgs false
set_option linter.unusedVariables false
set_option linter.unusedSectionVars false
namespace Go.Proofs.YtoklmpkpeanloaaGreat
open Go.Am Go.Minster

theorem insNilN_ok {cf : FuncId} {a : Option (Nat × Nat)} (s : AS) : ACalls Tryz.prog F_slices_insertionSortCmpFunc__Dot [.slc a 0 0 true, .int .i64 0, .int .i64 0, .func cf []] s fun r s' => r = .tup [] ∧ s' = s := by
  refine q_slices_insertionSortCmpFunc__Dot _ _ _ _ _ _ ⟨fun m vs s' => vs = [.int .i64 1] ∧ s' = s, 0, ⟨rfl, rfl⟩, ?_⟩
  rintro m n s5 ⟨hi, rfl⟩
  simp only [List.cons.injEq, AV.int.injEq, true_and, and_true] at hi
  subst hi
  exact bsplit.no (by decide) ⟨rfl, rfl⟩
theorem pdqNilN_ok {cf : FuncId} {a : Option (Nat × Nat)} (s : AS) (lim : Int) : ACalls Tryz.prog F_slices_pdqsortCmpFunc__Dot [.slc a 0 0 true, .int .i64 0, .int .i64 0, .int .i64 lim, .func cf []] s fun r s' => r = .tup [] ∧ s' = s := by
  refine q_slices_pdqsortCmpFunc__Dot _ _ _ _ _ _ _ ⟨fun m vs s' => vs = [.int .i64 0, .int .i64 0, .int .i64 lim, .bool true, .bool true] ∧ s' = s, 0, ⟨rfl, rfl⟩, ?_⟩
  rintro m n4 n5 n6 b7 b8 s9 ⟨hi, rfl⟩
  simp only [List.cons.injEq, AV.int.injEq, AV.bool.injEq, true_and, and_true] at hi
  obtain ⟨rfl, rfl, rfl, rfl, rfl⟩ := hi
  refine bsplit.yes (by decide) ?_
  refine ACalls.use (insNilN_ok s9) ?_
  rintro r s' ⟨rfl, rfl⟩ _
  exact ⟨rfl, rfl, rfl⟩
theorem sortNilN_ok {cf : FuncId} {a : Option (Nat × Nat)} (s : AS) : ACalls Tryz.prog F_slices_SortFunc__s_Dot_Dot [.slc a 0 0 true, .func cf []] s fun r s' => r = .tup [] ∧ s' = s := by
  refine q_slices_SortFunc__s_Dot_Dot _ _ _ _ ?_
  have hlen : alenB T Y_s_Dot (.slc a 0 0 true) s = some (.int .i64 0) := by simp [alenB, u_s_Dot]
  refine ⟨_, hlen, ?_⟩
  dsimp only
  rw [show IntKind.wrap .u64 (0 : Int) = ((0 : Nat) : Int) from wrap_u (by omega)]
  refine ACalls.use (len_ok (by omega) s) ?_
  rintro r s3 ⟨k, rfl, _, _, rfl⟩ w3
  refine ⟨_, rfl, ?_⟩
  refine ACalls.use (pdqNilN_ok _ _) ?_
  rintro r s6 ⟨rfl, rfl⟩ _
  exact ⟨rfl, rfl, rfl⟩

/-- a row whose memory is new since s0, and may be written -/
def ArrN (s0 s : AS) (v : AV) (l : List Dot) : Prop := Ext s0 s ∧ ((l = [] ∧ ∃ a, v = .slc a 0 0 true) ∨ ∃ la, v = .slc (some (la, 0)) l.length l.length false ∧ Arr s v la l [] ∧ s0.h la = none)
variable {cf : FuncId} [CmpOk cf]
theorem sortGro_ok {s0 s : AS} {v : AV} {l : List Dot} {sz : Nat} (g : GroN dotC sz [] s0 s v l) (hl : l.length < 65536) :
    ACalls Tryz.prog F_slices_SortFunc__s_Dot_Dot [v, .func cf []] s fun r s' => r = .tup [] ∧ ∃ l', l'.Perm l ∧ Srt l' 0 l'.length ∧ ArrN s0 s' v l' := by
  have e0 : Ext s0 s := g.chg.ext
  rcases g.gro with ⟨rfl, a, rfl⟩ | ⟨la, rfl, ho⟩
  · refine (sortNilN_ok s).mono ?_
    rintro r s' ⟨rfl, rfl⟩
    exact ⟨rfl, [], .refl _, fun i j h1 h2 h3 => by simp at h3, e0, .inl ⟨rfl, a, rfl⟩⟩
  · have ha : Arr s (.slc (some (la, 0)) l.length l.length false) la l [] := ⟨⟨_, _, rfl⟩, sz, by simpa using ho⟩
    have hn : s0.h la = none := g.new la (by simp [labOf])
    refine (sort_ok ha hl).mono ?_
    rintro r s' ⟨rfl, l', ha', hp, hs, m'⟩
    refine ⟨rfl, l', hp, hs, ⟨fun x o hx => m'.1 x o (by simp only [List.mem_singleton]; rintro rfl; rw [hn] at hx; cases hx) (e0.1 x o hx), Nat.le_trans e0.2 m'.2⟩, .inr ⟨la, by rw [hp.length_eq], ha', hn⟩⟩
theorem ArrN.dots {s0 s : AS} {v : AV} {l : List Dot} (h : ArrN s0 s v l) : Sl dotC 2 s v l := by
  rcases h.2 with ⟨rfl, a, rfl⟩ | ⟨la, rfl, ⟨_, g, ho⟩, _⟩
  · exact Sl.nil
  · refine SlAt.mk ⟨_, _, ho⟩ (dots_len l) ?_ (Nat.le_refl _)
    rw [List.drop_zero]
    show (l.flatMap dotC ++ []).take _ = _
    rw [List.append_nil]
    exact List.take_of_length_le (Nat.le_of_eq (dots_len l))
end Go.Proofs.YtoklmpkpeanloaaGreat
end

section
set_option linter.unusedSimpArgs false
set_option linter.unusedVariables false
namespace Go.Proofs.YtoklmpkpeanloaaGreat
open Go.Am Go.Minster Go.ChangeShapes Go.WideShapes Go.ChangeAt Go.RowKit

theorem has_zero (x : Dot) : hasD zeros [] x = false := by
  cases hq : hasD zeros [] x with
  | false => rfl
  | true =>
    obtain ⟨hm, h⟩ := hasD_iff.1 hq
    have := Dot.may_iff.1 hm
    rcases h with h | h
    · cases h
    · have e : zeros.getD (x.r - 1).toNat 0 = 0 := by
        simp only [zeros, List.getD_eq_getElem?_getD, List.getElem?_replicate]
        split <;> rfl
      omega
/-- a dot is added, whatever it is -/
theorem addD_any {v : List Int} {ex : List Dot} (ok : COk v ex) (gap : Gap v ex) (hn : ex.length < 4096) (d : Dot) : COk (addD v ex d).2.2.1 (addD v ex d).2.2.2 ∧ Gap (addD v ex d).2.2.1 (addD v ex d).2.2.2 ∧ (addD v ex d).2.2.2.length ≤ ex.length + 1 ∧ ∀ x, hasD (addD v ex d).2.2.1 (addD v ex d).2.2.2 x = true ↔ hasD v ex x = true ∨ (x = d ∧ d.may = true) := by
  cases hm : d.may with
  | false =>
    have : addD v ex d = (false, 2, v, ex) := by simp [addD, hm]
    rw [this]
    exact ⟨ok, gap, by simp, fun x => by simp⟩
  | true =>
    rw [addD_few hm hn]
    exact ⟨ok.add hm, Gap.add ok gap hm, addR_len, fun x => by rw [addR_has ok hm]; simp⟩

end Go.Proofs.YtoklmpkpeanloaaGreat
end

section
set_option linter.unusedSimpArgs false
set_option linter.unusedVariables false
namespace Go.Proofs.YtoklmpkpeanloaaGreat
open Go.Am Go.Minster

/-! ### maps of dots -/
abbrev dK (d : Dot) : AV := .agg (dotC d)
abbrev bV (b : Bool) : AV := .agg [.bool b]
abbrev iK (n : Int) : AV := .int .i64 n
abbrev pV (q : Nat) : AV := .ptr (some (q, 0))
theorem tri_ok_Dot : ∀ r c : Int, akeyOk T 100 Y_Dot (.agg [.int .i64 r, .int .u64 c]) = true := by
  intro r c; kernel_rfl
theorem mp_dots : MpTy (K := Dot) T Y_m_Dot_struct__is_bool__ Y_Dot Y_struct__is_bool__ dK (bV false) :=
  ⟨u_m_Dot_struct__is_bool__, fun a b => dot_eq a b, fun a => tri_ok_Dot a.r a.c, fun a => by simp [abits, bitsL, dotC], zr_struct__is_bool__⟩
/-- a map that holds just the dots of f -/
def DMap (s : AS) (l : Nat) (f : Dot → Bool) : Prop := ∃ es c, MpAt dK bV s l es c false ∧ ∀ d, mget es d = if f d then some true else none
theorem DMap.mut {s s' : AS} {l : Nat} {f : Dot → Bool} {L : List Nat} (h : DMap s l f) (e : Mut L s s') (hl : l ∉ L) : DMap s' l f := by
  obtain ⟨es, c, h1, h2⟩ := h; exact ⟨es, c, h1.mut e hl, h2⟩
theorem DMap.ext {s s' : AS} {l : Nat} {f : Dot → Bool} (h : DMap s l f) (e : Ext s s') : DMap s' l f := h.mut (L := []) e.mut (by simp)
theorem DMap.new {s : AS} {l : Nat} (h : s.h l = some (.map [] 0 false)) : DMap s l fun _ => false := ⟨[], 0, MpAt.new h, fun d => rfl⟩
theorem DMap.upd {s : AS} (hw : WFs s) {l : Nat} {f : Dot → Bool} (h : DMap s l f) (d : Dot) {Q : AS → Prop} (hq : ∀ s', DMap s' l (fun x => f x || decide (x = d)) → WFs s' → Mut [l] s s' → Q s') :
    StQ (amapUpdate T Y_m_Dot_struct__is_bool__ (.map (some l)) (.agg (dotC d)) (.agg [.bool true]) s) Q := by
  obtain ⟨es, c, h1, h2⟩ := h
  refine MpAt.upd mp_dots hw h1 d true fun s' es' c' h1' h2' hw' m' => hq s' ⟨es', c', h1', fun x => ?_⟩ hw' m'
  rw [h2', h2]
  by_cases e : x = d
  · simp [e]
  · simp [e]
theorem DMap.congr {s : AS} {l : Nat} {f g : Dot → Bool} (h : DMap s l f) (e : ∀ d, f d = g d) : DMap s l g := by
  have : f = g := funext e
  rw [← this]; exact h
theorem DMap.there {s : AS} {l : Nat} {f : Dot → Bool} (h : DMap s l f) : s.h l ≠ none := by
  obtain ⟨es, c, h1, _⟩ := h; rw [h1.obj]; simp
theorem is_build : abuild T Y_struct__is_bool__ [(0, .bool true)] = some (.agg [.bool true]) := by kernel_rfl

/-! ### views -/
/-- what a region told: a context, and what is live in it -/
structure Vw where
  v : List Int
  ex : List Dot
  live : Dot → Bool
def Vw.has (x : Vw) (d : Dot) : Bool := hasD x.v x.ex d

/-- a context, all of whose memory is in F -/
structure CtxF (F : List Nat) (s : AS) (p : Nat) (v : List Int) (ex : List Dot) : Prop where
  len : v.length = 16
  lab : p ∈ F
  mem : ∃ w, Am.Own s p (v.map (.int .u64) ++ [w, .bool true]) ∧ w.one = true ∧ Gro dotC 2 s w ex ∧ ∀ la ∈ labOf w, la ∈ F
theorem CtxF.at {F : List Nat} {s : AS} {p : Nat} {v : List Int} {ex : List Dot} (h : CtxF F s p v ex) : CtxAt s p v ex := by
  obtain ⟨h1, _, w, h2, h3, h4, h5⟩ := h
  exact ⟨h1, w, h2, h3, h4.sl dotC_len⟩
theorem CtxF.mut {F : List Nat} {s s' : AS} {L : List Nat} {p : Nat} {v : List Int} {ex : List Dot} (h : CtxF F s p v ex) (m : Mut L s s') (hL : ∀ x ∈ L, x ∉ F) : CtxF F s' p v ex := by
  obtain ⟨h1, h0, w, h2, h3, h4, h5⟩ := h
  exact ⟨h1, h0, w, h2.mut m (fun hx => hL p hx h0), h3, h4.mut m fun x hx hm => hL x hm (h5 x hx), h5⟩
theorem CtxF.sub {F F' : List Nat} {s : AS} {p : Nat} {v : List Int} {ex : List Dot} (h : CtxF F s p v ex) (hF : ∀ x ∈ F, x ∈ F') : CtxF F' s p v ex := by
  obtain ⟨h1, h0, w, h2, h3, h4, h5⟩ := h
  exact ⟨h1, hF _ h0, w, h2, h3, h4, fun x hx => hF x (h5 x hx)⟩
/-- a new context's memory -/
theorem CtxG.toF {s0 s : AS} {p : Nat} {v : List Int} {ex : List Dot} (h : CtxG s0 s p v ex) (hp : s0.h p = none) : ∃ F, CtxF F s p v ex ∧ (∀ x ∈ F, s0.h x = none) ∧ ∀ x ∈ F, s.h x ≠ none := by
  obtain ⟨h1, w, h2, h3, h4, h5⟩ := h
  refine ⟨p :: labOf w, ⟨h1, by simp, w, h2, h3, h4, fun x hx => by simp [hx]⟩, fun x hx => ?_, fun x hx => ?_⟩
  · rcases List.mem_cons.1 hx with rfl | hx
    · exact hp
    · exact h5 x hx
  · rcases List.mem_cons.1 hx with rfl | hx
    · rw [h2]; simp
    · rcases h4 with ⟨_, a, rfl⟩ | ⟨la, rfl, ho⟩
      · simp [labOf] at hx
      · obtain rfl : x = la := by simpa [labOf] using hx
        rw [ho]; simp

theorem CtxG.toF2 {s0 s : AS} {p : Nat} {v : List Int} {ex : List Dot} (h : CtxG s0 s p v ex) : ∃ F, CtxF F s p v ex ∧ (∀ x ∈ F, x = p ∨ s0.h x = none) ∧ ∀ x ∈ F, s.h x ≠ none := by
  obtain ⟨h1, w, h2, h3, h4, h5⟩ := h
  refine ⟨p :: labOf w, ⟨h1, by simp, w, h2, h3, h4, fun x hx => by simp [hx]⟩, fun x hx => ?_, fun x hx => ?_⟩
  · rcases List.mem_cons.1 hx with rfl | hx
    · exact .inl rfl
    · exact .inr (h5 x hx)
  · rcases List.mem_cons.1 hx with rfl | hx
    · rw [h2]; simp
    · rcases h4 with ⟨_, a, rfl⟩ | ⟨la, rfl, ho⟩
      · simp [labOf] at hx
      · obtain rfl : x = la := by simpa [labOf] using hx
        rw [ho]; simp

structure Vw.Ok (x : Vw) : Prop where
  ok : COk x.v x.ex
  gap : Gap x.v x.ex
  len : x.ex.length ≤ 4096
/-- a view in memory that is in F -/
structure VwF (F : List Nat) (s : AS) (q : Nat) (x : Vw) : Prop where
  ok : x.Ok
  mem : ∃ pc ml, s.h q = some (.cells [.ptr (some (pc, 0)), .map (some ml)] 0 false) ∧ q ∈ F ∧ CtxF F s pc x.v x.ex ∧ ml ∈ F ∧ DMap s ml x.live
theorem VwF.mut {F : List Nat} {s s' : AS} {L : List Nat} {q : Nat} {x : Vw} (h : VwF F s q x) (m : Mut L s s') (hL : ∀ x ∈ L, x ∉ F) : VwF F s' q x := by
  obtain ⟨h1, pc, ml, h2, h3, h4, h5, h6⟩ := h
  exact ⟨h1, pc, ml, m.1 _ _ (fun hx => hL q hx h3) h2, h3, h4.mut m hL, h5, h6.mut m fun hx => hL ml hx h5⟩
theorem VwF.sub {F F' : List Nat} {s : AS} {q : Nat} {x : Vw} (h : VwF F s q x) (hF : ∀ x ∈ F, x ∈ F') : VwF F' s q x := by
  obtain ⟨h1, pc, ml, h2, h3, h4, h5, h6⟩ := h
  exact ⟨h1, pc, ml, h2, hF _ h3, h4.sub hF, hF _ h5, h6⟩

/-! ### matrices -/
/-- a matrix in memory: its views are in F; the matrix itself and its map are not -/
structure MatF (F : List Nat) (s : AS) (p m : Nat) (n o : Int) (told : Int → Option Vw) (has : List Int) : Prop where
  len : has.length = 256
  obj : Am.Own s p (.int .i64 n :: .int .i64 o :: .map (some m) :: has.map (.int .u64))
  map : ∃ es c, MpAt iK pV s m es c false ∧ ∀ r, match told r with
    | none => mget es r = none
    | some x => ∃ q, mget es r = some q ∧ VwF F s q x
  pF : p ∉ F
  mF : m ∉ F
  pm : p ≠ m
  rng : 1 ≤ n ∧ n ≤ 16 ∧ 1 ≤ o ∧ o ≤ n
  Ft : ∀ x ∈ F, s.h x ≠ none
section
variable {F : List Nat} {s s' : AS} {p m : Nat} {n o : Int} {told : Int → Option Vw} {has : List Int}
theorem MatF.there {L : List Nat} (h : MatF F s p m n o told has) (e : Mut L s s') (hL : ∀ x ∈ L, x ∉ F) : ∀ x ∈ F, s'.h x ≠ none := by
  intro x hx
  cases hq : s.h x with
  | none => exact absurd hq (h.Ft x hx)
  | some ob => rw [e.1 x ob (fun hm => hL x hm hx) hq]; simp
theorem MatF.mut {L : List Nat} (h : MatF F s p m n o told has) (e : Mut L s s') (hL : ∀ x ∈ L, x ∉ F) (hp : p ∉ L) (hm : m ∉ L) : MatF F s' p m n o told has := by
  obtain ⟨es, c, h1, h2⟩ := h.map
  refine ⟨h.len, h.obj.mut e hp, ⟨es, c, h1.mut e hm, fun r => ?_⟩, h.pF, h.mF, h.pm, h.rng, h.there e hL⟩
  have := h2 r
  cases hq : told r with
  | none => rw [hq] at this; exact this
  | some x =>
    rw [hq] at this
    obtain ⟨q, a, b⟩ := this
    exact ⟨q, a, b.mut e hL⟩
theorem MatF.ext (h : MatF F s p m n o told has) (e : Ext s s') : MatF F s' p m n o told has := h.mut (L := []) e.mut (by simp) (by simp) (by simp)
theorem MatF.r0 (h : MatF F s p m n o told has) (e : Ext s s') : rd1 s' p 0 = some (.int .i64 n) := by rw [(h.obj.ext e).at.rd1]; rfl
theorem MatF.r1 (h : MatF F s p m n o told has) (e : Ext s s') : rd1 s' p (0 + 1) = some (.int .i64 o) := by rw [(h.obj.ext e).at.rd1]; rfl
theorem MatF.r2 (h : MatF F s p m n o told has) (e : Ext s s') : rd1 s' p (0 + 2) = some (.map (some m)) := by rw [(h.obj.ext e).at.rd1]; rfl

end
end Go.Proofs.YtoklmpkpeanloaaGreat
end

section
set_option linter.unusedSimpArgs false
set_option linter.unusedVariables false
namespace Go.Proofs.YtoklmpkpeanloaaGreat
open Go.Am Go.Minster Go.Minster2

/-! ### maps of dots -/
abbrev kV (k : Key) : AV := .agg (keyC k)
theorem mp_tombs : MpTy (K := Dot) T Y_m_Dot_struct__is_bool__ Y_Dot Y_struct__is_bool__ dK (bV false) :=
  ⟨u_m_Dot_struct__is_bool__, fun a b => dot_eq a b, fun a => tri_ok_Dot a.r a.c, fun a => by simp [abits, bitsL, dotC], zr_struct__is_bool__⟩
theorem mp_live : MpTy (K := Dot) T Y_m_Dot_Key Y_Dot Y_Key dK (kV ⟨[], []⟩) :=
  ⟨u_m_Dot_Key, fun a b => dot_eq a b, fun a => tri_ok_Dot a.r a.c, fun a => by simp [abits, bitsL, dotC], zr_Key⟩

theorem st_Dot : StTy T Y_Dot 2 := ⟨ag_Dot, z_Dot, _, _, zr_Dot, rfl, rfl⟩
theorem sty_s_Dot : STy T Y_s_Dot := ⟨ag_s_Dot, z_s_Dot⟩
theorem _root_.Go.Am.GroN.map {α β : Type} {f : α → List AV} {g : β → List AV} {h : α → β} (hg : ∀ x, g (h x) = f x) {sz : Nat} {M : List Nat} {s0 s : AS} {v : AV} {l : List α} (G : GroN f sz M s0 s v l) : GroN g sz M s0 s v (l.map h) := by
  refine ⟨?_, G.chg, G.new⟩
  have e : (l.map h).flatMap g = l.flatMap f := by
    rw [List.flatMap_map]; congr 1; funext x; exact hg x
  rcases G.gro with ⟨rfl, a, rfl⟩ | ⟨la, rfl, ho⟩
  · exact .inl ⟨rfl, a, rfl⟩
  · exact .inr ⟨la, by rw [List.length_map], by rw [e]; exact ho⟩

section
variable {V : Type} {vf : V → AV} {m : Nat} {es : List (Dot × V × Nat)} {c : Nat} {ro : Bool} {s : AS}
/-- what an iterator over a map's keys gives, collected -/
theorem collect_keys {gf : FuncId} {lb : Nat} (hgf : callable Tryz.prog gf = true) (hes : es.length ≤ 2 ^ 30) (hm : MpAt dK vf s m es c ro)
    (hrun : ∀ s1, Ext s s1 → WFs s1 → ItRun Tryz.prog dK vf m es c ro (fun e => dotC e.1) gf [.ptr (some (lb, 0))] s1) :
    ACalls Tryz.prog F_slices_Collect__Dot [.func gf [.ptr (some (lb, 0))]] s fun v s' => ∃ done : List (Dot × V × Nat), (∀ e ∈ es, e ∈ done) ∧ (∀ e ∈ done, e ∈ es) ∧ done.Nodup ∧ GroN dotC 2 [] s s' v (done.map fun e => e.1) := by
  refine q_slices_Collect__Dot _ _ _ ?_
  refine (appendSeq_calls hT Tryz.func165 (by kernel_rfl) (ts := Y_s_Dot) (te := Y_Dot) (tq := Y_iter_Seq_Dot_) (by kernel_rfl) (by kernel_rfl) (by kernel_rfl) sty_s_Dot sl_s_Dot st_Dot (el := fun e => dotC e.1) (fun e => rfl) (fun e => rfl) hgf hes hm hrun).mono ?_
  rintro v s' ⟨done, h1, h2, h3, g⟩
  exact ⟨done, h1, h2, h3, GroN.map (h := fun e : Dot × V × Nat => e.1) (fun x => rfl) g⟩
/-- in order -/
theorem sorted_keys {gf : FuncId} {lb : Nat} (hgf : callable Tryz.prog gf = true) (hes : es.length < 65536) (hm : MpAt dK vf s m es c ro)
    (hrun : ∀ s1, Ext s s1 → WFs s1 → ItRun Tryz.prog dK vf m es c ro (fun e => dotC e.1) gf [.ptr (some (lb, 0))] s1) :
    ACalls Tryz.prog F_slices_SortedFunc__Dot [.func gf [.ptr (some (lb, 0))], .func F_orset_order []] s fun v s' => ∃ l : List Dot, Rising l ∧ (∀ d, d ∈ l ↔ ∃ e ∈ es, e.1 = d) ∧ l.length = es.length ∧ ArrN s s' v l := by
  refine q_slices_SortedFunc__Dot _ _ _ _ ?_
  refine ACalls.use (collect_keys hgf (by omega) hm hrun) ?_
  rintro v s2 ⟨done, h1, h2, h3, g⟩ w2
  have hnd : (done.map fun e => e.1).Nodup := by
    refine List.pairwise_map.2 (List.Pairwise.imp_of_mem ?_ h3)
    intro a b ha hb hab he
    have ha' := h2 a ha
    have hb' := h2 b hb
    refine hab ?_
    have hp := hm.nd
    have key : ∀ (l : List (Dot × V × Nat)), l.Pairwise (fun a b => a.1 ≠ b.1) → a ∈ l → b ∈ l → a = b := by
      intro l
      induction l with
      | nil => intro _ h; cases h
      | cons x l ih =>
        intro hp h4 h5
        obtain ⟨p1, p2⟩ := List.pairwise_cons.1 hp
        rcases List.mem_cons.1 h4 with r4 | h4 <;> rcases List.mem_cons.1 h5 with r5 | h5
        · rw [r4, r5]
        · exact absurd (by rw [← r4]; exact he) (p1 b h5)
        · exact absurd (by rw [← r5]; exact he.symm) (p1 a h4)
        · exact ih p2 h4 h5
    exact key es hp ha' hb'
  have hlen : (done.map fun e => e.1).length = es.length := by
    rw [List.length_map]
    have hes2 : es.Nodup := hm.nd.imp fun {a b} h e => h (by rw [e])
    exact ((List.perm_ext_iff_of_nodup h3 hes2).2 fun a => ⟨h2 a, h1 a⟩).length_eq
  refine ACalls.use (sortGro_ok g (by omega)) ?_
  rintro r s4 ⟨rfl, l, hp, hs, ha⟩ w4
  refine ⟨rfl, l, ?_, fun d => ?_, by rw [hp.length_eq, hlen], ha⟩
  · have hn : l.Nodup := hp.nodup_iff.2 hnd
    refine List.pairwise_iff_getElem.2 fun i j hi hj hij => ?_
    have hle : (el l i).le (el l j) := hs i j (by omega) hij hj
    have ei : el l i = l[i] := by have := el_get hi; rw [List.getElem?_eq_getElem hi] at this; exact (Option.some.inj this).symm
    have ej : el l j = l[j] := by have := el_get hj; rw [List.getElem?_eq_getElem hj] at this; exact (Option.some.inj this).symm
    rw [ei, ej] at hle
    cases hlt : l[i].lt l[j] with
    | true => rfl
    | false =>
      exfalso
      rcases Dot.le_iff.1 hle with h | ⟨h5, h6⟩
      · have := (Dot.lt_iff (a := l[i]) (b := l[j])).2 (.inl h); rw [hlt] at this; cases this
      · have h7 : ¬ l[i].c < l[j].c := fun h => by
          have := (Dot.lt_iff (a := l[i]) (b := l[j])).2 (.inr ⟨h5, h⟩); rw [hlt] at this; cases this
        have : l[i] = l[j] := by
          cases hx : l[i]; cases hy : l[j]
          rw [hx, hy] at h5 h6 h7
          simp only at h5 h6 h7
          rw [h5, show _ = _ from Int.le_antisymm h6 (by omega)]
        exact absurd this ((List.pairwise_iff_getElem.1 hn) i j hi hj hij)
  · rw [hp.mem_iff, List.mem_map]
    constructor
    · rintro ⟨e, he, rfl⟩; exact ⟨e, h2 e he, rfl⟩
    · rintro ⟨e, he, rfl⟩; exact ⟨e, h1 e he, rfl⟩
end
end Go.Proofs.YtoklmpkpeanloaaGreat
end

section
set_option linter.unusedSimpArgs false
set_option linter.unusedVariables false
namespace Go.Proofs.YtoklmpkpeanloaaGreat
open Go.Am Go.Minster Go.Minster2

section
variable {m : Nat} {c : Nat} {ro : Bool} {s : AS}
theorem live_run {es : List (Dot × Key × Nat)} {lb : Nat} (hb : At s lb [.map (some m)]) (hm : MpAt dK kV s m es c ro) : ∀ s1, Ext s s1 → WFs s1 → ItRun Tryz.prog dK kV m es c ro (fun e => dotC e.1) F_maps_Keys__m_Dot_Key_Dot_Key_1 [.ptr (some (lb, 0))] s1 :=
  fun s1 e _ => keys_run hT Tryz.func164 (tm := Y_m_Dot_Key) (tk := Y_Dot) (tf := Y_func_Dot__bool) (tb := Y_bool) (by kernel_rfl) (by kernel_rfl) (by kernel_rfl) ag_m_Dot_Key u_m_Dot_Key st_Dot (kc := dotC) (fun k => ⟨rfl, rfl⟩) (hb.ext e) (hm.ext e)
/-- slices.SortedFunc(maps.Keys(live), order) -/
theorem live_sorted {es : List (Dot × Key × Nat)} (hes : es.length < 65536) (hm : MpAt dK kV s m es c ro) {R : AV → AS → Prop} (hR : ∀ v s' (l : List Dot), Rising l → (∀ d, d ∈ l ↔ ∃ e ∈ es, e.1 = d) → l.length = es.length → ArrN s s' v l → WFs s' → R v s') :
    ACalls Tryz.prog F_maps_Keys__m_Dot_Key_Dot_Key [.map (some m)] s fun v4 s5 => ACalls Tryz.prog F_slices_SortedFunc__Dot [v4, .func F_orset_order []] s5 R := by
  refine ACalls.pre fun hw => q_maps_Keys__m_Dot_Key_Dot_Key _ _ _ (NewQ.intro hw rfl fun lb s1 F => ?_)
  have h1 := hm.ext F.ext
  refine ACalls.use (sorted_keys (by kernel_rfl) hes h1 (live_run F.own.at h1)) ?_
  rintro v s2 ⟨l, a, b, d, e⟩ w2
  refine hR v s2 l a b d ⟨F.ext.trans e.1, e.2.imp id fun ⟨la, h1, h2, h3⟩ => ⟨la, h1, h2, F.ext.none h3⟩⟩ w2
/-! ### maps.Clone -/
theorem find112 : Extern.find Tryz.f146 = some Extern.MapsClone.clone := by kernel_rfl
theorem next112 : Extern.findNext Tryz.f146 = none := by kernel_rfl
theorem name112 : (Tryz.f146.name == "runtime.NumGoroutine") = false := by kernel_rfl
theorem body112 : Tryz.f146.body.isNone = true := by kernel_rfl
theorem MpAt.copy {K V : Type} [DecidableEq K] {kf : K → AV} {vf : V → AV} {es : List (K × V × Nat)} {s s' : AS} {m' : Nat} (h : MpAt kf vf s m es c ro) (F : Fresh s s' m' (.map (ents kf vf es) c false)) : MpAt kf vf s' m' es c false := ⟨F.at, h.st, h.lt, h.nd⟩
theorem live_clone {es : List (Dot × Key × Nat)} (hm : MpAt dK kV s m es c ro) : ACalls Tryz.prog F_maps_Clone__m_Dot_Key_Dot_Key [.map (some m)] s fun v s' => ∃ m', v = .map (some m') ∧ Ext s s' ∧ s.h m' = none ∧ MpAt dK kV s' m' es c false := by
  refine (clone_calls hT Tryz.func90 (tm := Y_m_Dot_Key) (ti := Y_interface__) (tb := Y_bool) (cl := F_maps_clone) (by kernel_rfl) (by kernel_rfl) (by kernel_rfl) (by kernel_rfl) u_m_Dot_Key Tryz.func146 name112 body112 next112 find112 hm.obj).mono ?_
  rintro v s' ⟨m', rfl, F⟩
  exact ⟨m', rfl, F.ext, F.no, MpAt.copy hm F⟩
theorem tombs_clone {es : List (Dot × Bool × Nat)} (hm : MpAt dK bV s m es c ro) : ACalls Tryz.prog F_maps_Clone__m_Dot_struct_is_bool__Dot_struct_is_bool [.map (some m)] s fun v s' => ∃ m', v = .map (some m') ∧ Ext s s' ∧ s.h m' = none ∧ MpAt dK bV s' m' es c false := by
  refine (clone_calls hT Tryz.func91 (tm := Y_m_Dot_struct__is_bool__) (ti := Y_interface__) (tb := Y_bool) (cl := F_maps_clone) (by kernel_rfl) (by kernel_rfl) (by kernel_rfl) (by kernel_rfl) u_m_Dot_struct__is_bool__ Tryz.func146 name112 body112 next112 find112 hm.obj).mono ?_
  rintro v s' ⟨m', rfl, F⟩
  exact ⟨m', rfl, F.ext, F.no, MpAt.copy hm F⟩
end
end Go.Proofs.YtoklmpkpeanloaaGreat
end

section
set_option linter.unusedSimpArgs false
set_option linter.unusedVariables false
namespace Go.Proofs.YtoklmpkpeanloaaGreat
open Go.Am Go.Minster Go.Minster2

/-- a map of live dots -/
def LiveAt (s : AS) (l : Nat) (f : Dot → Option Key) (n : Nat) : Prop := ∃ es c, MpAt dK kV s l es c false ∧ (∀ d, mget es d = f d) ∧ es.length = n
theorem LiveAt.mut {s s' : AS} {l n : Nat} {f : Dot → Option Key} {L : List Nat} (h : LiveAt s l f n) (e : Mut L s s') (hl : l ∉ L) : LiveAt s' l f n := by
  obtain ⟨es, c, h1, h2, h3⟩ := h; exact ⟨es, c, h1.mut e hl, h2, h3⟩
theorem LiveAt.ext {s s' : AS} {l n : Nat} {f : Dot → Option Key} (h : LiveAt s l f n) (e : Ext s s') : LiveAt s' l f n := h.mut (L := []) e.mut (by simp)
/-- a map of tombstones -/
def TombAt (s : AS) (l : Nat) (f : Dot → Bool) (n : Nat) : Prop := ∃ es c, MpAt dK bV s l es c false ∧ (∀ d, mget es d = if f d then some true else none) ∧ es.length = n
theorem TombAt.mut {s s' : AS} {l n : Nat} {f : Dot → Bool} {L : List Nat} (h : TombAt s l f n) (e : Mut L s s') (hl : l ∉ L) : TombAt s' l f n := by
  obtain ⟨es, c, h1, h2, h3⟩ := h; exact ⟨es, c, h1.mut e hl, h2, h3⟩
theorem TombAt.ext {s s' : AS} {l n : Nat} {f : Dot → Bool} (h : TombAt s l f n) (e : Ext s s') : TombAt s' l f n := h.mut (L := []) e.mut (by simp)

/-- a set, plainly -/
structure OSet where
  v : List Int
  ex : List Dot
  live : Dot → Option Key
  tomb : Dot → Bool
  nl : Nat
  nt : Nat
/-- a set in memory that is in F -/
structure SetF (F : List Nat) (s : AS) (p : Nat) (x : OSet) : Prop where
  ok : COk x.v x.ex
  gap : Gap x.v x.ex
  len : x.ex.length ≤ 4096
  mem : ∃ pc lm tm, Am.Own s p [.ptr (some (pc, 0)), .map (some lm), .map (some tm)] ∧ p ∈ F ∧ CtxF F s pc x.v x.ex ∧ lm ∈ F ∧ tm ∈ F ∧ lm ≠ tm ∧ LiveAt s lm x.live x.nl ∧ TombAt s tm x.tomb x.nt
theorem SetF.mut {F : List Nat} {s s' : AS} {L : List Nat} {p : Nat} {x : OSet} (h : SetF F s p x) (m : Mut L s s') (hL : ∀ y ∈ L, y ∉ F) : SetF F s' p x := by
  obtain ⟨h1, h2, h3, pc, lm, tm, a, b, c, d, e, f, g, i⟩ := h
  exact ⟨h1, h2, h3, pc, lm, tm, a.mut m (fun hx => hL p hx b), b, c.mut m hL, d, e, f, g.mut m (fun hx => hL lm hx d), i.mut m (fun hx => hL tm hx e)⟩
theorem SetF.ext {F : List Nat} {s s' : AS} {p : Nat} {x : OSet} (h : SetF F s p x) (e : Ext s s') : SetF F s' p x := h.mut (L := []) e.mut (by simp)

section
variable {F : List Nat} {s : AS} {p : Nat} {x : OSet}
theorem there_ok (h : SetF F s p x) : ACalls Tryz.prog F_orset_Set_there [.ptr (some (p, 0))] s fun r s' => r = .bool true ∧ s' = s := by
  obtain ⟨_, _, _, pc, lm, tm, a, _⟩ := h
  exact q_orset_Set_there _ _ _ ⟨_, aeqPtrNil u_p_orset_Set _, bsplit.yes rfl ⟨_, by rw [a.at.rd1]; rfl, _, aeqPtrNil u_p_ctx_Ctx _, rfl, rfl⟩⟩
theorem Live_ok (h : SetF F s p x) (d : Dot) : ACalls Tryz.prog F_orset_Set_Live [.ptr (some (p, 0)), .agg (dotC d)] s fun r s' => r = .tup [.agg (keyC ((x.live d).getD ⟨[], []⟩)), .bool (x.live d).isSome] ∧ Ext s s' := by
  refine ACalls.pre fun hw => q_orset_Set_Live _ _ _ _ ⟨rfl, NewQ.intro hw rfl fun l1 s2 F2 => NewQ.intro F2.wf rfl fun l3 s4 F4 => ?_⟩
  have e4 := F2.ext.trans F4.ext
  have o1 := F2.own.ext F4.ext
  refine ACalls.use (there_ok (h.ext e4)) ?_
  rintro v s6 ⟨rfl, rfl⟩ w6
  obtain ⟨_, _, _, pc, lm, tm, a, _, _, _, _, _, ⟨es, c, hm, hg, hl⟩, _⟩ := h.ext e4
  have hf := hm.find mp_live d true
  rw [hg] at hf
  refine ⟨_, rfl, bsplit.no rfl ⟨_, by rw [a.at.rd1]; rfl, _, o1.at.rdc (by simp [dotC]), keyC ((x.live d).getD ⟨[], []⟩), (x.live d).isSome, ?_, ?_⟩⟩
  · refine Eq.trans (show _ = _ from hf) ?_
    cases x.live d <;> rfl
  · refine NewSt w6 rfl rfl rfl fun l17 s19 F19 => ?_
    refine ⟨keyC ((x.live d).getD ⟨[], []⟩), ?_, ⟨rfl, rfl⟩, StQ.own F19.wf (F4.own.ext F19.ext) (by simp [keyC]) fun s21 P21 => ?_⟩
    · have a19 : At s19 l17 (keyC ((x.live d).getD ⟨[], []⟩)) := ⟨_, _, F19.at⟩
      exact a19.rdc (by simp [keyC])
    · have a21 : At s21 l3 (keyC ((x.live d).getD ⟨[], []⟩)) := ⟨_, _, by rw [P21.at, wrs_all0 (by simp [keyC])]⟩
      exact ⟨_, a21.rdc (by simp [keyC]), rfl, Ext.wr (e4.trans F19.ext) (F2.ext.none F4.no) P21.mut⟩
theorem Gone_ok (h : SetF F s p x) (d : Dot) : ACalls Tryz.prog F_orset_Set_Gone [.ptr (some (p, 0)), .agg (dotC d)] s fun r s' => r = .bool (!(x.live d).isSome && hasD x.v x.ex d) ∧ Ext s s' := by
  refine ACalls.pre fun hw => q_orset_Set_Gone _ _ _ _ ⟨rfl, NewQ.intro hw rfl fun l1 s2 F2 => ⟨_, F2.own.at.rdc (by simp [dotC]), ?_⟩⟩
  refine ACalls.use (Live_ok (h.ext F2.ext) d) ?_
  rintro v s5 ⟨rfl, e5⟩ w5
  refine ⟨_, _, rfl, NewSt w5 rfl rfl rfl fun l8 s10 F10 => ?_⟩
  have e10 := F2.ext.trans (e5.trans F10.ext)
  refine ACalls.use (there_ok (h.ext e10)) ?_
  rintro v s12 ⟨rfl, rfl⟩ w12
  refine ⟨_, rfl, bsplit.yes rfl (bsplit.mk (fun hl => ?_) (fun hl => ⟨?_, e10⟩))⟩
  · obtain ⟨ok, _, hlen, pc, lm, tm, a, _, hc, _⟩ := h.ext e10
    refine ⟨_, by rw [a.at.rd1]; rfl, _, (F2.own.ext (e5.trans F10.ext)).at.rdc (by simp [dotC]), ?_⟩
    refine ACalls.use (ctx_Has_ok hc.at ok.r (by omega) d) ?_
    rintro v s19 ⟨rfl, e19⟩ _
    exact ⟨_, rfl, by rw [hl]; simp, e10.trans e19⟩
  · rw [hl]; simp
theorem set_build (pc : Nat) (lm tm : Nat) : abuild T Y_orset_Set [(0, .ptr (some (pc, 0))), (1, .map (some lm)), (2, .map (some tm))] = some (.agg [.ptr (some (pc, 0)), .map (some lm), .map (some tm)]) := by
  rw [abuild_pl (pl := [(0, 1), (1, 1), (2, 1)]) (by kernel_rfl) zr_orset_Set rfl]
  rfl
theorem Copy_ok (h : SetF F s p x) : ACalls Tryz.prog F_orset_Set_Copy [.ptr (some (p, 0))] s fun r s' => ∃ p' F', r = .ptr (some (p', 0)) ∧ SetF F' s' p' x ∧ (∀ y ∈ F', s.h y = none) ∧ (∀ y ∈ F', s'.h y ≠ none) ∧ Ext s s' := by
  refine q_orset_Set_Copy _ _ _ ?_
  refine ACalls.use (there_ok h) ?_
  rintro v s2 ⟨rfl, rfl⟩ w2
  have hlx := h.len
  obtain ⟨ok, gap, len, pc, lm, tm, a, hpF, hc, hlF, htF, hlt, hl, ht⟩ := id h
  have g : ∀ (i : Nat) s', Ext s2 s' → rd1 s' p i = [AV.ptr (some (pc, 0)), .map (some lm), .map (some tm)][i]? := fun i s' e => (a.ext e).at.rd1 i
  refine ⟨_, rfl, bsplit.no rfl ⟨fun q _ v s' => (q = 4 → ∃ pc, v = .ptr (some (pc, 0)) ∧ s2.h pc = none ∧ CtxG s2 s' pc x.v x.ex) ∧ (q = 9 → ∃ lm, v = .map (some lm) ∧ s2.h lm = none ∧ LiveAt s' lm x.live x.nl), fun q _ v => (q = 4 → ∃ pc, v = .ptr (some (pc, 0))) ∧ (q = 9 → ∃ lm, v = .map (some lm)), ?_, _, g 0 _ (Ext.refl _), fun s7 e7 w7 _ => ?_, ⟨.ptr (some (0, 0)), (fun _ => ⟨0, rfl⟩), (fun h => by cases h)⟩, fun v11 hv11 => ?_⟩⟩
  · rintro q ks v s' s'' e ⟨h1, h2⟩
    refine ⟨fun hq => ?_, fun hq => ?_⟩
    · obtain ⟨a, b, c, d⟩ := h1 hq; exact ⟨a, b, c, d.ext e⟩
    · obtain ⟨a, b, c, d⟩ := h2 hq; exact ⟨a, b, c, d.ext e⟩
  · refine (ctx_Copy_G (hc.at.ext e7) (by omega)).mono ?_
    rintro v s9 ⟨q, rfl, hq, g9, e9⟩
    exact ⟨_, rfl, e9, ⟨(fun _ => ⟨q, rfl, e7.none hq, g9.back e7⟩), (fun h => by cases h)⟩, (fun _ => ⟨q, rfl⟩), (fun h => by cases h)⟩
  obtain ⟨pc', rfl⟩ := hv11.1 rfl
  refine ⟨_, rfl, _, g 1 _ (Ext.refl _), fun s16 e16 w16 _ => ?_, ⟨.map (some 0), (fun h => by cases h), (fun _ => ⟨0, rfl⟩)⟩, fun v20 hv20 => ?_⟩
  · obtain ⟨es, c, h1, h2, h3⟩ := hl.ext e16
    refine (live_clone h1).mono ?_
    rintro v s18 ⟨m', rfl, e18, hm', hM⟩
    exact ⟨_, rfl, e18, ⟨(fun h => by cases h), (fun _ => ⟨m', rfl, e16.none hm', es, c, hM, h2, h3⟩)⟩, (fun h => by cases h), (fun _ => ⟨m', rfl⟩)⟩
  obtain ⟨lm', rfl⟩ := hv20.2 rfl
  refine ⟨_, rfl, _, g 2 _ (Ext.refl _), fun s25 e25 w25 hS => ?_⟩
  obtain ⟨pc2, hpc, hpc0, hG⟩ := hS.1.1 rfl
  obtain ⟨lm2, hlm, hlm0, hL⟩ := hS.2.1.2 rfl
  simp only [AV.ptr.injEq, AV.map.injEq, Option.some.injEq, Prod.mk.injEq, and_true] at hpc hlm
  subst hpc; subst hlm
  obtain ⟨es, c, h1, h2, h3⟩ := ht.ext e25
  refine ACalls.use (tombs_clone h1) ?_
  rintro v s28 ⟨tm', rfl, e28, htm, hM⟩ w28
  refine ⟨_, rfl, _, set_build _ _ _, rfl, NewQ.intro w28 rfl fun p' s30 F30 => ?_⟩
  obtain ⟨Fc, hcF, hFn, hFt⟩ := hG.toF hpc0
  have e30 := e28.trans F30.ext
  have E30 := e25.trans e30
  have hlt' : lm' ≠ tm' := by
    rintro rfl
    obtain ⟨es', c', h4, _⟩ := hL
    rw [h4.obj] at htm; cases htm
  refine ⟨p', p' :: lm' :: tm' :: Fc, rfl, ⟨ok, gap, len, pc', lm', tm', F30.own, by simp, (hcF.mut (L := []) e30.mut (by simp)).sub (fun y hy => by simp [hy]), by simp, by simp, hlt', hL.ext e30, es, c, hM.ext F30.ext, h2, h3⟩, ?_, ?_, E30⟩
  · intro y hy
    simp only [List.mem_cons] at hy
    rcases hy with rfl | rfl | rfl | hy
    · exact (e25.trans e28).none F30.no
    · exact hlm0
    · exact e25.none htm
    · exact hFn y hy
  · intro y hy
    simp only [List.mem_cons] at hy
    rcases hy with rfl | rfl | rfl | hy
    · rw [F30.at]; simp
    · obtain ⟨es', c', h4, _⟩ := hL.ext e30
      rw [h4.obj]; simp
    · rw [(hM.ext F30.ext).obj]; simp
    · cases hq : s25.h y with
      | none => exact absurd hq (hFt y hy)
      | some ob => rw [e30.1 y ob hq]; simp
end
end Go.Proofs.YtoklmpkpeanloaaGreat
end
