/-
  A part of the proof: an abstract machine over the model, and contracts of functions of this program over it.
-/
import Derived.Test.YtoklmpkpeanloaaProg
import Derived.KernelRfl
import Derived.Test.YtoklmpkpeanloaaRows
import Derived.Test.YtoklmpkpeanloaaP3
set_option linter.unusedVariables false
set_option linter.unusedSimpArgs false
set_option linter.unusedSectionVars false
section
namespace Go.Proofs.Ytoklmpkpeanloaa
open Go.Am
noncomputable def T : TT := TT.of Try.prog
theorem hT : TT.Ok Try.prog T := TT.of_ok _
theorem hmx : Try.prog.follows .mixedOrders = true := by kernel_rfl
end Go.Proofs.Ytoklmpkpeanloaa
end

section
namespace Go.Proofs.Ytoklmpkpeanloaa
open Go.Am
abbrev F_law19iViewsOrder : Nat := 5
abbrev F_law19iknown : Nat := 6
abbrev F_views_State : Nat := 8
abbrev F_orset_Set_Tombs : Nat := 9
abbrev F_ref07iName : Nat := 10
abbrev F_orset_New : Nat := 12
abbrev F_orset_Set_See : Nat := 14
abbrev F_orset_Set_Ctx : Nat := 17
abbrev F_law19imay : Nat := 21
abbrev F_views_Function : Nat := 22
abbrev F_views_State_1 : Nat := 33
abbrev F_wire_Join : Nat := 34
abbrev F_views_State_2 : Nat := 35
abbrev F_wire_Dot : Nat := 36
abbrev F_views_State_3 : Nat := 37
abbrev F_wire_Put : Nat := 38
abbrev F_wire_Vector : Nat := 39
abbrev F_ctx_Ctx_Vector : Nat := 40
abbrev F_ctx_Ctx_Extra : Nat := 41
abbrev F_slices_DeleteFunc__s_Item_Item : Nat := 42
abbrev F_orset_Set_Items : Nat := 43
abbrev F_views_State_4 : Nat := 44
abbrev F_wire_Blob : Nat := 45
abbrev F_orset_Set_there : Nat := 46
abbrev F_slices_SortedFunc__Dot : Nat := 47
abbrev F_maps_Keys__m_Dot_struct_is_bool__Dot_struct_is_bool : Nat := 48
abbrev F_orset_order : Nat := 49
abbrev F_ctx_New : Nat := 52
abbrev F_orset_MayKey : Nat := 53
abbrev F_ctx_May : Nat := 54
abbrev F_ctx_Ctx_Has : Nat := 55
abbrev F_orset_gone : Nat := 58
abbrev F_slices_ContainsFunc__s_Item_Item : Nat := 59
abbrev F_orset_Set_See_1 : Nat := 60
abbrev F_orset_May : Nat := 61
abbrev F_orset_Set_Copy : Nat := 62
abbrev F_orset_Set_see : Nat := 63
abbrev F_ctx_Ctx_Copy : Nat := 66
abbrev F_ctx_Ctx_there : Nat := 67
abbrev F_orset_Set_Keys_1 : Nat := 71
abbrev F_cmp_Or__int : Nat := 72
abbrev F_cmp_Compare__string : Nat := 73
abbrev F_ref07iMay : Nat := 75
abbrev F_slices_Clone__s_Dot_Dot : Nat := 82
abbrev F_slices_Concat__s_byte_byte : Nat := 83
abbrev F_slices_IndexFunc__s_Item_Item : Nat := 84
abbrev F_slices_SortFunc__s_Item_Item : Nat := 85
abbrev F_orset_Set_Items_1 : Nat := 86
abbrev F_slices_Collect__Dot : Nat := 87
abbrev F_slices_SortFunc__s_Dot_Dot : Nat := 88
abbrev F_maps_Keys__m_Dot_struct_is_bool__Dot_struct_is_bool__1 : Nat := 89
abbrev F_cmp_Compare__int : Nat := 90
abbrev F_cmp_Compare__uint64 : Nat := 91
abbrev F_orset_name : Nat := 92
abbrev F_slices_BinarySearchFunc__s_Dot_Dot_Dot : Nat := 93
abbrev F_ctx_order : Nat := 94
abbrev F_maps_Clone__m_Dot_Key_Dot_Key : Nat := 96
abbrev F_maps_Clone__m_Dot_struct_is_bool__Dot_struct_is_bool : Nat := 97
abbrev F_ctx_Ctx_Add : Nat := 98
abbrev F_slices_SortFunc__s_Key_Key : Nat := 100
abbrev F_cmp_isNaN__string : Nat := 102
abbrev F_ref04iMay : Nat := 103
abbrev F_slices_Grow__s_byte_byte : Nat := 104
abbrev F_slices_pdqsortCmpFunc__Item : Nat := 105
abbrev F_math_bits_Len : Nat := 106
abbrev F_slices_AppendSeq__s_Dot_Dot : Nat := 107
abbrev F_slices_pdqsortCmpFunc__Dot : Nat := 108
abbrev F_cmp_isNaN__int : Nat := 109
abbrev F_cmp_isNaN__uint64 : Nat := 110
abbrev F_maps_clone : Nat := 112
abbrev F_slices_Insert__s_Dot_Dot : Nat := 113
abbrev F_ctx_Ctx_compact : Nat := 114
abbrev F_slices_pdqsortCmpFunc__Key : Nat := 116
abbrev F_slices_insertionSortCmpFunc__Item : Nat := 117
abbrev F_slices_heapSortCmpFunc__Item : Nat := 118
abbrev F_slices_breakPatternsCmpFunc__Item : Nat := 119
abbrev F_slices_choosePivotCmpFunc__Item : Nat := 120
abbrev F_slices_reverseRangeCmpFunc__Item : Nat := 121
abbrev F_slices_partialInsertionSortCmpFunc__Item : Nat := 122
abbrev F_slices_partitionEqualCmpFunc__Item : Nat := 123
abbrev F_slices_partitionCmpFunc__Item : Nat := 124
abbrev F_math_bits_Len64 : Nat := 126
abbrev F_slices_insertionSortCmpFunc__Dot : Nat := 127
abbrev F_slices_heapSortCmpFunc__Dot : Nat := 128
abbrev F_slices_breakPatternsCmpFunc__Dot : Nat := 129
abbrev F_slices_choosePivotCmpFunc__Dot : Nat := 130
abbrev F_slices_reverseRangeCmpFunc__Dot : Nat := 131
abbrev F_slices_partialInsertionSortCmpFunc__Dot : Nat := 132
abbrev F_slices_partitionEqualCmpFunc__Dot : Nat := 133
abbrev F_slices_partitionCmpFunc__Dot : Nat := 134
abbrev F_slices_overlaps__Dot : Nat := 135
abbrev F_slices_rotateRight__Dot : Nat := 136
abbrev F_slices_insertionSortCmpFunc__Key : Nat := 137
abbrev F_slices_heapSortCmpFunc__Key : Nat := 138
abbrev F_slices_breakPatternsCmpFunc__Key : Nat := 139
abbrev F_slices_choosePivotCmpFunc__Key : Nat := 140
abbrev F_slices_reverseRangeCmpFunc__Key : Nat := 141
abbrev F_slices_partialInsertionSortCmpFunc__Key : Nat := 142
abbrev F_slices_partitionEqualCmpFunc__Key : Nat := 143
abbrev F_slices_partitionCmpFunc__Key : Nat := 144
abbrev F_slices_siftDownCmpFunc__Item : Nat := 145
abbrev F_slices_nextPowerOfTwo : Nat := 146
abbrev F_slices_xorshift_Next : Nat := 147
abbrev F_slices_medianAdjacentCmpFunc__Item : Nat := 148
abbrev F_slices_medianCmpFunc__Item : Nat := 149
abbrev F_slices_siftDownCmpFunc__Dot : Nat := 150
abbrev F_slices_medianAdjacentCmpFunc__Dot : Nat := 151
abbrev F_slices_medianCmpFunc__Dot : Nat := 152
abbrev F_slices_siftDownCmpFunc__Key : Nat := 154
abbrev F_slices_medianAdjacentCmpFunc__Key : Nat := 155
abbrev F_slices_medianCmpFunc__Key : Nat := 156
abbrev F_slices_order2CmpFunc__Item : Nat := 157
abbrev F_slices_order2CmpFunc__Dot : Nat := 158
abbrev F_slices_order2CmpFunc__Key : Nat := 160
end Go.Proofs.Ytoklmpkpeanloaa
end

section
namespace Go.Proofs.Ytoklmpkpeanloaa
open Go.Am
abbrev Y_int : Nat := 3
abbrev Y_bool : Nat := 4
abbrev Y_uint8 : Nat := 5
abbrev Y_string : Nat := 9
abbrev Y_interface__ : Nat := 20
abbrev Y_s_uint8 : Nat := 22
abbrev Y_p_orset_Set : Nat := 24
abbrev Y_s_Dot : Nat := 29
abbrev Y_Key : Nat := 33
abbrev Y_s_Item : Nat := 36
abbrev Y_uint64 : Nat := 39
abbrev Y_Dot : Nat := 41
abbrev Y_p_ctx_Ctx : Nat := 46
abbrev Y_s_Key : Nat := 50
abbrev Y_s_int : Nat := 53
abbrev Y_Item : Nat := 56
abbrev Y_Vector : Nat := 62
abbrev Y_s__uint8 : Nat := 72
abbrev Y_iter_Seq_Dot_ : Nat := 87
abbrev Y_m_Dot_struct__is_bool__ : Nat := 89
abbrev Y_struct__is_bool__ : Nat := 90
abbrev Y_m_Dot_Key : Nat := 91
abbrev Y_orset_Set : Nat := 93
abbrev Y_func_Dot__bool : Nat := 97
abbrev Y_ctx_Ctx : Nat := 104
abbrev Y_slices_xorshift : Nat := 173
theorem u_int : T.und Y_int = some (.int .i64) := by kernel_rfl
theorem z_int : T.siz Y_int = some 1 := by kernel_rfl
theorem zr_int : T.zer Y_int = some (.int .i64 0) := by kernel_rfl
theorem ag_int : T.agg Y_int = some false := by kernel_rfl
theorem u_bool : T.und Y_bool = some (.bool) := by kernel_rfl
theorem u_uint8 : T.und Y_uint8 = some (.int .u8) := by kernel_rfl
theorem z_uint8 : T.siz Y_uint8 = some 1 := by kernel_rfl
theorem b_uint8 : T.byt Y_uint8 = some 1 := by kernel_rfl
theorem zr_uint8 : T.zer Y_uint8 = some (.int .u8 0) := by kernel_rfl
theorem u_string : T.und Y_string = some (.string) := by kernel_rfl
theorem ag_string : T.agg Y_string = some false := by kernel_rfl
theorem u_s_uint8 : T.und Y_s_uint8 = some (.slice Y_uint8) := by kernel_rfl
theorem z_s_uint8 : T.siz Y_s_uint8 = some 1 := by kernel_rfl
theorem zr_s_uint8 : T.zer Y_s_uint8 = some (.slc none 0 0 true) := by kernel_rfl
theorem u_p_orset_Set : T.und Y_p_orset_Set = some (.pointer Y_orset_Set) := by kernel_rfl
theorem u_s_Dot : T.und Y_s_Dot = some (.slice Y_Dot) := by kernel_rfl
theorem z_s_Dot : T.siz Y_s_Dot = some 1 := by kernel_rfl
theorem ag_s_Dot : T.agg Y_s_Dot = some false := by kernel_rfl
theorem z_Key : T.siz Y_Key = some 2 := by kernel_rfl
theorem zr_Key : T.zer Y_Key = some (.agg [.str [], .str []]) := by kernel_rfl
theorem u_s_Item : T.und Y_s_Item = some (.slice Y_Item) := by kernel_rfl
theorem u_uint64 : T.und Y_uint64 = some (.int .u64) := by kernel_rfl
theorem z_uint64 : T.siz Y_uint64 = some 1 := by kernel_rfl
theorem ag_uint64 : T.agg Y_uint64 = some false := by kernel_rfl
theorem z_Dot : T.siz Y_Dot = some 2 := by kernel_rfl
theorem b_Dot : T.byt Y_Dot = some 16 := by kernel_rfl
theorem zr_Dot : T.zer Y_Dot = some (.agg [.int .i64 0, .int .u64 0]) := by kernel_rfl
theorem ag_Dot : T.agg Y_Dot = some true := by kernel_rfl
theorem u_p_ctx_Ctx : T.und Y_p_ctx_Ctx = some (.pointer Y_ctx_Ctx) := by kernel_rfl
theorem u_s_Key : T.und Y_s_Key = some (.slice Y_Key) := by kernel_rfl
theorem u_s_int : T.und Y_s_int = some (.slice Y_int) := by kernel_rfl
theorem z_Item : T.siz Y_Item = some 5 := by kernel_rfl
theorem b_Item : T.byt Y_Item = some 56 := by kernel_rfl
theorem zr_Item : T.zer Y_Item = some (.agg [.int .i64 0, .int .u64 0, .str [], .str [], .bool false]) := by kernel_rfl
theorem u_Vector : T.und Y_Vector = some (.array 16 Y_uint64) := by kernel_rfl
theorem u_s__uint8 : T.und Y_s__uint8 = some (.slice Y_s_uint8) := by kernel_rfl
theorem u_m_Dot_struct__is_bool__ : T.und Y_m_Dot_struct__is_bool__ = some (.map Y_Dot Y_struct__is_bool__) := by kernel_rfl
theorem ag_m_Dot_struct__is_bool__ : T.agg Y_m_Dot_struct__is_bool__ = some false := by kernel_rfl
theorem zr_struct__is_bool__ : T.zer Y_struct__is_bool__ = some (.agg [.bool false]) := by kernel_rfl
theorem u_m_Dot_Key : T.und Y_m_Dot_Key = some (.map Y_Dot Y_Key) := by kernel_rfl
theorem zr_orset_Set : T.zer Y_orset_Set = some (.agg [.ptr none, .map none, .map none]) := by kernel_rfl
theorem zr_ctx_Ctx : T.zer Y_ctx_Ctx = some (.agg [.int .u64 0, .int .u64 0, .int .u64 0, .int .u64 0, .int .u64 0, .int .u64 0, .int .u64 0, .int .u64 0, .int .u64 0, .int .u64 0, .int .u64 0, .int .u64 0, .int .u64 0, .int .u64 0, .int .u64 0, .int .u64 0, .slc none 0 0 true, .bool false]) := by kernel_rfl
theorem z_slices_xorshift : T.siz Y_slices_xorshift = some 1 := by kernel_rfl
end Go.Proofs.Ytoklmpkpeanloaa
end

section
set_option maxRecDepth 100000
set_option maxHeartbeats 4000000
namespace Go.Proofs.Ytoklmpkpeanloaa
open Go.Am
def AsInt (v : AV) (K : Int → Prop) : Prop := match v with
 | .int _ n => K n
 | _ => False
def Q_math_bits_Len (a0 : Int) (s : AS) (R : AV → AS → Prop) : Prop :=
 ACalls Try.prog F_math_bits_Len64 [(.int .u64 a0)] s fun v1 s2 => ∃ n3 : Int, v1 = .int .i64 n3 ∧ (R (.int .i64 n3) s2)
def A_math_bits_Len : QA := (.seq .leaf (.seq (.cond (.seq .leaf .leaf) .leaf) (.seq .leaf .leaf)))
theorem q_math_bits_Len (a0 : Int) (s : AS) (R : AV → AS → Prop) (h : Q_math_bits_Len a0 s R) : ACalls Try.prog F_math_bits_Len [(.int .u64 a0)] s R :=
 ACalls.q (n := 8) (rs := [.tmp 2]) (A := A_math_bits_Len) hT hmx Try.func106 (by kernel_rfl) rfl rfl rfl (by kernel_rfl) (by kernel_rfl) h
def Q_math_bits_Len64 (a0 : Int) (s : AS) (R : AV → AS → Prop) : Prop :=
 JoinQ fun J1 =>
 (∀ n2 : Int, ∀ n3 : Int, ∀ s4 : AS, J1 [(.int .u64 n2), (.int .i64 n3)] s4 →
 JoinQ fun J5 =>
 (∀ n6 : Int, ∀ n7 : Int, ∀ s8 : AS, J5 [(.int .u64 n6), (.int .i64 n7)] s8 →
 JoinQ fun J9 =>
 (∀ n10 : Int, ∀ n11 : Int, ∀ s12 : AS, J9 [(.int .u64 n10), (.int .i64 n11)] s12 →
 RdI .u8 (aindex T Y_string (.str ([0, 1, 2, 2, 3, 3, 3, 3, 4, 4, 4, 4, 4, 4, 4, 4, 5, 5, 5, 5, 5, 5, 5, 5, 5, 5, 5, 5, 5, 5, 5, 5, 6, 6, 6, 6, 6, 6, 6, 6, 6, 6, 6, 6, 6, 6, 6, 6, 6, 6, 6, 6, 6, 6, 6, 6, 6, 6, 6, 6, 6, 6, 6, 6, 7, 7, 7, 7, 7, 7, 7, 7, 7, 7, 7, 7, 7, 7, 7, 7, 7, 7, 7, 7, 7, 7, 7, 7, 7, 7, 7, 7, 7, 7, 7, 7, 7, 7, 7, 7, 7, 7, 7, 7, 7, 7, 7, 7, 7, 7, 7, 7, 7, 7, 7, 7, 7, 7, 7, 7, 7, 7, 7, 7, 7, 7, 7, 7, 8, 8, 8, 8, 8, 8, 8, 8, 8, 8, 8, 8, 8, 8, 8, 8, 8, 8, 8, 8, 8, 8, 8, 8, 8, 8, 8, 8, 8, 8, 8, 8, 8, 8, 8, 8, 8, 8, 8, 8, 8, 8, 8, 8, 8, 8, 8, 8, 8, 8, 8, 8, 8, 8, 8, 8, 8, 8, 8, 8, 8, 8, 8, 8, 8, 8, 8, 8, 8, 8, 8, 8, 8, 8, 8, 8, 8, 8, 8, 8, 8, 8, 8, 8, 8, 8, 8, 8, 8, 8, 8, 8, 8, 8, 8, 8, 8, 8, 8, 8, 8, 8, 8, 8, 8, 8, 8, 8, 8, 8, 8, 8, 8, 8, 8, 8, 8, 8, 8, 8, 8, 8, 8, 8, 8, 8, 8, 8])) (.int .u8 (IntKind.wrap .u8 n10))) fun n13 => R (.int .i64 (IntKind.wrap .i64 (n11 + (IntKind.wrap .i64 n13)))) s12) ∧
 (bsplit (decide ((n6 : Int) ≥ 256))
 (NN 8 (J9 [(.int .u64 (Int.fdiv n6 (2 ^ min (Int.toNat 8) (IntKind.bits .u64)))), (.int .i64 (IntKind.wrap .i64 (n7 + 8)))] s8))
 (J9 [(.int .u64 n6), (.int .i64 n7)] s8))) ∧
 (bsplit (decide ((n2 : Int) ≥ 65536))
 (NN 16 (J5 [(.int .u64 (Int.fdiv n2 (2 ^ min (Int.toNat 16) (IntKind.bits .u64)))), (.int .i64 (IntKind.wrap .i64 (n3 + 16)))] s4))
 (J5 [(.int .u64 n2), (.int .i64 n3)] s4))) ∧
 (bsplit (decide ((a0 : Int) ≥ 4294967296))
 (NN 32 (J1 [(.int .u64 (Int.fdiv a0 (2 ^ min (Int.toNat 32) (IntKind.bits .u64)))), (.int .i64 32)] s))
 (J1 [(.int .u64 a0), (.int .i64 0)] s))
def A_math_bits_Len64 : QA := (.seq .leaf (.join [(0, .int .u64), (2, .int .i64)] [(0, 0), (2, 6)] (.seq .leaf (.cond (.seq .leaf .leaf) .leaf)) (.join [(0, .int .u64), (2, .int .i64)] [(0, 0), (2, 2), (7, 12)] (.seq .leaf (.cond (.seq .leaf .leaf) .leaf)) (.join [(0, .int .u64), (2, .int .i64)] [(0, 0), (2, 2), (13, 18)] (.seq .leaf (.cond (.seq .leaf .leaf) .leaf)) (.seq .leaf .leaf)))))
theorem q_math_bits_Len64 (a0 : Int) (s : AS) (R : AV → AS → Prop) (h : Q_math_bits_Len64 a0 s R) : ACalls Try.prog F_math_bits_Len64 [(.int .u64 a0)] s R :=
 ACalls.q (n := 25) (rs := [.tmp 2]) (A := A_math_bits_Len64) hT hmx Try.func126 (by kernel_rfl) rfl rfl rfl (by kernel_rfl) (by kernel_rfl) h
end Go.Proofs.Ytoklmpkpeanloaa
end

section
set_option maxRecDepth 100000
set_option maxHeartbeats 4000000
namespace Go.Proofs.Ytoklmpkpeanloaa
open Go.Am
def Q_slices_Concat__s_byte_byte (a0 : AV) (s : AS) (R : AV → AS → Prop) : Prop :=
 JoinQ fun J1 =>
 (∀ n2 : Int, ∀ s3 : AS, J1 [(.int .i64 n2)] s3 →
 ACalls Try.prog F_slices_Grow__s_byte_byte [(.slc none 0 0 true), (.int .i64 n2)] s3 fun v4 s5 => RdI .i64 (alenB T Y_s__uint8 a0 s5) fun n6 => LoopQ fun I7 m8 => I7 m8 [v4, (.int .i64 0)] s5 ∧
 ∀ m9 : Nat, ∀ v10 : AV, ∀ n11 : Int, ∀ s12 : AS, I7 m9 [v10, (.int .i64 n11)] s12 →
 bsplit (decide ((n11 : Int) < n6))
 (IxQ (aindexAddr T Y_s__uint8 a0 (.int .i64 n11)) fun l13 o14 => RdA (rd1 s12 l13 o14) fun v15 => Bd2 (aappend T Y_s_uint8 Y_s_uint8 v10 v15 s12) fun v16 s17 => ∃ m', m' < m9 ∧ I7 m' [v16, (.int .i64 (IntKind.wrap .i64 (n11 + 1)))] s17)
 (R v10 s12)) ∧
 (RdI .i64 (alenB T Y_s__uint8 a0 s) fun n18 => LoopQ fun I19 m20 => I19 m20 [(.int .i64 0), (.int .i64 0)] s ∧
 ∀ m21 : Nat, ∀ n22 : Int, ∀ n23 : Int, ∀ s24 : AS, I19 m21 [(.int .i64 n22), (.int .i64 n23)] s24 →
 bsplit (decide ((n23 : Int) < n18))
 (IxQ (aindexAddr T Y_s__uint8 a0 (.int .i64 n23)) fun l25 o26 => RdA (rd1 s24 l25 o26) fun v27 => RdI .i64 (alenB T Y_s_uint8 v27 s24) fun n28 => bsplit (decide ((IntKind.wrap .i64 (n22 + n28) : Int) < 0))
 (False)
 (∃ m', m' < m21 ∧ I19 m' [(.int .i64 (IntKind.wrap .i64 (n22 + n28))), (.int .i64 (IntKind.wrap .i64 (n23 + 1)))] s24))
 (J1 [(.int .i64 n22)] s24))
def A_slices_Concat__s_byte_byte : QA := (.seq .leaf (.seq .leaf (.join [(3, .int .i64)] [(3, 3), (5, 5), (9, 22)] (.seq .leaf (.wrap (.loop [(3, .int .i64), (11, .int .i64)] [(3, 3), (5, 5), (11, 22)] (.seq .leaf (.seq (.cond .leaf .leaf) (.seq (.wrap (.seq .leaf (.seq .leaf (.seq .leaf (.cond .leaf .leaf))))) .leaf)))))) (.seq .leaf (.seq (.seq .leaf (.wrap (.loop [(6, .any), (27, .int .i64)] [(6, 6), (8, 8), (27, 34)] (.seq .leaf (.seq (.cond .leaf .leaf) (.seq (.wrap (.seq .leaf .leaf)) .leaf)))))) (.seq .leaf .leaf))))))
theorem q_slices_Concat__s_byte_byte (a0 : AV) (s : AS) (R : AV → AS → Prop) (h : Q_slices_Concat__s_byte_byte a0 s R) : ACalls Try.prog F_slices_Concat__s_byte_byte [a0] s R :=
 ACalls.q (n := 36) (rs := [.tmp 2]) (A := A_slices_Concat__s_byte_byte) hT hmx Try.func83 (by kernel_rfl) rfl rfl rfl (by kernel_rfl) (by kernel_rfl) h
def Q_slices_Grow__s_byte_byte (a0 : AV) (a1 : Int) (s : AS) (R : AV → AS → Prop) : Prop :=
 bsplit (decide ((a1 : Int) < 0))
 (False)
 (RdI .i64 (acapB T Y_s_uint8 a0) fun n1 => RdI .i64 (alenB T Y_s_uint8 a0 s) fun n2 => bsplit (decide ((IntKind.wrap .i64 (a1 - (IntKind.wrap .i64 (n1 - n2))) : Int) > 0))
 (RdI .i64 (acapB T Y_s_uint8 a0) fun n3 => RdA (aslice T Y_s_uint8 a0 none (some (.int .i64 n3)) none) fun v4 => Bd2 (aappend T Y_s_uint8 Y_int v4 (.int .i64 (IntKind.wrap .i64 (a1 - (IntKind.wrap .i64 (n1 - n2))))) s) fun v5 s6 => RdI .i64 (alenB T Y_s_uint8 a0 s6) fun n7 => RdA (aslice T Y_s_uint8 v5 none (some (.int .i64 n7)) none) fun v8 => R v8 s6)
 (R a0 s))
def A_slices_Grow__s_byte_byte : QA := (.seq .leaf (.seq (.seq .leaf (.cond .leaf .leaf)) (.seq (.seq .leaf (.seq .leaf (.cond .leaf .leaf))) (.seq .leaf .leaf))))
theorem q_slices_Grow__s_byte_byte (a0 : AV) (a1 : Int) (s : AS) (R : AV → AS → Prop) (h : Q_slices_Grow__s_byte_byte a0 a1 s R) : ACalls Try.prog F_slices_Grow__s_byte_byte [a0, (.int .i64 a1)] s R :=
 ACalls.q (n := 27) (rs := [.tmp 4]) (A := A_slices_Grow__s_byte_byte) hT hmx Try.func104 (by kernel_rfl) rfl rfl rfl (by kernel_rfl) (by kernel_rfl) h
def Q_views_State (a0 : Option (Nat × Nat)) (s : AS) (R : AV → AS → Prop) : Prop :=
 ACalls Try.prog F_orset_Set_Ctx [(.ptr a0)] s fun v1 s2 => ∃ p3 : Option (Nat × Nat), v1 = .ptr p3 ∧ (RdO (aeq T 100 Y_p_ctx_Ctx (.ptr p3) (.ptr none)) fun b4 => bsplit b4
 (R (.slc none 0 0 true) s2)
 (NewQ (.cells [(.slc none 0 0 true)] 0 false) s2 fun l5 s6 => ACalls Try.prog F_ctx_Ctx_Vector [(.ptr p3)] s6 fun v7 s8 => ∃ g9 : List AV, v7 = .agg g9 ∧ (ACalls Try.prog F_wire_Vector [(.agg g9)] s8 fun v10 s11 => ACalls Try.prog F_ctx_Ctx_Extra [(.ptr p3)] s11 fun v12 s13 => RdI .i64 (alenB T Y_s_Dot v12 s13) fun n14 => ACalls Try.prog F_views_State_3 [(.int .i64 n14)] s13 fun v15 s16 => RdL (absl T Y_s__uint8 2 [(0, v10), (1, v15)]) fun g17 => NewQ (.cells g17 0 false) s16 fun l18 s19 => ACalls Try.prog F_views_State_1 [(.slc (some (l18, 0)) 2 2 true), (.ptr (some (l5, 0)))] s19 fun v20 s21 => v20 = .tup [] ∧ (JoinQ fun J22 =>
 (∀ s23 : AS, J22 [] s23 →
 ACalls Try.prog F_orset_Set_Items [(.ptr a0)] s23 fun v24 s25 => ACalls Try.prog F_slices_DeleteFunc__s_Item_Item [v24, (.func F_views_State_4 [])] s25 fun v26 s27 => RdI .i64 (alenB T Y_s_Item v26 s27) fun n28 => ACalls Try.prog F_views_State_3 [(.int .i64 n28)] s27 fun v29 s30 => RdL (absl T Y_s__uint8 1 [(0, v29)]) fun g31 => NewQ (.cells g31 0 false) s30 fun l32 s33 => ACalls Try.prog F_views_State_1 [(.slc (some (l32, 0)) 1 1 true), (.ptr (some (l5, 0)))] s33 fun v34 s35 => v34 = .tup [] ∧ (RdI .i64 (alenB T Y_s_Item v26 s35) fun n36 => LoopQ fun I37 m38 => I37 m38 [(.int .i64 0)] s35 ∧
 ∀ m39 : Nat, ∀ n40 : Int, ∀ s41 : AS, I37 m39 [(.int .i64 n40)] s41 →
 bsplit (decide ((n40 : Int) < n36))
 (IxQ (aindexAddr T Y_s_Item v26 (.int .i64 n40)) fun l42 o43 => RdL (rdc s41 l42 o43 5) fun g44 => NewQ (.cells [.int .i64 0, .int .u64 0, .str [], .str [], .bool false] 0 false) s41 fun l45 s46 => OkC (some 5) g44 (StQ (awr s46 l45 0 g44) fun s47 => RdS (rd1 s47 l45 2) fun x48 => Bd2 (aconvert T Y_string Y_s_uint8 (.str x48) s47) fun v49 s50 => ACalls Try.prog F_wire_Blob [v49] s50 fun v51 s52 => ∃ v53 : AV, ∃ n54 : Int, v51 = .tup [v53, (.int .i64 n54)] ∧ (RdS (rd1 s52 l45 3) fun x55 => Bd2 (aconvert T Y_string Y_s_uint8 (.str x55) s52) fun v56 s57 => ACalls Try.prog F_wire_Blob [v56] s57 fun v58 s59 => ∃ v60 : AV, ∃ n61 : Int, v58 = .tup [v60, (.int .i64 n61)] ∧ (RdL (rdc s59 l45 0 2) fun g62 => ACalls Try.prog F_views_State_2 [(.agg g62)] s59 fun v63 s64 => RdL (absl T Y_s__uint8 3 [(0, v63), (1, v53), (2, v60)]) fun g65 => NewQ (.cells g65 0 false) s64 fun l66 s67 => ACalls Try.prog F_views_State_1 [(.slc (some (l66, 0)) 3 3 true), (.ptr (some (l5, 0)))] s67 fun v68 s69 => v68 = .tup [] ∧ (∃ m', m' < m39 ∧ I37 m' [(.int .i64 (IntKind.wrap .i64 (n40 + 1)))] s69)))))
 (RdA (rd1 s41 l5 0) fun v70 => R v70 s41))) ∧
 (ACalls Try.prog F_ctx_Ctx_Extra [(.ptr p3)] s21 fun v71 s72 => RdI .i64 (alenB T Y_s_Dot v71 s72) fun n73 => LoopQ fun I74 m75 => I74 m75 [(.int .i64 0)] s72 ∧
 ∀ m76 : Nat, ∀ n77 : Int, ∀ s78 : AS, I74 m76 [(.int .i64 n77)] s78 →
 bsplit (decide ((n77 : Int) < n73))
 (IxQ (aindexAddr T Y_s_Dot v71 (.int .i64 n77)) fun l79 o80 => RdL (rdc s78 l79 o80 2) fun g81 => NewQ (.cells [.int .i64 0, .int .u64 0] 0 false) s78 fun l82 s83 => OkC (some 2) g81 (StQ (awr s83 l82 0 g81) fun s84 => RdL (rdc s84 l82 0 2) fun g85 => ACalls Try.prog F_views_State_2 [(.agg g85)] s84 fun v86 s87 => RdL (absl T Y_s__uint8 1 [(0, v86)]) fun g88 => NewQ (.cells g88 0 false) s87 fun l89 s90 => ACalls Try.prog F_views_State_1 [(.slc (some (l89, 0)) 1 1 true), (.ptr (some (l5, 0)))] s90 fun v91 s92 => v91 = .tup [] ∧ (∃ m', m' < m76 ∧ I74 m' [(.int .i64 (IntKind.wrap .i64 (n77 + 1)))] s92)))
 (J22 [] s78))))))
def A_views_State : QA := (.seq .leaf (.seq .leaf (.seq (.seq .leaf (.cond (.seq .leaf .leaf) .leaf)) (.seq .leaf (.seq .leaf (.seq .leaf (.seq .leaf (.seq .leaf (.join [] [(9, 9), (33, 46)] (.seq .leaf (.wrap (.loop [(36, .int .i64)] [(9, 9), (36, 46)] (.seq .leaf (.seq (.cond .leaf .leaf) (.seq (.wrap (.seq .leaf .leaf)) .leaf)))))) (.seq .leaf (.seq .leaf (.seq (.seq .leaf (.wrap (.loop [(59, .int .i64)] [(12, 16), (59, 88)] (.seq .leaf (.seq (.cond .leaf .leaf) (.seq (.wrap (.seq .leaf (.seq .leaf (.seq .leaf .leaf)))) .leaf)))))) (.seq .leaf .leaf)))))))))))))
theorem q_views_State (a0 : Option (Nat × Nat)) (s : AS) (R : AV → AS → Prop) (h : Q_views_State a0 s R) : ACalls Try.prog F_views_State [(.ptr a0)] s R :=
 ACalls.q (n := 90) (rs := [.tmp 2]) (A := A_views_State) hT hmx Try.func8 (by kernel_rfl) rfl rfl rfl (by kernel_rfl) (by kernel_rfl) h
def Q_law19iknown  (s : AS) (R : AV → AS → Prop) : Prop :=
 DrawQ fun S V => (∀ s1 : AS, Ext s s1 → WFs s1 → (True) → ACalls Try.prog F_orset_New [] s1 fun v2 s3 => ∃ p4 : Option (Nat × Nat), v2 = .ptr p4 ∧ ((Ext s1 s3 ∧ S 0 [(.func F_orset_New [])] (.ptr p4) s3 ∧ V 0 [(.func F_orset_New [])] (.ptr p4)))) ∧ (∃ v, V 0 [(.func F_orset_New [])] v) ∧ ∀ v5 : AV, V 0 [(.func F_orset_New [])] v5 → ∃ p6 : Option (Nat × Nat), v5 = .ptr p6 ∧ ((∀ s7 : AS, Ext s s7 → WFs s7 → (S 0 [(.func F_orset_New [])] (.ptr p6) s7 ∧ True) → ACalls Try.prog F_views_State [(.ptr p6)] s7 fun v8 s9 => (Ext s7 s9 ∧ S 1 [(.func F_views_State []), (.ptr p6)] v8 s9 ∧ V 1 [(.func F_views_State []), (.ptr p6)] v8)) ∧ (∃ v, V 1 [(.func F_views_State []), (.ptr p6)] v) ∧ ∀ v10 : AV, V 1 [(.func F_views_State []), (.ptr p6)] v10 → (∀ s11 : AS, Ext s s11 → WFs s11 → (S 0 [(.func F_orset_New [])] (.ptr p6) s11 ∧ (S 1 [(.func F_views_State []), (.ptr p6)] v10 s11 ∧ True)) → RdS ((aconvert T Y_s_uint8 Y_string v10 s11).map (·.1)) fun x12 => (Ext s11 s11 ∧ S 2 [v10] (.str x12) s11 ∧ V 2 [v10] (.str x12))) ∧ (∃ v, V 2 [v10] v) ∧ ∀ v13 : AV, V 2 [v10] v13 → ∃ x14 : List UInt8, v13 = .str x14 ∧ ((∀ s15 : AS, Ext s s15 → WFs s15 → (True) → Bd2 (amakeSlice T Y_s_uint8 (.int .i64 136) (.int .i64 136) s15) fun v16 s17 => (Ext s15 s17 ∧ S 3 [(.int .i64 136), (.int .i64 136)] v16 s17 ∧ V 3 [(.int .i64 136), (.int .i64 136)] v16)) ∧ (∃ v, V 3 [(.int .i64 136), (.int .i64 136)] v) ∧ ∀ v18 : AV, V 3 [(.int .i64 136), (.int .i64 136)] v18 → (∀ s19 : AS, Ext s s19 → WFs s19 → (S 3 [(.int .i64 136), (.int .i64 136)] v18 s19 ∧ True) → RdS ((aconvert T Y_s_uint8 Y_string v18 s19).map (·.1)) fun x20 => (Ext s19 s19 ∧ S 4 [v18] (.str x20) s19 ∧ V 4 [v18] (.str x20))) ∧ (∃ v, V 4 [v18] v) ∧ ∀ v21 : AV, V 4 [v18] v21 → ∃ x22 : List UInt8, v21 = .str x22 ∧ (∀ s23 : AS, Ext s s23 → WFs s23 → (S 0 [(.func F_orset_New [])] (.ptr p6) s23 ∧ (S 1 [(.func F_views_State []), (.ptr p6)] v10 s23 ∧ (S 2 [v10] (.str x14) s23 ∧ (S 3 [(.int .i64 136), (.int .i64 136)] v18 s23 ∧ (S 4 [v18] (.str x22) s23 ∧ True))))) → R (.bool ((x14 : List UInt8) == x22)) s23)))
def A_law19iknown : QA := (.seq .leaf (.seq (.drawH 5 [[], [0], [0, 1], [], [3]] [0, 1, 2, 3, 4]) .leaf))
theorem q_law19iknown  (s : AS) (R : AV → AS → Prop) (h : Q_law19iknown  s R) : ACalls Try.prog F_law19iknown [] s R :=
 ACalls.q (n := 7) (rs := [.tmp 0]) (A := A_law19iknown) hT hmx Try.func6 (by kernel_rfl) rfl rfl rfl (by kernel_rfl) (by kernel_rfl) h
def Q_law19imay (a0 : AV) (s : AS) (R : AV → AS → Prop) : Prop :=
 LoopQ fun I1 m2 => I1 m2 [(.int .i64 0)] s ∧
 ∀ m3 : Nat, ∀ n4 : Int, ∀ s5 : AS, I1 m3 [(.int .i64 n4)] s5 →
 RdI .i64 (alenB T Y_s_Item a0 s5) fun n6 => bsplit (decide ((n4 : Int) < n6))
 (IxQ (aindexAddr T Y_s_Item a0 (.int .i64 n4)) fun l7 o8 => RdL (rdc s5 l7 o8 5) fun g9 => ACalls Try.prog F_ref07iMay [(.agg g9)] s5 fun v10 s11 => ∃ b12 : Bool, v10 = .bool b12 ∧ (bsplit (!b12)
 (R (.bool false) s11)
 (∃ m', m' < m3 ∧ I1 m' [(.int .i64 (IntKind.wrap .i64 (n4 + 1)))] s11)))
 (R (.bool true) s5)
def A_law19imay : QA := (.seq .leaf (.seq (.seq .leaf (.wrap (.loop [(3, .int .i64)] [(2, 15)] (.seq (.seq .leaf (.cond .leaf .leaf)) (.seq (.wrap (.seq .leaf (.cond (.seq .leaf .leaf) .leaf))) .leaf))))) (.seq .leaf .leaf)))
theorem q_law19imay (a0 : AV) (s : AS) (R : AV → AS → Prop) (h : Q_law19imay a0 s R) : ACalls Try.prog F_law19imay [a0] s R :=
 ACalls.q (n := 16) (rs := [.tmp 2]) (A := A_law19imay) hT hmx Try.func21 (by kernel_rfl) rfl rfl rfl (by kernel_rfl) (by kernel_rfl) h
def Q_views_Function (a0 : AV) (s : AS) (R : AV → AS → Prop) : Prop :=
 ACalls Try.prog F_orset_New [] s fun v1 s2 => ∃ p3 : Option (Nat × Nat), v1 = .ptr p3 ∧ (ACalls Try.prog F_orset_Set_See [(.ptr p3), a0] s2 fun v4 s5 => ∃ b6 : Bool, ∃ n7 : Int, v4 = .tup [(.bool b6), (.int .i64 n7)] ∧ (bsplit ((n7 : Int) != 0)
 (R (.tup [(.ptr none), (.int .i64 n7)]) s5)
 (R (.tup [(.ptr p3), (.int .i64 0)]) s5)))
def A_views_Function : QA := (.seq .leaf (.seq .leaf (.seq (.seq .leaf (.seq .leaf (.cond (.seq .leaf .leaf) .leaf))) (.seq .leaf .leaf))))
theorem q_views_Function (a0 : AV) (s : AS) (R : AV → AS → Prop) (h : Q_views_Function a0 s R) : ACalls Try.prog F_views_Function [a0] s R :=
 ACalls.q (n := 18) (rs := [.tmp 2, .tmp 3]) (A := A_views_Function) hT hmx Try.func22 (by kernel_rfl) rfl rfl rfl (by kernel_rfl) (by kernel_rfl) h
def Q_views_State_1 (a0 : AV) (c0 : Option (Nat × Nat)) (s : AS) (R : AV → AS → Prop) : Prop :=
 DrawQ fun S V => AsSome c0 fun l1 o2 => RdA (rd1 s l1 o2) fun v3 => (∀ s4 : AS, Ext s s4 → WFs s4 → (True) → ACalls Try.prog F_wire_Join [a0] s4 fun v5 s6 => (Ext s4 s6 ∧ S 2 [(.func F_wire_Join []), a0] v5 s6 ∧ V 2 [(.func F_wire_Join []), a0] v5)) ∧ (∃ v, V 2 [(.func F_wire_Join []), a0] v) ∧ ∀ v7 : AV, V 2 [(.func F_wire_Join []), a0] v7 → ∀ s8 : AS, Ext s s8 → WFs s8 → (S 2 [(.func F_wire_Join []), a0] v7 s8 ∧ True) → Bd2 (aappend T Y_s_uint8 Y_s_uint8 v3 v7 s8) fun v10 s11 => AsSome c0 fun l12 o13 => qstore T Y_s_uint8 s11 l12 o13 v10 fun s14 => R (.tup []) s14
def A_views_State_1 : QA := (.drawH 3 [[], [], []] [2])
theorem q_views_State_1 (a0 : AV) (c0 : Option (Nat × Nat)) (s : AS) (R : AV → AS → Prop) (h : Q_views_State_1 a0 c0 s R) : ACalls Try.prog F_views_State_1 [a0, (.ptr c0)] s R :=
 ACalls.q (n := 7) (rs := []) (A := A_views_State_1) hT hmx Try.func33 (by kernel_rfl) rfl rfl rfl (by kernel_rfl) (by kernel_rfl) h
def Q_wire_Join (a0 : AV) (s : AS) (R : AV → AS → Prop) : Prop :=
 ACalls Try.prog F_slices_Concat__s_byte_byte [a0] s fun v1 s2 => R v1 s2
def A_wire_Join : QA := (.seq .leaf (.seq .leaf .leaf))
theorem q_wire_Join (a0 : AV) (s : AS) (R : AV → AS → Prop) (h : Q_wire_Join a0 s R) : ACalls Try.prog F_wire_Join [a0] s R :=
 ACalls.q (n := 5) (rs := [.tmp 2]) (A := A_wire_Join) hT hmx Try.func34 (by kernel_rfl) rfl rfl rfl (by kernel_rfl) (by kernel_rfl) h
def Q_views_State_2 (a0 : List AV) (s : AS) (R : AV → AS → Prop) : Prop :=
 One1 a0 (NewQ (.cells a0 0 false) s fun l1 s2 => RdL (rdc s2 l1 0 2) fun g3 => ACalls Try.prog F_wire_Dot [(.agg g3)] s2 fun v4 s5 => ∃ v6 : AV, ∃ n7 : Int, v4 = .tup [v6, (.int .i64 n7)] ∧ (R v6 s5))
def A_views_State_2 : QA := (.seq .leaf (.seq .leaf (.seq .leaf .leaf)))
theorem q_views_State_2 (a0 : List AV) (s : AS) (R : AV → AS → Prop) (h : Q_views_State_2 a0 s R) : ACalls Try.prog F_views_State_2 [(.agg a0)] s R :=
 ACalls.q (n := 11) (rs := [.tmp 2]) (A := A_views_State_2) hT hmx Try.func35 (by kernel_rfl) rfl rfl rfl (by kernel_rfl) (by kernel_rfl) h
def Q_wire_Dot (a0 : List AV) (s : AS) (R : AV → AS → Prop) : Prop :=
 One1 a0 (NewQ (.cells a0 0 false) s fun l1 s2 => JoinQ fun J3 =>
 (∀ b4 : Bool, ∀ s5 : AS, J3 [(.bool b4)] s5 →
 bsplit b4
 (R (.tup [(.slc none 0 0 true), (.int .i64 2)]) s5)
 (RdI .u64 (rd1 s5 l1 1) fun n6 => ACalls Try.prog F_wire_Put [(.int .u64 n6), (.int .i64 8)] s5 fun v7 s8 => ∃ v9 : AV, ∃ n10 : Int, v7 = .tup [v9, (.int .i64 n10)] ∧ (RdI .i64 (rd1 s8 l1 0) fun n11 => RdL (absl T Y_s_uint8 1 [(0, (.int .u8 (IntKind.wrap .u8 n11)))]) fun g12 => NewQ (.cells g12 0 false) s8 fun l13 s14 => Bd2 (aappend T Y_s_uint8 Y_s_uint8 (.slc (some (l13, 0)) 1 1 true) v9 s14) fun v15 s16 => R (.tup [v15, (.int .i64 0)]) s16))) ∧
 (RdI .i64 (rd1 s2 l1 0) fun n17 => bsplit (decide ((n17 : Int) < 0)) (J3 [(.bool true)] s2) (RdI .i64 (rd1 s2 l1 0) fun n18 => J3 [(.bool (decide ((n18 : Int) > 255)))] s2)))
def A_wire_Dot : QA := (.seq .leaf (.seq (.join [(13, .bool)] [(6, 13)] .leaf (.cond (.seq .leaf .leaf) .leaf)) (.seq .leaf (.seq .leaf .leaf))))
theorem q_wire_Dot (a0 : List AV) (s : AS) (R : AV → AS → Prop) (h : Q_wire_Dot a0 s R) : ACalls Try.prog F_wire_Dot [(.agg a0)] s R :=
 ACalls.q (n := 26) (rs := [.tmp 2, .tmp 3]) (A := A_wire_Dot) hT hmx Try.func36 (by kernel_rfl) rfl rfl rfl (by kernel_rfl) (by kernel_rfl) h
def Q_views_State_3 (a0 : Int) (s : AS) (R : AV → AS → Prop) : Prop :=
 ACalls Try.prog F_wire_Put [(.int .u64 (IntKind.wrap .u64 a0)), (.int .i64 4)] s fun v1 s2 => ∃ v3 : AV, ∃ n4 : Int, v1 = .tup [v3, (.int .i64 n4)] ∧ (R v3 s2)
def A_views_State_3 : QA := (.seq .leaf (.seq .leaf (.seq .leaf .leaf)))
theorem q_views_State_3 (a0 : Int) (s : AS) (R : AV → AS → Prop) (h : Q_views_State_3 a0 s R) : ACalls Try.prog F_views_State_3 [(.int .i64 a0)] s R :=
 ACalls.q (n := 12) (rs := [.tmp 2]) (A := A_views_State_3) hT hmx Try.func37 (by kernel_rfl) rfl rfl rfl (by kernel_rfl) (by kernel_rfl) h
def Q_wire_Put (a0 : Int) (a1 : Int) (s : AS) (R : AV → AS → Prop) : Prop :=
 JoinQ fun J1 =>
 (∀ b2 : Bool, ∀ s3 : AS, J1 [(.bool b2)] s3 →
 bsplit b2
 (R (.tup [(.slc none 0 0 true), (.int .i64 2)]) s3)
 (JoinQ fun J4 =>
 (∀ v5 : AV, ∀ s6 : AS, J4 [v5] s6 →
 R (.tup [v5, (.int .i64 0)]) s6) ∧
 (LoopQ fun I7 m8 => I7 m8 [(.slc none 0 0 true), (.int .i64 0)] s3 ∧
 ∀ m9 : Nat, ∀ v10 : AV, ∀ n11 : Int, ∀ s12 : AS, I7 m9 [v10, (.int .i64 n11)] s12 →
 bsplit (decide ((n11 : Int) < a1))
 (NN (IntKind.wrap .i64 (8 * (IntKind.wrap .i64 ((IntKind.wrap .i64 (a1 - 1)) - n11)))) (RdL (absl T Y_s_uint8 1 [(0, (.int .u8 (IntKind.wrap .u8 (Int.fdiv a0 (2 ^ min (Int.toNat (IntKind.wrap .i64 (8 * (IntKind.wrap .i64 ((IntKind.wrap .i64 (a1 - 1)) - n11))))) (IntKind.bits .u64))))))]) fun g13 => NewQ (.cells g13 0 false) s12 fun l14 s15 => Bd2 (aappend T Y_s_uint8 Y_s_uint8 v10 (.slc (some (l14, 0)) 1 1 true) s15) fun v16 s17 => ∃ m', m' < m9 ∧ I7 m' [v16, (.int .i64 (IntKind.wrap .i64 (n11 + 1)))] s17))
 (J4 [v10] s12)))) ∧
 (bsplit (decide ((a1 : Int) < 1)) (J1 [(.bool true)] s) (bsplit (decide ((a1 : Int) > 8)) (J1 [(.bool true)] s) (bsplit (decide ((a1 : Int) < 8)) (NN (IntKind.wrap .i64 (8 * a1)) (J1 [(.bool ((Int.fdiv a0 (2 ^ min (Int.toNat (IntKind.wrap .i64 (8 * a1))) (IntKind.bits .u64)) : Int) != 0))] s)) (J1 [(.bool false)] s))))
def A_wire_Put : QA := (.seq .leaf (.seq (.join [(24, .bool)] [(8, 24)] .leaf (.cond (.seq .leaf .leaf) .leaf)) (.seq .leaf (.join [(6, .any)] [(6, 7), (25, 40)] (.seq .leaf (.wrap (.loop [(6, .any), (26, .int .i64)] [(6, 7), (26, 40)] (.seq .leaf (.seq (.cond .leaf .leaf) (.seq (.wrap (.seq .leaf .leaf)) .leaf)))))) (.seq .leaf .leaf)))))
theorem q_wire_Put (a0 : Int) (a1 : Int) (s : AS) (R : AV → AS → Prop) (h : Q_wire_Put a0 a1 s R) : ACalls Try.prog F_wire_Put [(.int .u64 a0), (.int .i64 a1)] s R :=
 ACalls.q (n := 42) (rs := [.tmp 4, .tmp 5]) (A := A_wire_Put) hT hmx Try.func38 (by kernel_rfl) rfl rfl rfl (by kernel_rfl) (by kernel_rfl) h
def Q_wire_Vector (a0 : List AV) (s : AS) (R : AV → AS → Prop) : Prop :=
 One1 a0 (NewQ (.cells a0 0 false) s fun l1 s2 => RdL (rdc s2 l1 0 16) fun g3 => LoopQ fun I4 m5 => I4 m5 [(.slc none 0 0 true), (.int .i64 0)] s2 ∧
 ∀ m6 : Nat, ∀ v7 : AV, ∀ n8 : Int, ∀ s9 : AS, I4 m6 [v7, (.int .i64 n8)] s9 →
 bsplit (decide ((n8 : Int) < 16))
 (RdI .u64 (aindex T Y_Vector (.agg g3) (.int .i64 n8)) fun n10 => ACalls Try.prog F_wire_Put [(.int .u64 n10), (.int .i64 8)] s9 fun v11 s12 => ∃ v13 : AV, ∃ n14 : Int, v11 = .tup [v13, (.int .i64 n14)] ∧ (Bd2 (aappend T Y_s_uint8 Y_s_uint8 v7 v13 s12) fun v15 s16 => ∃ m', m' < m6 ∧ I4 m' [v15, (.int .i64 (IntKind.wrap .i64 (n8 + 1)))] s16))
 (R v7 s9))
def A_wire_Vector : QA := (.seq .leaf (.seq .leaf (.seq (.seq .leaf (.wrap (.loop [(3, .any), (9, .int .i64)] [(3, 3), (5, 7), (9, 20)] (.seq .leaf (.seq (.cond .leaf .leaf) (.seq (.wrap (.seq .leaf (.seq .leaf .leaf))) .leaf)))))) (.seq .leaf .leaf))))
theorem q_wire_Vector (a0 : List AV) (s : AS) (R : AV → AS → Prop) (h : Q_wire_Vector a0 s R) : ACalls Try.prog F_wire_Vector [(.agg a0)] s R :=
 ACalls.q (n := 22) (rs := [.tmp 2]) (A := A_wire_Vector) hT hmx Try.func39 (by kernel_rfl) rfl rfl rfl (by kernel_rfl) (by kernel_rfl) h
def Q_views_State_4 (a0 : List AV) (s : AS) (R : AV → AS → Prop) : Prop :=
 One1 a0 (NewQ (.cells a0 0 false) s fun l1 s2 => RdB (rd1 s2 l1 4) fun b3 => R (.bool b3) s2)
def A_views_State_4 : QA := (.seq .leaf (.seq .leaf .leaf))
theorem q_views_State_4 (a0 : List AV) (s : AS) (R : AV → AS → Prop) (h : Q_views_State_4 a0 s R) : ACalls Try.prog F_views_State_4 [(.agg a0)] s R :=
 ACalls.q (n := 5) (rs := [.tmp 2]) (A := A_views_State_4) hT hmx Try.func44 (by kernel_rfl) rfl rfl rfl (by kernel_rfl) (by kernel_rfl) h
def Q_wire_Blob (a0 : AV) (s : AS) (R : AV → AS → Prop) : Prop :=
 RdI .i64 (alenB T Y_s_uint8 a0 s) fun n1 => bsplit (decide ((n1 : Int) > 65535))
 (R (.tup [(.slc none 0 0 true), (.int .i64 3)]) s)
 (RdI .i64 (alenB T Y_s_uint8 a0 s) fun n2 => ACalls Try.prog F_wire_Put [(.int .u64 (IntKind.wrap .u64 n2)), (.int .i64 2)] s fun v3 s4 => ∃ v5 : AV, ∃ n6 : Int, v3 = .tup [v5, (.int .i64 n6)] ∧ (Bd2 (aappend T Y_s_uint8 Y_s_uint8 v5 a0 s4) fun v7 s8 => R (.tup [v7, (.int .i64 0)]) s8))
def A_wire_Blob : QA := (.seq .leaf (.seq (.seq .leaf (.cond (.seq .leaf .leaf) .leaf)) (.seq .leaf (.seq .leaf .leaf))))
theorem q_wire_Blob (a0 : AV) (s : AS) (R : AV → AS → Prop) (h : Q_wire_Blob a0 s R) : ACalls Try.prog F_wire_Blob [a0] s R :=
 ACalls.q (n := 19) (rs := [.tmp 2, .tmp 3]) (A := A_wire_Blob) hT hmx Try.func45 (by kernel_rfl) rfl rfl rfl (by kernel_rfl) (by kernel_rfl) h
end Go.Proofs.Ytoklmpkpeanloaa
end

section
set_option maxRecDepth 100000
set_option maxHeartbeats 4000000
namespace Go.Proofs.Ytoklmpkpeanloaa
open Go.Am
def Q_slices_nextPowerOfTwo (a0 : Int) (s : AS) (R : AV → AS → Prop) : Prop :=
 ACalls Try.prog F_math_bits_Len [(.int .u64 (IntKind.wrap .u64 a0))] s fun v1 s2 => ∃ n3 : Int, v1 = .int .i64 n3 ∧ (NN n3 (R (.int .u64 (IntKind.wrap .u64 (1 * 2 ^ min (Int.toNat n3) (IntKind.bits .u64)))) s2))
def A_slices_nextPowerOfTwo : QA := (.seq .leaf (.seq .leaf .leaf))
theorem q_slices_nextPowerOfTwo (a0 : Int) (s : AS) (R : AV → AS → Prop) (h : Q_slices_nextPowerOfTwo a0 s R) : ACalls Try.prog F_slices_nextPowerOfTwo [(.int .i64 a0)] s R :=
 ACalls.q (n := 7) (rs := [.tmp 2]) (A := A_slices_nextPowerOfTwo) hT hmx Try.func146 (by kernel_rfl) rfl rfl rfl (by kernel_rfl) (by kernel_rfl) h
def Q_slices_xorshift_Next (a0 : Option (Nat × Nat)) (s : AS) (R : AV → AS → Prop) : Prop :=
 AsSome a0 fun l1 o2 => RdI .u64 (rd1 s l1 o2) fun n3 => AsSome a0 fun l4 o5 => RdI .u64 (rd1 s l4 o5) fun n6 => NN 13 (RdA (abinInt .xor .u64 n3 (IntKind.wrap .u64 (n6 * 2 ^ min (Int.toNat 13) (IntKind.bits .u64)))) fun v7 => AsSome a0 fun l8 o9 => qstore T Y_slices_xorshift s l8 o9 v7 fun s10 => AsSome a0 fun l11 o12 => RdI .u64 (rd1 s10 l11 o12) fun n13 => AsSome a0 fun l14 o15 => RdI .u64 (rd1 s10 l14 o15) fun n16 => NN 7 (RdA (abinInt .xor .u64 n13 (Int.fdiv n16 (2 ^ min (Int.toNat 7) (IntKind.bits .u64)))) fun v17 => AsSome a0 fun l18 o19 => qstore T Y_slices_xorshift s10 l18 o19 v17 fun s20 => AsSome a0 fun l21 o22 => RdI .u64 (rd1 s20 l21 o22) fun n23 => AsSome a0 fun l24 o25 => RdI .u64 (rd1 s20 l24 o25) fun n26 => NN 17 (RdA (abinInt .xor .u64 n23 (IntKind.wrap .u64 (n26 * 2 ^ min (Int.toNat 17) (IntKind.bits .u64)))) fun v27 => AsSome a0 fun l28 o29 => qstore T Y_slices_xorshift s20 l28 o29 v27 fun s30 => AsSome a0 fun l31 o32 => RdI .u64 (rd1 s30 l31 o32) fun n33 => R (.int .u64 n33) s30)))
def A_slices_xorshift_Next : QA := (.seq .leaf (.seq (.draw 7) (.seq (.draw 7) (.seq (.draw 7) (.seq .leaf .leaf)))))
theorem q_slices_xorshift_Next (a0 : Option (Nat × Nat)) (s : AS) (R : AV → AS → Prop) (h : Q_slices_xorshift_Next a0 s R) : ACalls Try.prog F_slices_xorshift_Next [(.ptr a0)] s R :=
 ACalls.q (n := 33) (rs := [.tmp 2]) (A := A_slices_xorshift_Next) hT hmx Try.func147 (by kernel_rfl) rfl rfl rfl (by kernel_rfl) (by kernel_rfl) h
end Go.Proofs.Ytoklmpkpeanloaa
end

section
set_option maxRecDepth 100000
set_option maxHeartbeats 4000000
namespace Go.Proofs.Ytoklmpkpeanloaa.SG
open Go.Am Go.Minster.SG
structure SE where
 O : OE
 cC : El O → List AV
 w : Nat
 len : ∀ x, (cC x).length = w
 one : ∀ x, (cC x).all AV.one = true
 ys : TypeId
 ye : TypeId
 us : T.und ys = some (.slice ye)
 zs : T.siz ye = some w
 F_SortFunc : FuncId
 F_pdqsortCmpFunc : FuncId
 F_insertionSortCmpFunc : FuncId
 F_heapSortCmpFunc : FuncId
 F_choosePivotCmpFunc : FuncId
 F_reverseRangeCmpFunc : FuncId
 F_partialInsertionSortCmpFunc : FuncId
 F_partitionEqualCmpFunc : FuncId
 F_partitionCmpFunc : FuncId
 F_siftDownCmpFunc : FuncId
 F_medianAdjacentCmpFunc : FuncId
 F_medianCmpFunc : FuncId
 F_order2CmpFunc : FuncId
 F_breakPatternsCmpFunc : FuncId
variable (E : SE)
def Q_SortFunc (a0 : AV) (a1 : AV) (s : AS) (R : AV → AS → Prop) : Prop :=
 RdI .i64 (alenB T E.ys a0 s) fun n1 => ACalls Try.prog F_math_bits_Len [(.int .u64 (IntKind.wrap .u64 n1))] s fun v2 s3 => ∃ n4 : Int, v2 = .int .i64 n4 ∧ (ACalls Try.prog E.F_pdqsortCmpFunc [a0, (.int .i64 0), (.int .i64 n1), (.int .i64 n4), a1] s3 fun v5 s6 => v5 = .tup [] ∧ (R (.tup []) s6))
def A_SortFunc : QA := (.seq .leaf .leaf)
def Q_pdqsortCmpFunc (a0 : AV) (a1 : Int) (a2 : Int) (a3 : Int) (a4 : AV) (s : AS) (R : AV → AS → Prop) : Prop :=
 LoopQ fun I1 m2 => I1 m2 [(.int .i64 a1), (.int .i64 a2), (.int .i64 a3), (.bool true), (.bool true)] s ∧
 ∀ m3 : Nat, ∀ n4 : Int, ∀ n5 : Int, ∀ n6 : Int, ∀ b7 : Bool, ∀ b8 : Bool, ∀ s9 : AS, I1 m3 [(.int .i64 n4), (.int .i64 n5), (.int .i64 n6), (.bool b7), (.bool b8)] s9 →
 bsplit (decide ((IntKind.wrap .i64 (n5 - n4) : Int) ≤ 12))
 (ACalls Try.prog E.F_insertionSortCmpFunc [a0, (.int .i64 n4), (.int .i64 n5), a4] s9 fun v10 s11 => v10 = .tup [] ∧ (R (.tup []) s11))
 (bsplit ((n6 : Int) == 0)
 (ACalls Try.prog E.F_heapSortCmpFunc [a0, (.int .i64 n4), (.int .i64 n5), a4] s9 fun v12 s13 => v12 = .tup [] ∧ (R (.tup []) s13))
 (JoinQ fun J14 =>
 (∀ n15 : Int, ∀ s16 : AS, J14 [(.int .i64 n15)] s16 →
 ACalls Try.prog E.F_choosePivotCmpFunc [a0, (.int .i64 n4), (.int .i64 n5), a4] s16 fun v17 s18 => ∃ n19 : Int, ∃ n20 : Int, v17 = .tup [(.int .i64 n19), (.int .i64 n20)] ∧ (JoinQ fun J21 =>
 (∀ n22 : Int, ∀ n23 : Int, ∀ s24 : AS, J21 [(.int .i64 n22), (.int .i64 n23)] s24 →
 JoinQ fun J25 =>
 (∀ s26 : AS, J25 [] s26 →
 JoinQ fun J27 =>
 (∀ b28 : Bool, ∀ s29 : AS, J27 [(.bool b28)] s29 →
 bsplit b28
 (ACalls Try.prog E.F_partitionEqualCmpFunc [a0, (.int .i64 n4), (.int .i64 n5), (.int .i64 n22), a4] s29 fun v30 s31 => ∃ n32 : Int, v30 = .int .i64 n32 ∧ (∃ m', m' < m3 ∧ I1 m' [(.int .i64 n32), (.int .i64 n5), (.int .i64 n15), (.bool b7), (.bool b8)] s31))
 (ACalls Try.prog E.F_partitionCmpFunc [a0, (.int .i64 n4), (.int .i64 n5), (.int .i64 n22), a4] s29 fun v33 s34 => ∃ n35 : Int, ∃ b36 : Bool, v33 = .tup [(.int .i64 n35), (.bool b36)] ∧ (NZ 8 (bsplit (decide ((IntKind.wrap .i64 (n35 - n4) : Int) < (IntKind.wrap .i64 (n5 - n35))))
 (ACalls Try.prog E.F_pdqsortCmpFunc [a0, (.int .i64 n4), (.int .i64 n35), (.int .i64 n15), a4] s34 fun v37 s38 => v37 = .tup [] ∧ (∃ m', m' < m3 ∧ I1 m' [(.int .i64 (IntKind.wrap .i64 (n35 + 1))), (.int .i64 n5), (.int .i64 n15), (.bool (decide ((IntKind.wrap .i64 (n35 - n4) : Int) ≥ (IntKind.wrap .i64 (Int.tdiv (IntKind.wrap .i64 (n5 - n4)) 8))))), (.bool b36)] s38))
 (ACalls Try.prog E.F_pdqsortCmpFunc [a0, (.int .i64 (IntKind.wrap .i64 (n35 + 1))), (.int .i64 n5), (.int .i64 n15), a4] s34 fun v39 s40 => v39 = .tup [] ∧ (∃ m', m' < m3 ∧ I1 m' [(.int .i64 n4), (.int .i64 n35), (.int .i64 n15), (.bool (decide ((IntKind.wrap .i64 (n5 - n35) : Int) ≥ (IntKind.wrap .i64 (Int.tdiv (IntKind.wrap .i64 (n5 - n4)) 8))))), (.bool b36)] s40)))))) ∧
 (bsplit (decide ((n4 : Int) > 0)) (IxQ (aindexAddr T E.ys a0 (.int .i64 (IntKind.wrap .i64 (n4 - 1)))) fun l41 o42 => RdL (rdc s26 l41 o42 E.w) fun g43 => IxQ (aindexAddr T E.ys a0 (.int .i64 n22)) fun l44 o45 => RdL (rdc s26 l44 o45 E.w) fun g46 => ACallV Try.prog a4 [(.agg g43), (.agg g46)] s26 fun v47 s48 => ∃ n49 : Int, v47 = .int .i64 n49 ∧ (J27 [(.bool (!(decide ((n49 : Int) < 0))))] s48)) (J27 [(.bool false)] s26))) ∧
 (JoinQ fun J50 =>
 (∀ b51 : Bool, ∀ s52 : AS, J50 [(.bool b51)] s52 →
 bsplit b51
 (ACalls Try.prog E.F_partialInsertionSortCmpFunc [a0, (.int .i64 n4), (.int .i64 n5), a4] s52 fun v53 s54 => ∃ b55 : Bool, v53 = .bool b55 ∧ (bsplit b55
 (R (.tup []) s54)
 (J25 [] s54)))
 (J25 [] s52)) ∧
 (bsplit b7 (bsplit b8 (J50 [(.bool ((n23 : Int) == 1))] s24) (J50 [(.bool false)] s24)) (J50 [(.bool false)] s24)))) ∧
 (bsplit ((n20 : Int) == 2)
 (ACalls Try.prog E.F_reverseRangeCmpFunc [a0, (.int .i64 n4), (.int .i64 n5), a4] s18 fun v56 s57 => v56 = .tup [] ∧ (J21 [(.int .i64 (IntKind.wrap .i64 ((IntKind.wrap .i64 (n5 - 1)) - (IntKind.wrap .i64 (n19 - n4))))), (.int .i64 1)] s57))
 (J21 [(.int .i64 n19), (.int .i64 n20)] s18)))) ∧
 (bsplit (!b7)
 (ACalls Try.prog E.F_breakPatternsCmpFunc [a0, (.int .i64 n4), (.int .i64 n5), a4] s9 fun v58 s59 => v58 = .tup [] ∧ (J14 [(.int .i64 (IntKind.wrap .i64 (n6 - 1)))] s59))
 (J14 [(.int .i64 n6)] s9))))
def A_pdqsortCmpFunc : QA := (.seq .leaf (.seq .leaf (.wrap (.loop [(1, .int .i64), (2, .int .i64), (3, .int .i64), (10, .bool), (11, .bool)] [(1, 3), (10, 147)] (.wrap (.seq .leaf (.seq (.seq .leaf (.cond (.seq .leaf .leaf) .leaf)) (.seq (.seq .leaf (.cond (.seq .leaf .leaf) .leaf)) (.join [(3, .int .i64)] [(3, 3), (38, 46)] (.seq .leaf (.cond (.seq .leaf .leaf) .leaf)) (.seq .leaf (.join [(13, .int .i64), (14, .int .i64)] [(13, 14), (55, 67)] (.seq .leaf (.cond (.seq .leaf (.seq .leaf .leaf)) .leaf)) (.join [] [(68, 80)] (.join [(75, .bool)] [(68, 75)] .leaf (.cond (.seq .leaf (.cond .leaf .leaf)) .leaf)) (.seq (.join [(97, .bool)] [(81, 97)] (.draw 13) (.cond (.seq .leaf (.seq .leaf .leaf)) .leaf)) (.seq .leaf (.seq .leaf (.seq .leaf (.seq .leaf (.seq .leaf (.cond (.seq .leaf (.seq .leaf .leaf)) (.seq .leaf (.seq .leaf .leaf)))))))))))))))))))))
def Q_insertionSortCmpFunc (a0 : AV) (a1 : Int) (a2 : Int) (a3 : AV) (s : AS) (R : AV → AS → Prop) : Prop :=
 LoopQ fun I1 m2 => I1 m2 [(.int .i64 (IntKind.wrap .i64 (a1 + 1)))] s ∧
 ∀ m3 : Nat, ∀ n4 : Int, ∀ s5 : AS, I1 m3 [(.int .i64 n4)] s5 →
 bsplit (decide ((n4 : Int) < a2))
 (LoopQ fun I6 m7 => I6 m7 [(.int .i64 n4)] s5 ∧
 ∀ m8 : Nat, ∀ n9 : Int, ∀ s10 : AS, I6 m8 [(.int .i64 n9)] s10 →
 bsplit (decide ((n9 : Int) > a1)) (IxQ (aindexAddr T E.ys a0 (.int .i64 n9)) fun l11 o12 => RdL (rdc s10 l11 o12 E.w) fun g13 => IxQ (aindexAddr T E.ys a0 (.int .i64 (IntKind.wrap .i64 (n9 - 1)))) fun l14 o15 => RdL (rdc s10 l14 o15 E.w) fun g16 => ACallV Try.prog a3 [(.agg g13), (.agg g16)] s10 fun v17 s18 => ∃ n19 : Int, v17 = .int .i64 n19 ∧ (bsplit (decide ((n19 : Int) < 0))
 (IxQ (aindexAddr T E.ys a0 (.int .i64 (IntKind.wrap .i64 (n9 - 1)))) fun l20 o21 => RdL (rdc s18 l20 o21 E.w) fun g22 => IxQ (aindexAddr T E.ys a0 (.int .i64 n9)) fun l23 o24 => RdL (rdc s18 l23 o24 E.w) fun g25 => IxQ (aindexAddr T E.ys a0 (.int .i64 n9)) fun l26 o27 => OkC (some E.w) g22 (StQ (awr s18 l26 o27 g22) fun s28 => IxQ (aindexAddr T E.ys a0 (.int .i64 (IntKind.wrap .i64 (n9 - 1)))) fun l29 o30 => OkC (some E.w) g25 (StQ (awr s28 l29 o30 g25) fun s31 => ∃ m', m' < m8 ∧ I6 m' [(.int .i64 (IntKind.wrap .i64 (n9 - 1)))] s31)))
 (∃ m', m' < m3 ∧ I1 m' [(.int .i64 (IntKind.wrap .i64 (n4 + 1)))] s18))) (∃ m', m' < m3 ∧ I1 m' [(.int .i64 (IntKind.wrap .i64 (n4 + 1)))] s10))
 (R (.tup []) s5)
def A_insertionSortCmpFunc : QA := (.seq .leaf (.wrap (.loop [(8, .int .i64)] [(8, 9), (12, 52)] (.seq (.seq .leaf (.cond .leaf .leaf)) (.seq (.wrap (.seq .leaf (.wrap (.loop [(9, .int .i64)] [(9, 9), (18, 52)] (.seq (.seq (.draw 14) (.cond .leaf .leaf)) (.seq (.wrap .calm) .leaf)))))) .leaf)))))
def Q_heapSortCmpFunc (a0 : AV) (a1 : Int) (a2 : Int) (a3 : AV) (s : AS) (R : AV → AS → Prop) : Prop :=
 JoinQ fun J1 =>
 (∀ s2 : AS, J1 [] s2 →
 LoopQ fun I3 m4 => I3 m4 [(.int .i64 (IntKind.wrap .i64 ((IntKind.wrap .i64 (a2 - a1)) - 1)))] s2 ∧
 ∀ m5 : Nat, ∀ n6 : Int, ∀ s7 : AS, I3 m5 [(.int .i64 n6)] s7 →
 bsplit (decide ((n6 : Int) ≥ 0))
 (IxQ (aindexAddr T E.ys a0 (.int .i64 (IntKind.wrap .i64 (a1 + n6)))) fun l8 o9 => RdL (rdc s7 l8 o9 E.w) fun g10 => IxQ (aindexAddr T E.ys a0 (.int .i64 a1)) fun l11 o12 => RdL (rdc s7 l11 o12 E.w) fun g13 => IxQ (aindexAddr T E.ys a0 (.int .i64 a1)) fun l14 o15 => OkC (some E.w) g10 (StQ (awr s7 l14 o15 g10) fun s16 => IxQ (aindexAddr T E.ys a0 (.int .i64 (IntKind.wrap .i64 (a1 + n6)))) fun l17 o18 => OkC (some E.w) g13 (StQ (awr s16 l17 o18 g13) fun s19 => ACalls Try.prog E.F_siftDownCmpFunc [a0, (.int .i64 0), (.int .i64 n6), (.int .i64 a1), a3] s19 fun v20 s21 => v20 = .tup [] ∧ (∃ m', m' < m5 ∧ I3 m' [(.int .i64 (IntKind.wrap .i64 (n6 - 1)))] s21))))
 (R (.tup []) s7)) ∧
 (NZ 2 (LoopQ fun I22 m23 => I22 m23 [(.int .i64 (IntKind.wrap .i64 (Int.tdiv (IntKind.wrap .i64 ((IntKind.wrap .i64 (a2 - a1)) - 1)) 2)))] s ∧
 ∀ m24 : Nat, ∀ n25 : Int, ∀ s26 : AS, I22 m24 [(.int .i64 n25)] s26 →
 bsplit (decide ((n25 : Int) ≥ 0))
 (ACalls Try.prog E.F_siftDownCmpFunc [a0, (.int .i64 n25), (.int .i64 (IntKind.wrap .i64 (a2 - a1))), (.int .i64 a1), a3] s26 fun v27 s28 => v27 = .tup [] ∧ (∃ m', m' < m24 ∧ I22 m' [(.int .i64 (IntKind.wrap .i64 (n25 - 1)))] s28))
 (J1 [] s26)))
def A_heapSortCmpFunc : QA := (.seq .leaf (.seq .leaf (.seq .leaf (.join [] [(11, 11), (17, 29)] (.seq .leaf (.wrap (.loop [(11, .int .i64)] [(11, 11), (20, 29)] (.seq (.seq .leaf (.cond .leaf .leaf)) (.seq (.wrap .leaf) .leaf))))) (.seq .leaf (.wrap (.loop [(12, .int .i64)] [(12, 12), (32, 59)] (.seq (.seq .leaf (.cond .leaf .leaf)) (.seq (.wrap (.seq .calm .leaf)) .leaf)))))))))
def Q_choosePivotCmpFunc (a0 : AV) (a1 : Int) (a2 : Int) (a3 : AV) (s : AS) (R : AV → AS → Prop) : Prop :=
 NewQ (.cells [(.int .i64 0)] 0 false) s fun l1 s2 => NZ 4 (NZ 4 (NZ 4 (JoinQ fun J3 =>
 (∀ n4 : Int, ∀ s5 : AS, J3 [(.int .i64 n4)] s5 →
 RdI .i64 (rd1 s5 l1 0) fun n6 => bsplit ((n6 : Int) == 0)
 (R (.tup [(.int .i64 n4), (.int .i64 1)]) s5)
 (bsplit ((n6 : Int) == 12)
 (R (.tup [(.int .i64 n4), (.int .i64 2)]) s5)
 (R (.tup [(.int .i64 n4), (.int .i64 0)]) s5))) ∧
 (bsplit (decide ((IntKind.wrap .i64 (a2 - a1) : Int) ≥ 8))
 (JoinQ fun J7 =>
 (∀ n8 : Int, ∀ n9 : Int, ∀ n10 : Int, ∀ s11 : AS, J7 [(.int .i64 n8), (.int .i64 n9), (.int .i64 n10)] s11 →
 ACalls Try.prog E.F_medianCmpFunc [a0, (.int .i64 n8), (.int .i64 n9), (.int .i64 n10), (.ptr (some (l1, 0))), a3] s11 fun v12 s13 => ∃ n14 : Int, v12 = .int .i64 n14 ∧ (J3 [(.int .i64 n14)] s13)) ∧
 (bsplit (decide ((IntKind.wrap .i64 (a2 - a1) : Int) ≥ 50))
 (ACalls Try.prog E.F_medianAdjacentCmpFunc [a0, (.int .i64 (IntKind.wrap .i64 (a1 + (IntKind.wrap .i64 ((IntKind.wrap .i64 (Int.tdiv (IntKind.wrap .i64 (a2 - a1)) 4)) * 1))))), (.ptr (some (l1, 0))), a3] s2 fun v15 s16 => ∃ n17 : Int, v15 = .int .i64 n17 ∧ (ACalls Try.prog E.F_medianAdjacentCmpFunc [a0, (.int .i64 (IntKind.wrap .i64 (a1 + (IntKind.wrap .i64 ((IntKind.wrap .i64 (Int.tdiv (IntKind.wrap .i64 (a2 - a1)) 4)) * 2))))), (.ptr (some (l1, 0))), a3] s16 fun v18 s19 => ∃ n20 : Int, v18 = .int .i64 n20 ∧ (ACalls Try.prog E.F_medianAdjacentCmpFunc [a0, (.int .i64 (IntKind.wrap .i64 (a1 + (IntKind.wrap .i64 ((IntKind.wrap .i64 (Int.tdiv (IntKind.wrap .i64 (a2 - a1)) 4)) * 3))))), (.ptr (some (l1, 0))), a3] s19 fun v21 s22 => ∃ n23 : Int, v21 = .int .i64 n23 ∧ (J7 [(.int .i64 n17), (.int .i64 n20), (.int .i64 n23)] s22))))
 (J7 [(.int .i64 (IntKind.wrap .i64 (a1 + (IntKind.wrap .i64 ((IntKind.wrap .i64 (Int.tdiv (IntKind.wrap .i64 (a2 - a1)) 4)) * 1))))), (.int .i64 (IntKind.wrap .i64 (a1 + (IntKind.wrap .i64 ((IntKind.wrap .i64 (Int.tdiv (IntKind.wrap .i64 (a2 - a1)) 4)) * 2))))), (.int .i64 (IntKind.wrap .i64 (a1 + (IntKind.wrap .i64 ((IntKind.wrap .i64 (Int.tdiv (IntKind.wrap .i64 (a2 - a1)) 4)) * 3)))))] s2)))
 (J3 [(.int .i64 (IntKind.wrap .i64 (a1 + (IntKind.wrap .i64 ((IntKind.wrap .i64 (Int.tdiv (IntKind.wrap .i64 (a2 - a1)) 4)) * 2)))))] s2)))))
def A_choosePivotCmpFunc : QA := (.seq .leaf (.seq .leaf (.seq .leaf (.seq .leaf (.seq .leaf (.seq .leaf (.join [(13, .int .i64)] [(12, 14), (33, 54)] (.seq .leaf (.cond (.join [(12, .int .i64), (13, .int .i64), (14, .int .i64)] [(12, 14), (35, 48)] (.seq .leaf (.cond (.seq .leaf (.seq .leaf .leaf)) .leaf)) .leaf) .leaf)) (.seq .leaf (.wrap (.seq .leaf (.cond (.seq .leaf .leaf) (.seq .leaf (.cond (.seq .leaf .leaf) (.seq .leaf .leaf))))))))))))))
def Q_reverseRangeCmpFunc (a0 : AV) (a1 : Int) (a2 : Int) (a3 : AV) (s : AS) (R : AV → AS → Prop) : Prop :=
 LoopQ fun I1 m2 => I1 m2 [(.int .i64 a1), (.int .i64 (IntKind.wrap .i64 (a2 - 1)))] s ∧
 ∀ m3 : Nat, ∀ n4 : Int, ∀ n5 : Int, ∀ s6 : AS, I1 m3 [(.int .i64 n4), (.int .i64 n5)] s6 →
 bsplit (decide ((n4 : Int) < n5))
 (IxQ (aindexAddr T E.ys a0 (.int .i64 n5)) fun l7 o8 => RdL (rdc s6 l7 o8 E.w) fun g9 => IxQ (aindexAddr T E.ys a0 (.int .i64 n4)) fun l10 o11 => RdL (rdc s6 l10 o11 E.w) fun g12 => IxQ (aindexAddr T E.ys a0 (.int .i64 n4)) fun l13 o14 => OkC (some E.w) g9 (StQ (awr s6 l13 o14 g9) fun s15 => IxQ (aindexAddr T E.ys a0 (.int .i64 n5)) fun l16 o17 => OkC (some E.w) g12 (StQ (awr s15 l16 o17 g12) fun s18 => ∃ m', m' < m3 ∧ I1 m' [(.int .i64 (IntKind.wrap .i64 (n4 + 1))), (.int .i64 (IntKind.wrap .i64 (n5 - 1)))] s18)))
 (R (.tup []) s6)
def A_reverseRangeCmpFunc : QA := (.seq .leaf (.seq .leaf (.wrap (.loop [(8, .int .i64), (9, .int .i64)] [(8, 9), (13, 33)] (.seq (.seq .leaf (.cond .leaf .leaf)) (.wrap (.seq .calm (.seq .leaf .leaf))))))))
def Q_partialInsertionSortCmpFunc (a0 : AV) (a1 : Int) (a2 : Int) (a3 : AV) (s : AS) (R : AV → AS → Prop) : Prop :=
 LoopQ fun I1 m2 => I1 m2 [(.int .i64 (IntKind.wrap .i64 (a1 + 1))), (.int .i64 0)] s ∧
 ∀ m3 : Nat, ∀ n4 : Int, ∀ n5 : Int, ∀ s6 : AS, I1 m3 [(.int .i64 n4), (.int .i64 n5)] s6 →
 bsplit (decide ((n5 : Int) < 5))
 (JoinQ fun J7 =>
 (∀ n8 : Int, ∀ s9 : AS, J7 [(.int .i64 n8)] s9 →
 bsplit ((n8 : Int) == a2)
 (R (.bool true) s9)
 (bsplit (decide ((IntKind.wrap .i64 (a2 - a1) : Int) < 50))
 (R (.bool false) s9)
 (IxQ (aindexAddr T E.ys a0 (.int .i64 (IntKind.wrap .i64 (n8 - 1)))) fun l10 o11 => RdL (rdc s9 l10 o11 E.w) fun g12 => IxQ (aindexAddr T E.ys a0 (.int .i64 n8)) fun l13 o14 => RdL (rdc s9 l13 o14 E.w) fun g15 => IxQ (aindexAddr T E.ys a0 (.int .i64 n8)) fun l16 o17 => OkC (some E.w) g12 (StQ (awr s9 l16 o17 g12) fun s18 => IxQ (aindexAddr T E.ys a0 (.int .i64 (IntKind.wrap .i64 (n8 - 1)))) fun l19 o20 => OkC (some E.w) g15 (StQ (awr s18 l19 o20 g15) fun s21 => JoinQ fun J22 =>
 (∀ s23 : AS, J22 [] s23 →
 bsplit (decide ((IntKind.wrap .i64 (a2 - n8) : Int) ≥ 2))
 (LoopQ fun I24 m25 => I24 m25 [(.int .i64 (IntKind.wrap .i64 (n8 + 1)))] s23 ∧
 ∀ m26 : Nat, ∀ n27 : Int, ∀ s28 : AS, I24 m26 [(.int .i64 n27)] s28 →
 bsplit (decide ((n27 : Int) < a2))
 (IxQ (aindexAddr T E.ys a0 (.int .i64 n27)) fun l29 o30 => RdL (rdc s28 l29 o30 E.w) fun g31 => IxQ (aindexAddr T E.ys a0 (.int .i64 (IntKind.wrap .i64 (n27 - 1)))) fun l32 o33 => RdL (rdc s28 l32 o33 E.w) fun g34 => ACallV Try.prog a3 [(.agg g31), (.agg g34)] s28 fun v35 s36 => ∃ n37 : Int, v35 = .int .i64 n37 ∧ (bsplit (!(decide ((n37 : Int) < 0)))
 (∃ m', m' < m3 ∧ I1 m' [(.int .i64 n8), (.int .i64 (IntKind.wrap .i64 (n5 + 1)))] s36)
 (IxQ (aindexAddr T E.ys a0 (.int .i64 (IntKind.wrap .i64 (n27 - 1)))) fun l38 o39 => RdL (rdc s36 l38 o39 E.w) fun g40 => IxQ (aindexAddr T E.ys a0 (.int .i64 n27)) fun l41 o42 => RdL (rdc s36 l41 o42 E.w) fun g43 => IxQ (aindexAddr T E.ys a0 (.int .i64 n27)) fun l44 o45 => OkC (some E.w) g40 (StQ (awr s36 l44 o45 g40) fun s46 => IxQ (aindexAddr T E.ys a0 (.int .i64 (IntKind.wrap .i64 (n27 - 1)))) fun l47 o48 => OkC (some E.w) g43 (StQ (awr s46 l47 o48 g43) fun s49 => ∃ m', m' < m26 ∧ I24 m' [(.int .i64 (IntKind.wrap .i64 (n27 + 1)))] s49)))))
 (∃ m', m' < m3 ∧ I1 m' [(.int .i64 n8), (.int .i64 (IntKind.wrap .i64 (n5 + 1)))] s28))
 (∃ m', m' < m3 ∧ I1 m' [(.int .i64 n8), (.int .i64 (IntKind.wrap .i64 (n5 + 1)))] s23)) ∧
 (bsplit (decide ((IntKind.wrap .i64 (n8 - a1) : Int) ≥ 2))
 (LoopQ fun I50 m51 => I50 m51 [(.int .i64 (IntKind.wrap .i64 (n8 - 1)))] s21 ∧
 ∀ m52 : Nat, ∀ n53 : Int, ∀ s54 : AS, I50 m52 [(.int .i64 n53)] s54 →
 bsplit (decide ((n53 : Int) ≥ 1))
 (IxQ (aindexAddr T E.ys a0 (.int .i64 n53)) fun l55 o56 => RdL (rdc s54 l55 o56 E.w) fun g57 => IxQ (aindexAddr T E.ys a0 (.int .i64 (IntKind.wrap .i64 (n53 - 1)))) fun l58 o59 => RdL (rdc s54 l58 o59 E.w) fun g60 => ACallV Try.prog a3 [(.agg g57), (.agg g60)] s54 fun v61 s62 => ∃ n63 : Int, v61 = .int .i64 n63 ∧ (bsplit (!(decide ((n63 : Int) < 0)))
 (J22 [] s62)
 (IxQ (aindexAddr T E.ys a0 (.int .i64 (IntKind.wrap .i64 (n53 - 1)))) fun l64 o65 => RdL (rdc s62 l64 o65 E.w) fun g66 => IxQ (aindexAddr T E.ys a0 (.int .i64 n53)) fun l67 o68 => RdL (rdc s62 l67 o68 E.w) fun g69 => IxQ (aindexAddr T E.ys a0 (.int .i64 n53)) fun l70 o71 => OkC (some E.w) g66 (StQ (awr s62 l70 o71 g66) fun s72 => IxQ (aindexAddr T E.ys a0 (.int .i64 (IntKind.wrap .i64 (n53 - 1)))) fun l73 o74 => OkC (some E.w) g69 (StQ (awr s72 l73 o74 g69) fun s75 => ∃ m', m' < m52 ∧ I50 m' [(.int .i64 (IntKind.wrap .i64 (n53 - 1)))] s75)))))
 (J22 [] s54))
 (J22 [] s21))))))) ∧
 (LoopQ fun I76 m77 => I76 m77 [(.int .i64 n4)] s6 ∧
 ∀ m78 : Nat, ∀ n79 : Int, ∀ s80 : AS, I76 m78 [(.int .i64 n79)] s80 →
 bsplit (decide ((n79 : Int) < a2)) (IxQ (aindexAddr T E.ys a0 (.int .i64 n79)) fun l81 o82 => RdL (rdc s80 l81 o82 E.w) fun g83 => IxQ (aindexAddr T E.ys a0 (.int .i64 (IntKind.wrap .i64 (n79 - 1)))) fun l84 o85 => RdL (rdc s80 l84 o85 E.w) fun g86 => ACallV Try.prog a3 [(.agg g83), (.agg g86)] s80 fun v87 s88 => ∃ n89 : Int, v87 = .int .i64 n89 ∧ (bsplit (!(decide ((n89 : Int) < 0)))
 (∃ m', m' < m78 ∧ I76 m' [(.int .i64 (IntKind.wrap .i64 (n79 + 1)))] s88)
 (J7 [(.int .i64 n79)] s88))) (J7 [(.int .i64 n79)] s80)))
 (R (.bool false) s6)
def A_partialInsertionSortCmpFunc : QA := (.seq .leaf (.seq .leaf (.seq (.seq .leaf (.wrap (.loop [(9, .int .i64), (10, .int .i64)] [(8, 12), (15, 140)] (.seq (.seq .leaf (.cond .leaf .leaf)) (.seq (.wrap (.join [(9, .int .i64)] [(9, 9), (19, 38)] (.wrap (.loop [(9, .int .i64)] [(9, 9), (19, 38)] (.seq (.seq (.draw 14) (.cond .leaf .leaf)) (.wrap .leaf)))) (.seq (.seq .leaf (.cond (.seq .leaf .leaf) .leaf)) (.seq (.seq .leaf (.cond (.seq .leaf .leaf) .leaf)) (.seq .calm (.join [] [(11, 11), (62, 100)] (.seq .leaf (.cond (.seq .leaf (.wrap (.loop [(11, .int .i64)] [(11, 11), (68, 100)] (.seq (.seq .leaf (.cond .leaf .leaf)) (.seq (.wrap (.seq (.seq (.draw 10) (.cond .leaf .leaf)) .calm)) .leaf))))) .leaf)) (.seq .leaf (.cond (.seq .leaf (.wrap (.loop [(12, .int .i64)] [(12, 12), (107, 140)] (.seq (.seq .leaf (.cond .leaf .leaf)) (.seq (.wrap (.seq (.seq (.draw 10) (.cond .leaf .leaf)) .calm)) .leaf))))) .leaf)))))))) .leaf))))) (.seq .leaf .leaf))))
def Q_partitionEqualCmpFunc (a0 : AV) (a1 : Int) (a2 : Int) (a3 : Int) (a4 : AV) (s : AS) (R : AV → AS → Prop) : Prop :=
 IxQ (aindexAddr T E.ys a0 (.int .i64 a3)) fun l1 o2 => RdL (rdc s l1 o2 E.w) fun g3 => IxQ (aindexAddr T E.ys a0 (.int .i64 a1)) fun l4 o5 => RdL (rdc s l4 o5 E.w) fun g6 => IxQ (aindexAddr T E.ys a0 (.int .i64 a1)) fun l7 o8 => OkC (some E.w) g3 (StQ (awr s l7 o8 g3) fun s9 => IxQ (aindexAddr T E.ys a0 (.int .i64 a3)) fun l10 o11 => OkC (some E.w) g6 (StQ (awr s9 l10 o11 g6) fun s12 => LoopQ fun I13 m14 => I13 m14 [(.int .i64 (IntKind.wrap .i64 (a1 + 1))), (.int .i64 (IntKind.wrap .i64 (a2 - 1)))] s12 ∧
 ∀ m15 : Nat, ∀ n16 : Int, ∀ n17 : Int, ∀ s18 : AS, I13 m15 [(.int .i64 n16), (.int .i64 n17)] s18 →
 JoinQ fun J19 =>
 (∀ n20 : Int, ∀ s21 : AS, J19 [(.int .i64 n20)] s21 →
 JoinQ fun J22 =>
 (∀ n23 : Int, ∀ s24 : AS, J22 [(.int .i64 n23)] s24 →
 bsplit (decide ((n20 : Int) > n23))
 (R (.int .i64 n20) s24)
 (IxQ (aindexAddr T E.ys a0 (.int .i64 n23)) fun l25 o26 => RdL (rdc s24 l25 o26 E.w) fun g27 => IxQ (aindexAddr T E.ys a0 (.int .i64 n20)) fun l28 o29 => RdL (rdc s24 l28 o29 E.w) fun g30 => IxQ (aindexAddr T E.ys a0 (.int .i64 n20)) fun l31 o32 => OkC (some E.w) g27 (StQ (awr s24 l31 o32 g27) fun s33 => IxQ (aindexAddr T E.ys a0 (.int .i64 n23)) fun l34 o35 => OkC (some E.w) g30 (StQ (awr s33 l34 o35 g30) fun s36 => ∃ m', m' < m15 ∧ I13 m' [(.int .i64 (IntKind.wrap .i64 (n20 + 1))), (.int .i64 (IntKind.wrap .i64 (n23 - 1)))] s36)))) ∧
 (LoopQ fun I37 m38 => I37 m38 [(.int .i64 n17)] s21 ∧
 ∀ m39 : Nat, ∀ n40 : Int, ∀ s41 : AS, I37 m39 [(.int .i64 n40)] s41 →
 bsplit (decide ((n20 : Int) ≤ n40)) (IxQ (aindexAddr T E.ys a0 (.int .i64 a1)) fun l42 o43 => RdL (rdc s41 l42 o43 E.w) fun g44 => IxQ (aindexAddr T E.ys a0 (.int .i64 n40)) fun l45 o46 => RdL (rdc s41 l45 o46 E.w) fun g47 => ACallV Try.prog a4 [(.agg g44), (.agg g47)] s41 fun v48 s49 => ∃ n50 : Int, v48 = .int .i64 n50 ∧ (bsplit (decide ((n50 : Int) < 0))
 (∃ m', m' < m39 ∧ I37 m' [(.int .i64 (IntKind.wrap .i64 (n40 - 1)))] s49)
 (J22 [(.int .i64 n40)] s49))) (J22 [(.int .i64 n40)] s41))) ∧
 (LoopQ fun I51 m52 => I51 m52 [(.int .i64 n16)] s18 ∧
 ∀ m53 : Nat, ∀ n54 : Int, ∀ s55 : AS, I51 m53 [(.int .i64 n54)] s55 →
 bsplit (decide ((n54 : Int) ≤ n17)) (IxQ (aindexAddr T E.ys a0 (.int .i64 a1)) fun l56 o57 => RdL (rdc s55 l56 o57 E.w) fun g58 => IxQ (aindexAddr T E.ys a0 (.int .i64 n54)) fun l59 o60 => RdL (rdc s55 l59 o60 E.w) fun g61 => ACallV Try.prog a4 [(.agg g58), (.agg g61)] s55 fun v62 s63 => ∃ n64 : Int, v62 = .int .i64 n64 ∧ (bsplit (!(decide ((n64 : Int) < 0)))
 (∃ m', m' < m53 ∧ I51 m' [(.int .i64 (IntKind.wrap .i64 (n54 + 1)))] s63)
 (J19 [(.int .i64 n54)] s63))) (J19 [(.int .i64 n54)] s55))))
def A_partitionEqualCmpFunc : QA := (.seq .leaf (.seq .calm (.seq .leaf (.seq (.wrap (.loop [(11, .int .i64), (12, .int .i64)] [(11, 12), (31, 88)] (.wrap (.join [(11, .int .i64)] [(11, 11), (31, 49)] (.wrap (.loop [(11, .int .i64)] [(11, 11), (31, 49)] (.seq (.seq (.draw 13) (.cond .leaf .leaf)) (.wrap .leaf)))) (.join [(12, .int .i64)] [(12, 12), (50, 67)] (.wrap (.loop [(12, .int .i64)] [(12, 12), (50, 67)] (.seq (.seq (.draw 13) (.cond .leaf .leaf)) (.wrap .leaf)))) (.seq (.seq .leaf (.cond .leaf .leaf)) (.seq .calm (.seq .leaf .leaf)))))))) (.seq .leaf .leaf)))))
def Q_partitionCmpFunc (a0 : AV) (a1 : Int) (a2 : Int) (a3 : Int) (a4 : AV) (s : AS) (R : AV → AS → Prop) : Prop :=
 IxQ (aindexAddr T E.ys a0 (.int .i64 a3)) fun l1 o2 => RdL (rdc s l1 o2 E.w) fun g3 => IxQ (aindexAddr T E.ys a0 (.int .i64 a1)) fun l4 o5 => RdL (rdc s l4 o5 E.w) fun g6 => IxQ (aindexAddr T E.ys a0 (.int .i64 a1)) fun l7 o8 => OkC (some E.w) g3 (StQ (awr s l7 o8 g3) fun s9 => IxQ (aindexAddr T E.ys a0 (.int .i64 a3)) fun l10 o11 => OkC (some E.w) g6 (StQ (awr s9 l10 o11 g6) fun s12 => JoinQ fun J13 =>
 (∀ n14 : Int, ∀ s15 : AS, J13 [(.int .i64 n14)] s15 →
 JoinQ fun J16 =>
 (∀ n17 : Int, ∀ s18 : AS, J16 [(.int .i64 n17)] s18 →
 bsplit (decide ((n14 : Int) > n17))
 (IxQ (aindexAddr T E.ys a0 (.int .i64 a1)) fun l19 o20 => RdL (rdc s18 l19 o20 E.w) fun g21 => IxQ (aindexAddr T E.ys a0 (.int .i64 n17)) fun l22 o23 => RdL (rdc s18 l22 o23 E.w) fun g24 => IxQ (aindexAddr T E.ys a0 (.int .i64 n17)) fun l25 o26 => OkC (some E.w) g21 (StQ (awr s18 l25 o26 g21) fun s27 => IxQ (aindexAddr T E.ys a0 (.int .i64 a1)) fun l28 o29 => OkC (some E.w) g24 (StQ (awr s27 l28 o29 g24) fun s30 => R (.tup [(.int .i64 n17), (.bool true)]) s30)))
 (IxQ (aindexAddr T E.ys a0 (.int .i64 n17)) fun l31 o32 => RdL (rdc s18 l31 o32 E.w) fun g33 => IxQ (aindexAddr T E.ys a0 (.int .i64 n14)) fun l34 o35 => RdL (rdc s18 l34 o35 E.w) fun g36 => IxQ (aindexAddr T E.ys a0 (.int .i64 n14)) fun l37 o38 => OkC (some E.w) g33 (StQ (awr s18 l37 o38 g33) fun s39 => IxQ (aindexAddr T E.ys a0 (.int .i64 n17)) fun l40 o41 => OkC (some E.w) g36 (StQ (awr s39 l40 o41 g36) fun s42 => JoinQ fun J43 =>
 (∀ n44 : Int, ∀ s45 : AS, J43 [(.int .i64 n44)] s45 →
 IxQ (aindexAddr T E.ys a0 (.int .i64 a1)) fun l46 o47 => RdL (rdc s45 l46 o47 E.w) fun g48 => IxQ (aindexAddr T E.ys a0 (.int .i64 n44)) fun l49 o50 => RdL (rdc s45 l49 o50 E.w) fun g51 => IxQ (aindexAddr T E.ys a0 (.int .i64 n44)) fun l52 o53 => OkC (some E.w) g48 (StQ (awr s45 l52 o53 g48) fun s54 => IxQ (aindexAddr T E.ys a0 (.int .i64 a1)) fun l55 o56 => OkC (some E.w) g51 (StQ (awr s54 l55 o56 g51) fun s57 => R (.tup [(.int .i64 n44), (.bool false)]) s57))) ∧
 (LoopQ fun I58 m59 => I58 m59 [(.int .i64 (IntKind.wrap .i64 (n14 + 1))), (.int .i64 (IntKind.wrap .i64 (n17 - 1)))] s42 ∧
 ∀ m60 : Nat, ∀ n61 : Int, ∀ n62 : Int, ∀ s63 : AS, I58 m60 [(.int .i64 n61), (.int .i64 n62)] s63 →
 JoinQ fun J64 =>
 (∀ n65 : Int, ∀ s66 : AS, J64 [(.int .i64 n65)] s66 →
 JoinQ fun J67 =>
 (∀ n68 : Int, ∀ s69 : AS, J67 [(.int .i64 n68)] s69 →
 bsplit (decide ((n65 : Int) > n68))
 (J43 [(.int .i64 n68)] s69)
 (IxQ (aindexAddr T E.ys a0 (.int .i64 n68)) fun l70 o71 => RdL (rdc s69 l70 o71 E.w) fun g72 => IxQ (aindexAddr T E.ys a0 (.int .i64 n65)) fun l73 o74 => RdL (rdc s69 l73 o74 E.w) fun g75 => IxQ (aindexAddr T E.ys a0 (.int .i64 n65)) fun l76 o77 => OkC (some E.w) g72 (StQ (awr s69 l76 o77 g72) fun s78 => IxQ (aindexAddr T E.ys a0 (.int .i64 n68)) fun l79 o80 => OkC (some E.w) g75 (StQ (awr s78 l79 o80 g75) fun s81 => ∃ m', m' < m60 ∧ I58 m' [(.int .i64 (IntKind.wrap .i64 (n65 + 1))), (.int .i64 (IntKind.wrap .i64 (n68 - 1)))] s81)))) ∧
 (LoopQ fun I82 m83 => I82 m83 [(.int .i64 n62)] s66 ∧
 ∀ m84 : Nat, ∀ n85 : Int, ∀ s86 : AS, I82 m84 [(.int .i64 n85)] s86 →
 bsplit (decide ((n65 : Int) ≤ n85)) (IxQ (aindexAddr T E.ys a0 (.int .i64 n85)) fun l87 o88 => RdL (rdc s86 l87 o88 E.w) fun g89 => IxQ (aindexAddr T E.ys a0 (.int .i64 a1)) fun l90 o91 => RdL (rdc s86 l90 o91 E.w) fun g92 => ACallV Try.prog a4 [(.agg g89), (.agg g92)] s86 fun v93 s94 => ∃ n95 : Int, v93 = .int .i64 n95 ∧ (bsplit (!(decide ((n95 : Int) < 0)))
 (∃ m', m' < m84 ∧ I82 m' [(.int .i64 (IntKind.wrap .i64 (n85 - 1)))] s94)
 (J67 [(.int .i64 n85)] s94))) (J67 [(.int .i64 n85)] s86))) ∧
 (LoopQ fun I96 m97 => I96 m97 [(.int .i64 n61)] s63 ∧
 ∀ m98 : Nat, ∀ n99 : Int, ∀ s100 : AS, I96 m98 [(.int .i64 n99)] s100 →
 bsplit (decide ((n99 : Int) ≤ n62)) (IxQ (aindexAddr T E.ys a0 (.int .i64 n99)) fun l101 o102 => RdL (rdc s100 l101 o102 E.w) fun g103 => IxQ (aindexAddr T E.ys a0 (.int .i64 a1)) fun l104 o105 => RdL (rdc s100 l104 o105 E.w) fun g106 => ACallV Try.prog a4 [(.agg g103), (.agg g106)] s100 fun v107 s108 => ∃ n109 : Int, v107 = .int .i64 n109 ∧ (bsplit (decide ((n109 : Int) < 0))
 (∃ m', m' < m98 ∧ I96 m' [(.int .i64 (IntKind.wrap .i64 (n99 + 1)))] s108)
 (J64 [(.int .i64 n99)] s108))) (J64 [(.int .i64 n99)] s100))))))) ∧
 (LoopQ fun I110 m111 => I110 m111 [(.int .i64 (IntKind.wrap .i64 (a2 - 1)))] s15 ∧
 ∀ m112 : Nat, ∀ n113 : Int, ∀ s114 : AS, I110 m112 [(.int .i64 n113)] s114 →
 bsplit (decide ((n14 : Int) ≤ n113)) (IxQ (aindexAddr T E.ys a0 (.int .i64 n113)) fun l115 o116 => RdL (rdc s114 l115 o116 E.w) fun g117 => IxQ (aindexAddr T E.ys a0 (.int .i64 a1)) fun l118 o119 => RdL (rdc s114 l118 o119 E.w) fun g120 => ACallV Try.prog a4 [(.agg g117), (.agg g120)] s114 fun v121 s122 => ∃ n123 : Int, v121 = .int .i64 n123 ∧ (bsplit (!(decide ((n123 : Int) < 0)))
 (∃ m', m' < m112 ∧ I110 m' [(.int .i64 (IntKind.wrap .i64 (n113 - 1)))] s122)
 (J16 [(.int .i64 n113)] s122))) (J16 [(.int .i64 n113)] s114))) ∧
 (LoopQ fun I124 m125 => I124 m125 [(.int .i64 (IntKind.wrap .i64 (a1 + 1)))] s12 ∧
 ∀ m126 : Nat, ∀ n127 : Int, ∀ s128 : AS, I124 m126 [(.int .i64 n127)] s128 →
 bsplit (decide ((n127 : Int) ≤ (IntKind.wrap .i64 (a2 - 1)))) (IxQ (aindexAddr T E.ys a0 (.int .i64 n127)) fun l129 o130 => RdL (rdc s128 l129 o130 E.w) fun g131 => IxQ (aindexAddr T E.ys a0 (.int .i64 a1)) fun l132 o133 => RdL (rdc s128 l132 o133 E.w) fun g134 => ACallV Try.prog a4 [(.agg g131), (.agg g134)] s128 fun v135 s136 => ∃ n137 : Int, v135 = .int .i64 n137 ∧ (bsplit (decide ((n137 : Int) < 0))
 (∃ m', m' < m126 ∧ I124 m' [(.int .i64 (IntKind.wrap .i64 (n127 + 1)))] s136)
 (J13 [(.int .i64 n127)] s136))) (J13 [(.int .i64 n127)] s128))))
def A_partitionCmpFunc : QA := (.seq .leaf (.seq .calm (.seq .leaf (.join [(12, .int .i64)] [(12, 12), (32, 49)] (.wrap (.loop [(12, .int .i64)] [(12, 12), (32, 49)] (.seq (.seq (.draw 13) (.cond .leaf .leaf)) (.wrap .leaf)))) (.join [(13, .int .i64)] [(13, 13), (50, 68)] (.wrap (.loop [(13, .int .i64)] [(13, 13), (50, 68)] (.seq (.seq (.draw 13) (.cond .leaf .leaf)) (.wrap .leaf)))) (.seq (.seq .leaf (.cond (.seq .calm (.seq .leaf .leaf)) .leaf)) (.seq .calm (.seq .leaf (.seq .leaf (.join [(13, .int .i64)] [(12, 13), (105, 162)] (.wrap (.loop [(12, .int .i64), (13, .int .i64)] [(12, 13), (105, 162)] (.wrap (.join [(12, .int .i64)] [(12, 12), (105, 122)] (.wrap (.loop [(12, .int .i64)] [(12, 12), (105, 122)] (.seq (.seq (.draw 13) (.cond .leaf .leaf)) (.wrap .leaf)))) (.join [(13, .int .i64)] [(13, 13), (123, 141)] (.wrap (.loop [(13, .int .i64)] [(13, 13), (123, 141)] (.seq (.seq (.draw 13) (.cond .leaf .leaf)) (.wrap .leaf)))) (.seq (.seq .leaf (.cond .leaf .leaf)) (.seq .calm (.seq .leaf .leaf)))))))) (.seq .calm (.seq .leaf .leaf))))))))))))
def Q_siftDownCmpFunc (a0 : AV) (a1 : Int) (a2 : Int) (a3 : Int) (a4 : AV) (s : AS) (R : AV → AS → Prop) : Prop :=
 LoopQ fun I1 m2 => I1 m2 [(.int .i64 a1)] s ∧
 ∀ m3 : Nat, ∀ n4 : Int, ∀ s5 : AS, I1 m3 [(.int .i64 n4)] s5 →
 bsplit (decide ((IntKind.wrap .i64 ((IntKind.wrap .i64 (2 * n4)) + 1) : Int) ≥ a2))
 (R (.tup []) s5)
 (JoinQ fun J6 =>
 (∀ n7 : Int, ∀ s8 : AS, J6 [(.int .i64 n7)] s8 →
 IxQ (aindexAddr T E.ys a0 (.int .i64 (IntKind.wrap .i64 (a3 + n4)))) fun l9 o10 => RdL (rdc s8 l9 o10 E.w) fun g11 => IxQ (aindexAddr T E.ys a0 (.int .i64 (IntKind.wrap .i64 (a3 + n7)))) fun l12 o13 => RdL (rdc s8 l12 o13 E.w) fun g14 => ACallV Try.prog a4 [(.agg g11), (.agg g14)] s8 fun v15 s16 => ∃ n17 : Int, v15 = .int .i64 n17 ∧ (bsplit (!(decide ((n17 : Int) < 0)))
 (R (.tup []) s16)
 (IxQ (aindexAddr T E.ys a0 (.int .i64 (IntKind.wrap .i64 (a3 + n7)))) fun l18 o19 => RdL (rdc s16 l18 o19 E.w) fun g20 => IxQ (aindexAddr T E.ys a0 (.int .i64 (IntKind.wrap .i64 (a3 + n4)))) fun l21 o22 => RdL (rdc s16 l21 o22 E.w) fun g23 => IxQ (aindexAddr T E.ys a0 (.int .i64 (IntKind.wrap .i64 (a3 + n4)))) fun l24 o25 => OkC (some E.w) g20 (StQ (awr s16 l24 o25 g20) fun s26 => IxQ (aindexAddr T E.ys a0 (.int .i64 (IntKind.wrap .i64 (a3 + n7)))) fun l27 o28 => OkC (some E.w) g23 (StQ (awr s26 l27 o28 g23) fun s29 => ∃ m', m' < m3 ∧ I1 m' [(.int .i64 n7)] s29))))) ∧
 (JoinQ fun J30 =>
 (∀ b31 : Bool, ∀ s32 : AS, J30 [(.bool b31)] s32 →
 bsplit b31
 (J6 [(.int .i64 (IntKind.wrap .i64 ((IntKind.wrap .i64 ((IntKind.wrap .i64 (2 * n4)) + 1)) + 1)))] s32)
 (J6 [(.int .i64 (IntKind.wrap .i64 ((IntKind.wrap .i64 (2 * n4)) + 1)))] s32)) ∧
 (bsplit (decide ((IntKind.wrap .i64 ((IntKind.wrap .i64 ((IntKind.wrap .i64 (2 * n4)) + 1)) + 1) : Int) < a2)) (IxQ (aindexAddr T E.ys a0 (.int .i64 (IntKind.wrap .i64 (a3 + (IntKind.wrap .i64 ((IntKind.wrap .i64 (2 * n4)) + 1)))))) fun l33 o34 => RdL (rdc s5 l33 o34 E.w) fun g35 => IxQ (aindexAddr T E.ys a0 (.int .i64 (IntKind.wrap .i64 ((IntKind.wrap .i64 (a3 + (IntKind.wrap .i64 ((IntKind.wrap .i64 (2 * n4)) + 1)))) + 1)))) fun l36 o37 => RdL (rdc s5 l36 o37 E.w) fun g38 => ACallV Try.prog a4 [(.agg g35), (.agg g38)] s5 fun v39 s40 => ∃ n41 : Int, v39 = .int .i64 n41 ∧ (J30 [(.bool (decide ((n41 : Int) < 0)))] s40)) (J30 [(.bool false)] s5))))
def A_siftDownCmpFunc : QA := (.seq .leaf (.wrap (.loop [(10, .int .i64)] [(10, 11), (13, 81)] (.wrap (.seq .leaf (.seq (.seq .leaf (.cond .leaf .leaf)) (.join [(11, .int .i64)] [(11, 11), (19, 42)] (.join [(40, .bool)] [(19, 40)] (.draw 19) (.cond .leaf .leaf)) (.seq (.seq (.draw 13) (.cond .leaf .leaf)) (.seq .calm .leaf)))))))))
def Q_medianAdjacentCmpFunc (a0 : AV) (a1 : Int) (a2 : Option (Nat × Nat)) (a3 : AV) (s : AS) (R : AV → AS → Prop) : Prop :=
 ACalls Try.prog E.F_medianCmpFunc [a0, (.int .i64 (IntKind.wrap .i64 (a1 - 1))), (.int .i64 a1), (.int .i64 (IntKind.wrap .i64 (a1 + 1))), (.ptr a2), a3] s fun v1 s2 => ∃ n3 : Int, v1 = .int .i64 n3 ∧ (R (.int .i64 n3) s2)
def A_medianAdjacentCmpFunc : QA := (.seq .leaf (.seq .leaf .leaf))
def Q_medianCmpFunc (a0 : AV) (a1 : Int) (a2 : Int) (a3 : Int) (a4 : Option (Nat × Nat)) (a5 : AV) (s : AS) (R : AV → AS → Prop) : Prop :=
 ACalls Try.prog E.F_order2CmpFunc [a0, (.int .i64 a1), (.int .i64 a2), (.ptr a4), a5] s fun v1 s2 => ∃ n3 : Int, ∃ n4 : Int, v1 = .tup [(.int .i64 n3), (.int .i64 n4)] ∧ (ACalls Try.prog E.F_order2CmpFunc [a0, (.int .i64 n4), (.int .i64 a3), (.ptr a4), a5] s2 fun v5 s6 => ∃ n7 : Int, ∃ n8 : Int, v5 = .tup [(.int .i64 n7), (.int .i64 n8)] ∧ (ACalls Try.prog E.F_order2CmpFunc [a0, (.int .i64 n3), (.int .i64 n7), (.ptr a4), a5] s6 fun v9 s10 => ∃ n11 : Int, ∃ n12 : Int, v9 = .tup [(.int .i64 n11), (.int .i64 n12)] ∧ (R (.int .i64 n12) s10)))
def A_medianCmpFunc : QA := (.seq .leaf (.seq .leaf (.seq .leaf (.seq .leaf (.seq .leaf .leaf)))))
def Q_order2CmpFunc (a0 : AV) (a1 : Int) (a2 : Int) (a3 : Option (Nat × Nat)) (a4 : AV) (s : AS) (R : AV → AS → Prop) : Prop :=
 IxQ (aindexAddr T E.ys a0 (.int .i64 a2)) fun l1 o2 => RdL (rdc s l1 o2 E.w) fun g3 => IxQ (aindexAddr T E.ys a0 (.int .i64 a1)) fun l4 o5 => RdL (rdc s l4 o5 E.w) fun g6 => ACallV Try.prog a4 [(.agg g3), (.agg g6)] s fun v7 s8 => ∃ n9 : Int, v7 = .int .i64 n9 ∧ (bsplit (decide ((n9 : Int) < 0))
 (AsSome a3 fun l10 o11 => RdI .i64 (rd1 s8 l10 o11) fun n12 => AsSome a3 fun l13 o14 => StQ (awr s8 l13 o14 [(.int .i64 (IntKind.wrap .i64 (n12 + 1)))]) fun s15 => R (.tup [(.int .i64 a2), (.int .i64 a1)]) s15)
 (R (.tup [(.int .i64 a1), (.int .i64 a2)]) s8))
def A_order2CmpFunc : QA := (.seq .leaf (.seq (.seq (.draw 9) (.cond (.seq .leaf (.seq .leaf .leaf)) .leaf)) (.seq .leaf .leaf)))
def Q_breakPatternsCmpFunc (a0 : AV) (a1 : Int) (a2 : Int) (a3 : AV) (s : AS) (R : AV → AS → Prop) : Prop :=
 bsplit (decide ((IntKind.wrap .i64 (a2 - a1) : Int) ≥ 8))
 (NewQ (.cells [(.int .u64 0)] 0 false) s fun l1 s2 => StQ (awr s2 l1 0 [(.int .u64 (IntKind.wrap .u64 (IntKind.wrap .i64 (a2 - a1))))]) fun s3 => ACalls Try.prog F_slices_nextPowerOfTwo [(.int .i64 (IntKind.wrap .i64 (a2 - a1)))] s3 fun v4 s5 => ∃ n6 : Int, v4 = .int .u64 n6 ∧ (NZ 4 (LoopQ fun I7 m8 => I7 m8 [(.int .i64 (IntKind.wrap .i64 ((IntKind.wrap .i64 (a1 + (IntKind.wrap .i64 ((IntKind.wrap .i64 (Int.tdiv (IntKind.wrap .i64 (a2 - a1)) 4)) * 2)))) - 1)))] s5 ∧
 ∀ m9 : Nat, ∀ n10 : Int, ∀ s11 : AS, I7 m9 [(.int .i64 n10)] s11 →
 NZ 4 (bsplit (decide ((n10 : Int) ≤ (IntKind.wrap .i64 ((IntKind.wrap .i64 (a1 + (IntKind.wrap .i64 ((IntKind.wrap .i64 (Int.tdiv (IntKind.wrap .i64 (a2 - a1)) 4)) * 2)))) + 1))))
 (ACalls Try.prog F_slices_xorshift_Next [(.ptr (some (l1, 0)))] s11 fun v12 s13 => ∃ n14 : Int, v12 = .int .u64 n14 ∧ (RdA (abinInt .and .u64 n14 (IntKind.wrap .u64 (n6 - 1))) fun v15 => AsInt v15 fun n16 => JoinQ fun J17 =>
 (∀ n18 : Int, ∀ s19 : AS, J17 [(.int .i64 n18)] s19 →
 IxQ (aindexAddr T E.ys a0 (.int .i64 (IntKind.wrap .i64 (a1 + n18)))) fun l20 o21 => RdL (rdc s19 l20 o21 E.w) fun g22 => IxQ (aindexAddr T E.ys a0 (.int .i64 n10)) fun l23 o24 => RdL (rdc s19 l23 o24 E.w) fun g25 => IxQ (aindexAddr T E.ys a0 (.int .i64 n10)) fun l26 o27 => OkC (some E.w) g22 (StQ (awr s19 l26 o27 g22) fun s28 => IxQ (aindexAddr T E.ys a0 (.int .i64 (IntKind.wrap .i64 (a1 + n18)))) fun l29 o30 => OkC (some E.w) g25 (StQ (awr s28 l29 o30 g25) fun s31 => ∃ m', m' < m9 ∧ I7 m' [(.int .i64 (IntKind.wrap .i64 (n10 + 1)))] s31))) ∧
 (bsplit (decide ((IntKind.wrap .i64 n16 : Int) ≥ (IntKind.wrap .i64 (a2 - a1))))
 (J17 [(.int .i64 (IntKind.wrap .i64 ((IntKind.wrap .i64 n16) - (IntKind.wrap .i64 (a2 - a1)))))] s13)
 (J17 [(.int .i64 (IntKind.wrap .i64 n16))] s13))))
 (R (.tup []) s11)))))
 (R (.tup []) s)
def A_breakPatternsCmpFunc : QA := (.seq .leaf (.seq .leaf (.cond (.seq .leaf (.seq .leaf (.seq .leaf (.wrap (.loop [(11, .int .i64)] [(11, 12), (28, 66)] (.seq (.seq .leaf (.cond .leaf .leaf)) (.seq (.wrap (.seq .leaf (.join [(12, .int .i64)] [(12, 12), (43, 48)] (.seq .leaf (.cond .leaf .leaf)) .calm))) .leaf))))))) .leaf)))
class SQ (E : SE) : Prop where
 q_SortFunc : ∀ (a0 : AV) (a1 : AV) (s : AS) (R : AV → AS → Prop), Q_SortFunc E a0 a1 s R → ACalls Try.prog E.F_SortFunc [a0, a1] s R
 q_pdqsortCmpFunc : ∀ (a0 : AV) (a1 : Int) (a2 : Int) (a3 : Int) (a4 : AV) (s : AS) (R : AV → AS → Prop), Q_pdqsortCmpFunc E a0 a1 a2 a3 a4 s R → ACalls Try.prog E.F_pdqsortCmpFunc [a0, (.int .i64 a1), (.int .i64 a2), (.int .i64 a3), a4] s R
 q_insertionSortCmpFunc : ∀ (a0 : AV) (a1 : Int) (a2 : Int) (a3 : AV) (s : AS) (R : AV → AS → Prop), Q_insertionSortCmpFunc E a0 a1 a2 a3 s R → ACalls Try.prog E.F_insertionSortCmpFunc [a0, (.int .i64 a1), (.int .i64 a2), a3] s R
 q_heapSortCmpFunc : ∀ (a0 : AV) (a1 : Int) (a2 : Int) (a3 : AV) (s : AS) (R : AV → AS → Prop), Q_heapSortCmpFunc E a0 a1 a2 a3 s R → ACalls Try.prog E.F_heapSortCmpFunc [a0, (.int .i64 a1), (.int .i64 a2), a3] s R
 q_choosePivotCmpFunc : ∀ (a0 : AV) (a1 : Int) (a2 : Int) (a3 : AV) (s : AS) (R : AV → AS → Prop), Q_choosePivotCmpFunc E a0 a1 a2 a3 s R → ACalls Try.prog E.F_choosePivotCmpFunc [a0, (.int .i64 a1), (.int .i64 a2), a3] s R
 q_reverseRangeCmpFunc : ∀ (a0 : AV) (a1 : Int) (a2 : Int) (a3 : AV) (s : AS) (R : AV → AS → Prop), Q_reverseRangeCmpFunc E a0 a1 a2 a3 s R → ACalls Try.prog E.F_reverseRangeCmpFunc [a0, (.int .i64 a1), (.int .i64 a2), a3] s R
 q_partialInsertionSortCmpFunc : ∀ (a0 : AV) (a1 : Int) (a2 : Int) (a3 : AV) (s : AS) (R : AV → AS → Prop), Q_partialInsertionSortCmpFunc E a0 a1 a2 a3 s R → ACalls Try.prog E.F_partialInsertionSortCmpFunc [a0, (.int .i64 a1), (.int .i64 a2), a3] s R
 q_partitionEqualCmpFunc : ∀ (a0 : AV) (a1 : Int) (a2 : Int) (a3 : Int) (a4 : AV) (s : AS) (R : AV → AS → Prop), Q_partitionEqualCmpFunc E a0 a1 a2 a3 a4 s R → ACalls Try.prog E.F_partitionEqualCmpFunc [a0, (.int .i64 a1), (.int .i64 a2), (.int .i64 a3), a4] s R
 q_partitionCmpFunc : ∀ (a0 : AV) (a1 : Int) (a2 : Int) (a3 : Int) (a4 : AV) (s : AS) (R : AV → AS → Prop), Q_partitionCmpFunc E a0 a1 a2 a3 a4 s R → ACalls Try.prog E.F_partitionCmpFunc [a0, (.int .i64 a1), (.int .i64 a2), (.int .i64 a3), a4] s R
 q_siftDownCmpFunc : ∀ (a0 : AV) (a1 : Int) (a2 : Int) (a3 : Int) (a4 : AV) (s : AS) (R : AV → AS → Prop), Q_siftDownCmpFunc E a0 a1 a2 a3 a4 s R → ACalls Try.prog E.F_siftDownCmpFunc [a0, (.int .i64 a1), (.int .i64 a2), (.int .i64 a3), a4] s R
 q_medianAdjacentCmpFunc : ∀ (a0 : AV) (a1 : Int) (a2 : Option (Nat × Nat)) (a3 : AV) (s : AS) (R : AV → AS → Prop), Q_medianAdjacentCmpFunc E a0 a1 a2 a3 s R → ACalls Try.prog E.F_medianAdjacentCmpFunc [a0, (.int .i64 a1), (.ptr a2), a3] s R
 q_medianCmpFunc : ∀ (a0 : AV) (a1 : Int) (a2 : Int) (a3 : Int) (a4 : Option (Nat × Nat)) (a5 : AV) (s : AS) (R : AV → AS → Prop), Q_medianCmpFunc E a0 a1 a2 a3 a4 a5 s R → ACalls Try.prog E.F_medianCmpFunc [a0, (.int .i64 a1), (.int .i64 a2), (.int .i64 a3), (.ptr a4), a5] s R
 q_order2CmpFunc : ∀ (a0 : AV) (a1 : Int) (a2 : Int) (a3 : Option (Nat × Nat)) (a4 : AV) (s : AS) (R : AV → AS → Prop), Q_order2CmpFunc E a0 a1 a2 a3 a4 s R → ACalls Try.prog E.F_order2CmpFunc [a0, (.int .i64 a1), (.int .i64 a2), (.ptr a3), a4] s R
 q_breakPatternsCmpFunc : ∀ (a0 : AV) (a1 : Int) (a2 : Int) (a3 : AV) (s : AS) (R : AV → AS → Prop), Q_breakPatternsCmpFunc E a0 a1 a2 a3 s R → ACalls Try.prog E.F_breakPatternsCmpFunc [a0, (.int .i64 a1), (.int .i64 a2), a3] s R
end Go.Proofs.Ytoklmpkpeanloaa.SG
end

section
set_option maxRecDepth 100000
set_option maxHeartbeats 4000000
namespace Go.Proofs.Ytoklmpkpeanloaa
open Go.Am
def Q_ctx_New  (s : AS) (R : AV → AS → Prop) : Prop :=
 RdG (abuild T Y_ctx_Ctx [(2, (.bool true))]) fun g1 => One1 g1 (NewQ (.cells g1 0 false) s fun l2 s3 => R (.ptr (some (l2, 0))) s3)
def A_ctx_New : QA := (.seq .leaf (.seq .leaf .leaf))
theorem q_ctx_New  (s : AS) (R : AV → AS → Prop) (h : Q_ctx_New  s R) : ACalls Try.prog F_ctx_New [] s R :=
 ACalls.q (n := 3) (rs := [.tmp 0]) (A := A_ctx_New) hT hmx Try.func52 (by kernel_rfl) rfl rfl rfl (by kernel_rfl) (by kernel_rfl) h
def Q_ctx_Ctx_Add (a0 : Option (Nat × Nat)) (a1 : List AV) (s : AS) (R : AV → AS → Prop) : Prop :=
 One1 a1 (NewQ (.cells a1 0 false) s fun l1 s2 => ACalls Try.prog F_ctx_Ctx_there [(.ptr a0)] s2 fun v3 s4 => ∃ b5 : Bool, v3 = .bool b5 ∧ (bsplit (!b5)
 (R (.tup [(.bool false), (.int .i64 1)]) s4)
 (RdL (rdc s4 l1 0 2) fun g6 => ACalls Try.prog F_ctx_May [(.agg g6)] s4 fun v7 s8 => ∃ b9 : Bool, v7 = .bool b9 ∧ (bsplit (!b9)
 (R (.tup [(.bool false), (.int .i64 2)]) s8)
 (RdL (rdc s8 l1 0 2) fun g10 => ACalls Try.prog F_ctx_Ctx_Has [(.ptr a0), (.agg g10)] s8 fun v11 s12 => ∃ b13 : Bool, v11 = .bool b13 ∧ (bsplit b13
 (R (.tup [(.bool false), (.int .i64 0)]) s12)
 (AsSome a0 fun l14 o15 => RdL (rdc s12 l14 o15 18) fun g16 => NewQ (.cells [.int .u64 0, .int .u64 0, .int .u64 0, .int .u64 0, .int .u64 0, .int .u64 0, .int .u64 0, .int .u64 0, .int .u64 0, .int .u64 0, .int .u64 0, .int .u64 0, .int .u64 0, .int .u64 0, .int .u64 0, .int .u64 0, .slc none 0 0 true, .bool false] 0 false) s12 fun l17 s18 => OkC (some 18) g16 (StQ (awr s18 l17 0 g16) fun s19 => DrawQ fun S V => AsSome a0 fun l20 o21 => RdA (rd1 s19 l20 (o21 + 16)) fun v22 => RdL (rdc s19 l1 0 2) fun g23 => (∀ s24 : AS, Ext s19 s24 → WFs s24 → (True) → ACalls Try.prog F_slices_BinarySearchFunc__s_Dot_Dot_Dot [v22, (.agg g23), (.func F_ctx_order [])] s24 fun v25 s26 => ∃ n27 : Int, ∃ b28 : Bool, v25 = .tup [(.int .i64 n27), (.bool b28)] ∧ ((Ext s24 s26 ∧ S 5 [(.func F_slices_BinarySearchFunc__s_Dot_Dot_Dot []), v22, (.agg g23), (.func F_ctx_order [])] (.tup [(.int .i64 n27), (.bool b28)]) s26 ∧ V 5 [(.func F_slices_BinarySearchFunc__s_Dot_Dot_Dot []), v22, (.agg g23), (.func F_ctx_order [])] (.tup [(.int .i64 n27), (.bool b28)])))) ∧ (∃ v, V 5 [(.func F_slices_BinarySearchFunc__s_Dot_Dot_Dot []), v22, (.agg g23), (.func F_ctx_order [])] v) ∧ ∀ v29 : AV, V 5 [(.func F_slices_BinarySearchFunc__s_Dot_Dot_Dot []), v22, (.agg g23), (.func F_ctx_order [])] v29 → ∃ n30 : Int, ∃ b31 : Bool, v29 = .tup [(.int .i64 n30), (.bool b31)] ∧ (∀ s32 : AS, Ext s19 s32 → WFs s32 → (S 5 [(.func F_slices_BinarySearchFunc__s_Dot_Dot_Dot []), v22, (.agg g23), (.func F_ctx_order [])] (.tup [(.int .i64 n30), (.bool b31)]) s32 ∧ True) → DrawQ fun S V => AsSome a0 fun l34 o35 => RdA (rd1 s32 l34 (o35 + 16)) fun v36 => (∀ s37 : AS, Ext s32 s37 → WFs s37 → (True) → ACalls Try.prog F_slices_Clone__s_Dot_Dot [v36] s37 fun v38 s39 => (Ext s37 s39 ∧ S 4 [(.func F_slices_Clone__s_Dot_Dot []), v36] v38 s39 ∧ V 4 [(.func F_slices_Clone__s_Dot_Dot []), v36] v38)) ∧ (∃ v, V 4 [(.func F_slices_Clone__s_Dot_Dot []), v36] v) ∧ ∀ v40 : AV, V 4 [(.func F_slices_Clone__s_Dot_Dot []), v36] v40 → RdL (rdc s32 l1 0 2) fun g41 => (∀ s42 : AS, Ext s32 s42 → WFs s42 → (True) → RdL (absl T Y_s_Dot 1 [(0, (.agg g41))]) fun g43 => NewQ (.cells g43 0 false) s42 fun l44 s45 => (Ext s42 s45 ∧ S 7 [(.agg g41)] (.slc (some (l44, 0)) 1 1 true) s45 ∧ V 7 [(.agg g41)] (.slc (some (l44, 0)) 1 1 true))) ∧ (∃ v, V 7 [(.agg g41)] v) ∧ ∀ v46 : AV, V 7 [(.agg g41)] v46 → ∀ s47 : AS, Ext s32 s47 → WFs s47 → (S 4 [(.func F_slices_Clone__s_Dot_Dot []), v36] v40 s47 ∧ (S 7 [(.agg g41)] v46 s47 ∧ True)) → ACalls Try.prog F_slices_Insert__s_Dot_Dot [v40, (.int .i64 n30), v46] s47 fun v49 s50 => qstore T Y_s_Dot s50 l17 16 v49 fun s51 => ACalls Try.prog F_ctx_Ctx_compact [(.ptr (some (l17, 0)))] s51 fun v52 s53 => v52 = .tup [] ∧ (RdA (rd1 s53 l17 16) fun v54 => RdI .i64 (alenB T Y_s_Dot v54 s53) fun n55 => bsplit (decide ((n55 : Int) > 4096))
 (R (.tup [(.bool false), (.int .i64 5)]) s53)
 (RdL (rdc s53 l17 0 18) fun g56 => AsSome a0 fun l57 o58 => OkC (some 18) g56 (StQ (awr s53 l57 o58 g56) fun s59 => R (.tup [(.bool true), (.int .i64 0)]) s59))))))))))))
def A_ctx_Ctx_Add : QA := (.seq .leaf (.seq (.wrap (.seq .leaf (.cond (.seq .leaf .leaf) (.seq .leaf (.cond (.seq .leaf .leaf) (.seq .leaf (.cond (.seq .leaf .leaf) .leaf))))))) (.seq .leaf (.seq (.drawH 10 [[], [], [], [], [], [], [], [], [], []] [5]) (.seq (.drawH 8 [[], [], [], [], [], [], [], []] [4, 7]) (.seq .leaf (.seq (.seq .leaf (.cond (.seq .leaf .leaf) .leaf)) (.seq .leaf (.seq .leaf .leaf)))))))))
theorem q_ctx_Ctx_Add (a0 : Option (Nat × Nat)) (a1 : List AV) (s : AS) (R : AV → AS → Prop) (h : Q_ctx_Ctx_Add a0 a1 s R) : ACalls Try.prog F_ctx_Ctx_Add [(.ptr a0), (.agg a1)] s R :=
 ACalls.q (n := 51) (rs := [.tmp 4, .tmp 5]) (A := A_ctx_Ctx_Add) hT hmx Try.func98 (by kernel_rfl) rfl rfl rfl (by kernel_rfl) (by kernel_rfl) h
def Q_ref04iMay (a0 : List AV) (s : AS) (R : AV → AS → Prop) : Prop :=
 One1 a0 (NewQ (.cells a0 0 false) s fun l1 s2 => RdI .i64 (rd1 s2 l1 0) fun n3 => bsplit (decide ((n3 : Int) ≥ 1)) (RdI .i64 (rd1 s2 l1 0) fun n4 => bsplit (decide ((n4 : Int) ≤ 16)) (RdI .u64 (rd1 s2 l1 1) fun n5 => bsplit (decide ((n5 : Int) ≥ 1)) (RdI .u64 (rd1 s2 l1 1) fun n6 => R (.bool (decide ((n6 : Int) ≤ 4611686018427387904))) s2) (R (.bool false) s2)) (R (.bool false) s2)) (R (.bool false) s2))
def A_ref04iMay : QA := (.seq .leaf (.seq .leaf .leaf))
theorem q_ref04iMay (a0 : List AV) (s : AS) (R : AV → AS → Prop) (h : Q_ref04iMay a0 s R) : ACalls Try.prog F_ref04iMay [(.agg a0)] s R :=
 ACalls.q (n := 21) (rs := [.tmp 2]) (A := A_ref04iMay) hT hmx Try.func103 (by kernel_rfl) rfl rfl rfl (by kernel_rfl) (by kernel_rfl) h
def Q_ctx_May (a0 : List AV) (s : AS) (R : AV → AS → Prop) : Prop :=
 One1 a0 (NewQ (.cells a0 0 false) s fun l1 s2 => RdI .i64 (rd1 s2 l1 0) fun n3 => bsplit (decide ((n3 : Int) ≥ 1)) (RdI .i64 (rd1 s2 l1 0) fun n4 => bsplit (decide ((n4 : Int) ≤ 16)) (RdI .u64 (rd1 s2 l1 1) fun n5 => bsplit (decide ((n5 : Int) ≥ 1)) (RdI .u64 (rd1 s2 l1 1) fun n6 => R (.bool (decide ((n6 : Int) ≤ 4611686018427387904))) s2) (R (.bool false) s2)) (R (.bool false) s2)) (R (.bool false) s2))
def A_ctx_May : QA := (.seq .leaf (.seq .leaf .leaf))
theorem q_ctx_May (a0 : List AV) (s : AS) (R : AV → AS → Prop) (h : Q_ctx_May a0 s R) : ACalls Try.prog F_ctx_May [(.agg a0)] s R :=
 ACalls.q (n := 21) (rs := [.tmp 2]) (A := A_ctx_May) hT hmx Try.func54 (by kernel_rfl) rfl rfl rfl (by kernel_rfl) (by kernel_rfl) h
def Q_ctx_Ctx_Has (a0 : Option (Nat × Nat)) (a1 : List AV) (s : AS) (R : AV → AS → Prop) : Prop :=
 One1 a1 (NewQ (.cells a1 0 false) s fun l1 s2 => ACalls Try.prog F_ctx_Ctx_there [(.ptr a0)] s2 fun v3 s4 => ∃ b5 : Bool, v3 = .bool b5 ∧ (bsplit (!b5) (R (.bool false) s4) (RdL (rdc s4 l1 0 2) fun g6 => ACalls Try.prog F_ctx_May [(.agg g6)] s4 fun v7 s8 => ∃ b9 : Bool, v7 = .bool b9 ∧ (bsplit (!b9)
 (R (.bool false) s8)
 (DrawQ fun S V => AsSome a0 fun l10 o11 => RdA (rd1 s8 l10 (o11 + 16)) fun v12 => RdL (rdc s8 l1 0 2) fun g13 => (∀ s14 : AS, Ext s8 s14 → WFs s14 → (True) → ACalls Try.prog F_slices_BinarySearchFunc__s_Dot_Dot_Dot [v12, (.agg g13), (.func F_ctx_order [])] s14 fun v15 s16 => ∃ n17 : Int, ∃ b18 : Bool, v15 = .tup [(.int .i64 n17), (.bool b18)] ∧ ((Ext s14 s16 ∧ S 5 [(.func F_slices_BinarySearchFunc__s_Dot_Dot_Dot []), v12, (.agg g13), (.func F_ctx_order [])] (.tup [(.int .i64 n17), (.bool b18)]) s16 ∧ V 5 [(.func F_slices_BinarySearchFunc__s_Dot_Dot_Dot []), v12, (.agg g13), (.func F_ctx_order [])] (.tup [(.int .i64 n17), (.bool b18)])))) ∧ (∃ v, V 5 [(.func F_slices_BinarySearchFunc__s_Dot_Dot_Dot []), v12, (.agg g13), (.func F_ctx_order [])] v) ∧ ∀ v19 : AV, V 5 [(.func F_slices_BinarySearchFunc__s_Dot_Dot_Dot []), v12, (.agg g13), (.func F_ctx_order [])] v19 → ∃ n20 : Int, ∃ b21 : Bool, v19 = .tup [(.int .i64 n20), (.bool b21)] ∧ (∀ s22 : AS, Ext s8 s22 → WFs s22 → (S 5 [(.func F_slices_BinarySearchFunc__s_Dot_Dot_Dot []), v12, (.agg g13), (.func F_ctx_order [])] (.tup [(.int .i64 n20), (.bool b21)]) s22 ∧ True) → bsplit b21 (R (.bool true) s22) (RdI .u64 (rd1 s22 l1 1) fun n24 => RdI .i64 (rd1 s22 l1 0) fun n25 => AsSome a0 fun l26 o27 => IxQ (aindexAddr T Y_Vector (.ptr (some (l26, o27))) (.int .i64 (IntKind.wrap .i64 (n25 - 1)))) fun l28 o29 => RdI .u64 (rd1 s22 l28 o29) fun n30 => R (.bool (decide ((n24 : Int) ≤ n30))) s22)))))))
def A_ctx_Ctx_Has : QA := (.seq .leaf (.seq (.seq .leaf (.cond (.seq .leaf .leaf) .leaf)) (.seq (.drawH 10 [[], [], [], [], [], [], [], [], [], []] [5]) (.seq (.draw 12) .leaf))))
theorem q_ctx_Ctx_Has (a0 : Option (Nat × Nat)) (a1 : List AV) (s : AS) (R : AV → AS → Prop) (h : Q_ctx_Ctx_Has a0 a1 s R) : ACalls Try.prog F_ctx_Ctx_Has [(.ptr a0), (.agg a1)] s R :=
 ACalls.q (n := 38) (rs := [.tmp 4]) (A := A_ctx_Ctx_Has) hT hmx Try.func55 (by kernel_rfl) rfl rfl rfl (by kernel_rfl) (by kernel_rfl) h
def Q_ctx_Ctx_Vector (a0 : Option (Nat × Nat)) (s : AS) (R : AV → AS → Prop) : Prop :=
 NewQ (.cells [.int .u64 0, .int .u64 0, .int .u64 0, .int .u64 0, .int .u64 0, .int .u64 0, .int .u64 0, .int .u64 0, .int .u64 0, .int .u64 0, .int .u64 0, .int .u64 0, .int .u64 0, .int .u64 0, .int .u64 0, .int .u64 0] 0 false) s fun l1 s2 => ACalls Try.prog F_ctx_Ctx_there [(.ptr a0)] s2 fun v3 s4 => ∃ b5 : Bool, v3 = .bool b5 ∧ (bsplit (!b5)
 (RdG (abuild T Y_Vector []) fun g6 => OkC (some 16) g6 (StQ (awr s4 l1 0 g6) fun s7 => RdL (rdc s7 l1 0 16) fun g8 => R (.agg g8) s7))
 (AsSome a0 fun l9 o10 => RdL (rdc s4 l9 o10 16) fun g11 => OkC (some 16) g11 (StQ (awr s4 l1 0 g11) fun s12 => RdL (rdc s12 l1 0 16) fun g13 => R (.agg g13) s12)))
def A_ctx_Ctx_Vector : QA := (.seq .leaf (.seq (.seq .leaf (.cond (.seq .leaf .leaf) .leaf)) (.seq .leaf .leaf)))
theorem q_ctx_Ctx_Vector (a0 : Option (Nat × Nat)) (s : AS) (R : AV → AS → Prop) (h : Q_ctx_Ctx_Vector a0 s R) : ACalls Try.prog F_ctx_Ctx_Vector [(.ptr a0)] s R :=
 ACalls.q (n := 11) (rs := [.cell 2 62]) (A := A_ctx_Ctx_Vector) hT hmx Try.func40 (by kernel_rfl) rfl rfl rfl (by kernel_rfl) (by kernel_rfl) h
def Q_ctx_Ctx_Extra (a0 : Option (Nat × Nat)) (s : AS) (R : AV → AS → Prop) : Prop :=
 ACalls Try.prog F_ctx_Ctx_there [(.ptr a0)] s fun v1 s2 => ∃ b3 : Bool, v1 = .bool b3 ∧ (bsplit (!b3)
 (R (.slc none 0 0 true) s2)
 (AsSome a0 fun l4 o5 => RdA (rd1 s2 l4 (o5 + 16)) fun v6 => ACalls Try.prog F_slices_Clone__s_Dot_Dot [v6] s2 fun v7 s8 => R v7 s8))
def A_ctx_Ctx_Extra : QA := (.seq .leaf (.seq (.seq .leaf (.cond (.seq .leaf .leaf) .leaf)) (.seq .leaf .leaf)))
theorem q_ctx_Ctx_Extra (a0 : Option (Nat × Nat)) (s : AS) (R : AV → AS → Prop) (h : Q_ctx_Ctx_Extra a0 s R) : ACalls Try.prog F_ctx_Ctx_Extra [(.ptr a0)] s R :=
 ACalls.q (n := 11) (rs := [.tmp 2]) (A := A_ctx_Ctx_Extra) hT hmx Try.func41 (by kernel_rfl) rfl rfl rfl (by kernel_rfl) (by kernel_rfl) h
def Q_ctx_Ctx_Copy (a0 : Option (Nat × Nat)) (s : AS) (R : AV → AS → Prop) : Prop :=
 ACalls Try.prog F_ctx_Ctx_there [(.ptr a0)] s fun v1 s2 => ∃ b3 : Bool, v1 = .bool b3 ∧ (bsplit (!b3)
 (R (.ptr none) s2)
 (DrawQ fun S V => AsSome a0 fun l4 o5 => RdL (rdc s2 l4 o5 16) fun g6 => AsSome a0 fun l7 o8 => RdA (rd1 s2 l7 (o8 + 16)) fun v9 => (∀ s10 : AS, Ext s2 s10 → WFs s10 → (True) → ACalls Try.prog F_slices_Clone__s_Dot_Dot [v9] s10 fun v11 s12 => (Ext s10 s12 ∧ S 8 [(.func F_slices_Clone__s_Dot_Dot []), v9] v11 s12 ∧ V 8 [(.func F_slices_Clone__s_Dot_Dot []), v9] v11)) ∧ (∃ v, V 8 [(.func F_slices_Clone__s_Dot_Dot []), v9] v) ∧ ∀ v13 : AV, V 8 [(.func F_slices_Clone__s_Dot_Dot []), v9] v13 → ∀ s14 : AS, Ext s2 s14 → WFs s14 → (S 8 [(.func F_slices_Clone__s_Dot_Dot []), v9] v13 s14 ∧ True) → RdG (abuild T Y_ctx_Ctx [(0, (.agg g6)), (1, v13), (2, (.bool true))]) fun g16 => One1 g16 (NewQ (.cells g16 0 false) s14 fun l17 s18 => R (.ptr (some (l17, 0))) s18)))
def A_ctx_Ctx_Copy : QA := (.seq .leaf (.seq (.seq .leaf (.cond (.seq .leaf .leaf) .leaf)) (.seq (.drawH 9 [[], [], [], [], [], [], [], [], []] [8]) .leaf)))
theorem q_ctx_Ctx_Copy (a0 : Option (Nat × Nat)) (s : AS) (R : AV → AS → Prop) (h : Q_ctx_Ctx_Copy a0 s R) : ACalls Try.prog F_ctx_Ctx_Copy [(.ptr a0)] s R :=
 ACalls.q (n := 17) (rs := [.tmp 2]) (A := A_ctx_Ctx_Copy) hT hmx Try.func66 (by kernel_rfl) rfl rfl rfl (by kernel_rfl) (by kernel_rfl) h
def Q_ctx_Ctx_there (a0 : Option (Nat × Nat)) (s : AS) (R : AV → AS → Prop) : Prop :=
 RdO (aeq T 100 Y_p_ctx_Ctx (.ptr a0) (.ptr none)) fun b1 => bsplit (!b1) (AsSome a0 fun l2 o3 => RdB (rd1 s l2 (o3 + 17)) fun b4 => R (.bool b4) s) (R (.bool false) s)
def A_ctx_Ctx_there : QA := (.seq .leaf (.seq .leaf .leaf))
theorem q_ctx_Ctx_there (a0 : Option (Nat × Nat)) (s : AS) (R : AV → AS → Prop) (h : Q_ctx_Ctx_there a0 s R) : ACalls Try.prog F_ctx_Ctx_there [(.ptr a0)] s R :=
 ACalls.q (n := 11) (rs := [.tmp 2]) (A := A_ctx_Ctx_there) hT hmx Try.func67 (by kernel_rfl) rfl rfl rfl (by kernel_rfl) (by kernel_rfl) h
def Q_slices_BinarySearchFunc__s_Dot_Dot_Dot (a0 : AV) (a1 : List AV) (a2 : AV) (s : AS) (R : AV → AS → Prop) : Prop :=
 One1 a1 (NewQ (.cells a1 0 false) s fun l1 s2 => RdI .i64 (alenB T Y_s_Dot a0 s2) fun n3 => JoinQ fun J4 =>
 (∀ n5 : Int, ∀ s6 : AS, J4 [(.int .i64 n5)] s6 →
 DrawQ fun S V => bsplit (decide ((n5 : Int) < n3)) (IxQ (aindexAddr T Y_s_Dot a0 (.int .i64 n5)) fun l7 o8 => RdL (rdc s6 l7 o8 2) fun g9 => RdL (rdc s6 l1 0 2) fun g10 => (∀ s11 : AS, Ext s6 s11 → WFs s11 → (True) → ACallV Try.prog a2 [(.agg g9), (.agg g10)] s11 fun v12 s13 => ∃ n14 : Int, v12 = .int .i64 n14 ∧ ((Ext s11 s13 ∧ S 11 [a2, (.agg g9), (.agg g10)] (.int .i64 n14) s13 ∧ V 11 [a2, (.agg g9), (.agg g10)] (.int .i64 n14)))) ∧ (∃ v, V 11 [a2, (.agg g9), (.agg g10)] v) ∧ ∀ v15 : AV, V 11 [a2, (.agg g9), (.agg g10)] v15 → ∃ n16 : Int, v15 = .int .i64 n16 ∧ (∀ s17 : AS, Ext s6 s17 → WFs s17 → (S 11 [a2, (.agg g9), (.agg g10)] (.int .i64 n16) s17 ∧ True) → R (.tup [(.int .i64 n5), (.bool ((n16 : Int) == 0))]) s17)) (∀ s19 : AS, Ext s6 s19 → WFs s19 → (True) → R (.tup [(.int .i64 n5), (.bool false)]) s19)) ∧
 (LoopQ fun I21 m22 => I21 m22 [(.int .i64 0), (.int .i64 n3)] s2 ∧
 ∀ m23 : Nat, ∀ n24 : Int, ∀ n25 : Int, ∀ s26 : AS, I21 m23 [(.int .i64 n24), (.int .i64 n25)] s26 →
 bsplit (decide ((n24 : Int) < n25))
 (NN 1 (IxQ (aindexAddr T Y_s_Dot a0 (.int .i64 (IntKind.wrap .i64 (Int.fdiv (IntKind.wrap .u64 (IntKind.wrap .i64 (n24 + n25))) (2 ^ min (Int.toNat 1) (IntKind.bits .u64)))))) fun l27 o28 => RdL (rdc s26 l27 o28 2) fun g29 => RdL (rdc s26 l1 0 2) fun g30 => ACallV Try.prog a2 [(.agg g29), (.agg g30)] s26 fun v31 s32 => ∃ n33 : Int, v31 = .int .i64 n33 ∧ (bsplit (decide ((n33 : Int) < 0))
 (∃ m', m' < m23 ∧ I21 m' [(.int .i64 (IntKind.wrap .i64 ((IntKind.wrap .i64 (Int.fdiv (IntKind.wrap .u64 (IntKind.wrap .i64 (n24 + n25))) (2 ^ min (Int.toNat 1) (IntKind.bits .u64)))) + 1))), (.int .i64 n25)] s32)
 (∃ m', m' < m23 ∧ I21 m' [(.int .i64 n24), (.int .i64 (IntKind.wrap .i64 (Int.fdiv (IntKind.wrap .u64 (IntKind.wrap .i64 (n24 + n25))) (2 ^ min (Int.toNat 1) (IntKind.bits .u64)))))] s32))))
 (J4 [(.int .i64 n24)] s26)))
def A_slices_BinarySearchFunc__s_Dot_Dot_Dot : QA := (.seq .leaf (.seq .leaf (.seq .leaf (.join [(9, .int .i64)] [(9, 11), (15, 34)] (.wrap (.loop [(9, .int .i64), (10, .int .i64)] [(9, 11), (15, 34)] (.seq (.seq .leaf (.cond .leaf .leaf)) (.wrap (.seq .leaf (.seq (.draw 6) (.cond .leaf .leaf))))))) (.seq (.drawH 15 [[], [], [], [], [], [], [], [], [], [], [], [], [], [], []] [11]) .leaf)))))
theorem q_slices_BinarySearchFunc__s_Dot_Dot_Dot (a0 : AV) (a1 : List AV) (a2 : AV) (s : AS) (R : AV → AS → Prop) (h : Q_slices_BinarySearchFunc__s_Dot_Dot_Dot a0 a1 a2 s R) : ACalls Try.prog F_slices_BinarySearchFunc__s_Dot_Dot_Dot [a0, (.agg a1), a2] s R :=
 ACalls.q (n := 49) (rs := [.tmp 6, .tmp 7]) (A := A_slices_BinarySearchFunc__s_Dot_Dot_Dot) hT hmx Try.func93 (by kernel_rfl) rfl rfl rfl (by kernel_rfl) (by kernel_rfl) h
def Q_ctx_order (a0 : List AV) (a1 : List AV) (s : AS) (R : AV → AS → Prop) : Prop :=
 One1 a0 (NewQ (.cells a0 0 false) s fun l1 s2 => One1 a1 (NewQ (.cells a1 0 false) s2 fun l3 s4 => DrawQ fun S V => RdI .i64 (rd1 s4 l1 0) fun n5 => RdI .i64 (rd1 s4 l3 0) fun n6 => (∀ s7 : AS, Ext s4 s7 → WFs s7 → (True) → ACalls Try.prog F_cmp_Compare__int [(.int .i64 n5), (.int .i64 n6)] s7 fun v8 s9 => ∃ n10 : Int, v8 = .int .i64 n10 ∧ ((Ext s7 s9 ∧ S 4 [(.func F_cmp_Compare__int []), (.int .i64 n5), (.int .i64 n6)] (.int .i64 n10) s9 ∧ V 4 [(.func F_cmp_Compare__int []), (.int .i64 n5), (.int .i64 n6)] (.int .i64 n10)))) ∧ (∃ v, V 4 [(.func F_cmp_Compare__int []), (.int .i64 n5), (.int .i64 n6)] v) ∧ ∀ v11 : AV, V 4 [(.func F_cmp_Compare__int []), (.int .i64 n5), (.int .i64 n6)] v11 → ∃ n12 : Int, v11 = .int .i64 n12 ∧ (RdI .u64 (rd1 s4 l1 1) fun n13 => RdI .u64 (rd1 s4 l3 1) fun n14 => ∀ s15 : AS, Ext s4 s15 → WFs s15 → (S 4 [(.func F_cmp_Compare__int []), (.int .i64 n5), (.int .i64 n6)] (.int .i64 n12) s15 ∧ True) → ACalls Try.prog F_cmp_Compare__uint64 [(.int .u64 n13), (.int .u64 n14)] s15 fun v17 s18 => ∃ n19 : Int, v17 = .int .i64 n19 ∧ (RdL (absl T Y_s_int 2 [(0, (.int .i64 n12)), (1, (.int .i64 n19))]) fun g20 => NewQ (.cells g20 0 false) s18 fun l21 s22 => ACalls Try.prog F_cmp_Or__int [(.slc (some (l21, 0)) 2 2 true)] s22 fun v23 s24 => ∃ n25 : Int, v23 = .int .i64 n25 ∧ (R (.int .i64 n25) s24)))))
def A_ctx_order : QA := (.seq .leaf (.seq (.drawH 9 [[], [], [], [], [], [], [], [], []] [4]) .leaf))
theorem q_ctx_order (a0 : List AV) (a1 : List AV) (s : AS) (R : AV → AS → Prop) (h : Q_ctx_order a0 a1 s R) : ACalls Try.prog F_ctx_order [(.agg a0), (.agg a1)] s R :=
 ACalls.q (n := 17) (rs := [.tmp 4]) (A := A_ctx_order) hT hmx Try.func94 (by kernel_rfl) rfl rfl rfl (by kernel_rfl) (by kernel_rfl) h
def Q_slices_Insert__s_Dot_Dot (a0 : AV) (a1 : Int) (a2 : AV) (s : AS) (R : AV → AS → Prop) : Prop :=
 RdA (aslice T Y_s_Dot a0 (some (.int .i64 a1)) none none) fun v1 => RdI .i64 (alenB T Y_s_Dot a2 s) fun n2 => bsplit ((n2 : Int) == 0)
 (R a0 s)
 (RdI .i64 (alenB T Y_s_Dot a0 s) fun n3 => bsplit ((a1 : Int) == n3)
 (Bd2 (aappend T Y_s_Dot Y_s_Dot a0 a2 s) fun v4 s5 => R v4 s5)
 (RdI .i64 (acapB T Y_s_Dot a0) fun n6 => bsplit (decide ((IntKind.wrap .i64 (n3 + n2) : Int) > n6))
 (RdA (aslice T Y_s_Dot a0 none (some (.int .i64 a1)) none) fun v7 => Bd2 (aappend T Y_s_Dot Y_int v7 (.int .i64 (IntKind.wrap .i64 ((IntKind.wrap .i64 (n3 + n2)) - a1))) s) fun v8 s9 => RdA (aslice T Y_s_Dot v8 (some (.int .i64 a1)) none none) fun v10 => Bd2 (acopy T Y_s_Dot v10 a2 s9) fun v11 s12 => RdA (aslice T Y_s_Dot v8 (some (.int .i64 (IntKind.wrap .i64 (a1 + n2)))) none none) fun v13 => RdA (aslice T Y_s_Dot a0 (some (.int .i64 a1)) none none) fun v14 => Bd2 (acopy T Y_s_Dot v13 v14 s12) fun v15 s16 => R v8 s16)
 (RdA (aslice T Y_s_Dot a0 none (some (.int .i64 (IntKind.wrap .i64 (n3 + n2)))) none) fun v17 => RdA (aslice T Y_s_Dot v17 (some (.int .i64 (IntKind.wrap .i64 (a1 + n2)))) none none) fun v18 => ACalls Try.prog F_slices_overlaps__Dot [a2, v18] s fun v19 s20 => ∃ b21 : Bool, v19 = .bool b21 ∧ (bsplit (!b21)
 (RdA (aslice T Y_s_Dot v17 (some (.int .i64 (IntKind.wrap .i64 (a1 + n2)))) none none) fun v22 => RdA (aslice T Y_s_Dot v17 (some (.int .i64 a1)) none none) fun v23 => Bd2 (acopy T Y_s_Dot v22 v23 s20) fun v24 s25 => RdA (aslice T Y_s_Dot v17 (some (.int .i64 a1)) none none) fun v26 => Bd2 (acopy T Y_s_Dot v26 a2 s25) fun v27 s28 => R v17 s28)
 (RdA (aslice T Y_s_Dot v17 (some (.int .i64 n3)) none none) fun v29 => Bd2 (acopy T Y_s_Dot v29 a2 s20) fun v30 s31 => RdA (aslice T Y_s_Dot v17 (some (.int .i64 a1)) none none) fun v32 => ACalls Try.prog F_slices_rotateRight__Dot [v32, (.int .i64 n2)] s31 fun v33 s34 => v33 = .tup [] ∧ (R v17 s34))))))
def A_slices_Insert__s_Dot_Dot : QA := (.seq .leaf (.seq .leaf (.seq .leaf (.seq (.seq .leaf (.cond (.seq .leaf .leaf) .leaf)) (.seq .leaf (.seq (.seq .leaf (.cond (.seq .leaf .leaf) .leaf)) (.seq (.seq .leaf (.cond (.seq .leaf (.seq .leaf (.seq (.draw 8) (.seq .leaf .leaf)))) .leaf)) (.seq .leaf (.seq (.seq .leaf (.cond (.seq (.draw 8) (.seq .leaf (.seq .leaf .leaf))) .leaf)) (.seq .leaf (.seq .leaf (.seq .leaf .leaf))))))))))))
theorem q_slices_Insert__s_Dot_Dot (a0 : AV) (a1 : Int) (a2 : AV) (s : AS) (R : AV → AS → Prop) (h : Q_slices_Insert__s_Dot_Dot a0 a1 a2 s R) : ACalls Try.prog F_slices_Insert__s_Dot_Dot [a0, (.int .i64 a1), a2] s R :=
 ACalls.q (n := 95) (rs := [.tmp 6]) (A := A_slices_Insert__s_Dot_Dot) hT hmx Try.func113 (by kernel_rfl) rfl rfl rfl (by kernel_rfl) (by kernel_rfl) h
def Q_slices_Clone__s_Dot_Dot (a0 : AV) (s : AS) (R : AV → AS → Prop) : Prop :=
 RdO (eqQ T Y_s_Dot true a0 (.slc none 0 0 true)) fun b1 => bsplit b1
 (R (.slc none 0 0 true) s)
 (RdL (absl T Y_s_Dot 0 []) fun g2 => NewQ (.cells g2 0 false) s fun l3 s4 => Bd2 (aappend T Y_s_Dot Y_s_Dot (.slc (some (l3, 0)) 0 0 true) a0 s4) fun v5 s6 => R v5 s6)
def A_slices_Clone__s_Dot_Dot : QA := (.seq .leaf (.seq (.seq .leaf (.cond (.seq .leaf .leaf) .leaf)) (.seq .leaf .leaf)))
theorem q_slices_Clone__s_Dot_Dot (a0 : AV) (s : AS) (R : AV → AS → Prop) (h : Q_slices_Clone__s_Dot_Dot a0 s R) : ACalls Try.prog F_slices_Clone__s_Dot_Dot [a0] s R :=
 ACalls.q (n := 8) (rs := [.tmp 2]) (A := A_slices_Clone__s_Dot_Dot) hT hmx Try.func82 (by kernel_rfl) rfl rfl rfl (by kernel_rfl) (by kernel_rfl) h
def Q_ctx_Ctx_compact (a0 : Option (Nat × Nat)) (s : AS) (R : AV → AS → Prop) : Prop :=
 JoinQ fun J1 =>
 (∀ v2 : AV, ∀ s3 : AS, J1 [v2] s3 →
 AsSome a0 fun l4 o5 => qstore T Y_s_Dot s3 l4 (o5 + 16) v2 fun s6 => R (.tup []) s6) ∧
 (AsSome a0 fun l7 o8 => RdA (rd1 s l7 (o8 + 16)) fun v9 => RdI .i64 (alenB T Y_s_Dot v9 s) fun n10 => LoopQ fun I11 m12 => I11 m12 [(.slc none 0 0 true), (.int .i64 0)] s ∧
 ∀ m13 : Nat, ∀ v14 : AV, ∀ n15 : Int, ∀ s16 : AS, I11 m13 [v14, (.int .i64 n15)] s16 →
 bsplit (decide ((n15 : Int) < n10))
 (IxQ (aindexAddr T Y_s_Dot v9 (.int .i64 n15)) fun l17 o18 => RdL (rdc s16 l17 o18 2) fun g19 => NewQ (.cells [.int .i64 0, .int .u64 0] 0 false) s16 fun l20 s21 => OkC (some 2) g19 (StQ (awr s21 l20 0 g19) fun s22 => RdI .i64 (rd1 s22 l20 0) fun n23 => AsSome a0 fun l24 o25 => IxQ (aindexAddr T Y_Vector (.ptr (some (l24, o25))) (.int .i64 (IntKind.wrap .i64 (n23 - 1)))) fun l26 o27 => RdI .u64 (rd1 s22 l20 1) fun n28 => RdI .u64 (rd1 s22 l26 o27) fun n29 => bsplit (decide ((n28 : Int) ≤ n29))
 (∃ m', m' < m13 ∧ I11 m' [v14, (.int .i64 (IntKind.wrap .i64 (n15 + 1)))] s22)
 (RdI .u64 (rd1 s22 l20 1) fun n30 => RdI .u64 (rd1 s22 l26 o27) fun n31 => bsplit ((n30 : Int) == (IntKind.wrap .u64 (n31 + 1)))
 (RdI .u64 (rd1 s22 l20 1) fun n32 => StQ (awr s22 l26 o27 [(.int .u64 n32)]) fun s33 => ∃ m', m' < m13 ∧ I11 m' [v14, (.int .i64 (IntKind.wrap .i64 (n15 + 1)))] s33)
 (RdL (rdc s22 l20 0 2) fun g34 => RdL (absl T Y_s_Dot 1 [(0, (.agg g34))]) fun g35 => NewQ (.cells g35 0 false) s22 fun l36 s37 => Bd2 (aappend T Y_s_Dot Y_s_Dot v14 (.slc (some (l36, 0)) 1 1 true) s37) fun v38 s39 => ∃ m', m' < m13 ∧ I11 m' [v38, (.int .i64 (IntKind.wrap .i64 (n15 + 1)))] s39))))
 (J1 [v14] s16))
def A_ctx_Ctx_compact : QA := (.wrap (.seq .leaf (.seq .leaf (.join [(2, .any)] [(2, 2), (4, 45)] (.seq .leaf (.wrap (.loop [(2, .any), (11, .int .i64)] [(2, 2), (4, 5), (11, 45)] (.seq .leaf (.seq (.cond .leaf .leaf) (.seq (.wrap (.seq .leaf (.seq (.seq (.draw 6) (.wrap (.seq (.draw 5) (.cond .leaf (.seq (.draw 6) (.cond (.seq .leaf .leaf) .leaf)))))) .leaf))) .leaf)))))) .leaf))))
theorem q_ctx_Ctx_compact (a0 : Option (Nat × Nat)) (s : AS) (R : AV → AS → Prop) (h : Q_ctx_Ctx_compact a0 s R) : ACalls Try.prog F_ctx_Ctx_compact [(.ptr a0)] s R :=
 ACalls.q (n := 50) (rs := []) (A := A_ctx_Ctx_compact) hT hmx Try.func114 (by kernel_rfl) rfl rfl rfl (by kernel_rfl) (by kernel_rfl) h
def Q_cmp_Or__int (a0 : AV) (s : AS) (R : AV → AS → Prop) : Prop :=
 RdI .i64 (alenB T Y_s_int a0 s) fun n1 => LoopQ fun I2 m3 => I2 m3 [(.int .i64 0)] s ∧
 ∀ m4 : Nat, ∀ n5 : Int, ∀ s6 : AS, I2 m4 [(.int .i64 n5)] s6 →
 bsplit (decide ((n5 : Int) < n1))
 (IxQ (aindexAddr T Y_s_int a0 (.int .i64 n5)) fun l7 o8 => RdI .i64 (rd1 s6 l7 o8) fun n9 => bsplit ((n9 : Int) != 0)
 (R (.int .i64 n9) s6)
 (∃ m', m' < m4 ∧ I2 m' [(.int .i64 (IntKind.wrap .i64 (n5 + 1)))] s6))
 (R (.int .i64 0) s6)
def A_cmp_Or__int : QA := (.seq .leaf (.seq .leaf (.seq (.seq .leaf (.wrap (.loop [(8, .int .i64)] [(2, 2), (5, 5), (8, 16)] (.seq .leaf (.seq (.cond .leaf .leaf) (.seq (.wrap (.seq .leaf (.seq .leaf (.cond (.seq .leaf .leaf) .leaf)))) .leaf)))))) (.seq .leaf .leaf))))
theorem q_cmp_Or__int (a0 : AV) (s : AS) (R : AV → AS → Prop) (h : Q_cmp_Or__int a0 s R) : ACalls Try.prog F_cmp_Or__int [a0] s R :=
 ACalls.q (n := 18) (rs := [.tmp 2]) (A := A_cmp_Or__int) hT hmx Try.func72 (by kernel_rfl) rfl rfl rfl (by kernel_rfl) (by kernel_rfl) h
def Q_cmp_Compare__int (a0 : Int) (a1 : Int) (s : AS) (R : AV → AS → Prop) : Prop :=
 ACalls Try.prog F_cmp_isNaN__int [(.int .i64 a0)] s fun v1 s2 => ∃ b3 : Bool, v1 = .bool b3 ∧ (ACalls Try.prog F_cmp_isNaN__int [(.int .i64 a1)] s2 fun v4 s5 => ∃ b6 : Bool, v4 = .bool b6 ∧ (bsplit b3
 (bsplit b6
 (R (.int .i64 0) s5)
 (R (.int .i64 (-1)) s5))
 (bsplit b6
 (R (.int .i64 1) s5)
 (bsplit (decide ((a0 : Int) < a1))
 (R (.int .i64 (-1)) s5)
 (bsplit (decide ((a0 : Int) > a1))
 (R (.int .i64 1) s5)
 (R (.int .i64 0) s5))))))
def A_cmp_Compare__int : QA := (.seq .leaf (.seq .leaf (.seq .leaf (.seq (.seq .leaf (.cond (.seq (.seq .leaf (.cond (.seq .leaf .leaf) .leaf)) (.seq .leaf .leaf)) .leaf)) (.seq (.seq .leaf (.cond (.seq .leaf .leaf) .leaf)) (.seq (.seq .leaf (.cond (.seq .leaf .leaf) .leaf)) (.seq (.seq .leaf (.cond (.seq .leaf .leaf) .leaf)) (.seq .leaf .leaf))))))))
theorem q_cmp_Compare__int (a0 : Int) (a1 : Int) (s : AS) (R : AV → AS → Prop) (h : Q_cmp_Compare__int a0 a1 s R) : ACalls Try.prog F_cmp_Compare__int [(.int .i64 a0), (.int .i64 a1)] s R :=
 ACalls.q (n := 20) (rs := [.tmp 4]) (A := A_cmp_Compare__int) hT hmx Try.func90 (by kernel_rfl) rfl rfl rfl (by kernel_rfl) (by kernel_rfl) h
def Q_cmp_Compare__uint64 (a0 : Int) (a1 : Int) (s : AS) (R : AV → AS → Prop) : Prop :=
 ACalls Try.prog F_cmp_isNaN__uint64 [(.int .u64 a0)] s fun v1 s2 => ∃ b3 : Bool, v1 = .bool b3 ∧ (ACalls Try.prog F_cmp_isNaN__uint64 [(.int .u64 a1)] s2 fun v4 s5 => ∃ b6 : Bool, v4 = .bool b6 ∧ (bsplit b3
 (bsplit b6
 (R (.int .i64 0) s5)
 (R (.int .i64 (-1)) s5))
 (bsplit b6
 (R (.int .i64 1) s5)
 (bsplit (decide ((a0 : Int) < a1))
 (R (.int .i64 (-1)) s5)
 (bsplit (decide ((a0 : Int) > a1))
 (R (.int .i64 1) s5)
 (R (.int .i64 0) s5))))))
def A_cmp_Compare__uint64 : QA := (.seq .leaf (.seq .leaf (.seq .leaf (.seq (.seq .leaf (.cond (.seq (.seq .leaf (.cond (.seq .leaf .leaf) .leaf)) (.seq .leaf .leaf)) .leaf)) (.seq (.seq .leaf (.cond (.seq .leaf .leaf) .leaf)) (.seq (.seq .leaf (.cond (.seq .leaf .leaf) .leaf)) (.seq (.seq .leaf (.cond (.seq .leaf .leaf) .leaf)) (.seq .leaf .leaf))))))))
theorem q_cmp_Compare__uint64 (a0 : Int) (a1 : Int) (s : AS) (R : AV → AS → Prop) (h : Q_cmp_Compare__uint64 a0 a1 s R) : ACalls Try.prog F_cmp_Compare__uint64 [(.int .u64 a0), (.int .u64 a1)] s R :=
 ACalls.q (n := 20) (rs := [.tmp 4]) (A := A_cmp_Compare__uint64) hT hmx Try.func91 (by kernel_rfl) rfl rfl rfl (by kernel_rfl) (by kernel_rfl) h
def Q_cmp_isNaN__int (a0 : Int) (s : AS) (R : AV → AS → Prop) : Prop :=
 R (.bool ((a0 : Int) != a0)) s
def A_cmp_isNaN__int : QA := (.seq .leaf (.seq .leaf .leaf))
theorem q_cmp_isNaN__int (a0 : Int) (s : AS) (R : AV → AS → Prop) (h : Q_cmp_isNaN__int a0 s R) : ACalls Try.prog F_cmp_isNaN__int [(.int .i64 a0)] s R :=
 ACalls.q (n := 6) (rs := [.tmp 2]) (A := A_cmp_isNaN__int) hT hmx Try.func109 (by kernel_rfl) rfl rfl rfl (by kernel_rfl) (by kernel_rfl) h
def Q_cmp_isNaN__uint64 (a0 : Int) (s : AS) (R : AV → AS → Prop) : Prop :=
 R (.bool ((a0 : Int) != a0)) s
def A_cmp_isNaN__uint64 : QA := (.seq .leaf (.seq .leaf .leaf))
theorem q_cmp_isNaN__uint64 (a0 : Int) (s : AS) (R : AV → AS → Prop) (h : Q_cmp_isNaN__uint64 a0 s R) : ACalls Try.prog F_cmp_isNaN__uint64 [(.int .u64 a0)] s R :=
 ACalls.q (n := 6) (rs := [.tmp 2]) (A := A_cmp_isNaN__uint64) hT hmx Try.func110 (by kernel_rfl) rfl rfl rfl (by kernel_rfl) (by kernel_rfl) h
end Go.Proofs.Ytoklmpkpeanloaa
end

section
namespace Go.Proofs.Ytoklmpkpeanloaa
open Go.Am Go.Minster
def dotC (d : Dot) : List AV := [.int .i64 d.r, .int .u64 d.c]
theorem dotC_len (d : Dot) : (dotC d).length = 2 := rfl
theorem dotC_one (d : Dot) : (dotC d).all AV.one = true := rfl
theorem cmp_isNaN__int_ok (a : Int) (s : AS) : ACalls Try.prog F_cmp_isNaN__int [.int .i64 a] s fun v s' => v = .bool false ∧ s' = s := by
 refine q_cmp_isNaN__int _ _ _ ?_
 simp [Q_cmp_isNaN__int]
theorem cmp_isNaN__uint64_ok (a : Int) (s : AS) : ACalls Try.prog F_cmp_isNaN__uint64 [.int .u64 a] s fun v s' => v = .bool false ∧ s' = s := by
 refine q_cmp_isNaN__uint64 _ _ _ ?_
 simp [Q_cmp_isNaN__uint64]
theorem cmp_Compare__int_ok (a b : Int) (s : AS) : ACalls Try.prog F_cmp_Compare__int [.int .i64 a, .int .i64 b] s fun v s' => v = .int .i64 (cmpI a b) ∧ s' = s := by
 refine q_cmp_Compare__int _ _ _ _ ?_
 refine (cmp_isNaN__int_ok _ _).mono ?_
 rintro v s1 ⟨rfl, rfl⟩
 refine ⟨_, rfl, ?_⟩
 refine (cmp_isNaN__int_ok _ _).mono ?_
 rintro v s1 ⟨rfl, rfl⟩
 refine ⟨_, rfl, ?_⟩
 simp only [bsplit_iff, cmpI]
 grind
theorem cmp_Compare__uint64_ok (a b : Int) (s : AS) : ACalls Try.prog F_cmp_Compare__uint64 [.int .u64 a, .int .u64 b] s fun v s' => v = .int .i64 (cmpI a b) ∧ s' = s := by
 refine q_cmp_Compare__uint64 _ _ _ _ ?_
 refine (cmp_isNaN__uint64_ok _ _).mono ?_
 rintro v s1 ⟨rfl, rfl⟩
 refine ⟨_, rfl, ?_⟩
 refine (cmp_isNaN__uint64_ok _ _).mono ?_
 rintro v s1 ⟨rfl, rfl⟩
 refine ⟨_, rfl, ?_⟩
 simp only [bsplit_iff, cmpI]
 grind
theorem ctx_May_ok (d : Dot) (s : AS) : ACalls Try.prog F_ctx_May [.agg (dotC d)] s fun v s' => v = .bool d.may ∧ Ext s s' := by
 refine ACalls.pre fun hw => q_ctx_May _ _ _ ⟨rfl, NewQ.intro hw rfl fun l s1 F => ?_⟩
 simp only [F.own.at.rd1, dotC, List.getElem?_cons_zero, List.getElem?_cons_succ, go_sem, bsplit_iff, F.ext, and_true, Dot.may]
 grind
theorem ref04iMay_ok (d : Dot) (s : AS) : ACalls Try.prog F_ref04iMay [.agg (dotC d)] s fun v s' => v = .bool d.may ∧ Ext s s' := by
 refine ACalls.pre fun hw => q_ref04iMay _ _ _ ⟨rfl, NewQ.intro hw rfl fun l s1 F => ?_⟩
 simp only [F.own.at.rd1, dotC, List.getElem?_cons_zero, List.getElem?_cons_succ, go_sem, bsplit_iff, F.ext, and_true, Dot.may]
 grind
end Go.Proofs.Ytoklmpkpeanloaa
end

section
namespace Go.Proofs.Ytoklmpkpeanloaa
open Go.Am Go.Minster
theorem sl_s_Dot : SlTy T Y_s_Dot Y_Dot 2 16 := ⟨u_s_Dot, z_Dot, b_Dot, ⟨_, _, zr_Dot, rfl, rfl⟩, by decide, by decide⟩
abbrev Dots := Sl dotC 2
theorem wrap_i {n : Int} (h : 0 ≤ n ∧ n ≤ 4611686018427387904) : IntKind.wrap .i64 n = n := IntWalk.i64_in _ (by omega)
theorem wrap_i' {n : Int} (h : -4611686018427387904 ≤ n ∧ n ≤ 4611686018427387904) : IntKind.wrap .i64 n = n := IntWalk.i64_in _ (by omega)
theorem wrap_u {n : Int} (h : 0 ≤ n ∧ n ≤ 18446744073709551615) : IntKind.wrap .u64 n = n := IntWalk.u64_in _ (by omega)
theorem wrap_half {i j : Nat} (h : i + j ≤ 4611686018427387904) : IntKind.wrap .i64 (Int.fdiv (IntKind.wrap .u64 (IntKind.wrap .i64 ((i : Int) + (j : Int)))) (2 ^ min (Int.toNat 1) (IntKind.bits .u64))) = (((i + j) / 2 : Nat) : Int) := by
 rw [show IntKind.wrap .i64 ((i : Int) + (j : Int)) = (i : Int) + (j : Int) from wrap_i (by omega), wrap_u (by omega)]
 have : (2 : Int) ^ min (Int.toNat 1) (IntKind.bits .u64) = 2 := by decide
 rw [this, Int.fdiv_eq_ediv_of_nonneg _ (by omega), wrap_i (by omega)]
 omega
theorem cmp_Or__int_ok2 (a b : Int) {s : AS} {l : Nat} (h : At s l [.int .i64 a, .int .i64 b]) : ACalls Try.prog F_cmp_Or__int [.slc (some (l, 0)) 2 2 true] s fun v s' => v = .int .i64 (if a ≠ 0 then a else b) ∧ s' = s := by
 have hs : Sl (fun n : Int => [AV.int .i64 n]) 1 s (.slc (some (l, 0)) 2 2 true) [a, b] := SlAt.mk h rfl rfl
 refine q_cmp_Or__int _ _ _ ⟨_, hs.lenB u_s_int s, fun m vs s' => ∃ i : Nat, vs = [.int .i64 i] ∧ s' = s ∧ i ≤ 2 ∧ m = 2 - i ∧ (0 < i → a = 0) ∧ (1 < i → b = 0), 2, ⟨0, by simp⟩, ?_⟩
 rintro m n s' ⟨i, hi, rfl, h2, rfl, h3, h4⟩
 simp only [List.cons.injEq, AV.int.injEq, true_and, and_true] at hi
 subst hi
 refine bsplit.dec (fun hlt => ?_) (fun hge => ?_)
 ·simp only [List.length_cons, List.length_nil] at hlt
  have hi2 : i < 2 := by omega
  obtain ⟨x, hx⟩ : ∃ x, [a, b][i]? = some x := ⟨_, List.getElem?_eq_getElem (by simpa using hi2)⟩
  obtain ⟨la, o, h5, h6⟩ := hs.ix (sz := 1) (by decide) (fun _ => rfl) u_s_int z_int hx
  refine ⟨la, o, h5 _, x, (h6 _ (Ext.refl _)).1 0 (by decide), bsplit.mk (fun hne => ?_) (fun heq => ?_)⟩
  ·refine ⟨?_, rfl⟩
   have hne' : x ≠ 0 := by simpa using hne
   rcases (show i = 0 ∨ i = 1 by omega) with rfl | rfl
   ·simp at hx; subst hx; rw [if_pos hne']
   ·simp at hx; subst hx; rw [if_neg (by simp [h3])]
  ·have heq' : x = 0 := by simpa using heq
   subst heq'
   refine ⟨2 - (i + 1), by omega, i + 1, by rw [wrap_i (by omega)]; rfl, rfl, by omega, rfl, fun _ => ?_, fun h1 => ?_⟩
   ·rcases (show i = 0 ∨ i = 1 by omega) with rfl | rfl
    ·simpa using hx
    ·exact h3 (by decide)
   ·rcases (show i = 0 ∨ i = 1 by omega) with rfl | rfl
    ·omega
    ·simpa using hx
 ·simp only [List.length_cons, List.length_nil] at hge
  obtain rfl : i = 2 := by omega
  refine ⟨?_, rfl⟩
  rw [if_neg (by simp [h3]), h4 (by decide)]
theorem ctx_order_ok (a b : Dot) (s : AS) : ACalls Try.prog F_ctx_order [.agg (dotC a), .agg (dotC b)] s fun v s' => v = .int .i64 (a.cmp b) ∧ Ext s s' := by
 refine ACalls.pre fun hw => q_ctx_order _ _ _ _ ⟨rfl, NewQ.intro hw rfl fun l s1 F => ⟨rfl, NewQ.intro F.wf rfl fun l2 s2 F2 => ?_⟩⟩
 have e := F.ext.trans F2.ext
 refine ⟨fun _ _ _ _ => True, fun _ _ v => v = .int .i64 (cmpI a.r b.r), fun _ _ _ _ _ _ _ => trivial, ?_⟩
 simp only [(F.own.ext F2.ext).at.rd1, F2.own.at.rd1, dotC, List.getElem?_cons_zero, List.getElem?_cons_succ, go_sem]
 refine ⟨fun s7 _ _ _ => ?_, ⟨_, rfl⟩, ?_⟩
 ·refine (cmp_Compare__int_ok _ _ _).mono ?_
  rintro v s' ⟨rfl, rfl⟩
  exact ⟨_, rfl, Ext.refl _, trivial, rfl⟩
 ·rintro v rfl
  refine ⟨_, rfl, fun s15 e15 _ _ => ?_⟩
  refine ACalls.use (cmp_Compare__uint64_ok _ _ _) ?_
  rintro v s' ⟨rfl, rfl⟩ hw'
  refine ⟨_, rfl, ?_⟩
  have habs : absl T Y_s_int 2 [(0, .int .i64 (cmpI a.r b.r)), (1, .int .i64 (cmpI a.c b.c))] = some [.int .i64 (cmpI a.r b.r), .int .i64 (cmpI a.c b.c)] := by
   simp only [absl, u_s_int, z_int, zr_int, Option.bind_some, acells_int]; rfl
  rw [habs]
  simp only [go_sem]
  refine NewQ.intro hw' rfl fun l3 s3 F3 => ?_
  refine (cmp_Or__int_ok2 _ _ F3.own.at).mono ?_
  rintro v s' ⟨rfl, rfl⟩
  refine ⟨_, rfl, ?_, e.trans (e15.trans F3.ext)⟩
  simp only [Dot.cmp]
structure CtxAt (s : AS) (p : Nat) (v : List Int) (ex : List Dot) : Prop where
 len : v.length = 16
 mem : ∃ w, Am.Own s p (v.map (.int .u64) ++ [w, .bool true]) ∧ w.one = true ∧ Dots s w ex
theorem CtxAt.ext {s s' : AS} {p : Nat} {v : List Int} {ex : List Dot} (h : CtxAt s p v ex) (e : Ext s s') : CtxAt s' p v ex := by
 obtain ⟨h1, w, h2, h3, h4⟩ := h
 exact ⟨h1, w, h2.ext e, h3, h4.ext e⟩
theorem ctx_there_ok {s : AS} {p : Nat} {v : List Int} {ex : List Dot} (h : CtxAt s p v ex) : ACalls Try.prog F_ctx_Ctx_there [.ptr (some (p, 0))] s fun v s' => v = .bool true ∧ s' = s := by
 obtain ⟨h1, w, h2, h3, h4⟩ := h
 refine q_ctx_Ctx_there _ _ _ ?_
 unfold Q_ctx_Ctx_there
 rw [aeqPtrNil u_p_ctx_Ctx]
 have : (v.map (AV.int .u64) ++ [w, .bool true])[0 + 17]? = some (.bool true) := by
  rw [List.getElem?_append_right (by simp [h1])]; simp [h1]
 simp only [go_sem, Option.isNone_some, Bool.not_false, h2.at.rd1, this, and_self]
end Go.Proofs.Ytoklmpkpeanloaa
end

section
namespace Go.Proofs.Ytoklmpkpeanloaa
open Go.Am Go.Minster
theorem bsearch_ok {s : AS} {v : AV} {l : List Dot} (hl : Dots s v l) (hlen : l.length ≤ 2 ^ 40) (hr : Rising l) (d : Dot) : ACalls Try.prog F_slices_BinarySearchFunc__s_Dot_Dot_Dot [v, .agg (dotC d), .func F_ctx_order []] s
  fun r s' => r = .tup [.int .i64 (pos l d : Nat), .bool (decide (d ∈ l))] ∧ Ext s s' := by
 refine ACalls.pre fun hw => q_slices_BinarySearchFunc__s_Dot_Dot_Dot _ _ _ _ _ ⟨rfl, NewQ.intro hw rfl fun la s2 F => ?_⟩
 refine ⟨_, hl.lenB u_s_Dot s2, fun vs s' => ∃ i : Nat, vs = [.int .i64 (i : Nat)] ∧ i ≤ l.length ∧ Ext s2 s' ∧ (∀ (k : Nat) x, k < i → l[k]? = some x → x.lt d = true) ∧ (∀ (k : Nat) x, i ≤ k → l[k]? = some x → x.lt d = false), ?_, ?_⟩
 ·rintro n5 s6 ⟨i, hi, hil, he, h1, h2⟩
  simp only [List.cons.injEq, AV.int.injEq, true_and, and_true] at hi
  subst hi
  have hp : pos l d = i := pos_eq hil h1 fun x hx => h2 i x (Nat.le_refl _) hx
  have hmem := hr.mem d
  rw [hp] at hmem ⊢
  refine ⟨fun _ _ _ _ => True, fun _ _ v => ∃ x, l[i]? = some x ∧ v = .int .i64 (x.cmp d), fun _ _ _ _ _ _ _ => trivial, bsplit.dec (fun hlt => ?_) (fun hge => ?_)⟩
  ·have hil' : i < l.length := by omega
   have hx : l[i]? = some l[i] := List.getElem?_eq_getElem hil'
   obtain ⟨la', o, h5, h6⟩ := (hl.ext (F.ext.trans he)).ix (by decide) dotC_len u_s_Dot z_Dot hx
   refine ⟨la', o, h5 _, _, (h6 _ (Ext.refl _)).2, _, (F.own.ext he).at.rdc (by simp [dotC]), fun s11 e11 _ _ => ?_, ⟨_, _, hx, rfl⟩, ?_⟩
   ·refine (ctx_order_ok _ _ _).mono ?_
    rintro v s' ⟨rfl, e⟩
    exact ⟨_, rfl, e, trivial, _, hx, rfl⟩
   ·rintro v ⟨x, hx', rfl⟩
    rw [hx] at hx'; obtain rfl := Option.some.inj hx'
    refine ⟨_, rfl, fun s17 e17 _ _ => ⟨?_, F.ext.trans (he.trans e17)⟩⟩
    congr 4
    rw [Bool.eq_iff_iff, beq_iff_eq, decide_eq_true_eq, Dot.cmp_eq, ← hmem, hx]
    simp
  ·have : l[i]? = none := List.getElem?_eq_none (by omega)
   rw [this] at hmem
   have hn : ¬ d ∈ l := by rw [← hmem]; simp
   intro s19 e19 _ _
   refine ⟨?_, F.ext.trans (he.trans e19)⟩
   simp [hn]
 ·refine ⟨fun m vs s' => ∃ i j : Nat, vs = [.int .i64 (i : Nat), .int .i64 (j : Nat)] ∧ i ≤ j ∧ j ≤ l.length ∧ m = j - i ∧ Ext s2 s' ∧ (∀ (k : Nat) x, k < i → l[k]? = some x → x.lt d = true) ∧ (∀ (k : Nat) x, j ≤ k → l[k]? = some x → x.lt d = false), l.length, ?_, ?_⟩
  ·refine ⟨0, l.length, rfl, by omega, by omega, rfl, Ext.refl _, fun k x hk => by omega, fun k x hk hx => ?_⟩
   rw [List.getElem?_eq_none hk] at hx; cases hx
  ·rintro m n24 n25 s26 ⟨i, j, hij, h1, h2, rfl, he, h3, h4⟩
   simp only [List.cons.injEq, AV.int.injEq, true_and, and_true] at hij
   obtain ⟨rfl, rfl⟩ := hij
   refine bsplit.dec (fun hlt => ?_) (fun hge => ?_)
   ·rw [wrap_half (by omega)]
    have hm1 : (i + j) / 2 < j := by omega
    have hm2 : i ≤ (i + j) / 2 := by omega
    generalize hmid : (i + j) / 2 = mid at hm1 hm2
    have hx : l[mid]? = some l[mid] := List.getElem?_eq_getElem (by omega)
    obtain ⟨la', o, h5, h6⟩ := (hl.ext (F.ext.trans he)).ix (by decide) dotC_len u_s_Dot z_Dot hx
    refine ⟨by decide, la', o, h5 _, _, (h6 _ (Ext.refl _)).2, _, (F.own.ext he).at.rdc (by simp [dotC]), ?_⟩
    refine (ctx_order_ok _ _ _).mono ?_
    rintro v s' ⟨rfl, e⟩
    refine ⟨_, rfl, bsplit.dec (fun hc => ?_) (fun hc => ?_)⟩
    ·rw [Dot.cmp_lt] at hc
     refine ⟨j - (mid + 1), by omega, mid + 1, j, by rw [wrap_i (by omega)]; rfl, by omega, h2, rfl, he.trans e, fun k x hk hx' => ?_, h4⟩
     rcases Nat.lt_or_ge k mid with hk' | hk'
     ·exact Dot.lt_trans (hr.lt hk' hx' hx) hc
     ·obtain rfl : k = mid := by omega
      rw [hx] at hx'; obtain rfl := Option.some.inj hx'; exact hc
    ·rw [Dot.cmp_lt] at hc
     refine ⟨mid - i, by omega, i, mid, rfl, by omega, by omega, rfl, he.trans e, h3, fun k x hk hx' => ?_⟩
     cases hq : x.lt d with
     | false => rfl
     | true =>
      exfalso
      rcases Nat.eq_or_lt_of_le hk with hk' | hk'
      ·subst hk'; rw [hx] at hx'; obtain rfl := Option.some.inj hx'; exact hc hq
      ·exact hc (Dot.lt_trans (hr.lt hk' hx hx') hq)
   ·obtain rfl : i = j := by omega
    exact ⟨i, rfl, by omega, he, h3, h4⟩
end Go.Proofs.Ytoklmpkpeanloaa
end

section
namespace Go.Proofs.Ytoklmpkpeanloaa.SG
open Go.Am Go.Minster.SG
variable {E : SE} [SQ E]
section
class CmpOk (E : SE) (cf : FuncId) : Prop where
 ok : ∀ (a b : El E.O) (s : AS), ACalls Try.prog cf [.agg (E.cC a), .agg (E.cC b)] s fun v s' => v = .int .i64 (a.cmp b) ∧ Ext s s'
variable {cf : FuncId} [CmpOk E cf]
structure Arr (s : AS) (a : AV) (lo : Nat) (l : List (El E.O)) (rest : List AV) : Prop where
 val : ∃ c e, a = .slc (some (lo, 0)) l.length c e
 obj : ∃ g, s.h lo = some (.cells (l.flatMap E.cC ++ rest) g false)
section
variable {s : AS} {a : AV} {lo : Nat} {l : List (El E.O)} {rest : List AV}
theorem dots_len (l : List (El E.O)) : (l.flatMap E.cC).length = l.length * E.w := flat_len E.len l
theorem at_w {i n w : Nat} (h : i < n) : i * w + w ≤ n * w := by have := Nat.mul_le_mul_right w h; rw [Nat.succ_mul] at this; exact this
theorem Arr.mut {L : List Nat} {s' : AS} (h : Arr s a lo l rest) (m : Mut L s s') (hL : lo ∉ L) : Arr s' a lo l rest := by
 obtain ⟨h1, g, h2⟩ := h
 exact ⟨h1, g, m.1 _ _ hL h2⟩
theorem Arr.ext {s' : AS} (h : Arr s a lo l rest) (e : Ext s s') : Arr s' a lo l rest := h.mut (L := []) e.mut (by simp)
theorem Arr.ix (h : Arr s a lo l rest) {i : Nat} (hi : i < l.length) : aindexAddr T E.ys a (.int .i64 (i : Nat)) = some (.ptr (some (lo, i * E.w))) := by
 obtain ⟨⟨c, e, rfl⟩, _⟩ := h
 have : (0 : Int) ≤ (i : Int) ∧ (i : Int) < (l.length : Int) := by omega
 simp only [aindexAddr, E.us, E.zs, Option.bind_some]
 rw [if_pos this]
 simp
theorem Arr.rd (h : Arr s a lo l rest) {i : Nat} (hi : i < l.length) : rdc s lo (i * E.w) E.w = some (E.cC (el l i)) := by
 have hkw := at_w (w := E.w) hi
 obtain ⟨_, g, h2⟩ := h
 have hat : At s lo (l.flatMap E.cC ++ rest) := ⟨_, _, h2⟩
 rw [hat.rdc (by rw [List.length_append, dots_len]; omega)]
 rw [List.drop_append_of_le_length (by rw [dots_len]; omega), List.take_append_of_le_length (by rw [List.length_drop, dots_len]; omega), flat_elem E.len (el_get hi)]
theorem flat_set (l : List (El E.O)) (k : Nat) (x : El E.O) (rest : List AV) (hk : k < l.length) : wrs (l.flatMap E.cC ++ rest) (k * E.w) (E.cC x) = (l.set k x).flatMap E.cC ++ rest := by
 have hsp : l.flatMap E.cC = (l.take k).flatMap E.cC ++ (E.cC (l[k]) ++ (l.drop (k + 1)).flatMap E.cC) := by
  conv => lhs; rw [← List.take_append_drop k l, List.flatMap_append, List.drop_eq_getElem_cons hk, List.flatMap_cons]
 have hl : ((l.take k).flatMap E.cC).length = k * E.w := by rw [flat_len E.len, List.length_take, Nat.min_eq_left (by omega)]
 have := wrs_mid ((l.take k).flatMap E.cC) (E.cC l[k]) (E.cC x) ((l.drop (k + 1)).flatMap E.cC ++ rest) (by rw [E.len, E.len])
 rw [hl] at this
 rw [hsp, List.append_assoc, List.append_assoc, ← List.append_assoc, this, List.set_eq_take_append_cons_drop, if_pos hk, List.flatMap_append, List.flatMap_cons, List.append_assoc, List.append_assoc, List.append_assoc]
theorem Arr.wr (h : Arr s a lo l rest) (hw : WFs s) {i : Nat} (hi : i < l.length) (x : El E.O) {K : AS → Prop} (hk : ∀ s', Arr s' a lo (l.set i x) rest → WFs s' → Mut [lo] s s' → K s') : OkC (some E.w) (E.cC x) (StQ (awr s lo (i * E.w) (E.cC x)) K) := by
 have hkw := at_w (w := E.w) hi
 obtain ⟨h1, g, h2⟩ := h
 refine ⟨⟨E.one _, by rw [E.len]⟩, StQ.awr hw h2 (by rw [List.length_append, dots_len, E.len]; omega) fun s' P => hk s' ⟨?_, g, ?_⟩ P.wf P.mut⟩
 ·rw [List.length_set]; exact h1
 ·rw [P.at, flat_set l i x rest hi]
theorem Arr.swap (h : Arr s a lo l rest) (hw : WFs s) {i j : Nat} (hi : i < l.length) (hj : j < l.length) {K : AS → Prop} (hk : ∀ s', Arr s' a lo (swp l i j) rest → WFs s' → Mut [lo] s s' → K s') :
  IxQ (aindexAddr T E.ys a (.int .i64 (j : Nat))) fun l20 o21 => RdL (rdc s l20 o21 E.w) fun g22 => IxQ (aindexAddr T E.ys a (.int .i64 (i : Nat))) fun l23 o24 => RdL (rdc s l23 o24 E.w) fun g25 => IxQ (aindexAddr T E.ys a (.int .i64 (i : Nat))) fun l26 o27 => OkC (some E.w) g22 (StQ (awr s l26 o27 g22) fun s28 => IxQ (aindexAddr T E.ys a (.int .i64 (j : Nat))) fun l29 o30 => OkC (some E.w) g25 (StQ (awr s28 l29 o30 g25) fun s31 => K s31)) :=
 ⟨_, _, h.ix hj, _, h.rd hj, _, _, h.ix hi, _, h.rd hi, _, _, h.ix hi, h.wr hw hi _ fun s1 h1 w1 m1 =>
  ⟨_, _, h1.ix (by simpa using hj), h1.wr w1 (by simpa using hj) _ fun s2 h2 w2 m2 => hk s2 h2 w2 (m1.trans m2)⟩⟩
theorem Arr.cmp (h : Arr s a lo l rest) {i j : Nat} (hi : i < l.length) (hj : j < l.length) {K : Int → AS → Prop} (hk : ∀ s', Arr s' a lo l rest → WFs s' → Mut [lo] s s' → K ((el l i).cmp (el l j)) s') :
  IxQ (aindexAddr T E.ys a (.int .i64 (i : Nat))) fun l11 o12 => RdL (rdc s l11 o12 E.w) fun g13 => IxQ (aindexAddr T E.ys a (.int .i64 (j : Nat))) fun l14 o15 => RdL (rdc s l14 o15 E.w) fun g16 => ACallV Try.prog (.func cf []) [(.agg g13), (.agg g16)] s fun v17 s18 => ∃ n19 : Int, v17 = .int .i64 n19 ∧ K n19 s18 := by
 refine ⟨_, _, h.ix hi, _, h.rd hi, _, _, h.ix hj, _, h.rd hj, ?_⟩
 refine ACalls.use (CmpOk.ok (E := E) _ _ _) ?_
 rintro v s' ⟨rfl, e⟩ hw
 exact ⟨_, rfl, hk s' (h.ext e) hw e.mut⟩
end
theorem insSort_ok {s : AS} {a : AV} {lo : Nat} {l : List (El E.O)} {rest : List AV} {x y : Nat} (h : Arr s a lo l rest) (hxy : x ≤ y) (hy : y ≤ l.length) (hn : l.length ≤ 2 ^ 40) :
  ACalls Try.prog E.F_insertionSortCmpFunc [a, .int .i64 (x : Nat), .int .i64 (y : Nat), .func cf []] s fun r s' => r = .tup [] ∧ ∃ l', Arr s' a lo l' rest ∧ Sw x y l l' ∧ Srt l' x y ∧ Mut [lo] s s' := by
 refine ACalls.pre fun hw => SQ.q_insertionSortCmpFunc _ _ _ _ _ _ ⟨fun m vs s' => ∃ (i : Nat) (l' : List (El E.O)), vs = [.int .i64 (i : Nat)] ∧ x + 1 ≤ i ∧ (i ≤ y ∨ i = x + 1) ∧ m = y - i ∧ Arr s' a lo l' rest ∧ WFs s' ∧ Sw x y l l' ∧ Srt l' x i ∧ Mut [lo] s s', y - (x + 1), ⟨x + 1, l, by rw [wrap_i (by omega)]; rfl, by omega, .inr rfl, rfl, h, hw, .refl _, fun p q h1 h2 h3 => by omega, Mut.refl _ _⟩, ?_⟩
 rintro m n s5 ⟨i, l1, hi, hxi, hiy, rfl, a5, w5, sw5, so5, m5⟩
 simp only [List.cons.injEq, AV.int.injEq, true_and, and_true] at hi
 subst hi
 have hl1 := sw5.len
 refine bsplit.dec (fun hlt => ?_) (fun hge => ⟨rfl, l1, a5, sw5, fun p q h1 h2 h3 => so5 p q h1 h2 (by omega), m5⟩)
 have fin : ∀ s' l', Arr s' a lo l' rest → WFs s' → Sw x y l l' → Srt l' x (i + 1) → Mut [lo] s s' → ∃ m', m' < y - i ∧ ∃ (k : Nat) (l' : List (El E.O)), [AV.int .i64 (IntKind.wrap .i64 ((i : Int) + 1))] = [.int .i64 (k : Nat)] ∧ x + 1 ≤ k ∧ (k ≤ y ∨ k = x + 1) ∧ m' = y - k ∧ Arr s' a lo l' rest ∧ WFs s' ∧ Sw x y l l' ∧ Srt l' x k ∧ Mut [lo] s s' :=
  fun s' l' h1 h2 h3 h4 h5 => ⟨y - (i + 1), by omega, i + 1, l', by rw [wrap_i (by omega)]; rfl, by omega, .inl (by omega), rfl, h1, h2, h3, h4, h5⟩
 refine ⟨fun m vs s' => ∃ (j : Nat) (l' : List (El E.O)), vs = [.int .i64 (j : Nat)] ∧ x ≤ j ∧ j ≤ i ∧ m = j - x ∧ Arr s' a lo l' rest ∧ WFs s' ∧ Sw x y l l' ∧ (∀ p q, x ≤ p → p < q → q ≤ i → q ≠ j → (el l' p).le (el l' q)) ∧ Mut [lo] s s', i - x, ⟨i, l1, rfl, by omega, by omega, rfl, a5, w5, sw5, fun p q h1 h2 h3 h4 => so5 p q h1 h2 (by omega), m5⟩, ?_⟩
 rintro m n s10 ⟨j, l2, hj, hxj, hji, rfl, a10, w10, sw10, so10, m10⟩
 simp only [List.cons.injEq, AV.int.injEq, true_and, and_true] at hj
 subst hj
 have hl2 := sw10.len
 refine bsplit.dec (fun hgt => ?_) (fun hle => fin _ l2 a10 w10 sw10 (ins_end hxj hji (.inl (by omega)) so10) m10)
 rw [wrap_i (by omega), show (j : Int) - 1 = ((j - 1 : Nat) : Int) by omega]
 refine a10.cmp (by omega) (by omega) fun s18 a18 w18 m18 => bsplit.dec (fun hc => ?_) (fun hc => fin _ l2 a18 w18 sw10 (ins_end hxj hji (.inr (El.nlt_le (by rw [← El.cmp_lt]; exact hc))) so10) (m10.trans m18))
 rw [El.cmp_lt] at hc
 refine a18.swap w18 (by omega) (by omega) fun s31 a31 w31 m31 => ⟨j - 1 - x, by omega, j - 1, _, rfl, by omega, by omega, rfl, a31, w31, .step sw10 ⟨by omega, by omega⟩ ⟨by omega, by omega⟩ (by omega), ins_step (by omega) (by omega) hji hc so10, (m10.trans m18).trans m31⟩
end
section
variable {cf : FuncId} [CmpOk E cf]
theorem wadd {x y : Nat} (h : x + y ≤ 4611686018427387904) : IntKind.wrap .i64 ((x : Int) + (y : Int)) = ((x + y : Nat) : Int) := by rw [wrap_i (by omega)]; omega
theorem wadd1 {x : Nat} (h : x + 1 ≤ 4611686018427387904) : IntKind.wrap .i64 ((x : Int) + 1) = ((x + 1 : Nat) : Int) := by rw [wrap_i (by omega)]; omega
theorem wsub {x y : Nat} (h : y ≤ x) (h' : x ≤ 4611686018427387904) : IntKind.wrap .i64 ((x : Int) - (y : Int)) = ((x - y : Nat) : Int) := by rw [wrap_i (by omega)]; omega
theorem wsub1 {x : Nat} (h : 1 ≤ x) (h' : x ≤ 4611686018427387904) : IntKind.wrap .i64 ((x : Int) - 1) = ((x - 1 : Nat) : Int) := by rw [wrap_i (by omega)]; omega
theorem wmul2 {x : Nat} (h : 2 * x ≤ 4611686018427387904) : IntKind.wrap .i64 (2 * (x : Int)) = ((2 * x : Nat) : Int) := by rw [wrap_i (by omega)]; omega
theorem tdivN (x k : Nat) : Int.tdiv (x : Int) (k : Int) = ((x / k : Nat) : Int) := rfl
theorem wid {x : Nat} (h : x ≤ 4611686018427387904) : IntKind.wrap .i64 (x : Int) = (x : Int) := wrap_i (by omega)
theorem siftDown_ok {s : AS} {a : AV} {lo : Nat} {l : List (El E.O)} {rest : List AV} {k n f : Nat} (h : Arr s a lo l rest) (hl : f + n ≤ l.length) (hn : l.length ≤ 2 ^ 40) (hk : k ≤ 2 ^ 40) (hh : Heap l f n (k + 1)) :
  ACalls Try.prog E.F_siftDownCmpFunc [a, .int .i64 (k : Nat), .int .i64 (n : Nat), .int .i64 (f : Nat), .func cf []] s fun r s' => r = .tup [] ∧ ∃ l', Arr s' a lo l' rest ∧ Sw f (f + n) l l' ∧ Heap l' f n k ∧ Mut [lo] s s' := by
 refine ACalls.pre fun hw => SQ.q_siftDownCmpFunc _ _ _ _ _ _ _ ⟨fun m vs s' => ∃ (root : Nat) (l' : List (El E.O)), vs = [.int .i64 (root : Nat)] ∧ root ≤ n + k ∧ m = n + k - root ∧ Arr s' a lo l' rest ∧ WFs s' ∧ Sw f (f + n) l l' ∧ Sift l' f n k root ∧ Mut [lo] s s', n + k - k, ⟨k, l, rfl, by omega, rfl, h, hw, .refl _, hh.sift, Mut.refl _ _⟩, ?_⟩
 rintro m n4 s5 ⟨root, l1, hi, hrt, rfl, a5, w5, sw5, sf5, m5⟩
 simp only [List.cons.injEq, AV.int.injEq, true_and, and_true] at hi
 subst hi
 have hl1 := sw5.len
 rw [wmul2 (by omega), wadd1 (by omega)]
 refine bsplit.dec (fun hge => ⟨rfl, l1, a5, sw5, sf5.done fun c h0 hc hp => by omega, m5⟩) (fun hlt => ?_)
 refine ⟨fun vs s' => ∃ child : Nat, vs = [.int .i64 (child : Nat)] ∧ (child = 2 * root + 1 ∨ child = 2 * root + 2) ∧ child < n ∧ Arr s' a lo l1 rest ∧ WFs s' ∧ Mut [lo] s s' ∧ (∀ c, 0 < c → c < n → (c - 1) / 2 = root → (el l1 (f + c)).le (el l1 (f + child))), ?_, ?_⟩
 ·rintro n7 s8 ⟨child, hc, hch, hcn, a8, w8, m8, hmax⟩
  simp only [List.cons.injEq, AV.int.injEq, true_and, and_true] at hc
  subst hc
  rw [wadd (by omega), wadd (by omega)]
  refine a8.cmp (by omega) (by omega) fun s16 a16 w16 m16 => ?_
  refine bsplit.mk (fun hc => ?_) (fun hc => ?_)
  ·have hle := El.nlt_le (show ¬ (el l1 (f + root)).lt (el l1 (f + child)) = true by rw [← El.cmp_lt]; simpa using hc)
   exact ⟨rfl, l1, a16, sw5, sf5.done fun c h0 hc hp => El.le_trans (hmax c h0 hc hp) hle, m8.trans m16⟩
  ·have hlt2 : (el l1 (f + root)).lt (el l1 (f + child)) = true := by rw [← El.cmp_lt]; simpa using hc
   refine a16.swap w16 (by omega) (by omega) fun s29 a29 w29 m29 => ⟨n + k - child, by omega, child, _, rfl, by omega, rfl, a29, w29, .step sw5 ⟨by omega, by omega⟩ ⟨by omega, by omega⟩ (by omega), sf5.step (by omega) hch hcn hlt2 hmax, (m8.trans m16).trans m29⟩
 ·refine ⟨fun vs s' => ∃ t, vs = [.bool t] ∧ Arr s' a lo l1 rest ∧ WFs s' ∧ Mut [lo] s s' ∧ (t = true → 2 * root + 2 < n ∧ (el l1 (f + (2 * root + 1))).lt (el l1 (f + (2 * root + 2))) = true) ∧ (t = false → 2 * root + 2 < n → (el l1 (f + (2 * root + 2))).le (el l1 (f + (2 * root + 1)))), ?_, ?_⟩
  ·rintro b s32 ⟨t, ht, a32, w32, m32, h1, h2⟩
   simp only [List.cons.injEq, AV.bool.injEq, and_true] at ht
   subst ht
   refine bsplit.mk (fun hb => ?_) (fun hb => ?_)
   ·obtain ⟨h3, h4⟩ := h1 hb
    rw [wadd1 (by omega)]
    refine ⟨2 * root + 2, rfl, .inr rfl, h3, a32, w32, m32, fun c h0 hc hp => ?_⟩
    rcases (show c = 2 * root + 1 ∨ c = 2 * root + 2 by omega) with rfl | rfl
    ·exact El.lt_le h4
    ·exact El.le_refl _
   ·refine ⟨2 * root + 1, rfl, .inl rfl, by omega, a32, w32, m32, fun c h0 hc hp => ?_⟩
    rcases (show c = 2 * root + 1 ∨ c = 2 * root + 2 by omega) with rfl | rfl
    ·exact El.le_refl _
    ·exact h2 hb hc
  ·rw [wadd1 (by omega)]
   refine bsplit.dec (fun hlt2 => ?_) (fun hge => ⟨false, rfl, a5, w5, m5, by simp, fun _ h => by omega⟩)
   rw [wadd (by omega), wadd1 (by omega)]
   refine a5.cmp (by omega) (by omega) fun s40 a40 w40 m40 => ⟨_, rfl, a40, w40, m5.trans m40, fun h => ⟨by omega, ?_⟩, fun h _ => ?_⟩
   ·have := of_decide_eq_true h
    rw [El.cmp_lt] at this
    exact this
   ·have := of_decide_eq_false h
    rw [El.cmp_lt] at this
    exact El.nlt_le this
theorem heapSort_ok {s : AS} {a : AV} {lo : Nat} {l : List (El E.O)} {rest : List AV} {x y : Nat} (h : Arr s a lo l rest) (hxy : x < y) (hy : y ≤ l.length) (hn : l.length ≤ 2 ^ 40) :
  ACalls Try.prog E.F_heapSortCmpFunc [a, .int .i64 (x : Nat), .int .i64 (y : Nat), .func cf []] s fun r s' => r = .tup [] ∧ ∃ l', Arr s' a lo l' rest ∧ Sw x y l l' ∧ Srt l' x y ∧ Mut [lo] s s' := by
 refine ACalls.pre fun hw => SQ.q_heapSortCmpFunc _ _ _ _ _ _ ⟨fun vs s' => ∃ l', Arr s' a lo l' rest ∧ WFs s' ∧ Sw x y l l' ∧ Heap l' x (y - x) 0 ∧ Mut [lo] s s', ?_, by decide, ?_⟩
 ·rintro s2 ⟨l1, a2, w2, sw2, hp2, m2⟩
  have hl1 := sw2.len
  rw [wsub (by omega) (by omega), wsub1 (by omega) (by omega)]
  refine ⟨fun m vs s' => ∃ (i : Nat) (l' : List (El E.O)), vs = [.int .i64 ((i : Int) - 1)] ∧ i ≤ y - x ∧ m = 2 * i ∧ Arr s' a lo l' rest ∧ WFs s' ∧ Sw x y l l' ∧ Heap l' x i 0 ∧ Tail l' x y i ∧ Mut [lo] s s', 2 * (y - x), ⟨y - x, l1, by congr 2; omega, by omega, rfl, a2, w2, sw2, hp2, fun p q _ _ _ _ => by omega, m2⟩, ?_⟩
  rintro m n6 s7 ⟨i, l2, hi, hiy, rfl, a7, w7, sw7, hp7, tl7, m7⟩
  simp only [List.cons.injEq, AV.int.injEq, true_and, and_true] at hi
  subst hi
  have hl2 := sw7.len
  refine bsplit.dec (fun hge => ?_) (fun hlt => ?_)
  ·obtain ⟨j, rfl⟩ : ∃ j, i = j + 1 := ⟨i - 1, by omega⟩
   rw [show (((j + 1 : Nat) : Int) - 1) = (j : Int) by omega, wadd (by omega)]
   obtain ⟨t1, t2⟩ := tl7.swap (n := j) (by omega) (by omega) hp7
   refine a7.swap w7 (by omega) (by omega) fun s23 a23 w23 m23 => ?_
   have sw23 : Sw x y l (swp l2 x (x + j)) := .step sw7 ⟨by omega, by omega⟩ ⟨by omega, by omega⟩ (by omega)
   refine ACalls.use (siftDown_ok (k := 0) (n := j) (f := x) a23 (by rw [swp_len]; omega) (by rw [swp_len]; omega) (by omega) t2) ?_
   rintro r s25 ⟨rfl, l3, a25, sw25, hp25, m25⟩ w25
   refine ⟨rfl, 2 * j, by omega, j, l3, by rw [wrap_i' (by omega)], by omega, rfl, a25, w25, sw23.trans (sw25.widen (Nat.le_refl _) (by omega) (by rw [swp_len]; omega)), hp25, t1.sw sw25, (m7.trans m23).trans m25⟩
  ·obtain rfl : i = 0 := by omega
   exact ⟨rfl, l2, a7, sw7, fun p q h1 h2 h3 => tl7 p q h1 h2 h3 (by omega), m7⟩
 ·rw [wsub (by omega) (by omega), wsub1 (by omega) (by omega), show (2 : Int) = ((2 : Nat) : Int) by rfl, tdivN, wid (by omega)]
  refine ⟨fun m vs s' => ∃ (i : Nat) (l' : List (El E.O)), vs = [.int .i64 ((i : Int) - 1)] ∧ i ≤ y - x ∧ m = 2 * i ∧ Arr s' a lo l' rest ∧ WFs s' ∧ Sw x y l l' ∧ Heap l' x (y - x) i ∧ Mut [lo] s s', 2 * ((y - x - 1) / 2 + 1), ⟨(y - x - 1) / 2 + 1, l, by congr 2; omega, by omega, rfl, h, hw, .refl _, fun c _ _ _ => by omega, Mut.refl _ _⟩, ?_⟩
  rintro m n29 s30 ⟨i, l2, hi, hiy, rfl, a30, w30, sw30, hp30, m30⟩
  simp only [List.cons.injEq, AV.int.injEq, true_and, and_true] at hi
  subst hi
  have hl2 := sw30.len
  refine bsplit.dec (fun hge => ?_) (fun hlt => ?_)
  ·obtain ⟨j, rfl⟩ : ∃ j, i = j + 1 := ⟨i - 1, by omega⟩
   rw [show (((j + 1 : Nat) : Int) - 1) = (j : Int) by omega]
   refine ACalls.use (siftDown_ok (k := j) (n := y - x) (f := x) a30 (by omega) (by omega) (by omega) hp30) ?_
   rintro r s32 ⟨rfl, l3, a32, sw32, hp32, m32⟩ w32
   refine ⟨rfl, 2 * j, by omega, j, l3, by rw [wrap_i' (by omega)], by omega, rfl, a32, w32, sw30.trans (by rw [show x + (y - x) = y by omega] at sw32; exact sw32), hp32, m30.trans m32⟩
  ·obtain rfl : i = 0 := by omega
   exact ⟨l2, a30, w30, sw30, hp30, m30⟩
end
section
variable {cf : FuncId} [CmpOk E cf]
theorem reverse_ok {s : AS} {a : AV} {lo : Nat} {l : List (El E.O)} {rest : List AV} {x y : Nat} (h : Arr s a lo l rest) (hxy : x < y) (hy : y ≤ l.length) (hn : l.length ≤ 2 ^ 40) :
  ACalls Try.prog E.F_reverseRangeCmpFunc [a, .int .i64 (x : Nat), .int .i64 (y : Nat), .func cf []] s fun r s' => r = .tup [] ∧ ∃ l', Arr s' a lo l' rest ∧ Sw x y l l' ∧ Mut [lo] s s' := by
 refine ACalls.pre fun hw => SQ.q_reverseRangeCmpFunc _ _ _ _ _ _ ⟨fun m vs s' => ∃ (i j : Nat) (l' : List (El E.O)), vs = [.int .i64 (i : Nat), .int .i64 (j : Nat)] ∧ x ≤ i ∧ j < y ∧ i ≤ j + 1 ∧ m = j + 1 - i ∧ Arr s' a lo l' rest ∧ WFs s' ∧ Sw x y l l' ∧ Mut [lo] s s', y - 1 + 1 - x, ⟨x, y - 1, l, by rw [wsub1 (by omega) (by omega)], by omega, by omega, by omega, rfl, h, hw, .refl _, Mut.refl _ _⟩, ?_⟩
 rintro m n4 n5 s6 ⟨i, j, l1, hij, hx, hj, hle, rfl, a6, w6, sw6, m6⟩
 simp only [List.cons.injEq, AV.int.injEq, true_and, and_true] at hij
 obtain ⟨rfl, rfl⟩ := hij
 have hl1 := sw6.len
 refine bsplit.dec (fun hlt => ?_) (fun hge => ⟨rfl, l1, a6, sw6, m6⟩)
 refine a6.swap w6 (by omega) (by omega) fun s18 a18 w18 m18 => ?_
 rw [wadd1 (by omega), wsub1 (by omega) (by omega)]
 exact ⟨j - 1 + 1 - (i + 1), by omega, i + 1, j - 1, _, rfl, by omega, by omega, by omega, rfl, a18, w18, .step sw6 ⟨by omega, by omega⟩ ⟨by omega, by omega⟩ (by omega), m6.trans m18⟩
structure PSt (L G : El E.O → El E.O → Prop) (s : AS) (a : AV) (lo : Nat) (rest : List AV) (l : List (El E.O)) (x y : Nat) (s' : AS) (l' : List (El E.O)) (i j : Nat) : Prop where
 arr : Arr s' a lo l' rest
 wf : WFs s'
 sw : Sw x y l l'
 prt : Prt L G l' x y i j
 chg : Mut [lo] s s'
theorem PSt.to {L G : El E.O → El E.O → Prop} {s : AS} {a : AV} {lo : Nat} {rest : List AV} {l : List (El E.O)} {x y : Nat} {s' s'' : AS} {l' : List (El E.O)} {i j i' j' : Nat} (h : PSt L G s a lo rest l x y s' l' i j) (ha : Arr s'' a lo l' rest) (hw : WFs s'') (m : Mut [lo] s' s'') (hp : Prt L G l' x y i' j') : PSt L G s a lo rest l x y s'' l' i' j' :=
 ⟨ha, hw, h.sw, hp, h.chg.trans m⟩
theorem partition_ok {s : AS} {a : AV} {lo : Nat} {l : List (El E.O)} {rest : List AV} {x y p : Nat} (h : Arr s a lo l rest) (hp : x ≤ p ∧ p < y) (hy : y ≤ l.length) (hn : l.length ≤ 2 ^ 40) :
  ACalls Try.prog E.F_partitionCmpFunc [a, .int .i64 (x : Nat), .int .i64 (y : Nat), .int .i64 (p : Nat), .func cf []] s fun r s' => ∃ (m : Nat) (b : Bool) (l' : List (El E.O)), r = .tup [.int .i64 (m : Nat), .bool b] ∧ Arr s' a lo l' rest ∧ Sw x y l l' ∧ Parted l' x y m ∧ Mut [lo] s s' := by
 refine ACalls.pre fun hw => SQ.q_partitionCmpFunc _ _ _ _ _ _ _ ?_
 refine h.swap hw (by omega) (by omega) fun s12 a12 w12 m12 => ?_
 have sw12 : Sw x y l (swp l x p) := .step (.refl _) ⟨by omega, by omega⟩ hp hy
 have fin : ∀ s' l' i j, PSt Lt Ge s a lo rest l x y s' l' i j → j < i → ∀ s'' , Arr s'' a lo (swp l' j x) rest → Mut [lo] s' s'' → ∀ b : Bool, ∃ (m : Nat) (b' : Bool) (l' : List (El E.O)), AV.tup [.int .i64 (j : Nat), .bool b] = .tup [.int .i64 (m : Nat), .bool b'] ∧ Arr s'' a lo l' rest ∧ Sw x y l l' ∧ Parted l' x y m ∧ Mut [lo] s s'' := by
  intro s' l' i j st hij s'' a2 m2 b
  have := st.prt.ij
  have := st.prt.xi
  have := st.prt.jy
  have hl' := st.sw.len
  exact ⟨j, b, _, rfl, a2, .step st.sw ⟨by omega, by omega⟩ ⟨by omega, by omega⟩ (by omega), st.prt.fin (by omega) hij, st.chg.trans m2⟩
 have ngt : ∀ {u v : El E.O}, ¬ u.cmp v < 0 → Ge u v := fun h => El.nlt_le (by rw [← El.cmp_lt]; exact h)
 have ylt : ∀ {u v : El E.O}, u.cmp v < 0 → Lt u v := fun h => El.cmp_lt.1 h
 refine ⟨fun vs s' => ∃ (i : Nat) (l' : List (El E.O)), vs = [.int .i64 (i : Nat)] ∧ PSt Lt Ge s a lo rest l x y s' l' i (y - 1) ∧ (i ≤ y - 1 → Ge (el l' i) (el l' x)), ?_, ?_⟩
 ·rintro n14 s15 ⟨i, l1, hi, st15, g15⟩
  simp only [List.cons.injEq, AV.int.injEq, true_and, and_true] at hi
  subst hi
  have hl1 := st15.sw.len
  have hxi := st15.prt.xi
  have hiy := st15.prt.ij
  refine ⟨fun vs s' => ∃ j : Nat, vs = [.int .i64 (j : Nat)] ∧ PSt Lt Ge s a lo rest l x y s' l1 i j ∧ (i ≤ j → Lt (el l1 j) (el l1 x)), ?_, ?_⟩
  ·rintro n17 s18 ⟨j, hj, st18, g18⟩
   simp only [List.cons.injEq, AV.int.injEq, true_and, and_true] at hj
   subst hj
   have hjy := st18.prt.jy
   have hij := st18.prt.ij
   refine bsplit.dec (fun hgt => ?_) (fun hle => ?_)
   ·refine st18.arr.swap st18.wf (by omega) (by omega) fun s30 a30 w30 m30 => fin _ _ _ _ st18 (by omega) _ a30 m30 true
   ·have hne : i ≠ j := by
     rintro rfl
     have h1 := g15 (by omega)
     have h2 := g18 (by omega)
     rw [Lt] at h2; rw [Ge, El.le] at h1
     rw [h1] at h2; cases h2
    refine st18.arr.swap st18.wf (by omega) (by omega) fun s42 a42 w42 m42 => ?_
    have st42 : PSt Lt Ge s a lo rest l x y s42 (swp l1 i j) (i + 1) (j - 1) := ⟨a42, w42, .step st18.sw ⟨by omega, by omega⟩ ⟨by omega, by omega⟩ (by omega), st18.prt.swap (by omega) (by omega) (g18 (by omega)) (g15 (by omega)), st18.chg.trans m42⟩
    refine ⟨fun vs s' => ∃ (i j : Nat) (l' : List (El E.O)), vs = [.int .i64 (j : Nat)] ∧ j < i ∧ PSt Lt Ge s a lo rest l x y s' l' i j, ?_, ?_⟩
    ·rintro n44 s45 ⟨i', j', l', hj', hij', st45⟩
     simp only [List.cons.injEq, AV.int.injEq, true_and, and_true] at hj'
     subst hj'
     have := st45.prt.jy
     have := st45.prt.xi
     have := st45.sw.len
     refine st45.arr.swap st45.wf (by omega) (by omega) fun s57 a57 w57 m57 => fin _ _ _ _ st45 hij' _ a57 m57 false
    ·rw [wadd1 (by omega), wsub1 (by omega) (by omega)]
     refine ⟨fun m vs s' => ∃ (i j : Nat) (l' : List (El E.O)), vs = [.int .i64 (i : Nat), .int .i64 (j : Nat)] ∧ m = j + 1 - i ∧ PSt Lt Ge s a lo rest l x y s' l' i j, _, ⟨i + 1, j - 1, _, rfl, rfl, st42⟩, ?_⟩
     rintro m n61 n62 s63 ⟨i2, j2, l2, hij2, rfl, st63⟩
     simp only [List.cons.injEq, AV.int.injEq, true_and, and_true] at hij2
     obtain ⟨rfl, rfl⟩ := hij2
     have hl2 := st63.sw.len
     have hx2 := st63.prt.xi
     have hjy2 := st63.prt.jy
     have hij2 := st63.prt.ij
     refine ⟨fun vs s' => ∃ (i : Nat), vs = [.int .i64 (i : Nat)] ∧ i2 ≤ i ∧ PSt Lt Ge s a lo rest l x y s' l2 i j2 ∧ (i ≤ j2 → Ge (el l2 i) (el l2 x)), ?_, ?_⟩
     ·rintro n65 s66 ⟨i3, hi3, hi23, st66, g66⟩
      simp only [List.cons.injEq, AV.int.injEq, true_and, and_true] at hi3
      subst hi3
      have hx3 := st66.prt.xi
      have hij3 := st66.prt.ij
      refine ⟨fun vs s' => ∃ j : Nat, vs = [.int .i64 (j : Nat)] ∧ j ≤ j2 ∧ PSt Lt Ge s a lo rest l x y s' l2 i3 j ∧ (i3 ≤ j → Lt (el l2 j) (el l2 x)), ?_, ?_⟩
      ·rintro n68 s69 ⟨j3, hj3, hj23, st69, g69⟩
       simp only [List.cons.injEq, AV.int.injEq, true_and, and_true] at hj3
       subst hj3
       have hjy3 := st69.prt.jy
       have hij4 := st69.prt.ij
       refine bsplit.dec (fun hgt => ⟨i3, j3, l2, rfl, by omega, st69⟩) (fun hle => ?_)
       have hne : i3 ≠ j3 := by
        rintro rfl
        have h1 := g66 (by omega)
        have h2 := g69 (by omega)
        rw [Lt] at h2; rw [Ge, El.le] at h1
        rw [h1] at h2; cases h2
       refine st69.arr.swap st69.wf (by omega) (by omega) fun s81 a81 w81 m81 => ?_
       rw [wadd1 (by omega), wsub1 (by omega) (by omega)]
       exact ⟨j3 - 1 + 1 - (i3 + 1), by omega, i3 + 1, j3 - 1, _, rfl, rfl, a81, w81, .step st69.sw ⟨by omega, by omega⟩ ⟨by omega, by omega⟩ (by omega), st69.prt.swap (by omega) (by omega) (g69 (by omega)) (g66 (by omega)), st69.chg.trans m81⟩
      ·refine ⟨fun m vs s' => ∃ j : Nat, vs = [.int .i64 (j : Nat)] ∧ j ≤ j2 ∧ m = 2 * j ∧ PSt Lt Ge s a lo rest l x y s' l2 i3 j, 2 * j2, ⟨j2, rfl, by omega, rfl, st66⟩, ?_⟩
       rintro m n85 s86 ⟨j3, hj3, hj23, rfl, st86⟩
       simp only [List.cons.injEq, AV.int.injEq, true_and, and_true] at hj3
       subst hj3
       have hjy3 := st86.prt.jy
       refine bsplit.dec (fun hle => ?_) (fun hgt => ⟨j3, rfl, hj23, st86, fun h => by omega⟩)
       refine st86.arr.cmp (by omega) (by omega) fun s94 a94 w94 m94 => bsplit.mk (fun hc => ?_) (fun hc => ?_)
       ·have hc' := ngt (by simpa using hc)
        rw [wsub1 (by omega) (by omega)]
        exact ⟨2 * (j3 - 1), by omega, j3 - 1, rfl, by omega, rfl, st86.to a94 w94 m94 (st86.prt.right (by omega) hc')⟩
       ·have hc' := ylt (by simpa using hc)
        exact ⟨j3, rfl, hj23, st86.to a94 w94 m94 st86.prt, fun _ => hc'⟩
     ·refine ⟨fun m vs s' => ∃ i : Nat, vs = [.int .i64 (i : Nat)] ∧ i2 ≤ i ∧ m = y - i ∧ PSt Lt Ge s a lo rest l x y s' l2 i j2, y - i2, ⟨i2, rfl, by omega, rfl, st63⟩, ?_⟩
      rintro m n99 s100 ⟨i3, hi3, hi23, rfl, st100⟩
      simp only [List.cons.injEq, AV.int.injEq, true_and, and_true] at hi3
      subst hi3
      have hx3 := st100.prt.xi
      refine bsplit.dec (fun hle => ?_) (fun hgt => ⟨i3, rfl, hi23, st100, fun h => by omega⟩)
      refine st100.arr.cmp (by omega) (by omega) fun s108 a108 w108 m108 => bsplit.dec (fun hc => ?_) (fun hc => ?_)
      ·rw [wadd1 (by omega)]
       exact ⟨y - (i3 + 1), by omega, i3 + 1, rfl, by omega, rfl, st100.to a108 w108 m108 (st100.prt.left (by omega) (ylt hc))⟩
      ·exact ⟨i3, rfl, hi23, st100.to a108 w108 m108 st100.prt, fun _ => ngt hc⟩
  ·rw [wsub1 (by omega) (by omega)]
   refine ⟨fun m vs s' => ∃ j : Nat, vs = [.int .i64 (j : Nat)] ∧ m = 2 * j ∧ PSt Lt Ge s a lo rest l x y s' l1 i j, 2 * (y - 1), ⟨y - 1, rfl, rfl, st15⟩, ?_⟩
   rintro m n113 s114 ⟨j3, hj3, rfl, st114⟩
   simp only [List.cons.injEq, AV.int.injEq, true_and, and_true] at hj3
   subst hj3
   have hjy3 := st114.prt.jy
   refine bsplit.dec (fun hle => ?_) (fun hgt => ⟨j3, rfl, st114, fun h => by omega⟩)
   refine st114.arr.cmp (by omega) (by omega) fun s122 a122 w122 m122 => bsplit.mk (fun hc => ?_) (fun hc => ?_)
   ·have hc' := ngt (by simpa using hc)
    rw [wsub1 (by omega) (by omega)]
    exact ⟨2 * (j3 - 1), by omega, j3 - 1, rfl, rfl, st114.to a122 w122 m122 (st114.prt.right (by omega) hc')⟩
   ·have hc' := ylt (by simpa using hc)
    exact ⟨j3, rfl, st114.to a122 w122 m122 st114.prt, fun _ => hc'⟩
 ·rw [wadd1 (by omega), wsub1 (by omega) (by omega)]
  refine ⟨fun m vs s' => ∃ i : Nat, vs = [.int .i64 (i : Nat)] ∧ m = y - i ∧ PSt Lt Ge s a lo rest l x y s' (swp l x p) i (y - 1), y - (x + 1), ⟨x + 1, rfl, rfl, a12, w12, sw12, Prt.start (by omega), m12⟩, ?_⟩
  rintro m n127 s128 ⟨i3, hi3, rfl, st128⟩
  simp only [List.cons.injEq, AV.int.injEq, true_and, and_true] at hi3
  subst hi3
  have hx3 := st128.prt.xi
  have hl3 := st128.sw.len
  refine bsplit.dec (fun hle => ?_) (fun hgt => ⟨i3, _, rfl, st128, fun h => by omega⟩)
  refine st128.arr.cmp (by omega) (by omega) fun s136 a136 w136 m136 => bsplit.dec (fun hc => ?_) (fun hc => ?_)
  ·rw [wadd1 (by omega)]
   exact ⟨y - (i3 + 1), by omega, i3 + 1, rfl, rfl, st128.to a136 w136 m136 (st128.prt.left (by omega) (ylt hc))⟩
  ·exact ⟨i3, _, rfl, st128.to a136 w136 m136 st128.prt, fun _ => ngt hc⟩
end
section
variable {cf : FuncId} [CmpOk E cf]
theorem partEq_ok {s : AS} {a : AV} {lo : Nat} {l : List (El E.O)} {rest : List AV} {x y p : Nat} (h : Arr s a lo l rest) (hp : x ≤ p ∧ p < y) (hy : y ≤ l.length) (hn : l.length ≤ 2 ^ 40) :
  ACalls Try.prog E.F_partitionEqualCmpFunc [a, .int .i64 (x : Nat), .int .i64 (y : Nat), .int .i64 (p : Nat), .func cf []] s fun r s' => ∃ (i j : Nat) (l' : List (El E.O)), r = .int .i64 (i : Nat) ∧ Arr s' a lo l' rest ∧ Sw x y l l' ∧ Prt Le' Gt' l' x y i j ∧ j < i ∧ el l' x = el l p ∧ Mut [lo] s s' := by
 refine ACalls.pre fun hw => SQ.q_partitionEqualCmpFunc _ _ _ _ _ _ _ ?_
 refine h.swap hw (by omega) (by omega) fun s12 a12 w12 m12 => ?_
 have sw12 : Sw x y l (swp l x p) := .step (.refl _) ⟨by omega, by omega⟩ hp hy
 have ex12 : el (swp l x p) x = el l p := by
  rw [el_swp (by omega) (by omega)]
  split
  ·rename_i e; rw [e]
  ·rw [if_pos rfl]
 have ngt : ∀ {u v : El E.O}, ¬ u.cmp v < 0 → Le' v u := fun h => El.nlt_le (by rw [← El.cmp_lt]; exact h)
 have ylt : ∀ {u v : El E.O}, u.cmp v < 0 → Gt' v u := fun h => El.cmp_lt.1 h
 rw [wadd1 (by omega), wsub1 (by omega) (by omega)]
 refine ⟨fun m vs s' => ∃ (i j : Nat) (l' : List (El E.O)), vs = [.int .i64 (i : Nat), .int .i64 (j : Nat)] ∧ m = j + 1 - i ∧ PSt Le' Gt' s a lo rest l x y s' l' i j ∧ el l' x = el l p, _, ⟨x + 1, y - 1, _, rfl, rfl, ⟨a12, w12, sw12, Prt.start (by omega), m12⟩, ex12⟩, ?_⟩
 rintro m n16 n17 s18 ⟨i2, j2, l2, hij2, rfl, st18, ex18⟩
 simp only [List.cons.injEq, AV.int.injEq, true_and, and_true] at hij2
 obtain ⟨rfl, rfl⟩ := hij2
 have hl2 := st18.sw.len
 have hx2 := st18.prt.xi
 have hjy2 := st18.prt.jy
 have hij2 := st18.prt.ij
 refine ⟨fun vs s' => ∃ (i : Nat), vs = [.int .i64 (i : Nat)] ∧ i2 ≤ i ∧ PSt Le' Gt' s a lo rest l x y s' l2 i j2 ∧ (i ≤ j2 → Gt' (el l2 i) (el l2 x)), ?_, ?_⟩
 ·rintro n20 s21 ⟨i3, hi3, hi23, st21, g21⟩
  simp only [List.cons.injEq, AV.int.injEq, true_and, and_true] at hi3
  subst hi3
  have hx3 := st21.prt.xi
  have hij3 := st21.prt.ij
  refine ⟨fun vs s' => ∃ j : Nat, vs = [.int .i64 (j : Nat)] ∧ j ≤ j2 ∧ PSt Le' Gt' s a lo rest l x y s' l2 i3 j ∧ (i3 ≤ j → Le' (el l2 j) (el l2 x)), ?_, ?_⟩
  ·rintro n23 s24 ⟨j3, hj3, hj23, st24, g24⟩
   simp only [List.cons.injEq, AV.int.injEq, true_and, and_true] at hj3
   subst hj3
   have hjy3 := st24.prt.jy
   have hij4 := st24.prt.ij
   refine bsplit.dec (fun hgt => ⟨i3, j3, l2, rfl, st24.arr, st24.sw, st24.prt, by omega, ex18, st24.chg⟩) (fun hle => ?_)
   have hne : i3 ≠ j3 := by
    rintro rfl
    have h1 := g21 (by omega)
    have h2 := g24 (by omega)
    rw [Gt'] at h1; rw [Le', El.le] at h2
    rw [h2] at h1; cases h1
   refine st24.arr.swap st24.wf (by omega) (by omega) fun s36 a36 w36 m36 => ?_
   rw [wadd1 (by omega), wsub1 (by omega) (by omega)]
   exact ⟨j3 - 1 + 1 - (i3 + 1), by omega, i3 + 1, j3 - 1, _, rfl, rfl, ⟨a36, w36, .step st24.sw ⟨by omega, by omega⟩ ⟨by omega, by omega⟩ (by omega), st24.prt.swap (by omega) (by omega) (g24 (by omega)) (g21 (by omega)), st24.chg.trans m36⟩, by rw [el_swp (by omega) (by omega), if_neg (by omega), if_neg (by omega)]; exact ex18⟩
  ·refine ⟨fun m vs s' => ∃ j : Nat, vs = [.int .i64 (j : Nat)] ∧ j ≤ j2 ∧ m = 2 * j ∧ PSt Le' Gt' s a lo rest l x y s' l2 i3 j, 2 * j2, ⟨j2, rfl, by omega, rfl, st21⟩, ?_⟩
   rintro m n40 s41 ⟨j3, hj3, hj23, rfl, st41⟩
   simp only [List.cons.injEq, AV.int.injEq, true_and, and_true] at hj3
   subst hj3
   have hjy3 := st41.prt.jy
   refine bsplit.dec (fun hle => ?_) (fun hgt => ⟨j3, rfl, hj23, st41, fun h => by omega⟩)
   refine st41.arr.cmp (by omega) (by omega) fun s49 a49 w49 m49 => bsplit.dec (fun hc => ?_) (fun hc => ?_)
   ·rw [wsub1 (by omega) (by omega)]
    exact ⟨2 * (j3 - 1), by omega, j3 - 1, rfl, by omega, rfl, st41.to a49 w49 m49 (st41.prt.right (by omega) (ylt hc))⟩
   ·exact ⟨j3, rfl, hj23, st41.to a49 w49 m49 st41.prt, fun _ => ngt hc⟩
 ·refine ⟨fun m vs s' => ∃ i : Nat, vs = [.int .i64 (i : Nat)] ∧ i2 ≤ i ∧ m = y - i ∧ PSt Le' Gt' s a lo rest l x y s' l2 i j2, y - i2, ⟨i2, rfl, by omega, rfl, st18⟩, ?_⟩
  rintro m n54 s55 ⟨i3, hi3, hi23, rfl, st55⟩
  simp only [List.cons.injEq, AV.int.injEq, true_and, and_true] at hi3
  subst hi3
  have hx3 := st55.prt.xi
  refine bsplit.dec (fun hle => ?_) (fun hgt => ⟨i3, rfl, hi23, st55, fun h => by omega⟩)
  refine st55.arr.cmp (by omega) (by omega) fun s63 a63 w63 m63 => bsplit.mk (fun hc => ?_) (fun hc => ?_)
  ·have hc' := ngt (by simpa using hc)
   rw [wadd1 (by omega)]
   exact ⟨y - (i3 + 1), by omega, i3 + 1, rfl, by omega, rfl, st55.to a63 w63 m63 (st55.prt.left (by omega) hc')⟩
  ·have hc' := ylt (by simpa using hc)
   exact ⟨i3, rfl, hi23, st55.to a63 w63 m63 st55.prt, fun _ => hc'⟩
structure WSt (s : AS) (a : AV) (lo : Nat) (rest : List AV) (l : List (El E.O)) (x y : Nat) (s' : AS) (l' : List (El E.O)) : Prop where
 arr : Arr s' a lo l' rest
 wf : WFs s'
 sw : Sw x y l l'
 chg : Mut [lo] s s'
theorem WSt.to {s : AS} {a : AV} {lo : Nat} {rest : List AV} {l : List (El E.O)} {x y : Nat} {s' s'' : AS} {l' : List (El E.O)} (h : WSt s a lo rest l x y s' l') (ha : Arr s'' a lo l' rest) (hw : WFs s'') (m : Mut [lo] s' s'') : WSt s a lo rest l x y s'' l' := ⟨ha, hw, h.sw, h.chg.trans m⟩
theorem WSt.swap {s : AS} {a : AV} {lo : Nat} {rest : List AV} {l : List (El E.O)} {x y : Nat} {s' s'' : AS} {l' : List (El E.O)} {i j : Nat} (h : WSt s a lo rest l x y s' l') (hy : y ≤ l.length) (hi : x ≤ i ∧ i < y) (hj : x ≤ j ∧ j < y) (ha : Arr s'' a lo (swp l' i j) rest) (hw : WFs s'') (m : Mut [lo] s' s'') : WSt s a lo rest l x y s'' (swp l' i j) :=
 ⟨ha, hw, .step h.sw hi hj (by rw [h.sw.len]; exact hy), h.chg.trans m⟩
theorem srt_ext1 {l : List (El E.O)} {x i : Nat} (h : Srt l x i) (hx : x < i) (hle : (el l (i - 1)).le (el l i)) : Srt l x (i + 1) := by
 intro p q h1 h2 h3
 by_cases e : q = i
 ·subst e
  by_cases e2 : p = q - 1
  ·rw [e2]; exact hle
  ·exact El.le_trans (h p (q - 1) h1 (by omega) (by omega)) hle
 ·exact h p q h1 h2 (by omega)
theorem low_sw {l l' : List (El E.O)} {x y : Nat} (h : Sw x y l l') (hlow : 0 < x → ∀ q, x ≤ q → q < y → (el l (x - 1)).le (el l q)) : 0 < x → ∀ q, x ≤ q → q < y → (el l' (x - 1)).le (el l' q) := by
 intro h0 q h1 h2
 obtain ⟨j, hj, e⟩ := h.mem (k := q) ⟨h1, h2⟩
 rw [h.out (.inl (by omega)), e]
 exact hlow h0 j hj.1 hj.2
theorem partial_ok {s : AS} {a : AV} {lo : Nat} {l : List (El E.O)} {rest : List AV} {x y : Nat} (h : Arr s a lo l rest) (hxy : x < y) (hy : y ≤ l.length) (hn : l.length ≤ 2 ^ 40) (hlow : 0 < x → ∀ q, x ≤ q → q < y → (el l (x - 1)).le (el l q)) :
  ACalls Try.prog E.F_partialInsertionSortCmpFunc [a, .int .i64 (x : Nat), .int .i64 (y : Nat), .func cf []] s fun r s' => ∃ (b : Bool) (l' : List (El E.O)), r = .bool b ∧ WSt s a lo rest l x y s' l' ∧ (b = true → Srt l' x y) := by
 have w0 : WFs s → WSt s a lo rest l x y s l := fun hw => ⟨h, hw, .refl _, Mut.refl _ _⟩
 refine ACalls.pre fun hw => SQ.q_partialInsertionSortCmpFunc _ _ _ _ _ _ ?_
 rw [Q_partialInsertionSortCmpFunc, wadd1 (by omega)]
 refine ⟨fun m vs s' => ∃ (i k : Nat) (l' : List (El E.O)), vs = [.int .i64 (i : Nat), .int .i64 (k : Nat)] ∧ k ≤ 5 ∧ m = 5 - k ∧ x + 1 ≤ i ∧ i ≤ y ∧ WSt s a lo rest l x y s' l' ∧ Srt l' x i, 5, ⟨x + 1, 0, l, rfl, by omega, rfl, by omega, by omega, w0 hw, fun p q _ _ _ => by omega⟩, ?_⟩
 rintro m n4 n5 s6 ⟨i0, k, l1, hik, hk, rfl, hi1, hi2, st6, so6⟩
 simp only [List.cons.injEq, AV.int.injEq, true_and, and_true] at hik
 obtain ⟨rfl, rfl⟩ := hik
 refine bsplit.dec (fun hlt5 => ?_) (fun _ => ⟨false, l1, rfl, st6, by simp⟩)
 refine ⟨fun vs s' => ∃ (i : Nat) (l' : List (El E.O)), vs = [.int .i64 (i : Nat)] ∧ x + 1 ≤ i ∧ i ≤ y ∧ WSt s a lo rest l x y s' l' ∧ Srt l' x i ∧ (i < y → (el l' i).lt (el l' (i - 1)) = true), ?_, ?_⟩
 ·rintro n8 s9 ⟨i, l2, hi, hi3, hi4, st9, so9, g9⟩
  simp only [List.cons.injEq, AV.int.injEq, true_and, and_true] at hi
  subst hi
  have hl2 := st9.sw.len
  refine bsplit.mk (fun he => ?_) (fun hne => ?_)
  ·have : i = y := by simp at he; omega
   subst this
   exact ⟨true, l2, rfl, st9, fun _ => so9⟩
  have hiy : i < y := by simp at hne; omega
  rw [wsub (by omega) (by omega)]
  refine bsplit.dec (fun _ => ⟨false, l2, rfl, st9, by simp⟩) (fun _ => ?_)
  rw [wsub1 (by omega) (by omega)]
  refine st9.arr.swap st9.wf (by omega) (by omega) fun s21 a21 w21 m21 => ?_
  have st21 := st9.swap hy ⟨by omega, by omega⟩ ⟨by omega, by omega⟩ a21 w21 m21
  have so21 : ∀ p q, x ≤ p → p < q → q ≤ i - 1 → q ≠ i - 1 → (el (swp l2 i (i - 1)) p).le (el (swp l2 i (i - 1)) q) := by
   intro p q h1 h2 h3 h4
   rw [el_swp (by omega) (by omega), el_swp (by omega) (by omega), if_neg (by omega), if_neg (by omega), if_neg (by omega), if_neg (by omega)]
   exact so9 p q h1 h2 (by omega)
  have next : ∀ s' l', WSt s a lo rest l x y s' l' → Srt l' x i → ∃ m', m' < 5 - k ∧ ∃ (i' k' : Nat) (l' : List (El E.O)), [AV.int .i64 (i : Nat), .int .i64 (IntKind.wrap .i64 ((k : Int) + 1))] = [.int .i64 (i' : Nat), .int .i64 (k' : Nat)] ∧ k' ≤ 5 ∧ m' = 5 - k' ∧ x + 1 ≤ i' ∧ i' ≤ y ∧ WSt s a lo rest l x y s' l' ∧ Srt l' x i' :=
   fun s' l' h1 h2 => ⟨5 - (k + 1), by omega, i, k + 1, l', by rw [wadd1 (by omega)], by omega, rfl, by omega, by omega, h1, h2⟩
  refine ⟨fun vs s' => ∃ l', WSt s a lo rest l x y s' l' ∧ Srt l' x i, ?_, ?_⟩
  ·rintro s23 ⟨l3, st23, so23⟩
   rw [wsub (by omega) (by omega)]
   refine bsplit.dec (fun _ => ?_) (fun _ => next _ _ st23 so23)
   rw [wadd1 (by omega)]
   refine ⟨fun m vs s' => ∃ (j : Nat) (l' : List (El E.O)), vs = [.int .i64 (j : Nat)] ∧ i + 1 ≤ j ∧ m = y - j ∧ WSt s a lo rest l x y s' l' ∧ Srt l' x i, y - (i + 1), ⟨i + 1, l3, rfl, by omega, rfl, st23, so23⟩, ?_⟩
   rintro m n27 s28 ⟨j, l4, hj, hij, rfl, st28, so28⟩
   simp only [List.cons.injEq, AV.int.injEq, true_and, and_true] at hj
   subst hj
   have hl4 := st28.sw.len
   refine bsplit.dec (fun hjy => ?_) (fun _ => next _ _ st28 so28)
   rw [wsub1 (by omega) (by omega)]
   refine st28.arr.cmp (by omega) (by omega) fun s36 a36 w36 m36 => bsplit.mk (fun _ => next _ _ (st28.to a36 w36 m36) so28) (fun _ => ?_)
   refine a36.swap w36 (by omega) (by omega) fun s49 a49 w49 m49 => ?_
   rw [wadd1 (by omega)]
   refine ⟨y - (j + 1), by omega, j + 1, _, rfl, by omega, rfl, (st28.to a36 w36 m36).swap hy ⟨by omega, by omega⟩ ⟨by omega, by omega⟩ a49 w49 m49, fun p q h1 h2 h3 => ?_⟩
   rw [el_swp (by omega) (by omega), el_swp (by omega) (by omega), if_neg (by omega), if_neg (by omega), if_neg (by omega), if_neg (by omega)]
   exact so28 p q h1 h2 h3
  ·rw [wsub (by omega) (by omega)]
   refine bsplit.dec (fun h2 => ?_) (fun h2 => ⟨_, st21, fun p q h1 h2 h3 => by omega⟩)
   refine ⟨fun m vs s' => ∃ (j : Nat) (l' : List (El E.O)), vs = [.int .i64 (j : Nat)] ∧ x ≤ j ∧ j ≤ i - 1 ∧ m = 2 * j ∧ WSt s a lo rest l x y s' l' ∧ (∀ p q, x ≤ p → p < q → q ≤ i - 1 → q ≠ j → (el l' p).le (el l' q)), 2 * (i - 1), ⟨i - 1, _, rfl, by omega, by omega, rfl, st21, so21⟩, ?_⟩
   rintro m n53 s54 ⟨j, l4, hj, hxj, hji, rfl, st54, so54⟩
   simp only [List.cons.injEq, AV.int.injEq, true_and, and_true] at hj
   subst hj
   have hl4 := st54.sw.len
   have fin : ∀ s', WSt s a lo rest l x y s' l4 → (j = x ∨ (el l4 (j - 1)).le (el l4 j)) → ∃ l', WSt s a lo rest l x y s' l' ∧ Srt l' x i := by
    intro s' h1 h2
    have := ins_end hxj hji h2 so54
    rw [show i - 1 + 1 = i by omega] at this
    exact ⟨l4, h1, this⟩
   refine bsplit.dec (fun hj1 => ?_) (fun hj1 => fin _ st54 (.inl (by omega)))
   rw [wsub1 (by omega) (by omega)]
   refine st54.arr.cmp (by omega) (by omega) fun s62 a62 w62 m62 => bsplit.mk (fun hc => fin _ (st54.to a62 w62 m62) (.inr (El.nlt_le (by rw [← El.cmp_lt]; simpa using hc)))) (fun hc => ?_)
   have hc' : (el l4 j).lt (el l4 (j - 1)) = true := by rw [← El.cmp_lt]; simpa using hc
   have hxj' : x < j := by
    rcases Nat.lt_or_ge x j with h' | h'
    ·exact h'
    ·exfalso
     obtain rfl : x = j := by omega
     have := low_sw st54.sw hlow (by omega) x (by omega) (by omega)
     rw [El.le] at this
     rw [this] at hc'; cases hc'
   refine a62.swap w62 (by omega) (by omega) fun s75 a75 w75 m75 => ?_
   exact ⟨2 * (j - 1), by omega, j - 1, _, rfl, by omega, by omega, rfl, (st54.to a62 w62 m62).swap hy ⟨by omega, by omega⟩ ⟨by omega, by omega⟩ a75 w75 m75, ins_step (by omega) hxj' hji hc' so54⟩
 ·refine ⟨fun m vs s' => ∃ (i : Nat), vs = [.int .i64 (i : Nat)] ∧ x + 1 ≤ i ∧ i ≤ y ∧ m = y - i ∧ WSt s a lo rest l x y s' l1 ∧ Srt l1 x i, y - i0, ⟨i0, rfl, hi1, hi2, rfl, st6, so6⟩, ?_⟩
  rintro m n79 s80 ⟨i, hi, hi3, hi4, rfl, st80, so80⟩
  simp only [List.cons.injEq, AV.int.injEq, true_and, and_true] at hi
  subst hi
  have hl1 := st80.sw.len
  refine bsplit.dec (fun hiy => ?_) (fun hge => ⟨i, l1, rfl, hi3, hi4, st80, so80, fun h => by omega⟩)
  rw [wsub1 (by omega) (by omega)]
  refine st80.arr.cmp (by omega) (by omega) fun s88 a88 w88 m88 => bsplit.mk (fun hc => ?_) (fun hc => ?_)
  ·rw [wadd1 (by omega)]
   exact ⟨y - (i + 1), by omega, i + 1, rfl, by omega, by omega, rfl, st80.to a88 w88 m88, srt_ext1 so80 (by omega) (El.nlt_le (by rw [← El.cmp_lt]; simpa using hc))⟩
  ·exact ⟨i, l1, rfl, hi3, hi4, st80.to a88 w88 m88, so80, fun _ => by rw [← El.cmp_lt]; simpa using hc⟩
end
section
variable {cf : FuncId} [CmpOk E cf]
noncomputable def bitsChk (x : Nat) : Bool := match aindex T Y_string (.str [0, 1, 2, 2, 3, 3, 3, 3, 4, 4, 4, 4, 4, 4, 4, 4, 5, 5, 5, 5, 5, 5, 5, 5, 5, 5, 5, 5, 5, 5, 5, 5, 6, 6, 6, 6, 6, 6, 6, 6, 6, 6, 6, 6, 6, 6, 6, 6, 6, 6, 6, 6, 6, 6, 6, 6, 6, 6, 6, 6, 6, 6, 6, 6, 7, 7, 7, 7, 7, 7, 7, 7, 7, 7, 7, 7, 7, 7, 7, 7, 7, 7, 7, 7, 7, 7, 7, 7, 7, 7, 7, 7, 7, 7, 7, 7, 7, 7, 7, 7, 7, 7, 7, 7, 7, 7, 7, 7, 7, 7, 7, 7, 7, 7, 7, 7, 7, 7, 7, 7, 7, 7, 7, 7, 7, 7, 7, 7, 8, 8, 8, 8, 8, 8, 8, 8, 8, 8, 8, 8, 8, 8, 8, 8, 8, 8, 8, 8, 8, 8, 8, 8, 8, 8, 8, 8, 8, 8, 8, 8, 8, 8, 8, 8, 8, 8, 8, 8, 8, 8, 8, 8, 8, 8, 8, 8, 8, 8, 8, 8, 8, 8, 8, 8, 8, 8, 8, 8, 8, 8, 8, 8, 8, 8, 8, 8, 8, 8, 8, 8, 8, 8, 8, 8, 8, 8, 8, 8, 8, 8, 8, 8, 8, 8, 8, 8, 8, 8, 8, 8, 8, 8, 8, 8, 8, 8, 8, 8, 8, 8, 8, 8, 8, 8, 8, 8, 8, 8, 8, 8, 8, 8, 8, 8, 8, 8, 8, 8, 8, 8, 8, 8, 8, 8, 8, 8]) (.int .u8 (IntKind.wrap .u8 (x : Nat))) with
 | some (.int .u8 k) => decide (0 ≤ k ∧ k ≤ 8 ∧ (x = 0 ∨ (x < 2 ^ k.toNat ∧ 2 ^ k.toNat ≤ 2 * x)))
 | _ => false
theorem bits_all : (List.range 256).all bitsChk = true := by kernel_rfl
theorem bits_get {x : Nat} (h : x < 256) : ∃ k : Nat, aindex T Y_string (.str [0, 1, 2, 2, 3, 3, 3, 3, 4, 4, 4, 4, 4, 4, 4, 4, 5, 5, 5, 5, 5, 5, 5, 5, 5, 5, 5, 5, 5, 5, 5, 5, 6, 6, 6, 6, 6, 6, 6, 6, 6, 6, 6, 6, 6, 6, 6, 6, 6, 6, 6, 6, 6, 6, 6, 6, 6, 6, 6, 6, 6, 6, 6, 6, 7, 7, 7, 7, 7, 7, 7, 7, 7, 7, 7, 7, 7, 7, 7, 7, 7, 7, 7, 7, 7, 7, 7, 7, 7, 7, 7, 7, 7, 7, 7, 7, 7, 7, 7, 7, 7, 7, 7, 7, 7, 7, 7, 7, 7, 7, 7, 7, 7, 7, 7, 7, 7, 7, 7, 7, 7, 7, 7, 7, 7, 7, 7, 7, 8, 8, 8, 8, 8, 8, 8, 8, 8, 8, 8, 8, 8, 8, 8, 8, 8, 8, 8, 8, 8, 8, 8, 8, 8, 8, 8, 8, 8, 8, 8, 8, 8, 8, 8, 8, 8, 8, 8, 8, 8, 8, 8, 8, 8, 8, 8, 8, 8, 8, 8, 8, 8, 8, 8, 8, 8, 8, 8, 8, 8, 8, 8, 8, 8, 8, 8, 8, 8, 8, 8, 8, 8, 8, 8, 8, 8, 8, 8, 8, 8, 8, 8, 8, 8, 8, 8, 8, 8, 8, 8, 8, 8, 8, 8, 8, 8, 8, 8, 8, 8, 8, 8, 8, 8, 8, 8, 8, 8, 8, 8, 8, 8, 8, 8, 8, 8, 8, 8, 8, 8, 8, 8, 8, 8, 8, 8, 8]) (.int .u8 (IntKind.wrap .u8 (x : Nat))) = some (.int .u8 (k : Nat)) ∧ k ≤ 8 ∧ (x = 0 ∨ (x < 2 ^ k ∧ 2 ^ k ≤ 2 * x)) := by
 have := List.all_eq_true.1 bits_all x (List.mem_range.2 h)
 unfold bitsChk at this
 split at this
 ·rename_i k hk
  obtain ⟨h1, h2, h3⟩ := of_decide_eq_true this
  refine ⟨k.toNat, ?_, by omega, h3⟩
  rw [hk, Int.toNat_of_nonneg h1]
 ·cases this
theorem len_ok {x : Nat} (hx : x < 65536) (s : AS) : ACalls Try.prog F_math_bits_Len [.int .u64 (x : Nat)] s fun r s' => ∃ k : Nat, r = .int .i64 (k : Nat) ∧ k ≤ 16 ∧ (0 < x → x < 2 ^ k ∧ 2 ^ k ≤ 2 * x) ∧ s' = s := by
 refine q_math_bits_Len _ _ _ ?_
 suffices h : ACalls Try.prog F_math_bits_Len64 [.int .u64 (x : Nat)] s fun r s' => ∃ k : Nat, r = .int .i64 (k : Nat) ∧ k ≤ 16 ∧ (0 < x → x < 2 ^ k ∧ 2 ^ k ≤ 2 * x) ∧ s' = s from
  h.mono (by rintro r s' ⟨k, rfl, h1, h2, rfl⟩; exact ⟨_, rfl, k, rfl, h1, h2, rfl⟩)
 refine q_math_bits_Len64 _ _ _ ⟨fun vs s' => vs = [.int .u64 (x : Nat), .int .i64 0] ∧ s' = s, ?_, bsplit.dec (fun h => by omega) (fun _ => ⟨rfl, rfl⟩)⟩
 rintro n2 n3 s4 ⟨hv, rfl⟩
 simp only [List.cons.injEq, AV.int.injEq, true_and, and_true] at hv
 obtain ⟨rfl, rfl⟩ := hv
 refine ⟨fun vs s' => vs = [.int .u64 (x : Nat), .int .i64 0] ∧ s' = s4, ?_, bsplit.dec (fun h => by omega) (fun _ => ⟨rfl, rfl⟩)⟩
 rintro n6 n7 s8 ⟨hv, rfl⟩
 simp only [List.cons.injEq, AV.int.injEq, true_and, and_true] at hv
 obtain ⟨rfl, rfl⟩ := hv
 refine ⟨fun vs s' => ∃ y b : Nat, vs = [.int .u64 (y : Nat), .int .i64 (b : Nat)] ∧ y < 256 ∧ ((b = 0 ∧ y = x) ∨ (b = 8 ∧ y = x / 256 ∧ 0 < y)) ∧ s' = s8, ?_, bsplit.dec (fun h => ⟨by decide, x / 256, 8, ?_, by omega, .inr ⟨rfl, rfl, by omega⟩, rfl⟩) (fun h => ⟨x, 0, rfl, by omega, .inl ⟨rfl, rfl⟩, rfl⟩)⟩
 ·rintro n10 n11 s12 ⟨y, b, hv, hy, hb, rfl⟩
  simp only [List.cons.injEq, AV.int.injEq, true_and, and_true] at hv
  obtain ⟨rfl, rfl⟩ := hv
  obtain ⟨k, hk, h1, h2⟩ := bits_get hy
  refine ⟨_, hk, b + k, ?_, by omega, fun h0 => ?_, rfl⟩
  ·rw [wrap_i (n := (k : Int)) (by omega), wrap_i (by omega)]; rfl
  ·rcases hb with ⟨rfl, rfl⟩ | ⟨rfl, hyx, h3⟩
   ·rw [Nat.zero_add]; omega
   ·rw [Nat.pow_add]
    rcases h2 with h2 | ⟨h2, h4⟩
    ·omega
    ·generalize 2 ^ k = w at h2 h4 ⊢
     omega
 ·have : Int.fdiv (x : Int) (2 ^ min (Int.toNat 8) (IntKind.bits .u64)) = ((x / 256 : Nat) : Int) := by
   show Int.fdiv (x : Int) ((256 : Nat) : Int) = _
   rw [Int.fdiv_eq_ediv_of_nonneg _ (by omega)]; rfl
  rw [this]; rfl
theorem pow2_ok {x : Nat} (hx : x < 65536) (h0 : 0 < x) (s : AS) : ACalls Try.prog F_slices_nextPowerOfTwo [.int .i64 (x : Nat)] s fun r s' => ∃ k : Nat, r = .int .u64 ((2 ^ k : Nat) : Int) ∧ k ≤ 16 ∧ x < 2 ^ k ∧ 2 ^ k ≤ 2 * x ∧ s' = s := by
 refine q_slices_nextPowerOfTwo _ _ _ ?_
 rw [Q_slices_nextPowerOfTwo, wrap_u (by omega)]
 refine (len_ok hx s).mono ?_
 rintro r s' ⟨k, rfl, h1, h2, rfl⟩
 obtain ⟨h3, h4⟩ := h2 h0
 refine ⟨_, rfl, by omega, k, ?_, h1, h3, h4, rfl⟩
 have e : min (Int.toNat (k : Int)) (IntKind.bits .u64) = k := by
  rw [Int.toNat_natCast]
  exact Nat.min_eq_left (Nat.le_trans h1 (by decide))
 rw [e, Int.one_mul, wrap_u]
 ·rw [Int.natCast_pow]; rfl
 ·have : (2 : Int) ^ k = ((2 ^ k : Nat) : Int) := by rw [Int.natCast_pow]; rfl
  rw [this]; omega
theorem xor_some (n m : Int) : ∃ w : Int, abinInt .xor .u64 n m = some (.int .u64 w) := ⟨_, rfl⟩
theorem RdA.xor {n m : Int} {K : AV → Prop} (h : ∀ w : Int, K (.int .u64 w)) : RdA (abinInt .xor .u64 n m) K := ⟨_, (xor_some n m).choose_spec, h _⟩
theorem xstep {s : AS} {q : Nat} {v0 v : AV} {K : AS → Prop} (hw : WFs s) (ho : Am.Own s q [v0]) (hv : v.one = true) (h : ∀ s', Am.Own s' q [v] → WFs s' → Mut [q] s s' → K s') : AsSome (some (q, 0)) fun l o => qstore T Y_slices_xorshift s l o v K :=
 qstore_one hv z_slices_xorshift (StQ.own hw ho (by simp) fun s' P => h s' P.at P.wf P.mut)
theorem rdq {s : AS} {q : Nat} {n : Int} {K : Int → Prop} (ho : Am.Own s q [.int .u64 n]) (h : K n) : AsSome (some (q, 0)) fun l o => RdI .u64 (rd1 s l o) K := ⟨n, by rw [ho.at.rd1]; rfl, h⟩
set_option maxRecDepth 100000 in
theorem xnext_ok {s : AS} {q : Nat} {n : Int} (h : Am.Own s q [.int .u64 n]) : ACalls Try.prog F_slices_xorshift_Next [.ptr (some (q, 0))] s fun r s' => ∃ m m' : Int, r = .int .u64 m ∧ Am.Own s' q [.int .u64 m'] ∧ Mut [q] s s' := by
 refine ACalls.pre fun hw => q_slices_xorshift_Next _ _ _ ?_
 refine rdq h ?_
 refine rdq h ?_
 refine ⟨by decide, ?_⟩
 refine RdA.xor fun w => ?_
 try dsimp only
 refine xstep (v := .int .u64 w) hw h rfl fun s10 o10 w10 m10 => ?_
 refine rdq o10 ?_
 refine rdq o10 ?_
 refine ⟨by decide, ?_⟩
 refine RdA.xor fun w => ?_
 try dsimp only
 refine xstep (v := .int .u64 w) w10 o10 rfl fun s20 o20 w20 m20 => ?_
 refine rdq o20 ?_
 refine rdq o20 ?_
 refine ⟨by decide, ?_⟩
 refine RdA.xor fun w => ?_
 try dsimp only
 refine xstep (v := .int .u64 w) w20 o20 rfl fun s30 o30 w30 m30 => ?_
 exact rdq o30 ⟨_, _, rfl, o30, (m10.trans m20).trans m30⟩
theorem and_small {n : Int} {k : Nat} (hk : k ≤ 16) : ∃ w : Nat, abinInt .and .u64 n (IntKind.wrap .u64 (((2 ^ k : Nat) : Int) - 1)) = some (.int .u64 (w : Nat)) ∧ w < 2 ^ k := by
 have h1 : 0 < 2 ^ k := Nat.pow_pos (by omega)
 have h2 : 2 ^ k ≤ 65536 := Nat.le_trans (Nat.pow_le_pow_right (by omega) hk) (by decide)
 refine ⟨(BitVec.ofInt 64 n &&& BitVec.ofInt 64 (((2 ^ k - 1 : Nat) : Int))).toNat, ?_, ?_⟩
 ·rw [wrap_u (by omega)]
  rw [show (((2 ^ k : Nat) : Int) - 1) = ((2 ^ k - 1 : Nat) : Int) by omega]
  have key : ∀ z : BitVec 64, IntKind.wrap .u64 (z.toNat : Int) = (z.toNat : Int) := fun z => wrap_u ⟨by omega, by have := z.isLt; omega⟩
  exact congrArg (fun u => some (AV.int .u64 u)) (key (BitVec.ofInt 64 n &&& BitVec.ofInt 64 (((2 ^ k - 1 : Nat) : Int))))
 ·rw [BitVec.toNat_and]
  have h3 := @Nat.and_le_right (BitVec.ofInt 64 n).toNat (BitVec.ofInt 64 (((2 ^ k - 1 : Nat) : Int))).toNat
  have h4 : (BitVec.ofInt 64 (((2 ^ k - 1 : Nat) : Int))).toNat = 2 ^ k - 1 := by
   rw [BitVec.ofInt_natCast, BitVec.toNat_ofNat]
   exact Nat.mod_eq_of_lt (by omega)
  omega
theorem break_ok {s : AS} {a : AV} {lo : Nat} {l : List (El E.O)} {rest : List AV} {x y : Nat} (h : Arr s a lo l rest) (hxy : x < y) (hy : y ≤ l.length) (hn : l.length < 65536) :
  ACalls Try.prog E.F_breakPatternsCmpFunc [a, .int .i64 (x : Nat), .int .i64 (y : Nat), .func cf []] s fun r s' => r = .tup [] ∧ ∃ l', WSt s a lo rest l x y s' l' := by
 refine ACalls.pre fun hw => SQ.q_breakPatternsCmpFunc _ _ _ _ _ _ ?_
 have hlo : s.h lo ≠ none := by obtain ⟨_, g, h2⟩ := h; rw [h2]; simp
 rw [Q_breakPatternsCmpFunc, wsub (by omega) (by omega)]
 refine bsplit.dec (fun h8 => ?_) (fun _ => ⟨rfl, l, h, hw, .refl _, Mut.refl _ _⟩)
 refine NewQ.intro hw rfl fun q s2 F => StQ.own F.wf F.own (by simp) fun s3 P => ?_
 have o3 : Am.Own s3 q [_] := P.at
 have hq : q ≠ lo := by rintro rfl; exact hlo F.no
 have a3 : Arr s3 a lo l rest := (h.ext F.ext).mut P.mut (by simp; exact fun e => hq e.symm)
 have m3 : Mut [lo] s s3 := ⟨fun z o hz ho => by
  have := F.ext.1 z o ho
  exact P.mut.1 z o (by simp; rintro rfl; rw [F.no] at ho; cases ho) this, Nat.le_trans F.ext.2 P.mut.2⟩
 refine ACalls.use (pow2_ok (x := y - x) (by omega) (by omega) s3) ?_
 rintro r s5 ⟨k, rfl, hk, hk1, hk2, rfl⟩ hw5
 refine ⟨_, rfl, by decide, ?_⟩
 rw [show (4 : Int) = ((4 : Nat) : Int) by rfl, tdivN, wid (by omega), show (((y - x) / 4 : Nat) : Int) * 2 = (((y - x) / 4 * 2 : Nat) : Int) by omega, wid (by omega), wadd (by omega), wsub1 (by omega) (by omega), wadd1 (by omega)]
 generalize hd : x + (y - x) / 4 * 2 = d
 refine ⟨fun m vs s' => ∃ (i : Nat) (l' : List (El E.O)) (v : Int), vs = [.int .i64 (i : Nat)] ∧ d - 1 ≤ i ∧ m = d + 2 - i ∧ Am.Own s' q [.int .u64 v] ∧ WSt s a lo rest l x y s' l', d + 2 - (d - 1), ⟨d - 1, l, _, rfl, by omega, rfl, o3, a3, hw5, .refl _, m3⟩, ?_⟩
 rintro m n10 s11 ⟨i, l1, v, hi, hdi, rfl, o11, st11⟩
 simp only [List.cons.injEq, AV.int.injEq, true_and, and_true] at hi
 subst hi
 have hl1 := st11.sw.len
 refine ⟨by decide, bsplit.dec (fun hle => ?_) (fun _ => ⟨rfl, l1, st11⟩)⟩
 refine ACalls.use (xnext_ok o11) ?_
 rintro r s13 ⟨w1, w2, rfl, o13, m13⟩ hw13
 have a13 : Arr s13 a lo l1 rest := st11.arr.mut m13 (by simp; exact fun e => hq e.symm)
 have M13 : Mut [lo] s s13 := ⟨fun z o hz ho => m13.1 z o (by simp; rintro rfl; rw [F.no] at ho; cases ho) (st11.chg.1 z o hz ho), Nat.le_trans st11.chg.2 m13.2⟩
 have st13 : WSt s a lo rest l x y s13 l1 := ⟨a13, hw13, st11.sw, M13⟩
 obtain ⟨w, hw1, hw2⟩ := and_small (n := w1) hk
 refine ⟨_, rfl, _, hw1, ?_⟩
 show JoinQ _
 rw [wid (by omega)]
 refine ⟨fun vs s' => s' = s13 ∧ ∃ t : Nat, vs = [.int .i64 (t : Nat)] ∧ t < y - x, ?_, bsplit.dec (fun hge => ⟨rfl, w - (y - x), by rw [wsub (by omega) (by omega)], by omega⟩) (fun hlt => ⟨rfl, w, rfl, by omega⟩)⟩
 rintro n18 s19 ⟨rfl, t, ht, hty⟩
 simp only [List.cons.injEq, AV.int.injEq, true_and, and_true] at ht
 subst ht
 rw [wadd (by omega)]
 refine st13.arr.swap st13.wf (by omega) (by omega) fun s31 a31 w31 m31 => ?_
 rw [wadd1 (by omega)]
 exact ⟨d + 2 - (i + 1), by omega, i + 1, _, _, rfl, by omega, rfl, o13.mut m31 (by simpa using hq), st13.swap hy ⟨by omega, by omega⟩ ⟨by omega, by omega⟩ a31 w31 m31⟩
end
section
variable {cf : FuncId} [CmpOk E cf]
theorem mut_sub {L L' : List Nat} {s s' : AS} (h : Mut L s s') (hs : ∀ x ∈ L, x ∈ L') : Mut L' s s' := ⟨fun x o hx ho => h.1 x o (fun hm => hx (hs x hm)) ho, h.2⟩
structure Ct (s : AS) (a : AV) (lo : Nat) (l : List (El E.O)) (rest : List AV) (q : Nat) (s' : AS) : Prop where
 ne : q ≠ lo
 own : ∃ c : Int, Am.Own s' q [.int .i64 c]
 arr : Arr s' a lo l rest
 wf : WFs s'
 chg : Mut [q, lo] s s'
section
variable {s s0 : AS} {a : AV} {lo : Nat} {l : List (El E.O)} {rest : List AV} {q : Nat}
theorem order2_ok (h : Ct s0 a lo l rest q s) {x y : Nat} (hx : x < l.length) (hy : y < l.length) :
  ACalls Try.prog E.F_order2CmpFunc [a, .int .i64 (x : Nat), .int .i64 (y : Nat), .ptr (some (q, 0)), .func cf []] s fun r s' => ∃ u v : Nat, r = .tup [.int .i64 (u : Nat), .int .i64 (v : Nat)] ∧ (u = x ∨ u = y) ∧ (v = x ∨ v = y) ∧ Ct s0 a lo l rest q s' := by
 refine SQ.q_order2CmpFunc _ _ _ _ _ _ _ ?_
 refine h.arr.cmp hy hx fun s8 a8 w8 m8 => ?_
 obtain ⟨c, o⟩ := h.own
 have o8 : Am.Own s8 q _ := o.mut m8 (by simpa using h.ne)
 have M8 : Mut [q, lo] s0 s8 := h.chg.trans (mut_sub m8 (by simp))
 refine bsplit.dec (fun _ => ?_) (fun _ => ⟨x, y, rfl, .inl rfl, .inr rfl, h.ne, ⟨c, o8⟩, a8, w8, M8⟩)
 refine ⟨c, by rw [o8.at.rd1]; rfl, StQ.own w8 o8 (by simp) fun s15 P => ⟨y, x, rfl, .inr rfl, .inl rfl, h.ne, ⟨_, P.at⟩, a8.mut P.mut (by simp; exact fun e => h.ne e.symm), P.wf, M8.trans (mut_sub P.mut (by simp))⟩⟩
theorem median_ok (h : Ct s0 a lo l rest q s) {x y z : Nat} (hx : x < l.length) (hy : y < l.length) (hz : z < l.length) :
  ACalls Try.prog E.F_medianCmpFunc [a, .int .i64 (x : Nat), .int .i64 (y : Nat), .int .i64 (z : Nat), .ptr (some (q, 0)), .func cf []] s fun r s' => ∃ u : Nat, r = .int .i64 (u : Nat) ∧ (u = x ∨ u = y ∨ u = z) ∧ Ct s0 a lo l rest q s' := by
 refine SQ.q_medianCmpFunc _ _ _ _ _ _ _ _ ?_
 refine (order2_ok h hx hy).mono ?_
 rintro r s2 ⟨u1, v1, rfl, hu1, hv1, h2⟩
 refine ⟨_, _, rfl, (order2_ok h2 (by omega) hz).mono ?_⟩
 rintro r s6 ⟨u2, v2, rfl, hu2, hv2, h6⟩
 refine ⟨_, _, rfl, (order2_ok h6 (by omega) (by omega)).mono ?_⟩
 rintro r s10 ⟨u3, v3, rfl, hu3, hv3, h10⟩
 exact ⟨_, _, rfl, v3, rfl, by omega, h10⟩
theorem medAdj_ok (h : Ct s0 a lo l rest q s) {x : Nat} (h0 : 1 ≤ x) (hx : x + 1 < l.length) (hn : l.length < 65536) :
  ACalls Try.prog E.F_medianAdjacentCmpFunc [a, .int .i64 (x : Nat), .ptr (some (q, 0)), .func cf []] s fun r s' => ∃ u : Nat, r = .int .i64 (u : Nat) ∧ (x ≤ u + 1 ∧ u ≤ x + 1) ∧ Ct s0 a lo l rest q s' := by
 refine SQ.q_medianAdjacentCmpFunc _ _ _ _ _ _ ?_
 rw [Q_medianAdjacentCmpFunc, wsub1 (by omega) (by omega), wadd1 (by omega)]
 refine (median_ok h (by omega) (by omega) (by omega)).mono ?_
 rintro r s' ⟨u, rfl, hu, h'⟩
 exact ⟨_, rfl, u, rfl, by omega, h'⟩
theorem choose_ok {x y : Nat} (h : Arr s a lo l rest) (hxy : x < y) (hy : y ≤ l.length) (hn : l.length < 65536) :
  ACalls Try.prog E.F_choosePivotCmpFunc [a, .int .i64 (x : Nat), .int .i64 (y : Nat), .func cf []] s fun r s' => ∃ (p : Nat) (t : Int), r = .tup [.int .i64 (p : Nat), .int .i64 t] ∧ (x ≤ p ∧ p < y) ∧ Arr s' a lo l rest ∧ Mut [lo] s s' := by
 have hlo : s.h lo ≠ none := by obtain ⟨_, g, h2⟩ := h; rw [h2]; simp
 refine ACalls.pre fun hw => SQ.q_choosePivotCmpFunc _ _ _ _ _ _ (NewQ.intro hw rfl fun q s2 F => ⟨by decide, by decide, by decide, ?_⟩)
 have hq : q ≠ lo := by rintro rfl; exact hlo F.no
 have c2 : Ct s2 a lo l rest q s2 := ⟨hq, ⟨_, F.own⟩, h.ext F.ext, F.wf, Mut.refl _ _⟩
 have back : ∀ s', Ct s2 a lo l rest q s' → Mut [lo] s s' := fun s' c => ⟨fun z o hz ho => c.chg.1 z o (by
  simp only [List.mem_cons, List.not_mem_nil, or_false, not_or]
  exact ⟨(by rintro rfl; rw [F.no] at ho; cases ho), by simpa using hz⟩) (F.ext.1 z o ho), Nat.le_trans F.ext.2 c.chg.2⟩
 have w4 : ∀ k : Nat, k ≤ 3 → IntKind.wrap .i64 ((x : Int) + IntKind.wrap .i64 (IntKind.wrap .i64 (Int.tdiv (IntKind.wrap .i64 ((y : Int) - (x : Int))) 4) * ((k : Nat) : Int))) = ((x + (y - x) / 4 * k : Nat) : Int) := by
  intro k hk
  have hm : (y - x) / 4 * k ≤ (y - x) / 4 * 3 := Nat.mul_le_mul_left _ hk
  rw [wsub (by omega) (by omega), show (4 : Int) = ((4 : Nat) : Int) by rfl, tdivN, wid (by omega), ← Int.natCast_mul, wid (by omega), wadd (by omega)]
 have w1 := w4 1 (by omega)
 have w2 := w4 2 (by omega)
 have w3 := w4 3 (by omega)
 simp only [Int.natCast_one, show ((2 : Nat) : Int) = 2 by rfl, show ((3 : Nat) : Int) = 3 by rfl] at w1 w2 w3
 rw [w1, w2, w3, wsub (by omega) (by omega)]
 refine ⟨fun vs s' => ∃ p : Nat, vs = [.int .i64 (p : Nat)] ∧ (x ≤ p ∧ p < y) ∧ Ct s2 a lo l rest q s', ?_, bsplit.dec (fun h8 => ?_) (fun _ => ⟨_, rfl, by omega, c2⟩)⟩
 ·rintro n4 s5 ⟨p, hp, hpy, c5⟩
  simp only [List.cons.injEq, AV.int.injEq, true_and, and_true] at hp
  subst hp
  obtain ⟨c, o⟩ := c5.own
  refine ⟨c, by rw [o.at.rd1]; rfl, ?_⟩
  refine bsplit.mk (fun _ => ⟨p, _, rfl, hpy, c5.arr, back _ c5⟩) (fun _ => bsplit.mk (fun _ => ⟨p, _, rfl, hpy, c5.arr, back _ c5⟩) (fun _ => ⟨p, _, rfl, hpy, c5.arr, back _ c5⟩))
 ·refine ⟨fun vs s' => ∃ i j k : Nat, vs = [.int .i64 (i : Nat), .int .i64 (j : Nat), .int .i64 (k : Nat)] ∧ (x ≤ i ∧ i < y) ∧ (x ≤ j ∧ j < y) ∧ (x ≤ k ∧ k < y) ∧ Ct s2 a lo l rest q s', ?_, bsplit.dec (fun h50 => ?_) (fun _ => ⟨_, _, _, rfl, by omega, by omega, by omega, c2⟩)⟩
  ·rintro n8 n9 n10 s11 ⟨i, j, k, hv, hi, hj, hk, c11⟩
   simp only [List.cons.injEq, AV.int.injEq, true_and, and_true] at hv
   obtain ⟨rfl, rfl, rfl⟩ := hv
   refine (median_ok c11 (by omega) (by omega) (by omega)).mono ?_
   rintro r s13 ⟨u, rfl, hu, c13⟩
   exact ⟨_, rfl, u, rfl, by omega, c13⟩
  ·refine (medAdj_ok c2 (by omega) (by omega) hn).mono ?_
   rintro r s16 ⟨i, rfl, hi, c16⟩
   refine ⟨_, rfl, (medAdj_ok c16 (by omega) (by omega) hn).mono ?_⟩
   rintro r s19 ⟨j, rfl, hj, c19⟩
   refine ⟨_, rfl, (medAdj_ok c19 (by omega) (by omega) hn).mono ?_⟩
   rintro r s22 ⟨k, rfl, hk, c22⟩
   exact ⟨_, rfl, i, j, k, rfl, by omega, by omega, by omega, c22⟩
end
end
section
variable {cf : FuncId} [CmpOk E cf]
structure Gd (s : AS) (a : AV) (lo : Nat) (rest : List AV) (l : List (El E.O)) (x y : Nat) (s' : AS) (l' : List (El E.O)) (c d : Nat) : Prop where
 st : WSt s a lo rest l x y s' l'
 ar : Around l' x y c d
 xc : x ≤ c
 cd : c ≤ d
 dy : d ≤ y
section
variable {s : AS} {a : AV} {lo : Nat} {rest : List AV} {l : List (El E.O)} {x y : Nat}
theorem Gd.sub {s' s'' : AS} {l' l'' : List (El E.O)} {c d c' d' : Nat} (h : Gd s a lo rest l x y s' l' c d) (hy : y ≤ l.length) (ha : Arr s'' a lo l'' rest) (hw : WFs s'') (hs : Sw c' d' l' l'') (m : Mut [lo] s' s'') (hc : c ≤ c') (hd : d' ≤ d) : WSt s a lo rest l x y s'' l'' :=
 ⟨ha, hw, h.st.sw.trans (hs.widen (Nat.le_trans h.xc hc) (Nat.le_trans hd h.dy) (by rw [h.st.sw.len]; exact hy)), h.st.chg.trans m⟩
theorem Gd.perm {s' s'' : AS} {l' l'' : List (El E.O)} {c d : Nat} (h : Gd s a lo rest l x y s' l' c d) (hy : y ≤ l.length) (ha : Arr s'' a lo l'' rest) (hw : WFs s'') (hs : Sw c d l' l'') (m : Mut [lo] s' s'') : Gd s a lo rest l x y s'' l'' c d :=
 ⟨h.sub hy ha hw hs m (Nat.le_refl _) (Nat.le_refl _), h.ar.sw h.xc h.dy hs, h.xc, h.cd, h.dy⟩
theorem Gd.to {s' s'' : AS} {l' : List (El E.O)} {c d : Nat} (h : Gd s a lo rest l x y s' l' c d) (ha : Arr s'' a lo l' rest) (hw : WFs s'') (m : Mut [lo] s' s'') : Gd s a lo rest l x y s'' l' c d :=
 ⟨h.st.to ha hw m, h.ar, h.xc, h.cd, h.dy⟩
theorem Gd.low {s' : AS} {l' : List (El E.O)} {c d : Nat} (h : Gd s a lo rest l x y s' l' c d) (hlow : 0 < x → ∀ q, x ≤ q → q < y → (el l (x - 1)).le (el l q)) : 0 < c → ∀ q, c ≤ q → q < d → (el l' (c - 1)).le (el l' q) := by
 intro h0 q h1 h2
 have := h.xc
 have := h.dy
 by_cases e : c = x
 ·subst e
  exact low_sw h.st.sw hlow h0 q h1 (by omega)
 ·exact h.ar (c - 1) q (by omega) (by omega) (by omega) (.inl (by omega))
end
theorem pdq_ok {a : AV} {lo : Nat} {rest : List AV} : ∀ (n : Nat) {s : AS} {l : List (El E.O)} {x y : Nat} (lim : Int), y - x = n → Arr s a lo l rest → x ≤ y → y ≤ l.length → l.length < 65536 → (0 < x → ∀ q, x ≤ q → q < y → (el l (x - 1)).le (el l q)) →
  ACalls Try.prog E.F_pdqsortCmpFunc [a, .int .i64 (x : Nat), .int .i64 (y : Nat), .int .i64 lim, .func cf []] s fun r s' => r = .tup [] ∧ ∃ l', WSt s a lo rest l x y s' l' ∧ Srt l' x y := by
 intro n
 induction n using Nat.strongRecOn with
 | _ n IH =>
 intro s l x y lim hn h hxy hy hl hlow
 refine ACalls.pre fun hw => SQ.q_pdqsortCmpFunc _ _ _ _ _ _ _ ⟨fun m vs s' => ∃ (c d : Nat) (li : Int) (b1 b2 : Bool) (l' : List (El E.O)), vs = [.int .i64 (c : Nat), .int .i64 (d : Nat), .int .i64 li, .bool b1, .bool b2] ∧ m = d - c ∧ Gd s a lo rest l x y s' l' c d, y - x, ⟨x, y, lim, true, true, l, rfl, rfl, ⟨h, hw, .refl _, Mut.refl _ _⟩, Around.start _ _ _, by omega, by omega, by omega⟩, ?_⟩
 rintro m n4 n5 n6 b7 b8 s9 ⟨c, d, li, b1, b2, l1, hv, rfl, g9⟩
 simp only [List.cons.injEq, AV.int.injEq, AV.bool.injEq, true_and, and_true] at hv
 obtain ⟨rfl, rfl, rfl, rfl, rfl⟩ := hv
 have hxc := g9.xc
 have hcd := g9.cd
 have hdy := g9.dy
 have hl1 := g9.st.sw.len
 rw [wsub (by omega) (by omega)]
 refine bsplit.dec (fun h12 => ?_) (fun h12 => bsplit.mk (fun _ => ?_) (fun _ => ?_))
 ·refine ACalls.use (insSort_ok g9.st.arr hcd (by omega) (by omega)) ?_
  rintro r s11 ⟨rfl, l2, a11, sw11, so11, m11⟩ w11
  have g11 := g9.perm hy a11 w11 sw11 m11
  exact ⟨rfl, rfl, l2, g11.st, g11.ar.srt so11⟩
 ·refine ACalls.use (heapSort_ok g9.st.arr (by omega) (by omega) (by omega)) ?_
  rintro r s11 ⟨rfl, l2, a11, sw11, so11, m11⟩ w11
  have g11 := g9.perm hy a11 w11 sw11 m11
  exact ⟨rfl, rfl, l2, g11.st, g11.ar.srt so11⟩
 have hcd' : c < d := by omega
 refine ⟨fun vs s' => ∃ (li : Int) (l' : List (El E.O)), vs = [.int .i64 li] ∧ Gd s a lo rest l x y s' l' c d, ?_, bsplit.mk (fun _ => ?_) (fun _ => ⟨_, l1, rfl, g9⟩)⟩
 ·rintro n15 s16 ⟨li2, l2, hv, g16⟩
  simp only [List.cons.injEq, AV.int.injEq, true_and, and_true] at hv
  subst hv
  have hl2 := g16.st.sw.len
  refine ACalls.use (choose_ok g16.st.arr hcd' (by omega) (by omega)) ?_
  rintro r s18 ⟨p, t, rfl, hp, a18, m18⟩ w18
  have g18 := g16.to a18 w18 m18
  refine ⟨_, _, rfl, fun vs s' => ∃ (p : Nat) (t : Int) (l' : List (El E.O)), vs = [.int .i64 (p : Nat), .int .i64 t] ∧ (c ≤ p ∧ p < d) ∧ Gd s a lo rest l x y s' l' c d, ?_, bsplit.mk (fun _ => ?_) (fun _ => ⟨p, t, l2, rfl, hp, g18⟩)⟩
  ·rintro n22 n23 s24 ⟨p, t, l3, hv, hp, g24⟩
   simp only [List.cons.injEq, AV.int.injEq, true_and, and_true] at hv
   obtain ⟨rfl, rfl⟩ := hv
   refine ⟨fun vs s' => ∃ l', Gd s a lo rest l x y s' l' c d, ?_, ?_⟩
   ·rintro s26 ⟨l4, g26⟩
    have hl4 := g26.st.sw.len
    refine ⟨fun vs s' => ∃ b, vs = [.bool b] ∧ Gd s a lo rest l x y s' l4 c d ∧ (b = true → 0 < c ∧ (el l4 p).le (el l4 (c - 1))), ?_, ?_⟩
    ·rintro b28 s29 ⟨b, hv, g29, hb⟩
     simp only [List.cons.injEq, AV.bool.injEq, and_true] at hv
     subst hv
     refine bsplit.mk (fun hb1 => ?_) (fun _ => ?_)
     ·obtain ⟨hc0, hle⟩ := hb hb1
      refine ACalls.use (partEq_ok g29.st.arr hp (by omega) (by omega)) ?_
      rintro r s31 ⟨i, j, l5, rfl, a31, sw31, pr31, hji, ex31, m31⟩ w31
      have g31 := g29.perm hy a31 w31 sw31 m31
      have hxi := pr31.xi
      have hjd := pr31.jy
      have hij := pr31.ij
      refine ⟨_, rfl, d - i, by omega, i, d, _, _, _, l5, rfl, rfl, g31.st, g31.ar.equal hxc hdy pr31 hji (fun k h1 h2 => ?_), by omega, by omega, by omega⟩
      rw [ex31]
      refine El.le_trans hle ?_
      have := g31.low hlow hc0 k h1 h2
      rw [sw31.out (.inl (by omega))] at this
      exact this
     ·refine ACalls.use (partition_ok g29.st.arr hp (by omega) (by omega)) ?_
      rintro r s34 ⟨mm, bb, l5, rfl, a34, sw34, pa34, m34⟩ w34
      have g34 := g29.perm hy a34 w34 sw34 m34
      have hcm := pa34.xm
      have hmd := pa34.my
      have hl5 := g34.st.sw.len
      have hlow5 := g34.low hlow
      refine ⟨_, _, rfl, by decide, ?_⟩
      rw [wadd1 (by omega)]
      refine bsplit.mk (fun _ => ?_) (fun _ => ?_)
      ·refine ACalls.use (IH (mm - c) (by omega) (s := s34) (l := l5) (x := c) (y := mm) _ rfl a34 hcm (by omega) (by omega) (fun h0 q h1 h2 => hlow5 h0 q h1 (by omega))) ?_
       rintro r s38 ⟨rfl, l6, st38, so38⟩ w38
       refine ⟨rfl, d - (mm + 1), by omega, mm + 1, d, _, _, _, l6, rfl, rfl, g34.sub hy st38.arr w38 st38.sw st38.chg (Nat.le_refl _) (by omega), g34.ar.right hxc hdy pa34 st38.sw so38, by omega, by omega, by omega⟩
      ·refine ACalls.use (IH (d - (mm + 1)) (by omega) (s := s34) (l := l5) (x := mm + 1) (y := d) _ rfl a34 (by omega) (by omega) (by omega) (fun h0 q h1 h2 => by
        rw [Nat.add_sub_cancel]; exact pa34.ge q (by omega) h2)) ?_
       rintro r s38 ⟨rfl, l6, st38, so38⟩ w38
       refine ⟨rfl, mm - c, by omega, c, mm, _, _, _, l6, rfl, rfl, g34.sub hy st38.arr w38 st38.sw st38.chg (by omega) (Nat.le_refl _), g34.ar.left hxc hdy pa34 st38.sw so38, by omega, by omega, by omega⟩
    ·refine bsplit.dec (fun hc0 => ?_) (fun _ => ⟨false, rfl, g26, by simp⟩)
     rw [wsub1 (by omega) (by omega)]
     refine g26.st.arr.cmp (by omega) (by omega) fun s48 a48 w48 m48 => ⟨_, rfl, g26.to a48 w48 m48, fun hb => ⟨by omega, ?_⟩⟩
     exact El.nlt_le (by rw [← El.cmp_lt]; simpa using hb)
   ·refine ⟨fun vs s' => ∃ b, vs = [.bool b] ∧ s' = s24, ?_, bsplit.mk (fun _ => bsplit.mk (fun _ => ⟨_, rfl, rfl⟩) (fun _ => ⟨_, rfl, rfl⟩)) (fun _ => ⟨_, rfl, rfl⟩)⟩
    rintro b51 s52 ⟨b, hv, rfl⟩
    simp only [List.cons.injEq, AV.bool.injEq, and_true] at hv
    subst hv
    have hl3 := g24.st.sw.len
    refine bsplit.mk (fun _ => ?_) (fun _ => ⟨l3, g24⟩)
    refine ACalls.use (partial_ok g24.st.arr hcd' (by omega) (by omega) (g24.low hlow)) ?_
    rintro r s54 ⟨b, l4, rfl, st54, hs⟩ w54
    have g54 := g24.perm hy st54.arr w54 st54.sw st54.chg
    exact ⟨_, rfl, bsplit.mk (fun hb => ⟨rfl, l4, g54.st, g54.ar.srt (hs hb)⟩) (fun _ => ⟨l4, g54⟩)⟩
  ·refine ACalls.use (reverse_ok g18.st.arr hcd' (by omega) (by omega)) ?_
   rintro r s57 ⟨rfl, l3, a57, sw57, m57⟩ w57
   rw [wsub1 (by omega) (by omega), wsub (by omega) (by omega), wsub (by omega) (by omega)]
   exact ⟨rfl, d - 1 - (p - c), 1, l3, rfl, by omega, g18.perm hy a57 w57 sw57 m57⟩
 ·refine ACalls.use (break_ok g9.st.arr hcd' (by omega) (by omega)) ?_
  rintro r s59 ⟨rfl, l2, st59⟩ w59
  exact ⟨rfl, _, l2, rfl, g9.perm hy st59.arr w59 st59.sw st59.chg⟩
theorem sort_ok {s : AS} {a : AV} {lo : Nat} {rest : List AV} {l : List (El E.O)} (h : Arr s a lo l rest) (hl : l.length < 65536) :
  ACalls Try.prog E.F_SortFunc [a, .func cf []] s fun r s' => r = .tup [] ∧ ∃ l', Arr s' a lo l' rest ∧ l'.Perm l ∧ Srt l' 0 l'.length ∧ Mut [lo] s s' := by
 refine SQ.q_SortFunc _ _ _ _ ?_
 have hlen : alenB T E.ys a s = some (.int .i64 (l.length : Nat)) := by
  obtain ⟨⟨c, e, rfl⟩, _⟩ := h
  simp [alenB, E.us]
 refine ⟨_, hlen, ?_⟩
 dsimp only
 rw [wrap_u (by omega)]
 refine ACalls.use (len_ok hl s) ?_
 rintro r s3 ⟨k, rfl, _, _, rfl⟩ w3
 refine ⟨_, rfl, ?_⟩
 refine (pdq_ok (l.length - 0) (x := 0) (y := l.length) k rfl h (by omega) (by omega) hl (by omega)).mono ?_
 rintro r s6 ⟨rfl, l', st, so⟩
 exact ⟨rfl, rfl, l', st.arr, st.sw.perm, by rw [st.sw.len]; exact so, st.chg⟩
end
section
theorem insNilN_ok {cf : FuncId} {a : Option (Nat × Nat)} (s : AS) : ACalls Try.prog E.F_insertionSortCmpFunc [.slc a 0 0 true, .int .i64 0, .int .i64 0, .func cf []] s fun r s' => r = .tup [] ∧ s' = s := by
 refine SQ.q_insertionSortCmpFunc _ _ _ _ _ _ ⟨fun m vs s' => vs = [.int .i64 1] ∧ s' = s, 0, ⟨rfl, rfl⟩, ?_⟩
 rintro m n s5 ⟨hi, rfl⟩
 simp only [List.cons.injEq, AV.int.injEq, true_and, and_true] at hi
 subst hi
 exact bsplit.no (by decide) ⟨rfl, rfl⟩
theorem pdqNilN_ok {cf : FuncId} {a : Option (Nat × Nat)} (s : AS) (lim : Int) : ACalls Try.prog E.F_pdqsortCmpFunc [.slc a 0 0 true, .int .i64 0, .int .i64 0, .int .i64 lim, .func cf []] s fun r s' => r = .tup [] ∧ s' = s := by
 refine SQ.q_pdqsortCmpFunc _ _ _ _ _ _ _ ⟨fun m vs s' => vs = [.int .i64 0, .int .i64 0, .int .i64 lim, .bool true, .bool true] ∧ s' = s, 0, ⟨rfl, rfl⟩, ?_⟩
 rintro m n4 n5 n6 b7 b8 s9 ⟨hi, rfl⟩
 simp only [List.cons.injEq, AV.int.injEq, AV.bool.injEq, true_and, and_true] at hi
 obtain ⟨rfl, rfl, rfl, rfl, rfl⟩ := hi
 refine bsplit.yes (by decide) ?_
 refine ACalls.use (insNilN_ok s9) ?_
 rintro r s' ⟨rfl, rfl⟩ _
 exact ⟨rfl, rfl, rfl⟩
theorem sortNilN_ok {cf : FuncId} {a : Option (Nat × Nat)} (s : AS) : ACalls Try.prog E.F_SortFunc [.slc a 0 0 true, .func cf []] s fun r s' => r = .tup [] ∧ s' = s := by
 refine SQ.q_SortFunc _ _ _ _ ?_
 have hlen : alenB T E.ys (.slc a 0 0 true) s = some (.int .i64 0) := by simp [alenB, E.us]
 refine ⟨_, hlen, ?_⟩
 dsimp only
 rw [show IntKind.wrap .u64 (0 : Int) = ((0 : Nat) : Int) from wrap_u (by omega)]
 refine ACalls.use (len_ok (by omega) s) ?_
 rintro r s3 ⟨k, rfl, _, _, rfl⟩ w3
 refine ⟨_, rfl, ?_⟩
 refine ACalls.use (pdqNilN_ok _ _) ?_
 rintro r s6 ⟨rfl, rfl⟩ _
 exact ⟨rfl, rfl, rfl⟩
def ArrN (s0 s : AS) (v : AV) (l : List (El E.O)) : Prop := Ext s0 s ∧ ((l = [] ∧ ∃ a, v = .slc a 0 0 true) ∨ ∃ la, v = .slc (some (la, 0)) l.length l.length false ∧ Arr s v la l [] ∧ s0.h la = none)
variable {cf : FuncId} [CmpOk E cf]
theorem sortGro_ok {s0 s : AS} {v : AV} {l : List (El E.O)} {sz : Nat} (g : GroN E.cC sz [] s0 s v l) (hl : l.length < 65536) :
  ACalls Try.prog E.F_SortFunc [v, .func cf []] s fun r s' => r = .tup [] ∧ ∃ l', l'.Perm l ∧ Srt l' 0 l'.length ∧ ArrN s0 s' v l' := by
 have e0 : Ext s0 s := g.chg.ext
 rcases g.gro with ⟨rfl, a, rfl⟩ | ⟨la, rfl, ho⟩
 ·refine (sortNilN_ok s).mono ?_
  rintro r s' ⟨rfl, rfl⟩
  exact ⟨rfl, [], .refl _, fun i j h1 h2 h3 => by simp at h3, e0, .inl ⟨rfl, a, rfl⟩⟩
 ·have ha : Arr s (.slc (some (la, 0)) l.length l.length false) la l [] := ⟨⟨_, _, rfl⟩, sz, by simpa using ho⟩
  have hn : s0.h la = none := g.new la (by simp [labOf])
  refine (sort_ok ha hl).mono ?_
  rintro r s' ⟨rfl, l', ha', hp, hs, m'⟩
  refine ⟨rfl, l', hp, hs, ⟨fun x o hx => m'.1 x o (by simp only [List.mem_singleton]; rintro rfl; rw [hn] at hx; cases hx) (e0.1 x o hx), Nat.le_trans e0.2 m'.2⟩, .inr ⟨la, by rw [hp.length_eq], ha', hn⟩⟩
theorem ArrN.dots {s0 s : AS} {v : AV} {l : List (El E.O)} (h : ArrN s0 s v l) : Sl E.cC E.w s v l := by
 rcases h.2 with ⟨rfl, a, rfl⟩ | ⟨la, rfl, ⟨_, g, ho⟩, _⟩
 ·exact Sl.nil
 ·refine SlAt.mk ⟨_, _, ho⟩ (dots_len l) ?_ (Nat.le_refl _)
  rw [List.drop_zero]
  show (l.flatMap E.cC ++ []).take _ = _
  rw [List.append_nil]
  exact List.take_of_length_le (Nat.le_of_eq (dots_len l))
end
end Go.Proofs.Ytoklmpkpeanloaa.SG
end

section
set_option maxRecDepth 100000
set_option maxHeartbeats 4000000
namespace Go.Proofs.Ytoklmpkpeanloaa
open Go.Am Go.Minster
def oe : Go.Minster.SG.OE := ⟨Dot, ⟨0, 0⟩, Dot.lt, Dot.cmp, fun a b => Dot.cmp_lt, fun a b c h h' => Dot.le_trans (a := a) (b := b) (c := c) h h', fun a => Dot.le_refl a, fun a b h => Dot.lt_le h⟩
def se : SG.SE := ⟨oe, dotC, 2, dotC_len, fun x => rfl, Y_s_Dot, Y_Dot, u_s_Dot, z_Dot, F_slices_SortFunc__s_Dot_Dot, F_slices_pdqsortCmpFunc__Dot, F_slices_insertionSortCmpFunc__Dot, F_slices_heapSortCmpFunc__Dot, F_slices_choosePivotCmpFunc__Dot, F_slices_reverseRangeCmpFunc__Dot, F_slices_partialInsertionSortCmpFunc__Dot, F_slices_partitionEqualCmpFunc__Dot, F_slices_partitionCmpFunc__Dot, F_slices_siftDownCmpFunc__Dot, F_slices_medianAdjacentCmpFunc__Dot, F_slices_medianCmpFunc__Dot, F_slices_order2CmpFunc__Dot, F_slices_breakPatternsCmpFunc__Dot⟩
instance : SG.SQ se where
 q_SortFunc := fun a0 a1 s R h =>
  ACalls.q (n := 14) (rs := []) (A := SG.A_SortFunc) hT hmx Try.func88 (by kernel_rfl) rfl rfl rfl (by kernel_rfl) (by kernel_rfl) h
 q_pdqsortCmpFunc := fun a0 a1 a2 a3 a4 s R h =>
  ACalls.q (n := 148) (rs := []) (A := SG.A_pdqsortCmpFunc) hT hmx Try.func108 (by kernel_rfl) rfl rfl rfl (by kernel_rfl) (by kernel_rfl) h
 q_insertionSortCmpFunc := fun a0 a1 a2 a3 s R h =>
  ACalls.q (n := 53) (rs := []) (A := SG.A_insertionSortCmpFunc) hT hmx Try.func127 (by kernel_rfl) rfl rfl rfl (by kernel_rfl) (by kernel_rfl) h
 q_heapSortCmpFunc := fun a0 a1 a2 a3 s R h =>
  ACalls.q (n := 60) (rs := []) (A := SG.A_heapSortCmpFunc) hT hmx Try.func128 (by kernel_rfl) rfl rfl rfl (by kernel_rfl) (by kernel_rfl) h
 q_choosePivotCmpFunc := fun a0 a1 a2 a3 s R h =>
  ACalls.q (n := 63) (rs := [.tmp 8, .tmp 9]) (A := SG.A_choosePivotCmpFunc) hT hmx Try.func130 (by kernel_rfl) rfl rfl rfl (by kernel_rfl) (by kernel_rfl) h
 q_reverseRangeCmpFunc := fun a0 a1 a2 a3 s R h =>
  ACalls.q (n := 34) (rs := []) (A := SG.A_reverseRangeCmpFunc) hT hmx Try.func131 (by kernel_rfl) rfl rfl rfl (by kernel_rfl) (by kernel_rfl) h
 q_partialInsertionSortCmpFunc := fun a0 a1 a2 a3 s R h =>
  ACalls.q (n := 141) (rs := [.tmp 8]) (A := SG.A_partialInsertionSortCmpFunc) hT hmx Try.func132 (by kernel_rfl) rfl rfl rfl (by kernel_rfl) (by kernel_rfl) h
 q_partitionEqualCmpFunc := fun a0 a1 a2 a3 a4 s R h =>
  ACalls.q (n := 90) (rs := [.tmp 10]) (A := SG.A_partitionEqualCmpFunc) hT hmx Try.func133 (by kernel_rfl) rfl rfl rfl (by kernel_rfl) (by kernel_rfl) h
 q_partitionCmpFunc := fun a0 a1 a2 a3 a4 s R h =>
  ACalls.q (n := 178) (rs := [.tmp 10, .tmp 11]) (A := SG.A_partitionCmpFunc) hT hmx Try.func134 (by kernel_rfl) rfl rfl rfl (by kernel_rfl) (by kernel_rfl) h
 q_siftDownCmpFunc := fun a0 a1 a2 a3 a4 s R h =>
  ACalls.q (n := 82) (rs := []) (A := SG.A_siftDownCmpFunc) hT hmx Try.func150 (by kernel_rfl) rfl rfl rfl (by kernel_rfl) (by kernel_rfl) h
 q_medianAdjacentCmpFunc := fun a0 a1 a2 a3 s R h =>
  ACalls.q (n := 18) (rs := [.tmp 8]) (A := SG.A_medianAdjacentCmpFunc) hT hmx Try.func151 (by kernel_rfl) rfl rfl rfl (by kernel_rfl) (by kernel_rfl) h
 q_medianCmpFunc := fun a0 a1 a2 a3 a4 a5 s R h =>
  ACalls.q (n := 41) (rs := [.tmp 12]) (A := SG.A_medianCmpFunc) hT hmx Try.func152 (by kernel_rfl) rfl rfl rfl (by kernel_rfl) (by kernel_rfl) h
 q_order2CmpFunc := fun a0 a1 a2 a3 a4 s R h =>
  ACalls.q (n := 32) (rs := [.tmp 10, .tmp 11]) (A := SG.A_order2CmpFunc) hT hmx Try.func158 (by kernel_rfl) rfl rfl rfl (by kernel_rfl) (by kernel_rfl) h
 q_breakPatternsCmpFunc := fun a0 a1 a2 a3 s R h =>
  ACalls.q (n := 67) (rs := []) (A := SG.A_breakPatternsCmpFunc) hT hmx Try.func129 (by kernel_rfl) rfl rfl rfl (by kernel_rfl) (by kernel_rfl) h
class CmpOk (cf : FuncId) : Prop where
 ok : ∀ (a b : Dot) (s : AS), ACalls Try.prog cf [.agg (dotC a), .agg (dotC b)] s fun v s' => v = .int .i64 (a.cmp b) ∧ Ext s s'
instance : CmpOk F_ctx_order := ⟨ctx_order_ok⟩
structure Arr (s : AS) (a : AV) (lo : Nat) (l : List Dot) (rest : List AV) : Prop where
 val : ∃ c e, a = .slc (some (lo, 0)) l.length c e
 obj : ∃ g, s.h lo = some (.cells (l.flatMap dotC ++ rest) g false)
section
variable {s : AS} {a : AV} {lo : Nat} {l : List Dot} {rest : List AV}
theorem dots_len (l : List Dot) : (l.flatMap dotC).length = l.length * 2 := by
 induction l with
 | nil => rfl
 | cons x l ih => simp only [List.flatMap_cons, List.length_append, ih, dotC_len, List.length_cons]; omega
theorem Arr.mut {L : List Nat} {s' : AS} (h : Arr s a lo l rest) (m : Mut L s s') (hL : lo ∉ L) : Arr s' a lo l rest := by
 obtain ⟨h1, g, h2⟩ := h
 exact ⟨h1, g, m.1 _ _ hL h2⟩
theorem Arr.ext {s' : AS} (h : Arr s a lo l rest) (e : Ext s s') : Arr s' a lo l rest := h.mut (L := []) e.mut (by simp)
theorem Arr.ix (h : Arr s a lo l rest) {i : Nat} (hi : i < l.length) : aindexAddr T Y_s_Dot a (.int .i64 (i : Nat)) = some (.ptr (some (lo, i * 2))) := by
 obtain ⟨⟨c, e, rfl⟩, _⟩ := h
 have : (0 : Int) ≤ (i : Int) ∧ (i : Int) < (l.length : Int) := by omega
 simp only [aindexAddr, u_s_Dot, z_Dot, Option.bind_some]
 rw [if_pos this]
 simp
theorem Arr.rd (h : Arr s a lo l rest) {i : Nat} (hi : i < l.length) : rdc s lo (i * 2) 2 = some (dotC (el l i)) := by
 obtain ⟨_, g, h2⟩ := h
 have hat : At s lo (l.flatMap dotC ++ rest) := ⟨_, _, h2⟩
 rw [hat.rdc (by rw [List.length_append, dots_len]; omega)]
 rw [List.drop_append_of_le_length (by rw [dots_len]; omega), List.take_append_of_le_length (by rw [List.length_drop, dots_len]; omega), flat_elem dotC_len (el_get hi)]
theorem flat_set : ∀ (l : List Dot) (i : Nat) (x : Dot) (rest : List AV), i < l.length → wrs (l.flatMap dotC ++ rest) (i * 2) (dotC x) = (l.set i x).flatMap dotC ++ rest
 | [], i, x, rest, h => by simp at h
 | d :: l, 0, x, rest, h => by simp [wrs, dotC]
 | d :: l, i + 1, x, rest, h => by
  have ih := flat_set l i x rest (by simpa using h)
  simp only [List.flatMap_cons, List.set_cons_succ, List.append_assoc, ← ih]
  simp only [wrs, dotC, Nat.add_mul, Nat.one_mul]
  simp
theorem Arr.wr (h : Arr s a lo l rest) (hw : WFs s) {i : Nat} (hi : i < l.length) (x : Dot) {K : AS → Prop} (hk : ∀ s', Arr s' a lo (l.set i x) rest → WFs s' → Mut [lo] s s' → K s') : OkC (some 2) (dotC x) (StQ (awr s lo (i * 2) (dotC x)) K) := by
 obtain ⟨h1, g, h2⟩ := h
 refine ⟨⟨rfl, rfl⟩, StQ.awr hw h2 (by rw [List.length_append, dots_len, dotC_len]; omega) fun s' P => hk s' ⟨?_, g, ?_⟩ P.wf P.mut⟩
 ·rw [List.length_set]; exact h1
 ·rw [P.at, flat_set l i x rest hi]
end
instance instCmp {cf : FuncId} [h : CmpOk cf] : SG.CmpOk se cf := ⟨h.ok⟩
theorem Arr.of {s : AS} {a : AV} {lo : Nat} {l : List Dot} {rest : List AV} (h : SG.Arr (E := se) s a lo l rest) : Arr s a lo l rest := ⟨h.val, h.obj⟩
def ArrN (s0 s : AS) (v : AV) (l : List Dot) : Prop := Ext s0 s ∧ ((l = [] ∧ ∃ a, v = .slc a 0 0 true) ∨ ∃ la, v = .slc (some (la, 0)) l.length l.length false ∧ Arr s v la l [] ∧ s0.h la = none)
theorem sortGro_ok {cf : FuncId} [CmpOk cf] {s0 s : AS} {v : AV} {l : List Dot} {sz : Nat} (g : GroN dotC sz [] s0 s v l) (hl : l.length < 65536) :
  ACalls Try.prog F_slices_SortFunc__s_Dot_Dot [v, .func cf []] s fun r s' => r = .tup [] ∧ ∃ l', l'.Perm l ∧ Srt l' 0 l'.length ∧ ArrN s0 s' v l' := by
 refine (SG.sortGro_ok (E := se) (cf := cf) g hl).mono ?_
 rintro r s' ⟨h1, l', h2, h3, h4, h5⟩
 refine ⟨h1, l', h2, h3, h4, ?_⟩
 rcases h5 with h5 | ⟨la, h6, h7, h8⟩
 ·exact .inl h5
 ·exact .inr ⟨la, h6, Arr.of h7, h8⟩
theorem ArrN.dots {s0 s : AS} {v : AV} {l : List Dot} (h : ArrN s0 s v l) : Sl dotC 2 s v l := by
 rcases h.2 with ⟨rfl, a, rfl⟩ | ⟨la, rfl, ⟨_, g, ho⟩, _⟩
 ·exact Sl.nil
 ·refine SlAt.mk ⟨_, _, ho⟩ (dots_len l) ?_ (Nat.le_refl _)
  rw [List.drop_zero]
  show (l.flatMap dotC ++ []).take _ = _
  rw [List.append_nil]
  exact List.take_of_length_le (Nat.le_of_eq (dots_len l))
end Go.Proofs.Ytoklmpkpeanloaa
end

section
namespace Go.Proofs.Ytoklmpkpeanloaa
open Go.Am Go.Minster
theorem wrs_app : ∀ (b a c : List AV), b.length ≤ c.length → wrs (a ++ c) a.length b = a ++ b ++ c.drop b.length
 | [], a, c, h => by simp [wrs]
 | v :: b, a, [], h => by simp at h
 | v :: b, a, y :: c, h => by
  have ih := wrs_app b (a ++ [v]) c (by simpa using h)
  have e : (a ++ y :: c).set a.length v = a ++ [v] ++ c := by
   rw [List.set_append_right _ _ (Nat.le_refl _)]; simp
  show wrs ((a ++ y :: c).set a.length v) (a.length + 1) b = _
  rw [e]
  simp only [List.length_append, List.length_cons, List.length_nil, Nat.zero_add] at ih
  rw [ih]
  simp
end Go.Proofs.Ytoklmpkpeanloaa
end

section
namespace Go.Proofs.Ytoklmpkpeanloaa
open Go.Am Go.Minster
end Go.Proofs.Ytoklmpkpeanloaa
end

section
namespace Go.Proofs.Ytoklmpkpeanloaa
open Go.Am Go.Minster
theorem tri_Dot : triples (T.und Y_Dot) = some [(false, Y_int, 0), (false, Y_uint64, 1)] := by kernel_rfl
theorem et_Dot : T.eqt Y_Dot = true := by kernel_rfl
theorem dot_eq (a b : Dot) : aeq T 100 Y_Dot (.agg (dotC a)) (.agg (dotC b)) = some (decide (a = b)) := by
 rw [aeq_tri tri_Dot et_Dot]
 simp only [eqTri, cond_false, part_s ag_int, part_s ag_uint64, dotC, List.getElem?_cons_zero, List.getElem?_cons_succ, Option.bind_some, aeqInt u_int, aeqInt u_uint64]
 cases a; cases b
 simp only [Dot.mk.injEq]
 rename_i r c r' c'
 by_cases h1 : r = r' <;> by_cases h2 : c = c' <;> simp [h1, h2]
theorem vix {l o : Nat} {i : Int} (h : 0 ≤ i ∧ i < 16) : aindexAddr T Y_Vector (.ptr (some (l, o))) (.int .i64 i) = some (.ptr (some (l, o + i.toNat * 1))) := aix_arr u_Vector z_uint64 h
theorem clone_ok {s : AS} {v : AV} {l : List Dot} (hl : Dots s v l) (hn : l.length ≤ 2 ^ 30) : ACalls Try.prog F_slices_Clone__s_Dot_Dot [v] s fun r s' => GroN dotC 2 [] s s' r l := by
 refine ACalls.pre fun hw => q_slices_Clone__s_Dot_Dot _ _ _ ?_
 have main : RdL (absl T Y_s_Dot 0 []) fun g2 => NewQ (.cells g2 0 false) s fun l3 s4 => Bd2 (aappend T Y_s_Dot Y_s_Dot (.slc (some (l3, 0)) 0 0 true) v s4) fun v5 s6 => GroN dotC 2 [] s s6 v5 l := by
  refine ⟨_, absl_nil sl_s_Dot, NewQ.intro hw rfl fun l3 s4 F => ?_⟩
  refine GroN.appendS sl_s_Dot dotC_len dotC_one F.wf (GroN.start (M := []) F.ext.mut) (by simp) (hl.ext F.ext) (by simpa using hn) u_s_Dot fun v' s' g _ _ => ?_
  simpa using g
 rcases hl with ⟨rfl, _, hnil⟩ | ⟨a, c, e, rfl, hlen, h3⟩
 ·refine ⟨_, eqQ_emp_nil u_s_Dot _ _ _ _, bsplit.no rfl main⟩
 ·refine ⟨_, eqQ_slc_nil u_s_Dot _ _ _ _ _ _ _ _, bsplit.mk (fun h => ?_) (fun _ => main)⟩
  have : a = none := by simpa using h
  subst this
  have : l = [] := by
   rcases h3 with h3 | ⟨la, o, C, h, _⟩
   ·exact List.length_eq_zero_iff.1 h3
   ·cases h
  subst this
  exact GroN.nil
def zeros : List Int := List.replicate 16 0
theorem ctx_len {v : List Int} (h : v.length = 16) (w : AV) : (v.map (AV.int .u64) ++ [w, .bool true]).length = 18 := by simp [h]
theorem ctx_at {v : List Int} (h : v.length = 16) (w : AV) {i : Nat} (hi : i < 16) : (v.map (AV.int .u64) ++ [w, .bool true])[i]? = some (.int .u64 (v.getD i 0)) := by
 rw [List.getElem?_append_left (by simp [h]; omega), List.getElem?_map, List.getElem?_eq_getElem (by omega), List.getD_eq_getElem?_getD, List.getElem?_eq_getElem (by omega)]; rfl
theorem ctx_16 {v : List Int} (h : v.length = 16) (w : AV) : (v.map (AV.int .u64) ++ [w, .bool true])[16]? = some w := by
 rw [List.getElem?_append_right (by simp [h])]; simp [h]
theorem ctx_take {v : List Int} (h : v.length = 16) (w : AV) : ((v.map (AV.int .u64) ++ [w, .bool true]).drop 0).take 16 = v.map (AV.int .u64) := by
 rw [List.drop_zero, List.take_append_of_le_length (by simp [h]), List.take_of_length_le (by simp [h])]
theorem ints_one (k : IntKind) (v : List Int) : (v.map (AV.int k)).all AV.one = true := by simp [List.all_eq_true]
theorem ctx_Vector_ok {s : AS} {p : Nat} {v : List Int} {ex : List Dot} (h : CtxAt s p v ex) : ACalls Try.prog F_ctx_Ctx_Vector [.ptr (some (p, 0))] s fun r s' => r = .agg (v.map (.int .u64)) ∧ Ext s s' := by
 refine ACalls.pre fun hw => q_ctx_Ctx_Vector _ _ _ (NewQ.intro hw rfl fun l s1 F => ?_)
 refine ACalls.use (ctx_there_ok (h.ext F.ext)) ?_
 rintro r s2 ⟨rfl, rfl⟩ hw2
 obtain ⟨h1, w, h2, h3, h4⟩ := h
 refine ⟨_, rfl, bsplit.no rfl ⟨_, (h2.ext F.ext).at.rdc (by rw [ctx_len h1]; omega), ?_⟩⟩
 rw [ctx_take h1]
 refine ⟨⟨ints_one _ _, by simp [h1]⟩, StQ.own hw2 F.own (by simp [h1]) fun s3 P => ?_⟩
 have hat : At s3 l (v.map (.int .u64)) := ⟨_, _, by rw [P.at, wrs_all (by simp [h1])]⟩
 refine ⟨_, hat.rdc (by simp [h1]), ?_, ?_⟩
 ·rw [List.drop_zero, List.take_of_length_le (by simp [h1])]
 ·refine ⟨fun x o ho => ?_, by rw [P.nl]; exact F.ext.2⟩
  rw [P.eq x (F.ne ho)]; exact F.ext.1 x o ho
theorem ctx_Extra_ok {s : AS} {p : Nat} {v : List Int} {ex : List Dot} (h : CtxAt s p v ex) (hn : ex.length ≤ 2 ^ 30) : ACalls Try.prog F_ctx_Ctx_Extra [.ptr (some (p, 0))] s fun r s' => GroN dotC 2 [] s s' r ex := by
 refine q_ctx_Ctx_Extra _ _ _ ?_
 refine (ctx_there_ok h).mono ?_
 rintro r s2 ⟨rfl, rfl⟩
 obtain ⟨h1, w, h2, h3, h4⟩ := h
 refine ⟨_, rfl, bsplit.no rfl ⟨w, ?_, ?_⟩⟩
 ·rw [h2.at.rd1]; exact ctx_16 h1 w
 ·exact (clone_ok h4 hn).mono fun r s' g => g
def hasD (v : List Int) (ex : List Dot) (d : Dot) : Bool := d.may && (decide (d ∈ ex) || decide (d.c ≤ v.getD (d.r - 1).toNat 0))
theorem ctx_Has_ok {s : AS} {p : Nat} {v : List Int} {ex : List Dot} (h : CtxAt s p v ex) (hr : Rising ex) (hn : ex.length ≤ 2 ^ 30) (d : Dot) : ACalls Try.prog F_ctx_Ctx_Has [.ptr (some (p, 0)), .agg (dotC d)] s fun r s' => r = .bool (hasD v ex d) ∧ Ext s s' := by
 refine ACalls.pre fun hw => q_ctx_Ctx_Has _ _ _ _ ⟨rfl, NewQ.intro hw rfl fun l s1 F => ?_⟩
 refine (ctx_there_ok (h.ext F.ext)).mono ?_
 rintro r s2 ⟨rfl, rfl⟩
 refine ⟨_, rfl, bsplit.no rfl ⟨_, F.own.at.rdc (by simp [dotC]), ?_⟩⟩
 refine (ctx_May_ok d _).mono ?_
 rintro r s3 ⟨rfl, e3⟩
 have e := F.ext.trans e3
 refine ⟨_, rfl, bsplit.mk (fun hm => ?_) (fun hm => ?_)⟩
 ·simp only [Bool.not_eq_true'] at hm
  exact ⟨by simp [hasD, hm], e⟩
 ·simp only [Bool.not_eq_false'] at hm
  obtain ⟨h1, w, h2, h3, h4⟩ := h
  refine ⟨fun _ _ _ _ => True, fun _ _ v => v = .tup [.int .i64 (pos ex d : Nat), .bool (decide (d ∈ ex))], fun _ _ _ _ _ _ _ => trivial, w, ?_, _, (F.own.ext e3).at.rdc (by simp [dotC]), fun s4 e4 _ _ => ?_, ⟨_, rfl⟩, ?_⟩
  ·rw [(h2.ext e).at.rd1]; exact ctx_16 h1 w
  ·refine (bsearch_ok (h4.ext (e.trans e4)) (by omega) hr d).mono ?_
   rintro r s5 ⟨rfl, e5⟩
   exact ⟨_, _, rfl, e5, trivial, rfl⟩
  ·rintro r rfl
   refine ⟨_, _, rfl, fun s22 e22 _ _ => bsplit.mk (fun hd => ?_) (fun hd => ?_)⟩
   ·refine ⟨?_, e.trans e22⟩
    simp [hasD, hm, hd]
   ·have hm' := Dot.may_iff.1 hm
    have hat := (F.own.ext (e3.trans e22)).at
    have hc := (h2.ext (e.trans e22)).at
    refine ⟨_, by rw [hat.rd1]; rfl, _, by rw [hat.rd1]; rfl, ?_⟩
    dsimp only
    rw [wrap_i' (by omega)]
    refine ⟨_, _, vix (by omega), _, by rw [hc.rd1, Nat.zero_add, Nat.mul_one]; exact ctx_at h1 w (by omega), ?_, e.trans e22⟩
    simp [hasD, hm, hd]
end Go.Proofs.Ytoklmpkpeanloaa
end

section
namespace Go.Minster
end Go.Minster
namespace Go.Proofs.Ytoklmpkpeanloaa
open Go.Am Go.Minster
theorem ab1 {y i : Nat} (h : i ≤ y) : abound1 y (.int .i64 (i : Nat)) = some i := by
 have : (0 : Int) ≤ (i : Int) ∧ (i : Int) ≤ ((y : Nat) : Int) := by omega
 simp only [abound1, if_pos this, Int.toNat_natCast]
theorem asl_from {a o n c i : Nat} {e : Bool} (h1 : i < n) (h2 : n ≤ c) : aslice T Y_s_Dot (.slc (some (a, o)) n c e) (some (.int .i64 (i : Nat))) none none = some (.slc (some (a, o + i * 2)) (n - i) (c - i) e) := by
 have h3 : ¬ c = i := by omega
 cases e <;> simp [aslice, u_s_Dot, z_Dot, abounds, aopt, ahigh, ab1 (show i ≤ n by omega), h2, h3]
theorem asl_to {a o n c i : Nat} {e : Bool} (h1 : i ≤ c) (h0 : 0 < c) : aslice T Y_s_Dot (.slc (some (a, o)) n c e) none (some (.int .i64 (i : Nat))) none = some (.slc (some (a, o)) i c e) := by
 have : ¬ c = 0 := by omega
 cases e <;> simp [aslice, u_s_Dot, z_Dot, abounds, aopt, ahigh, ab1 h1, this]
theorem clear_ok {s : AS} {lo n c i m : Nat} {e : Bool} {l : List Dot} {rest : List AV} {g : Nat} (hw : WFs s) (hobj : s.h lo = some (.cells (l.flatMap dotC ++ rest) g false)) (hi : i < l.length) (hn : n = l.length - i) (ho : m = i * 2) {K : AS → Prop}
  (hk : ∀ s', (∃ rest', s'.h lo = some (.cells ((l.take i).flatMap dotC ++ rest') g false)) → WFs s' → Mut [lo] s s' → K s') : StQ (aclear T Y_s_Dot (.slc (some (lo, m)) n c e) s) K := by
 subst hn; subst ho
 have hne : ¬ l.length - i = 0 := by omega
 have hrl : (rep (l.length - i) [AV.int .i64 0, AV.int .u64 0]).length = (l.length - i) * 2 := by simp [rep]
 have e1 : aclear T Y_s_Dot (.slc (some (lo, i * 2)) (l.length - i) c e) s = awr s lo (i * 2) (rep (l.length - i) [AV.int .i64 0, AV.int .u64 0]) := by
  simp only [aclear, u_s_Dot, if_neg hne, zr_Dot, Option.bind_some, acells_agg]
  rfl
 rw [e1]
 refine StQ.awr hw hobj (by rw [hrl, List.length_append, dots_len]; omega) fun s' P => hk s' ⟨rep (l.length - i) [AV.int .i64 0, AV.int .u64 0] ++ ((l.drop i).flatMap dotC ++ rest).drop (rep (l.length - i) [AV.int .i64 0, AV.int .u64 0]).length, ?_⟩ P.wf P.mut
 have hsp : l.flatMap dotC ++ rest = (l.take i).flatMap dotC ++ ((l.drop i).flatMap dotC ++ rest) := by
  rw [← List.append_assoc, ← List.flatMap_append, List.take_append_drop]
 rw [P.at, hsp]
 have hl : ((l.take i).flatMap dotC).length = i * 2 := by rw [dots_len, List.length_take]; omega
 rw [← hl, wrs_app _ _ _ (by rw [hrl, List.length_append, dots_len, List.length_drop]; omega), List.append_assoc]
end Go.Proofs.Ytoklmpkpeanloaa
end

section
namespace Go.Proofs.Ytoklmpkpeanloaa
open Go.Am Go.Minster
end Go.Proofs.Ytoklmpkpeanloaa
end

section
namespace Go.Proofs.Ytoklmpkpeanloaa
open Go.Am Go.Minster
theorem get_lt {α : Type} {l : List α} {i : Nat} (h : i < l.length) : ∃ x, l[i]? = some x := ⟨_, List.getElem?_eq_getElem h⟩
end Go.Proofs.Ytoklmpkpeanloaa
end

section
namespace Go.Proofs.Ytoklmpkpeanloaa
open Go.Am Go.Minster
theorem dots_not_int {s : AS} {w : AV} {l : List Dot} (h : Dots s w l) : ∀ k n, w ≠ .int k n := by
 rintro k n rfl
 rcases h with ⟨h, _⟩ | ⟨_, _, _, h, _⟩ <;> cases h
theorem vec_set (v : List Int) (x : List AV) (i : Nat) (c : Int) (hi : i < v.length) : (v.map (AV.int .u64) ++ x).set i (.int .u64 c) = (v.set i c).map (AV.int .u64) ++ x := by
 rw [List.set_append_left _ _ (by simpa using hi), List.map_set]
theorem dots_keep {s s' : AS} {p : Nat} {v : List Int} {x : List AV} {w : AV} {l : List Dot} (h : Dots s w l) (hp : At s p (v.map (AV.int .u64) ++ x)) (hx : ∀ y ∈ x, ∀ n, y ≠ .int .i64 n) (e : Mut [p] s s') : Dots s' w l := by
 refine Sl.mut h e dotC_len (by decide) fun q hq C hC d hd i c hc he => ?_
 obtain rfl : q = p := by simpa using hq
 obtain rfl := hC.inj hp
 simp only [dotC, List.getElem?_cons_zero, Option.some.injEq] at hc
 subst hc
 have := List.mem_of_getElem? he
 rcases List.mem_append.1 this with h | h
 ·obtain ⟨y, _, hy⟩ := List.mem_map.1 h
  cases hy
 ·exact hx _ h _ rfl
structure CtxG (s0 s : AS) (p : Nat) (v : List Int) (ex : List Dot) : Prop where
 len : v.length = 16
 mem : ∃ w, Am.Own s p (v.map (.int .u64) ++ [w, .bool true]) ∧ w.one = true ∧ Gro dotC 2 s w ex ∧ ∀ la ∈ labOf w, s0.h la = none
theorem CtxG.at {s0 s : AS} {p : Nat} {v : List Int} {ex : List Dot} (h : CtxG s0 s p v ex) : CtxAt s p v ex := by
 obtain ⟨h1, w, h2, h3, h4, h5⟩ := h
 exact ⟨h1, w, h2, h3, h4.sl dotC_len⟩
theorem CtxG.mut {s0 s s' : AS} {L : List Nat} {p : Nat} {v : List Int} {ex : List Dot} (h : CtxG s0 s p v ex) (m : Mut L s s') (hp : p ∉ L) (hL : ∀ x ∈ L, s0.h x ≠ none ∨ s.h x = none) : CtxG s0 s' p v ex := by
 obtain ⟨h1, w, h2, h3, h4, h5⟩ := h
 refine ⟨h1, w, h2.mut m hp, h3, h4.mut m fun x hx hm => ?_, h5⟩
 rcases hL x hm with h | h
 ·exact h (h5 x hx)
 ·rcases h4 with ⟨_, a, rfl⟩ | ⟨la, rfl, ho⟩
  ·simp [labOf] at hx
  ·obtain rfl : x = la := by simpa [labOf] using hx
   rw [h] at ho; cases ho
theorem CtxG.ext {s0 s s' : AS} {p : Nat} {v : List Int} {ex : List Dot} (h : CtxG s0 s p v ex) (e : Ext s s') : CtxG s0 s' p v ex := h.mut (L := []) e.mut (by simp) (by simp)
theorem CtxG.back {s0 s1 s : AS} {p : Nat} {v : List Int} {ex : List Dot} (h : CtxG s1 s p v ex) (e : Ext s0 s1) : CtxG s0 s p v ex := by
 obtain ⟨h1, w, h2, h3, h4, h5⟩ := h
 exact ⟨h1, w, h2, h3, h4, fun x hx => e.none (h5 x hx)⟩
theorem ctx_compact_ok2 {s : AS} {p : Nat} {v : List Int} {ex : List Dot} (h : CtxAt s p v ex) (hv : VOk v) (hm : ∀ d ∈ ex, d.may = true) (hn : ex.length < 2 ^ 30) :
  ACalls Try.prog F_ctx_Ctx_compact [.ptr (some (p, 0))] s fun r s' => r = .tup [] ∧ CtxG s s' p (compact v ex).1 (compact v ex).2 ∧ Mut [p] s s' := by
 refine ACalls.pre fun hw => q_ctx_Ctx_compact _ _ _ ?_
 obtain ⟨h1, w, h2, h3, h4⟩ := h
 have hsp : ∀ x ∈ [p], s.h x ≠ none := by
  intro x hx; obtain rfl : x = p := by simpa using hx
  rw [h2]; simp
 have hnew : ∀ {r : AV} {s' : AS} {l : List Dot}, GroN dotC 2 [p] s s' r l → p ∉ labOf r := fun g hm => hsp p (by simp) (g.new p hm)
 have hx2 : ∀ y ∈ [w, AV.bool true], ∀ n, y ≠ .int .i64 n := by
  intro y hy n
  rcases List.mem_cons.1 hy with rfl | hy
  ·exact dots_not_int h4 _ _
  ·obtain rfl : y = .bool true := by simpa using hy
   intro h; cases h
 let cst : Nat → List Int × List Dot := fun i => (ex.take i).foldl cstep (v, [])
 have hcok : ∀ i, VOk (cst i).1 := fun i => fold_ok _ _ hv fun d hd => hm d (List.mem_of_mem_take hd)
 have hclen : ∀ i, (cst i).2.length ≤ i := fun i => by have := fold_len (ex.take i) (v, []); simp only [List.length_nil, Nat.zero_add] at this; have h2 := List.length_take_le i ex; exact Nat.le_trans this h2
 refine ⟨fun vs s' => ∃ left, vs = [left] ∧ WFs s' ∧ GroN dotC 2 [p] s s' left (compact v ex).2 ∧ Am.Own s' p ((compact v ex).1.map (.int .u64) ++ [w, .bool true]), ?_, ?_⟩
 ·rintro r s3 ⟨left, hl, hw3, g, ho⟩
  simp only [List.cons.injEq, and_true] at hl
  subst hl
  have hok : VOk (compact v ex).1 := by have := hcok ex.length; simp only [cst, List.take_length] at this; exact this
  refine qstore_one g.isSlc.2 z_s_Dot (StQ.own hw3 ho (by rw [ctx_len hok.len]; simp) fun s6 P => ⟨rfl, ⟨hok.len, r, ?_, g.isSlc.2, (g.wr hsp P.mut).gro, (g.wr hsp P.mut).new⟩, g.chg.trans P.mut⟩)
  ·have : wrs ((compact v ex).1.map (AV.int .u64) ++ [w, .bool true]) (0 + 16) [r] = (compact v ex).1.map (AV.int .u64) ++ [r, .bool true] := by
    rw [wrs_one, List.set_append_right _ _ (by simp [hok.len])]
    simp [hok.len]
   rw [this] at P
   exact P.at
 ·have hc := h2.at
  refine ⟨w, by rw [hc.rd1]; exact ctx_16 h1 w, _, h4.lenB u_s_Dot _, fun m vs s' => ∃ (i : Nat) (left : AV), vs = [left, .int .i64 (i : Nat)] ∧ i ≤ ex.length ∧ m = ex.length - i ∧ WFs s' ∧ GroN dotC 2 [p] s s' left (cst i).2 ∧ Am.Own s' p ((cst i).1.map (.int .u64) ++ [w, .bool true]), ex.length, ⟨0, _, rfl, by omega, rfl, hw, GroN.nil, h2⟩, ?_⟩
  rintro m left n s16 ⟨i, left', hi, h6, rfl, hw16, g, ho⟩
  simp only [List.cons.injEq, AV.int.injEq, true_and, and_true] at hi
  obtain ⟨rfl, rfl⟩ := hi
  refine bsplit.dec (fun hlt => ?_) (fun hge => ?_)
  ·obtain ⟨x, hx⟩ := get_lt (l := ex) (i := i) (by omega)
   have hd := dots_keep h4 hc hx2 g.chg
   have hvi := hcok i
   obtain ⟨la, o, h8, h9⟩ := hd.ix (by decide) dotC_len u_s_Dot z_Dot hx
   have hmx := Dot.may_iff.1 (hm x (List.mem_of_getElem? hx))
   have ht : cst (i + 1) = cstep (cst i) x := by simp only [cst]; rw [List.take_add_one, hx, Option.toList_some, List.foldl_append]; rfl
   refine ⟨la, o, h8 _, _, (h9 _ (Ext.refl _)).2, NewSt hw16 rfl rfl rfl fun l20 s22 F => ?_⟩
   have ho22 := ho.ext F.ext
   have gg := g.step F.ext
   have hidx : (x.r - 1).toNat < 16 := by omega
   have hbd := hvi.get (x.r - 1).toNat
   refine ⟨_, by rw [F.own.at.rd1]; rfl, ?_⟩
   dsimp only
   rw [wrap_i' (by omega)]
   refine ⟨_, _, vix (by omega), _, by rw [F.own.at.rd1]; rfl, _, by rw [ho22.at.rd1, Nat.zero_add, Nat.mul_one]; exact ctx_at hvi.len w hidx, ?_⟩
   have cont : ∀ (r : AV) (s' : AS), WFs s' → GroN dotC 2 [p] s s' r (cst (i + 1)).2 → Am.Own s' p ((cst (i + 1)).1.map (.int .u64) ++ [w, .bool true]) →
     ∃ m', m' < ex.length - i ∧ ∃ (j : Nat) (left : AV), [r, AV.int .i64 (IntKind.wrap .i64 ((i : Int) + 1))] = [left, .int .i64 (j : Nat)] ∧ j ≤ ex.length ∧ m' = ex.length - j ∧ WFs s' ∧ GroN dotC 2 [p] s s' left (cst j).2 ∧ Am.Own s' p ((cst j).1.map (.int .u64) ++ [w, .bool true]) :=
    fun r s' a b c => ⟨ex.length - (i + 1), by omega, i + 1, r, by rw [wrap_i (by omega)]; rfl, by omega, rfl, a, b, c⟩
   refine bsplit.dec (fun hle => ?_) (fun hgt => ?_)
   ·have hs : cst (i + 1) = cst i := by rw [ht]; unfold cstep; rw [if_pos hle]
    exact cont _ _ F.wf (by rw [hs]; exact gg) (by rw [hs]; exact ho22)
   ·refine ⟨_, by rw [F.own.at.rd1]; rfl, _, by rw [ho22.at.rd1, Nat.zero_add, Nat.mul_one]; exact ctx_at hvi.len w hidx, ?_⟩
    dsimp only
    rw [wrap_u (by omega)]
    refine bsplit.mk (fun hq => ?_) (fun hq => ?_)
    ·have hq' : x.c = (cst i).1.getD (x.r - 1).toNat 0 + 1 := by simpa using hq
     have hs : cst (i + 1) = ((cst i).1.set (x.r - 1).toNat x.c, (cst i).2) := by rw [ht]; unfold cstep; rw [if_neg hgt, if_pos hq']
     refine ⟨_, by rw [F.own.at.rd1]; rfl, StQ.own F.wf ho22 (by rw [ctx_len hvi.len]; simp; omega) fun s33 P => ?_⟩
     refine cont _ _ P.wf (by rw [hs]; exact g.wr hsp (F.ext.mut.trans P.mut)) ?_
     rw [hs]
     have := P.at
     rw [wrs_one, Nat.zero_add, Nat.mul_one, vec_set _ _ _ _ (by rw [hvi.len]; exact hidx)] at this
     exact this
    ·have hq' : ¬ x.c = (cst i).1.getD (x.r - 1).toNat 0 + 1 := by simpa using hq
     have hs : cst (i + 1) = ((cst i).1, (cst i).2 ++ [x]) := by rw [ht]; unfold cstep; rw [if_neg hgt, if_neg hq']
     have hM : ∀ y ∈ [p], s22.h y ≠ none := by
      intro y hy; obtain rfl : y = p := by simpa using hy
      rw [ho22]; simp
     refine ⟨_, F.own.at.rdc (by simp [dotC]), GroN.append1 sl_s_Dot dotC_len dotC_one F.wf gg hM x (by have := hclen i; omega) fun r s' g' hw' mm => ?_⟩
     exact cont _ _ hw' (by rw [hs]; exact g') (by rw [hs]; exact ho22.mut mm (hnew g))
  ·obtain rfl : i = ex.length := by omega
   have hs : cst ex.length = compact v ex := by simp only [cst, List.take_length]; rfl
   rw [hs] at g ho
   exact ⟨left, rfl, hw16, g, ho⟩
end Go.Proofs.Ytoklmpkpeanloaa
end

section
namespace Go.Proofs.Ytoklmpkpeanloaa
open Go.Am Go.Minster
theorem abound1_nat {y i : Nat} {k : IntKind} (h : i ≤ y) : abound1 y (.int k (i : Nat)) = some i := by
 unfold abound1
 simp [h]
theorem asl_lo {a o n c i : Nat} (h1 : i ≤ n) (h2 : n ≤ c) (h3 : i < c) : aslice T Y_s_Dot (.slc (some (a, o)) n c true) (some (.int .i64 (i : Nat))) none none = some (.slc (some (a, o + i * 2)) (n - i) (c - i) true) := by
 have e1 : ¬ ((i : Int) < 0 ∨ (n : Int) < i) := by omega
 have e2 : ¬ c = i := by omega
 simp [aslice, u_s_Dot, z_Dot, abounds, aopt, ahigh, abound1_nat, e2, h1, h2]
theorem asl_lof {a o n c i : Nat} (h1 : i ≤ n) (h2 : n ≤ c) (h3 : i < c) : aslice T Y_s_Dot (.slc (some (a, o)) n c false) (some (.int .i64 (i : Nat))) none none = some (.slc (some (a, o + i * 2)) (n - i) (c - i) false) := by
 have e2 : ¬ c = i := by omega
 simp [aslice, u_s_Dot, z_Dot, abounds, aopt, ahigh, abound1_nat, e2, h1, h2]
theorem asl_hi {a o n c i : Nat} (h1 : i ≤ c) : aslice T Y_s_Dot (.slc (some (a, o)) n c true) none (some (.int .i64 (i : Nat))) none = some (.slc (some (a, o)) i c true) := by
 simp [aslice, u_s_Dot, z_Dot, abounds, aopt, ahigh, abound1_nat, h1]
theorem acopy_eq {a b o o2 n n2 c c2 g : Nat} {e e2 : Bool} {cs new : List AV} {s : AS} (hd : s.h a = some (.cells cs g false)) (hs : rdc s b o2 (min n2 n * 2) = some new) (hne : new ≠ []) (hfit : o + new.length ≤ cs.length) :
  acopy T Y_s_Dot (.slc (some (a, o)) n c e) (.slc (some (b, o2)) n2 c2 e2) s = some (.int .i64 ((min n2 n : Nat) : Int), s.put a (.cells (wrs cs o new) g false)) := by
 have hs2 : asrc 2 (min n2 n) s (.slc (some (b, o2)) n2 c2 e2) = some new := by
  by_cases h0 : min n2 n = 0
  ·exfalso
   rw [h0] at hs
   unfold rdc at hs
   split at hs
   ·split at hs
    ·simp at hs; exact hne (by first | exact hs | exact hs.symm)
    ·cases hs
   ·cases hs
  ·simp only [asrc, if_neg h0]; exact hs
 simp only [acopy, u_s_Dot, z_Dot, alen, Option.bind_some, hs2, if_neg hne, awr, hd, if_pos hfit, Option.map_some]
theorem appz {a n c k g : Nat} {ro : Bool} {cs : List AV} {s : AS} (h : s.h a = some (.cells cs g ro)) (hle : n * 2 ≤ cs.length) (hbig : n + k ≤ 2 ^ 30) (hroom : c < n + k) :
  aappend T Y_s_Dot Y_int (.slc (some (a, 0)) n c true) (.int .i64 (k : Nat)) s = some (.slc (some (s.nl, 0)) (n + k) (n + k) false, s.new (.cells (cs.take (n * 2) ++ rep k [.int .i64 0, .int .u64 0]) 2 false)) := by
 have h1 : ¬ ((2 : Nat) ≠ 2 ∨ (k : Int) < 0 ∨ 2 ^ 40 < n + k ∨ 2 * ((n + k + 256) * 16) > 2 ^ 48 ∨ n + k ≤ c) := by omega
 have h2 : asrc 2 n s (.slc (some (a, 0)) n c true) = some (cs.take (n * 2)) := by
  by_cases hn : n = 0
  ·subst hn; simp [asrc]
  ·simp only [asrc, if_neg hn]
   rw [rdc_of h (by omega), List.drop_zero]
 simp only [aappend, u_s_Dot, u_int, if_true, aappendZ, z_Dot, b_Dot, zr_Dot, acells, AV.cells, Option.bind_some, Int.toNat_natCast, h2, Option.map_some, List.length_cons, List.length_nil, List.all_cons, List.all_nil, one_int, Bool.and_self, Nat.zero_add, Nat.reduceAdd]
 rw [if_neg h1]
theorem find71 : Extern.find Try.f135 = some (Extern.SlicesOverlaps.overlaps #[Y_s_Dot, Y_s_Dot] #[Y_bool]) := by kernel_rfl
theorem next71 : Extern.findNext Try.f135 = none := by kernel_rfl
theorem name71 : (Try.f135.name == "runtime.NumGoroutine") = false := by kernel_rfl
theorem body71 : Try.f135.body.isNone = true := by kernel_rfl
theorem wadd40 {a b : Nat} (h : a + b ≤ 2 ^ 40) : IntKind.i64.wrap ((a : Int) + (b : Int)) = ((a + b : Nat) : Int) := by
 rw [IntWalk.i64_in _ (by omega)]; rfl
theorem wsub40 {a b : Nat} (h : a ≤ 2 ^ 40) (hb : b ≤ a) : IntKind.i64.wrap ((a : Int) - (b : Int)) = ((a - b : Nat) : Int) := by
 rw [IntWalk.i64_in _ (by omega)]; omega
def insd (cs V : List AV) (i len : Nat) : List AV := cs.take (i * 2) ++ V ++ (cs.drop (i * 2)).take ((len - i) * 2)
set_option maxRecDepth 20000 in
theorem insert_mid {s : AS} {l lb cap len i m mc ob gb : Nat} {cs bs : List AV} {eb : Bool} (hl : s.h l = some (.cells cs 2 false)) (hcap : cap * 2 = cs.length) (hlen : len ≤ cap) (hi : i < len) (hm : 0 < m) (hlb : l ≠ lb)
  (hb : s.h lb = some (.cells bs gb false)) (hgb : gb ≠ 1) (hob : ob + m * 2 ≤ bs.length) (hbig : len + m ≤ 2 ^ 30) (hst : 1 ≤ s.st) :
  ACalls Try.prog F_slices_Insert__s_Dot_Dot [.slc (some (l, 0)) len cap false, .int .i64 (i : Nat), .slc (some (lb, ob)) m mc eb] s
   fun v s' => v = .slc (some (s.nl + 2 * s.st, 0)) (len + m) (len + m) false ∧ s' = s.gave l 2 (.cells (insd cs ((bs.drop ob).take (m * 2)) i len) 2 false) := by
 refine ACalls.reveal (sz := 2) hl (by decide) (by omega) ?_
 intro x js hjs hj1 hnone
 have hN : s.h s.nl = none := by have := hnone 0; simpa using this
 have hN2 : s.h (s.nl + s.st) = none := by have := hnone 1; simpa using this
 have hlbN : lb ≠ s.nl := fun e => by rw [e, hN] at hb; cases hb
 have hlbN2 : lb ≠ s.nl + s.st := fun e => by rw [e, hN2] at hb; cases hb
 have hlN : l ≠ s.nl := fun e => by rw [e, hN] at hl; cases hl
 generalize hS : (s.kill l).new (.cells (cs ++ js) 2 false) = S
 have hSL : S.h s.nl = some (.cells (cs ++ js) 2 false) := by rw [← hS, AS.new_h _ rfl]; simp [AS.kill_nl]
 have hSb : S.h lb = some (.cells bs gb false) := by rw [← hS, AS.new_h _ rfl, AS.kill_h]; simp [AS.kill_nl, hlbN, Ne.symm hlb, hb]
 have hSk : ∀ k ob, k ≠ l → s.h k = some ob → S.h k = some ob := by
  intro k p hk hp
  rw [← hS, AS.new_h _ rfl, AS.kill_h, AS.kill_nl]
  rw [if_neg (fun e => by rw [e, hN] at hp; cases hp), if_neg hk]
  exact hp
 have hSnl : S.nl = s.nl + s.st := by rw [← hS]; rfl
 have hSst : S.st = s.st := by rw [← hS]; rfl
 have hCl : (cs ++ js).length = (cap + x) * 2 := by rw [List.length_append, hjs]; omega
 generalize hC : cs ++ js = C at hSL hCl
 generalize hV : (bs.drop ob).take (m * 2) = V
 have hVl : V.length = m * 2 := by rw [← hV, List.length_take, List.length_drop]; omega
 have hVne : V ≠ [] := by intro e; rw [e] at hVl; simp at hVl; omega
 have f1 := asl_lo (a := s.nl) (o := 0) (n := len) (c := cap + x) (i := i) (by omega) (by omega) (by omega)
 simp only [Nat.zero_add] at f1
 have f2 : ((m : Int) == 0) = false := by simp; omega
 have f3 : ((i : Int) == (len : Int)) = false := by simp; omega
 have f4 : IntKind.i64.wrap ((len : Int) + (m : Int)) = ((len + m : Nat) : Int) := wadd40 (by omega)
 have lB : ∀ (a : Option (Nat × Nat)) (n c : Nat) (e : Bool) (s' : AS), alenB T Y_s_Dot (.slc a n c e) s' = some (.int .i64 (n : Nat)) := by intros; simp [alenB, u_s_Dot]
 have cB : acapB T Y_s_Dot (.slc (some (s.nl, 0)) len (cap + x) true) = some (.int .i64 ((cap + x : Nat) : Int)) := by simp [acapB, u_s_Dot]
 refine q_slices_Insert__s_Dot_Dot _ _ _ _ _ ⟨_, f1, _, lB _ _ _ _ _, bsplit.no f2 ⟨_, lB _ _ _ _ _, bsplit.no f3 ⟨_, cB, ?_⟩⟩⟩
 dsimp only
 rw [f4]
 have hTl : rdc S s.nl (i * 2) ((len - i) * 2) = some ((C.drop (i * 2)).take ((len - i) * 2)) := rdc_of hSL (by omega)
 generalize hTle : (C.drop (i * 2)).take ((len - i) * 2) = Tl at hTl
 have hTll : Tl.length = (len - i) * 2 := by rw [← hTle, List.length_take, List.length_drop]; omega
 have hTlne : Tl ≠ [] := by intro e; rw [e] at hTll; simp at hTll; omega
 have hVr : rdc S lb ob (m * 2) = some V := by rw [rdc_of hSb hob, hV]
 have hCt : ∀ k, k < len * 2 → C[k]? = cs[k]? := by
  intro k hk
  rw [← hC, List.getElem?_append_left (by omega)]
 have hTlc : Tl = (cs.drop (i * 2)).take ((len - i) * 2) := by
  rw [← hTle]
  apply List.ext_getElem?
  intro k
  rw [List.getElem?_take, List.getElem?_take, List.getElem?_drop, List.getElem?_drop]
  split
  ·exact hCt _ (by omega)
  ·rfl
 refine bsplit.dec (fun hroom0 => ?_) (fun hroom0 => ?_)
 ·have hroom : cap + x < len + m := by omega
  have fA1 := asl_hi (a := s.nl) (o := 0) (n := len) (c := cap + x) (i := i) (by omega)
  have fA2 : IntKind.i64.wrap (((len + m : Nat) : Int) - (i : Int)) = ((len + m - i : Nat) : Int) := wsub40 (by omega) (by omega)
  have fA3 := appz (k := len + m - i) (n := i) (c := cap + x) hSL (by omega) (by omega) (by omega)
  rw [show i + (len + m - i) = len + m by omega] at fA3
  generalize hZ : C.take (i * 2) ++ rep (len + m - i) [AV.int .i64 0, AV.int .u64 0] = Z at fA3
  have hZl : Z.length = (len + m) * 2 := by rw [← hZ, List.length_append, List.length_take, rep_length]; simp; omega
  generalize hS3 : S.new (.cells Z 2 false) = S3 at fA3
  have h3N : S3.h S.nl = some (.cells Z 2 false) := by rw [← hS3, AS.new_h _ rfl, if_pos rfl]
  have hne3 : s.nl ≠ S.nl := by rw [hSnl]; omega
  have h3L : S3.h s.nl = some (.cells C 2 false) := by rw [← hS3, AS.new_h _ rfl, if_neg hne3]; exact hSL
  have h3b : S3.h lb = some (.cells bs gb false) := by rw [← hS3, AS.new_h _ rfl, if_neg (by rw [hSnl]; exact hlbN2)]; exact hSb
  have fA4 := asl_lof (a := S.nl) (o := 0) (n := len + m) (c := len + m) (i := i) (by omega) (by omega) (by omega)
  have fA5 := acopy_eq (a := S.nl) (b := lb) (o := i * 2) (o2 := ob) (n := len + m - i) (n2 := m) (c := len + m - i) (c2 := mc) (e := false) (e2 := eb) (new := V) h3N (by rw [show min m (len + m - i) = m by omega, rdc_of h3b hob, hV]) hVne (by omega)
  generalize hS4 : S3.put S.nl (.cells (wrs Z (i * 2) V) 2 false) = S4 at fA5
  have h4N : S4.h S.nl = some (.cells (wrs Z (i * 2) V) 2 false) := by rw [← hS4, AS.put_h _ _ rfl, if_pos rfl]
  have h4L : S4.h s.nl = some (.cells C 2 false) := by rw [← hS4, AS.put_h _ _ rfl, if_neg hne3]; exact h3L
  have fA6 : IntKind.i64.wrap ((i : Int) + (m : Int)) = ((i + m : Nat) : Int) := wadd40 (by omega)
  have fA7 := asl_lof (a := S.nl) (o := 0) (n := len + m) (c := len + m) (i := i + m) (by omega) (by omega) (by omega)
  have fA8 := acopy_eq (a := S.nl) (b := s.nl) (o := (i + m) * 2) (o2 := i * 2) (n := len + m - (i + m)) (n2 := len - i) (c := len + m - (i + m)) (c2 := cap + x - i) (e := false) (e2 := true) (new := Tl) h4N (by rw [show min (len - i) (len + m - (i + m)) = len - i by omega, rdc_of h4L (by omega), hTle]) hTlne (by rw [wrs_length]; omega)
  simp only [Nat.zero_add] at fA4 fA7
  generalize hS5 : S4.put S.nl (.cells (wrs (wrs Z (i * 2) V) ((i + m) * 2) Tl) 2 false) = S5 at fA8
  refine ⟨_, fA1, ?_⟩
  dsimp only
  rw [fA2]
  refine ⟨_, _, fA3, _, fA4, _, _, fA5, ?_⟩
  dsimp only
  rw [fA6]
  refine ⟨_, fA7, _, f1, _, _, fA8, ?_⟩
  have h5N : S5.h S.nl = some (.cells (wrs (wrs Z (i * 2) V) ((i + m) * 2) Tl) 2 false) := by rw [← hS5, AS.put_h _ _ rfl, if_pos rfl]
  have hkeep : ∀ k ob, k ≠ l → s.h k = some ob → S5.h k = some ob := by
   intro k p hk hp
   have hkN : k ≠ S.nl := fun e => by rw [e, hSnl, hN2] at hp; cases hp
   rw [← hS5, AS.put_h _ _ rfl, if_neg hkN, ← hS4, AS.put_h _ _ rfl, if_neg hkN, ← hS3, AS.new_h _ rfl, if_neg hkN]
   exact hSk k p hk hp
  refine ⟨⟨2, Nat.le_refl 2, ?_⟩, hkeep, .inr ⟨S.nl, rfl, by rw [hSnl]; exact hN2, ?_, ?_⟩⟩
  ·rw [← hS5, AS.put_nl, ← hS4, AS.put_nl, ← hS3, AS.new_nl, hSnl, hSst]; omega
  ·rw [h5N]
   congr 2
   unfold insd
   rw [← hTlc]
   apply List.ext_getElem?
   intro k
   rw [wrs_get _ _ _ _ (by rw [wrs_length]; omega), wrs_get _ _ _ _ (by omega), hTll, hVl]
   rw [List.getElem?_append, List.getElem?_append, List.length_append, List.length_take, hVl]
   by_cases k1 : k < i * 2
   ·rw [if_neg (by omega), if_neg (by omega), if_pos (by omega), if_pos (by omega), ← hZ, List.getElem?_append_left (by rw [List.length_take]; omega), List.getElem?_take, List.getElem?_take, if_pos k1, if_pos k1]
    exact hCt k (by omega)
   ·by_cases k2 : k < (i + m) * 2
    ·rw [if_neg (by omega), if_pos (by omega), if_pos (by omega), if_neg (by omega)]
     congr 1; omega
    ·by_cases k3 : k < (len + m) * 2
     ·rw [if_pos (by omega), if_neg (by omega)]
      congr 1; omega
     ·rw [if_neg (by omega), if_neg (by omega), if_neg (by omega), List.getElem?_eq_none (by omega), List.getElem?_eq_none (by omega)]
  ·unfold insd
   rw [← hTlc, List.length_append, List.length_append, List.length_take, hVl, hTll]; omega
 ·have hroom : ¬ cap + x < len + m := by omega
  have fB1 := asl_hi (a := s.nl) (o := 0) (n := len) (c := cap + x) (i := len + m) (by omega)
  have fB2 : IntKind.i64.wrap ((i : Int) + (m : Int)) = ((i + m : Nat) : Int) := wadd40 (by omega)
  have fB3 := asl_lo (a := s.nl) (o := 0) (n := len + m) (c := cap + x) (i := i + m) (by omega) (by omega) (by omega)
  have fB4 := asl_lo (a := s.nl) (o := 0) (n := len + m) (c := cap + x) (i := i) (by omega) (by omega) (by omega)
  simp only [Nat.zero_add] at fB3 fB4
  have hCS : rdc S s.nl (i * 2) (min (len + m - i) (len + m - (i + m)) * 2) = some Tl := by rw [show min (len + m - i) (len + m - (i + m)) = len - i by omega]; exact hTl
  have fB5 := acopy_eq (a := s.nl) (b := s.nl) (o := (i + m) * 2) (o2 := i * 2) (n := len + m - (i + m)) (n2 := len + m - i) (c := cap + x - (i + m)) (c2 := cap + x - i) (e := true) (e2 := true) (new := Tl) hSL hCS hTlne (by omega)
  generalize hS4 : S.put s.nl (.cells (wrs C ((i + m) * 2) Tl) 2 false) = S4 at fB5
  have h4N : S4.h s.nl = some (.cells (wrs C ((i + m) * 2) Tl) 2 false) := by rw [← hS4, AS.put_h _ _ rfl, if_pos rfl]
  have h4b : S4.h lb = some (.cells bs gb false) := by rw [← hS4, AS.put_h _ _ rfl, if_neg hlbN]; exact hSb
  have fB6 := acopy_eq (a := s.nl) (b := lb) (o := i * 2) (o2 := ob) (n := len + m - i) (n2 := m) (c := cap + x - i) (c2 := mc) (e := true) (e2 := eb) (new := V) h4N (by rw [show min m (len + m - i) = m by omega, rdc_of h4b hob, hV]) hVne (by rw [wrs_length]; omega)
  generalize hS5 : S4.put s.nl (.cells (wrs (wrs C ((i + m) * 2) Tl) (i * 2) V) 2 false) = S5 at fB6
  have hov := acalls_overlaps (g := F_slices_overlaps__Dot) (tR := Y_bool) (na := m) (ca := mc) (ea := eb) (oa := ob) (ob := (i + m) * 2) (nb := len + m - (i + m)) (cb := cap + x - (i + m)) (eb := true) hT Try.func135 name71 body71 next71 find71 u_s_Dot z_Dot hSb hgb hSL (by intro e; rw [e] at hCl; simp at hCl; omega) hlbN
  refine ⟨_, fB1, ?_⟩
  dsimp only
  rw [fB2]
  refine ⟨_, fB3, hov.mono ?_⟩
  rintro v s' ⟨rfl, rfl⟩
  refine ⟨_, rfl, bsplit.yes rfl ⟨_, fB3, _, fB4, _, _, fB5, _, fB4, _, _, fB6, ?_⟩⟩
  have h5N : S5.h s.nl = some (.cells (wrs (wrs C ((i + m) * 2) Tl) (i * 2) V) 2 false) := by rw [← hS5, AS.put_h _ _ rfl, if_pos rfl]
  have hkeep : ∀ k ob, k ≠ l → s.h k = some ob → S5.h k = some ob := by
   intro k p hk hp
   have hkN : k ≠ s.nl := fun e => by rw [e, hN] at hp; cases hp
   rw [← hS5, AS.put_h _ _ rfl, if_neg hkN, ← hS4, AS.put_h _ _ rfl, if_neg hkN]
   exact hSk k p hk hp
  refine ⟨⟨1, by omega, ?_⟩, hkeep, .inl ⟨rfl, by omega, _, h5N, ?_, ?_⟩⟩
  ·rw [← hS5, AS.put_nl, ← hS4, AS.put_nl, hSnl]; omega
  ·rw [wrs_length, wrs_length, hCl]; omega
  ·unfold insd
   rw [← hTlc]
   apply List.ext_getElem?
   intro k
   rw [List.getElem?_take, List.drop_zero, wrs_get _ _ _ _ (by rw [wrs_length]; omega), wrs_get _ _ _ _ (by omega), hTll, hVl]
   rw [List.getElem?_append, List.getElem?_append, List.length_append, List.length_take, hVl]
   by_cases k1 : k < i * 2
   ·rw [if_pos (by omega), if_neg (by omega), if_neg (by omega), if_pos (by omega), if_pos (by omega), List.getElem?_take, if_pos k1]
    exact hCt k (by omega)
   ·by_cases k2 : k < (i + m) * 2
    ·rw [if_pos (by omega), if_pos (by omega), if_pos (by omega), if_neg (by omega)]
     congr 1; omega
    ·by_cases k3 : k < (len + m) * 2
     ·rw [if_pos (by omega), if_neg (by omega), if_pos (by omega), if_neg (by omega)]
      congr 1; omega
     ·rw [if_neg (by omega), if_neg (by omega), List.getElem?_eq_none (by omega)]
end Go.Proofs.Ytoklmpkpeanloaa
end

section
namespace Go.Proofs.Ytoklmpkpeanloaa
open Go.Am Go.Minster
theorem insert_ok {s : AS} {v : AV} {l : List Dot} {d : Dot} {i lb : Nat} (g : Gro dotC 2 s v l) (hb : s.h lb = some (.cells (dotC d) 0 false)) (hi : i ≤ l.length) (hn : l.length + 1 ≤ 2 ^ 30) :
  ACalls Try.prog F_slices_Insert__s_Dot_Dot [v, .int .i64 (i : Nat), .slc (some (lb, 0)) 1 1 true] s fun r s' => Gro dotC 2 s' r (l.take i ++ d :: l.drop i) ∧ Mut (labOf v) s s' ∧ (∀ la ∈ labOf r, la ∈ labOf v ∨ s.h la = none) := by
 refine ACalls.pre fun hw => ?_
 have hsl := g.sl dotC_len
 have hlb : Dots s (.slc (some (lb, 0)) 1 1 true) [d] := SlAt.mk ⟨_, _, hb⟩ rfl rfl
 by_cases he : i = l.length
 ·subst he
  have hne : v ≠ .emp := by rcases g with ⟨_, a, rfl⟩ | ⟨la, rfl, _⟩ <;> (intro h; cases h)
  obtain ⟨w, h1, _⟩ := hsl.from dotC_len u_s_Dot z_Dot hne (Nat.le_refl _) .i64
  obtain ⟨v', s', h2, h3, h4, h5, h6⟩ := Gro.append sl_s_Dot dotC_len dotC_one hw g hlb (by simpa using hn) u_s_Dot
  refine q_slices_Insert__s_Dot_Dot _ _ _ _ _ ⟨_, h1, _, hlb.lenB u_s_Dot _, bsplit.no rfl ⟨_, hsl.lenB u_s_Dot _, bsplit.yes (by simp) ⟨_, _, h2, ?_, h4, h6⟩⟩⟩
  rw [List.take_of_length_le (Nat.le_refl _), List.drop_of_length_le (Nat.le_refl _)]
  exact h3
 ·rcases g with ⟨rfl, _⟩ | ⟨la, rfl, hla⟩
  ·simp at hi; subst hi; exact absurd rfl he
  ·have hne : la ≠ lb := by
    rintro rfl
    rw [hb] at hla
    simp at hla
   refine (insert_mid (i := i) hla (by rw [flat_len dotC_len]) (Nat.le_refl _) (by omega) (by omega) hne hb (by decide) (by simp [dotC]) hn hw.1).mono ?_
   rintro r s' ⟨rfl, rfl⟩
   have hnl : s.h (s.nl + 2 * s.st) = none := hw.2 2
   have hcs : insd (l.flatMap dotC) (((dotC d).drop 0).take (1 * 2)) i l.length = (l.take i ++ d :: l.drop i).flatMap dotC := by
    unfold insd
    rw [flat_take dotC_len, flat_drop dotC_len, show ((l.drop i).flatMap dotC).take ((l.length - i) * 2) = (l.drop i).flatMap dotC from List.take_of_length_le (by rw [flat_len dotC_len, List.length_drop]; exact Nat.le_refl _)]
    simp [dotC]
   refine ⟨.inr ⟨s.nl + 2 * s.st, ?_, ?_⟩, ⟨fun x o hx ho => ?_, ?_⟩, fun y hy => ?_⟩
   ·have : (l.take i ++ d :: l.drop i).length = l.length + 1 := by simp; omega
    rw [this]
   ·rw [AS.gave_h _ _ _ rfl, if_pos rfl, hcs]
   ·rw [AS.gave_h _ _ _ rfl, if_neg (fun e => by rw [e, hnl] at ho; cases ho), if_neg (by simpa [labOf] using hx)]; exact ho
   ·show s.nl ≤ s.nl + 2 * s.st + s.st; omega
   ·simp only [labOf, List.mem_singleton] at hy
    subst hy; exact .inr hnl
def addD (v : List Int) (ex : List Dot) (d : Dot) : Bool × Int × List Int × List Dot :=
 if d.may = false then (false, 2, v, ex)
 else if hasD v ex d then (false, 0, v, ex)
 else if 4096 < (compact v (ins ex d)).2.length then (false, 5, v, ex)
 else (true, 0, compact v (ins ex d))
theorem ctx_Add_ok3 {s : AS} {p : Nat} {v : List Int} {ex : List Dot} (h : CtxAt s p v ex) (hv : VOk v) (hr : Rising ex) (hm : ∀ d ∈ ex, d.may = true) (hn : ex.length + 1 < 2 ^ 30) (d : Dot) :
  ACalls Try.prog F_ctx_Ctx_Add [.ptr (some (p, 0)), .agg (dotC d)] s fun r s' => r = .tup [.bool (addD v ex d).1, .int .i64 (addD v ex d).2.1] ∧ CtxAt s' p (addD v ex d).2.2.1 (addD v ex d).2.2.2 ∧ Mut [p] s s' ∧ ((addD v ex d).1 = false → Ext s s') ∧ ((addD v ex d).1 = true → CtxG s s' p (addD v ex d).2.2.1 (addD v ex d).2.2.2) := by
 refine ACalls.pre fun hw => q_ctx_Ctx_Add _ _ _ _ ⟨rfl, NewQ.intro hw rfl fun l1 s2 F1 => ?_⟩
 refine ACalls.use (ctx_there_ok (h.ext F1.ext)) ?_
 rintro r s4 ⟨rfl, rfl⟩ hw4
 refine ⟨_, rfl, bsplit.no rfl ⟨_, F1.own.at.rdc (by simp [dotC]), ?_⟩⟩
 refine ACalls.use (ctx_May_ok d _) ?_
 rintro r s8 ⟨rfl, e8⟩ hw8
 have E8 := F1.ext.trans e8
 refine ⟨_, rfl, bsplit.mk (fun hd => ?_) (fun hd => ?_)⟩
 ·simp only [Bool.not_eq_true'] at hd
  have : addD v ex d = (false, 2, v, ex) := by simp [addD, hd]
  rw [this]
  exact ⟨rfl, h.ext E8, E8.mut, (fun _ => E8), fun h => absurd h (by simp)⟩
 simp only [Bool.not_eq_false'] at hd
 refine ⟨_, (F1.own.ext e8).at.rdc (by simp [dotC]), ?_⟩
 refine ACalls.use (ctx_Has_ok (h.ext E8) hr (by omega) d) ?_
 rintro r s12 ⟨rfl, e12⟩ hw12
 have E12 := E8.trans e12
 refine ⟨_, rfl, bsplit.mk (fun hh => ?_) (fun hh => ?_)⟩
 ·have : addD v ex d = (false, 0, v, ex) := by simp [addD, hd, hh]
  rw [this]
  exact ⟨rfl, h.ext E12, E12.mut, (fun _ => E12), fun h => absurd h (by simp)⟩
 have hnin : d ∉ ex := by
  intro hin
  simp [hasD, hd, hin] at hh
 obtain ⟨h1, w, h2, h3, h4⟩ := h
 have hlen := ctx_len h1 w
 refine ⟨_, (h2.ext E12).at.rdc (by rw [hlen]; omega), ?_⟩
 have hg : ((v.map (AV.int .u64) ++ [w, .bool true]).drop 0).take 18 = v.map (AV.int .u64) ++ [w, .bool true] := by
  rw [List.drop_zero, List.take_of_length_le (by rw [hlen]; exact Nat.le_refl _)]
 rw [hg]
 refine NewSt hw12 hlen rfl (by simp [h3]) fun l17 s19 F17 => ?_
 have E19 := E12.trans F17.ext
 refine ⟨fun _ _ _ _ => True, fun _ _ r => r = .tup [.int .i64 (pos ex d : Nat), .bool (decide (d ∈ ex))], fun _ _ _ _ _ _ _ => trivial, w, by rw [(h2.ext E19).at.rd1]; exact ctx_16 h1 w, _, (F1.own.ext (e8.trans (e12.trans F17.ext))).at.rdc (by simp [dotC]), fun s24 e24 _ _ => ?_, ⟨_, rfl⟩, ?_⟩
 ·refine (bsearch_ok (h4.ext (E19.trans e24)) (by omega) hr d).mono ?_
  rintro r s' ⟨rfl, e⟩
  exact ⟨_, _, rfl, e, trivial, rfl⟩
 rintro r rfl
 refine ⟨_, _, rfl, fun s32 e32 _ _ => ?_⟩
 have E32 := E19.trans e32
 have o17 := F17.own.ext e32
 refine ⟨fun i _ r s' => (i = 4 → GroN dotC 2 [] s32 s' r ex) ∧ (i = 7 → ∃ lb, r = .slc (some (lb, 0)) 1 1 true ∧ s'.h lb = some (.cells (dotC d) 0 false)), fun i _ r => i = 7 → ∃ lb, r = .slc (some (lb, 0)) 1 1 true, ?_, w, by rw [(h2.ext E32).at.rd1]; exact ctx_16 h1 w, fun s37 e37 _ _ => ?_, ⟨.undef, (fun h => by cases h)⟩, fun v40 _ => ⟨_, (F1.own.ext (e8.trans (e12.trans (F17.ext.trans e32)))).at.rdc (by simp [dotC]), ?_⟩⟩
 ·rintro i k r s s' e ⟨ha, hb⟩
  refine ⟨fun hi => (ha hi).step e, fun hi => ?_⟩
  obtain ⟨lb, h1, h2⟩ := hb hi
  exact ⟨lb, h1, e.1 _ _ h2⟩
 ·refine (clone_ok (h4.ext (E32.trans e37)) (by omega)).mono fun r s' g => ⟨g.chg.ext, ⟨(fun _ => ⟨g.gro, e37.mut.trans g.chg, fun la hla => e37.none (g.new la hla)⟩), (fun h => by cases h)⟩, (fun h => by cases h)⟩
 refine ⟨fun s42 e42 w42 _ => ⟨_, absl_agg sl_s_Dot (c := dotC d) rfl rfl, ?_⟩, ⟨.slc (some (0, 0)) 1 1 true, fun _ => ⟨0, rfl⟩⟩, fun v46 hv46 s47 e47 _ hS => ?_⟩
 ·exact NewQ.intro w42 rfl fun l s45 F => ⟨F.ext, ⟨(fun h => by cases h), fun _ => ⟨l, rfl, F.at⟩⟩, fun _ => ⟨l, rfl⟩⟩
 obtain ⟨g40, lb, rfl, hlb⟩ : GroN dotC 2 [] s32 s47 v40 ex ∧ ∃ lb, v46 = .slc (some (lb, 0)) 1 1 true ∧ s47.h lb = some (.cells (dotC d) 0 false) := ⟨hS.1.1 rfl, hS.2.1.2 rfl⟩
 refine ACalls.use (insert_ok g40.gro hlb (pos_le ex d) (by omega)) ?_
 rintro r s50 ⟨g50, m50, n50⟩ hw50
 have hnot : ∀ x, (∃ o, s32.h x = some o) → x ∉ labOf v40 := by
  rintro x ⟨o, ho⟩ hx
  rw [g40.new x hx] at ho; cases ho
 have hnot2 : ∀ x, (∃ o, s32.h x = some o) → x ∉ labOf r := by
  rintro x ⟨o, ho⟩ hx
  rcases n50 x hx with h | h
  ·exact hnot x ⟨o, ho⟩ h
  ·rw [e47.1 _ _ ho] at h; cases h
 have o17' := (o17.ext e47).mut m50 (hnot l17 ⟨_, o17⟩)
 have hone : r.one = true := by rcases g50 with ⟨_, a, rfl⟩ | ⟨la, rfl, _⟩ <;> rfl
 refine qstore_one hone z_s_Dot (StQ.own hw50 o17' (by rw [hlen]; simp) fun s51 P => ?_)
 have hins : (ex.take (pos ex d) ++ d :: ex.drop (pos ex d)) = ins ex d := rfl
 rw [hins] at g50
 have hP := P.at
 rw [wrs_one, List.set_append_right _ _ (by simp [h1])] at hP
 simp only [List.length_map, h1, Nat.sub_self, List.set_cons_zero] at hP
 have c51 : CtxAt s51 l17 v (ins ex d) := ⟨h1, r, hP, hone, (g50.mut (L := [l17]) P.mut (fun x hx => by simp only [List.mem_singleton]; rintro rfl; exact hnot2 _ ⟨_, o17⟩ hx)).sl dotC_len⟩
 have hmi : ∀ x ∈ ins ex d, x.may = true := by
  intro x hx
  rcases mem_ins.1 hx with rfl | hx
  ·exact hd
  ·exact hm x hx
 refine ACalls.use (ctx_compact_ok2 c51 hv hmi (by rw [ins_len]; omega)) ?_
 rintro r2 s53 ⟨rfl, c53, m53⟩ hw53
 have hp : Am.Own s53 p (v.map (.int .u64) ++ [w, .bool true]) := by
  have hp32 := h2.ext E32
  have hne : p ∉ [l17] := by
   simp only [List.mem_singleton]
   rintro rfl
   have := F17.no
   rw [h2.ext E12] at this; cases this
  exact ((((hp32.ext e47).mut m50 (hnot p ⟨_, hp32⟩)).mut P.mut hne).mut m53 hne)
 have hall : Mut [p] s s53 := by
  refine ⟨fun x o hx ho => ?_, ?_⟩
  ·have h32 := E32.1 _ _ ho
   have hne : x ∉ [l17] := by
    simp only [List.mem_singleton]
    rintro rfl
    have := F17.no
    rw [E12.1 _ _ ho] at this; cases this
   exact m53.1 _ _ hne (P.mut.1 _ _ hne (m50.1 _ _ (hnot x ⟨_, h32⟩) (e47.1 _ _ h32)))
  ·exact Nat.le_trans E32.2 (Nat.le_trans e47.2 (Nat.le_trans m50.2 (Nat.le_trans P.mut.2 m53.2)))
 obtain ⟨k1, w', k2, k3, kg, kn⟩ := c53
 have k4 := kg.sl dotC_len
 have hnw : ∀ la ∈ labOf w', s.h la = none := by
  intro la hla
  cases hq : s.h la with
  | none => rfl
  | some o =>
   exfalso
   have h32 := E32.1 _ _ hq
   have hne : la ∉ [l17] := by
    simp only [List.mem_singleton]
    rintro rfl
    have := F17.no
    rw [E12.1 _ _ hq] at this; cases this
   have := P.mut.1 _ _ hne (m50.1 _ _ (hnot la ⟨_, h32⟩) (e47.1 _ _ h32))
   rw [kn la hla] at this; cases this
 refine ⟨rfl, w', by rw [k2.at.rd1]; exact ctx_16 k1 w', _, k4.lenB u_s_Dot _, bsplit.dec (fun hgt => ?_) (fun hle => ?_)⟩
 ·have : addD v ex d = (false, 5, v, ex) := by
   simp only [addD, hd, hh, Bool.true_eq_false, Bool.false_eq_true, if_false]
   rw [if_pos (by omega)]
  rw [this]
  refine ⟨rfl, ⟨h1, w, hp, h3, ?_⟩, hall, (fun _ => ⟨fun x o ho => ?_, hall.2⟩), fun h => absurd h (by simp)⟩
  rotate_left
  ·by_cases hx : x = p
   ·subst hx
    rw [show s.h x = _ from h2] at ho
    rw [← ho]
    exact hp
   ·exact hall.1 x o (by simpa using hx) ho
  refine Sl.mut h4 hall dotC_len (by decide) fun q hq C hC x hx i c hc he => ?_
  obtain rfl : q = p := by simpa using hq
  obtain rfl := hC.inj h2.at
  simp only [dotC, List.getElem?_cons_zero, Option.some.injEq] at hc
  subst hc
  rcases List.mem_append.1 (List.mem_of_getElem? he) with h | h
  ·obtain ⟨y, _, hy⟩ := List.mem_map.1 h
   cases hy
  ·rcases List.mem_cons.1 h with rfl | h
   ·exact dots_not_int h4 _ _ rfl
   ·simp at h
 ·have : addD v ex d = (true, 0, compact v (ins ex d)) := by
   simp only [addD, hd, hh, Bool.true_eq_false, Bool.false_eq_true, if_false]
   rw [if_neg (by omega)]
  rw [this]
  have hlen' := ctx_len k1 w'
  have hg' : (((compact v (ins ex d)).1.map (AV.int .u64) ++ [w', .bool true]).drop 0).take 18 = (compact v (ins ex d)).1.map (AV.int .u64) ++ [w', .bool true] := by
   rw [List.drop_zero, List.take_of_length_le (by rw [hlen']; exact Nat.le_refl _)]
  refine ⟨_, k2.at.rdc (by rw [hlen']; omega), ?_⟩
  rw [hg']
  refine ⟨⟨by simp [k3], by rw [hlen']⟩, StQ.own hw53 hp (by rw [hlen, hlen']; omega) fun s59 P2 => ?_⟩
  have ho59 : Am.Own s59 p ((compact v (ins ex d)).1.map (AV.int .u64) ++ [w', .bool true]) := by
   have := P2.at
   rw [wrs_all0 (by rw [hlen, hlen'])] at this
   exact this
  refine ⟨rfl, ⟨k1, w', ho59, k3, ?_⟩, hall.trans P2.mut, (fun h => absurd h (by simp)), fun _ => ⟨k1, w', ho59, k3, kg.mut P2.mut fun x hx hm => ?_, hnw⟩⟩
  rotate_left
  ·obtain rfl := List.mem_singleton.1 hm
   have := hnw x hx
   rw [h2] at this; cases this
  ·refine dots_keep k4 hp.at (x := [w, .bool true]) ?_ P2.mut
   intro y hy n
   rcases List.mem_cons.1 hy with rfl | hy
   ·exact dots_not_int h4 _ _
   ·obtain rfl : y = .bool true := by simpa using hy
    intro h; cases h
end Go.Proofs.Ytoklmpkpeanloaa
end

section
namespace Go.Proofs.Ytoklmpkpeanloaa
open Go.Am Go.Minster
def addR (v : List Int) (ex : List Dot) (d : Dot) : List Int × List Dot := if hasD v ex d then (v, ex) else compact v (ins ex d)
end Go.Proofs.Ytoklmpkpeanloaa
end

section
namespace Go.Proofs.Ytoklmpkpeanloaa
open Go.Am Go.Minster
theorem own : ownKnob Try.prog.godebug = none := by kernel_rfl
set_option maxRecDepth 100000
theorem laid : laidOutB Try.prog = true := by kernel_rfl
theorem min_i64 : IntKind.min .i64 = -9223372036854775808 := by decide
theorem max_i64 : IntKind.max .i64 = 9223372036854775807 := by decide
theorem min_u64 : IntKind.min .u64 = 0 := by decide
theorem max_u64 : IntKind.max .u64 = 18446744073709551615 := by decide
def DotIn (d : Dot) : Prop := (-9223372036854775808 ≤ d.r ∧ d.r ≤ 9223372036854775807) ∧ (0 ≤ d.c ∧ d.c ≤ 18446744073709551615)
end Go.Proofs.Ytoklmpkpeanloaa
end

section
namespace Go.Proofs.Ytoklmpkpeanloaa
open Go.Am Go.Minster Go.ChangeShapes Go.WideShapes Go.ChangeAt Go.RowKit
structure COk (v : List Int) (ex : List Dot) : Prop where
 v : VOk v
 r : Rising ex
 m : ∀ d ∈ ex, d.may = true
theorem COk.add {v : List Int} {ex : List Dot} (h : COk v ex) {d : Dot} (hd : d.may = true) : COk (addR v ex d).1 (addR v ex d).2 := by
 unfold addR
 split
 ·exact h
 ·rename_i hh
  have hnin : d ∉ ex := fun hin => hh (by simp [hasD, hd, hin])
  have hmi : ∀ x ∈ ins ex d, x.may = true := by
   intro x hx
   rcases mem_ins.1 hx with rfl | hx
   ·exact hd
   ·exact h.m x hx
  have hs := compact_sub v (ins ex d)
  exact ⟨compact_ok h.v hmi, (h.r.ins hnin).sub hs, fun x hx => hmi x (hs.subset hx)⟩
theorem addR_len {v : List Int} {ex : List Dot} {d : Dot} : (addR v ex d).2.length ≤ ex.length + 1 := by
 unfold addR
 split
 ·simp
 ·have := (compact_sub v (ins ex d)).length_le
  rw [ins_len] at this
  exact this
theorem addD_few {v : List Int} {ex : List Dot} {d : Dot} (hd : d.may = true) (hn : ex.length < 4096) : addD v ex d = (!hasD v ex d, 0, addR v ex d) := by
 have h1 := (compact_sub v (ins ex d)).length_le
 rw [ins_len] at h1
 unfold addD addR
 rw [hd]
 simp only [Bool.true_eq_false, if_false]
 cases hasD v ex d with
 | true => simp
 | false => simp only [Bool.false_eq_true, if_false, Bool.not_false]; rw [if_neg (by omega)]
theorem COk.zero : COk zeros [] := ⟨⟨rfl, by decide⟩, List.Pairwise.nil, by simp⟩
theorem Ext.wr {s s1 s2 : AS} {p : Nat} (e : Ext s s1) (hp : s.h p = none) (m : Mut [p] s1 s2) : Ext s s2 :=
 ⟨fun x o ho => m.1 x o (by simp only [List.mem_singleton]; rintro rfl; rw [hp] at ho; cases ho) (e.1 x o ho), Nat.le_trans e.2 m.2⟩
end Go.Proofs.Ytoklmpkpeanloaa
end

section
namespace Go.Proofs.Ytoklmpkpeanloaa
open Go.Am Go.Minster Go.ChangeShapes Go.WideShapes Go.ChangeAt Go.RowKit
theorem pl_Ctx : places T Y_ctx_Ctx = some [(0, 16), (16, 1), (17, 1)] := by kernel_rfl
theorem acells_all {l : List AV} (h : l.all AV.one = true) : acells (.agg l) = some l := by rw [acells_agg, if_pos h]
theorem acells_1 {v : AV} (h : v.one = true) : acells v = some [v] := by cases v <;> first | rfl | cases h
theorem build_Ctx {v : List Int} (h : v.length = 16) {w : AV} (hw : w.one = true) : abuild T Y_ctx_Ctx [(0, .agg (v.map (.int .u64))), (1, w), (2, .bool true)] = some (.agg (v.map (.int .u64) ++ [w, .bool true])) := by
 rw [abuild_pl pl_Ctx zr_ctx_Ctx rfl]
 have e0 := afill_step (pl := fun i => [(0, 16), (16, 1), (17, 1)][i]?) (pre := []) (mid := zeros.map (.int .u64)) (post := [.slc none 0 0 true, .bool false]) (c := v.map (.int .u64)) (i := 0) (sz := 16) (v := .agg (v.map (.int .u64))) (rest := [(1, w), (2, .bool true)]) rfl (acells_all (ints_one _ _)) (by simp [h]) rfl
 have e1 := afill_step (pl := fun i => [(0, 16), (16, 1), (17, 1)][i]?) (pre := v.map (.int .u64)) (mid := [.slc none 0 0 true]) (post := [.bool false]) (c := [w]) (i := 1) (sz := 1) (v := w) (rest := [(2, .bool true)]) (by simp [h]) (acells_1 hw) rfl rfl
 have e2 := afill_step (pl := fun i => [(0, 16), (16, 1), (17, 1)][i]?) (pre := v.map (.int .u64) ++ [w]) (mid := [.bool false]) (post := []) (c := [.bool true]) (i := 2) (sz := 1) (v := .bool true) (rest := []) (by simp [h]) rfl rfl rfl
 refine (congrArg (Option.map AV.agg) e0).trans ?_
 simp only [List.nil_append]
 rw [show v.map (AV.int .u64) ++ [.slc none 0 0 true, .bool false] = v.map (AV.int .u64) ++ [.slc none 0 0 true] ++ [.bool false] by simp, e1]
 rw [show v.map (AV.int .u64) ++ [w] ++ [.bool false] = v.map (AV.int .u64) ++ [w] ++ [.bool false] ++ [] by simp, e2]
 simp [afill]
theorem aix_vec {v : List Int} (h : v.length = 16) {i : Nat} (hi : i < 16) : aindex T Y_Vector (.agg (v.map (.int .u64))) (.int .i64 (i : Nat)) = some (.int .u64 (v.getD i 0)) := by
 have : (0 : Int) ≤ (i : Int) ∧ (i : Int) < ((16 : Nat) : Int) := by omega
 simp only [aindex, u_Vector, z_uint64, Option.bind_some, if_pos this, part_s ag_uint64, Int.toNat_natCast, Nat.mul_one, List.getElem?_map]
 rw [List.getElem?_eq_getElem (by omega), List.getD_eq_getElem?_getD, List.getElem?_eq_getElem (by omega)]; rfl
end Go.Proofs.Ytoklmpkpeanloaa
end

section
namespace Go.Proofs.Ytoklmpkpeanloaa
open Go.Am Go.Minster Go.ChangeShapes Go.WideShapes Go.ChangeAt Go.RowKit
theorem clone_S {s s9 : AS} {v : AV} {l : List Dot} (e : Ext s s9) (h : Dots s9 v l) (hn : l.length ≤ 2 ^ 30) : ACalls Try.prog F_slices_Clone__s_Dot_Dot [v] s9 fun r s' => Ext s9 s' ∧ (Gro dotC 2 s' r l ∧ (∀ la ∈ labOf r, s.h la = none) ∧ r ≠ .emp ∧ r.one = true) := by
 refine (clone_ok h hn).mono ?_
 intro r s' g
 exact ⟨g.chg.ext, g.gro, fun la hla => e.none (g.new la hla), g.isSlc⟩
end Go.Proofs.Ytoklmpkpeanloaa
end

section
namespace Go.Proofs.Ytoklmpkpeanloaa
open Go.Am Go.Minster Go.ChangeShapes Go.WideShapes Go.ChangeAt Go.RowKit
theorem fold_gap : ∀ (l : List Dot) (st : List Int × List Dot), VOk st.1 → Rising l → (∀ d ∈ l, d.may = true) →
  (∀ y ∈ st.2, y.may = true ∧ st.1.getD (y.r - 1).toNat 0 + 1 < y.c ∧ ∀ d ∈ l, y.lt d = true) →
  ∀ y ∈ (l.foldl cstep st).2, (l.foldl cstep st).1.getD (y.r - 1).toNat 0 + 1 < y.c
 | [], st, hv, hr, hm, h => fun y hy => (h y hy).2.1
 | d :: l, st, hv, hr, hm, h => by
  have hd := Dot.may_iff.1 (hm d (by simp))
  obtain ⟨hr1, hr2⟩ := List.pairwise_cons.1 hr
  refine fold_gap l (cstep st d) (cstep_ok hv (hm d (by simp))) hr2 (fun x hx => hm x (by simp [hx])) ?_
  intro y hy
  unfold cstep at hy ⊢
  split at hy
  ·rename_i hc
   rw [if_pos hc]
   exact ⟨(h y hy).1, (h y hy).2.1, fun x hx => (h y hy).2.2 x (by simp [hx])⟩
  ·rename_i hc
   rw [if_neg hc]
   split at hy
   ·rename_i hc2
    rw [if_pos hc2]
    obtain ⟨h1, h2, h3⟩ := h y hy
    refine ⟨h1, ?_, fun x hx => h3 x (by simp [hx])⟩
    have hym := Dot.may_iff.1 h1
    have hlt := Dot.lt_iff.1 (h3 d (by simp))
    have hne : (d.r - 1).toNat ≠ (y.r - 1).toNat := by
     intro e
     have : y.r = d.r := by omega
     rw [this] at h2
     omega
    simp only [List.getD_eq_getElem?_getD] at h2 ⊢
    rw [List.getElem?_set_ne hne]
    exact h2
   ·rename_i hc2
    rw [if_neg hc2]
    simp only [List.mem_append, List.mem_singleton] at hy
    rcases hy with hy | rfl
    ·exact ⟨(h y hy).1, (h y hy).2.1, fun x hx => (h y hy).2.2 x (by simp [hx])⟩
    ·refine ⟨hm y (by simp), ?_, hr1⟩
     show st.1.getD (y.r - 1).toNat 0 + 1 < y.c
     omega
def Gap (v : List Int) (ex : List Dot) : Prop := ∀ y ∈ ex, v.getD (y.r - 1).toNat 0 + 1 < y.c
theorem Gap.add {v : List Int} {ex : List Dot} (h : COk v ex) (g : Gap v ex) {d : Dot} (hd : d.may = true) : Gap (addR v ex d).1 (addR v ex d).2 := by
 unfold addR
 split
 ·exact g
 ·rename_i hh
  have hnin : d ∉ ex := fun hin => hh (by simp [hasD, hd, hin])
  have hmi : ∀ x ∈ ins ex d, x.may = true := by
   intro x hx
   rcases mem_ins.1 hx with rfl | hx
   ·exact hd
   ·exact h.m x hx
  exact fold_gap (ins ex d) (v, []) h.v (h.r.ins hnin) hmi (by simp)
end Go.Proofs.Ytoklmpkpeanloaa
end

section
namespace Go.Proofs.Ytoklmpkpeanloaa
open Go.Am Go.Minster
theorem hasD_iff {v : List Int} {ex : List Dot} {d : Dot} : hasD v ex d = true ↔ d.may = true ∧ (d ∈ ex ∨ d.c ≤ v.getD (d.r - 1).toNat 0) := by
 simp [hasD]
theorem rising_eq : ∀ {l l' : List Dot}, Rising l → Rising l' → (∀ d, d ∈ l ↔ d ∈ l') → l = l'
 | [], [], _, _, _ => rfl
 | [], d :: l', _, _, h => absurd ((h d).2 (by simp)) (by simp)
 | d :: l, [], _, _, h => absurd ((h d).1 (by simp)) (by simp)
 | d :: l, d' :: l', h1, h2, h => by
  obtain ⟨a1, a2⟩ := List.pairwise_cons.1 h1
  obtain ⟨b1, b2⟩ := List.pairwise_cons.1 h2
  have hd : d = d' := by
   rcases List.mem_cons.1 ((h d).1 (by simp)) with e | hm
   ·exact e
   ·rcases List.mem_cons.1 ((h d').2 (by simp)) with e | hm'
    ·exact e.symm
    ·exact absurd (Dot.lt_trans (a1 d' hm') (b1 d hm)) (Dot.lt_irrefl d)
  subst hd
  rw [rising_eq a2 b2 fun x => ?_]
  constructor
  ·intro hx
   rcases List.mem_cons.1 ((h x).1 (by simp [hx])) with e | hm
   ·subst e; exact absurd (a1 x hx) (Dot.lt_irrefl x)
   ·exact hm
  ·intro hx
   rcases List.mem_cons.1 ((h x).2 (by simp [hx])) with e | hm
   ·subst e; exact absurd (b1 x hx) (Dot.lt_irrefl x)
   ·exact hm
theorem norm_le {v v' : List Int} {ex ex' : List Dot} (h : COk v ex) (h' : COk v' ex') (g' : Gap v' ex') (hh : ∀ d, hasD v ex d = true → hasD v' ex' d = true) {i : Nat} (hi : i < 16) : v.getD i 0 ≤ v'.getD i 0 := by
 have b := h.v.get i
 have b' := h'.v.get i
 by_cases hle : v.getD i 0 ≤ v'.getD i 0
 ·exact hle
 exfalso
 have hr : (((i : Int) + 1) - 1).toNat = i := by omega
 have hm : (Dot.mk ((i : Int) + 1) (v'.getD i 0 + 1)).may = true := Dot.may_iff.2 ⟨by show (1 : Int) ≤ (i : Int) + 1; omega, by show (i : Int) + 1 ≤ 16; omega, by show 1 ≤ v'.getD i 0 + 1; omega, by show v'.getD i 0 + 1 ≤ _; omega⟩
 have := hasD_iff.1 (hh ⟨(i : Int) + 1, v'.getD i 0 + 1⟩ (hasD_iff.2 ⟨hm, .inr (by show v'.getD i 0 + 1 ≤ v.getD (((i : Int) + 1) - 1).toNat 0; rw [hr]; omega)⟩))
 rcases this.2 with hin | hc
 ·have := g' _ hin
  have e : v'.getD (((i : Int) + 1) - 1).toNat 0 + 1 < v'.getD i 0 + 1 := this
  rw [hr] at e; omega
 ·have e : v'.getD i 0 + 1 ≤ v'.getD (((i : Int) + 1) - 1).toNat 0 := hc
  rw [hr] at e; omega
theorem norm_eq {v v' : List Int} {ex ex' : List Dot} (h : COk v ex) (g : Gap v ex) (h' : COk v' ex') (g' : Gap v' ex') (hh : ∀ d, hasD v ex d = hasD v' ex' d) : v = v' ∧ ex = ex' := by
 have hv : v = v' := by
  refine List.ext_getElem (by rw [h.v.len, h'.v.len]) fun i hi hi' => ?_
  have h16 : i < 16 := by have := h.v.len; omega
  have e := Int.le_antisymm (norm_le h h' g' (fun d hd => by rw [← hh d]; exact hd) h16) (norm_le h' h g (fun d hd => by rw [hh d]; exact hd) h16)
  simp only [List.getD_eq_getElem?_getD, List.getElem?_eq_getElem hi, List.getElem?_eq_getElem hi'] at e
  exact e
 subst hv
 refine ⟨rfl, rising_eq h.r h'.r fun d => ?_⟩
 have key : ∀ {e1 e2 : List Dot}, COk v e1 → Gap v e1 → (∀ d, hasD v e1 d = hasD v e2 d) → d ∈ e1 → d ∈ e2 := by
  intro e1 e2 k1 k2 k3 hd
  have := k3 d
  rw [hasD_iff.2 ⟨k1.m d hd, .inl hd⟩] at this
  rcases (hasD_iff.1 this.symm).2 with hin | hc
  ·exact hin
  ·have := k2 d hd; omega
 exact ⟨key h g hh, key h' g' fun d => (hh d).symm⟩
theorem fold_has (x : Dot) (hx : x.may = true) : ∀ (l : List Dot) (st : List Int × List Dot), VOk st.1 → (∀ d ∈ l, d.may = true) →
  ((x ∈ (l.foldl cstep st).2 ∨ x.c ≤ (l.foldl cstep st).1.getD (x.r - 1).toNat 0) ↔ (x ∈ l ∨ x ∈ st.2 ∨ x.c ≤ st.1.getD (x.r - 1).toNat 0))
 | [], st, _, _ => by simp
 | d :: l, st, hv, hm => by
  have hd := hm d (by simp)
  have ih := fold_has x hx l (cstep st d) (cstep_ok hv hd) (fun y hy => hm y (by simp [hy]))
  rw [List.foldl_cons, ih]
  have hdm := Dot.may_iff.1 hd
  have hxm := Dot.may_iff.1 hx
  have hlen := hv.len
  simp only [List.mem_cons]
  unfold cstep
  split
  ·rename_i hc
   constructor
   ·rintro (h | h | h)
    ·exact .inl (.inr h)
    ·exact .inr (.inl h)
    ·exact .inr (.inr h)
   ·rintro ((h | h) | h | h)
    ·subst h; exact .inr (.inr hc)
    ·exact .inl h
    ·exact .inr (.inl h)
    ·exact .inr (.inr h)
  ·rename_i hc
   split
   ·rename_i hc2
    have hg : (st.1.set (d.r - 1).toNat d.c).getD (x.r - 1).toNat 0 = if x.r = d.r then d.c else st.1.getD (x.r - 1).toNat 0 := by
     simp only [List.getD_eq_getElem?_getD, List.getElem?_set]
     by_cases e : x.r = d.r
     ·rw [if_pos (by rw [e]), if_pos e, if_pos (by omega)]; rfl
     ·rw [if_neg (by omega), if_neg e]
    show (x ∈ l ∨ x ∈ st.2 ∨ x.c ≤ (st.1.set (d.r - 1).toNat d.c).getD (x.r - 1).toNat 0) ↔ _
    rw [hg]
    by_cases e : x.r = d.r
    ·rw [if_pos e]
     have hxd : x = d ↔ x.c = d.c := ⟨fun h => by rw [h], fun h => by cases x; cases d; simp_all⟩
     rw [hxd]
     rw [← e] at hc2
     constructor
     ·rintro (h | h | h)
      ·exact .inl (.inr h)
      ·exact .inr (.inl h)
      ·by_cases h2 : x.c = d.c
       ·exact .inl (.inl h2)
       ·exact .inr (.inr (by omega))
     ·rintro ((h | h) | h | h)
      ·exact .inr (.inr (by omega))
      ·exact .inl h
      ·exact .inr (.inl h)
      ·exact .inr (.inr (by omega))
    ·rw [if_neg e]
     have hne : x ≠ d := fun h => e (by rw [h])
     simp [hne]
   ·show (x ∈ l ∨ x ∈ st.2 ++ [d] ∨ x.c ≤ st.1.getD (x.r - 1).toNat 0) ↔ _
    simp only [List.mem_append, List.mem_singleton]
    constructor
    ·rintro (h | (h | h) | h)
     ·exact .inl (.inr h)
     ·exact .inr (.inl h)
     ·exact .inl (.inl h)
     ·exact .inr (.inr h)
    ·rintro ((h | h) | h | h)
     ·exact .inr (.inl (.inr h))
     ·exact .inl h
     ·exact .inr (.inl (.inl h))
     ·exact .inr (.inr h)
theorem compact_has {v : List Int} {l : List Dot} (hv : VOk v) (hm : ∀ d ∈ l, d.may = true) (x : Dot) : hasD (compact v l).1 (compact v l).2 x = true ↔ x.may = true ∧ (x ∈ l ∨ x.c ≤ v.getD (x.r - 1).toNat 0) := by
 rw [hasD_iff]
 constructor
 ·rintro ⟨h1, h2⟩
  have := (fold_has x h1 l (v, []) hv hm).1 h2
  exact ⟨h1, by simpa using this⟩
 ·rintro ⟨h1, h2⟩
  exact ⟨h1, (fold_has x h1 l (v, []) hv hm).2 (by simpa using h2)⟩
theorem addR_has {v : List Int} {ex : List Dot} (h : COk v ex) {d : Dot} (hd : d.may = true) (x : Dot) : hasD (addR v ex d).1 (addR v ex d).2 x = true ↔ hasD v ex x = true ∨ x = d := by
 unfold addR
 split
 ·rename_i hh
  constructor
  ·exact .inl
  ·rintro (h | rfl)
   ·exact h
   ·exact hh
 ·have hmi : ∀ x ∈ ins ex d, x.may = true := by
   intro x hx
   rcases mem_ins.1 hx with rfl | hx
   ·exact hd
   ·exact h.m x hx
  rw [compact_has h.v hmi, hasD_iff, mem_ins]
  constructor
  ·rintro ⟨h1, (rfl | h2) | h2⟩
   ·exact .inr rfl
   ·exact .inl ⟨h1, .inl h2⟩
   ·exact .inl ⟨h1, .inr h2⟩
  ·rintro (⟨h1, h2 | h2⟩ | rfl)
   ·exact ⟨h1, .inl (.inr h2)⟩
   ·exact ⟨h1, .inr h2⟩
   ·exact ⟨hd, .inl (.inl rfl)⟩
end Go.Proofs.Ytoklmpkpeanloaa
end

section
set_option maxRecDepth 100000
set_option maxHeartbeats 4000000
namespace Go.Proofs.Ytoklmpkpeanloaa
open Go.Am
end Go.Proofs.Ytoklmpkpeanloaa
end

section
namespace Go.Proofs.Ytoklmpkpeanloaa
open Go.Am Go.Minster
end Go.Proofs.Ytoklmpkpeanloaa
end

section
namespace Go.Proofs.Ytoklmpkpeanloaa
open Go.Am Go.Minster
/-! ### many at once -/
structure Ob where
 ref : Bool
 p : Nat
 v : List Int
 ex : List Dot
/-! ### contracts -/
theorem ctx_Copy_G {s : AS} {p : Nat} {v : List Int} {ex : List Dot} (h : CtxAt s p v ex) (hn : ex.length ≤ 2 ^ 30) : ACalls Try.prog F_ctx_Ctx_Copy [.ptr (some (p, 0))] s fun r s' => ∃ q, r = .ptr (some (q, 0)) ∧ s.h q = none ∧ CtxG s s' q v ex ∧ Ext s s' := by
 refine q_ctx_Ctx_Copy _ _ _ ?_
 refine ACalls.use (ctx_there_ok h) ?_
 rintro r s2 ⟨rfl, rfl⟩ _
 obtain ⟨h1, w, h2, h3, h4⟩ := h
 refine ⟨_, rfl, bsplit.no rfl ⟨fun k _ r s' => k = 8 → Gro dotC 2 s' r ex ∧ (∀ la ∈ labOf r, s2.h la = none) ∧ r ≠ .emp ∧ r.one = true, fun k _ r => k = 8 → r.one = true, fun _ _ _ _ _ e h hk => ⟨(h hk).1.ext e, (h hk).2⟩, _, h2.at.rdc (by rw [ctx_len h1]; omega), w, by rw [h2.at.rd1]; exact ctx_16 h1 w, fun s10 e10 w10 _ => ?_, ⟨.bool true, fun _ => rfl⟩, ?_⟩⟩
 ·refine (clone_S (s := s2) e10 (h4.ext e10) hn).mono ?_
  rintro r s' ⟨e, h⟩
  exact ⟨e, fun _ => h, fun _ => h.2.2.2⟩
 rintro r hr s14 e14 w14 ⟨hr2, _⟩
 obtain ⟨g, hnew, hne, hone⟩ := hr2 rfl
 rw [ctx_take h1]
 refine ⟨_, build_Ctx h1 hone, by simp [One1, hone], NewQ.intro w14 rfl fun q s18 F => ⟨q, rfl, e14.none F.no, ⟨h1, r, F.own, hone, g.ext F.ext, hnew⟩, e14.trans F.ext⟩⟩
/-! ### the reference -/
end Go.Proofs.Ytoklmpkpeanloaa
end

section
set_option maxRecDepth 100000
set_option maxHeartbeats 4000000
namespace Go.Proofs.Ytoklmpkpeanloaa
open Go.Am
end Go.Proofs.Ytoklmpkpeanloaa
end

section
namespace Go.Proofs.Ytoklmpkpeanloaa
open Go.Am Go.Minster
section
variable {s s' : AS} {p : Nat} {t : List AV} {v : List Int} {ex : List Dot}
end
end Go.Proofs.Ytoklmpkpeanloaa
end
