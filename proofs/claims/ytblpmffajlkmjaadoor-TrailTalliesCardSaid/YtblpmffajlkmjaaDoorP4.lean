/-
  A part of the proof: an abstract machine over the model, and contracts of functions of this program over it.
-/
import Derived.Test.YtblpmffajlkmjaaDoorProg
import Derived.KernelRfl
import Derived.Test.YtblpmffajlkmjaaDoorP3
set_option linter.unusedVariables false
set_option linter.unusedSimpArgs false
set_option linter.unusedSectionVars false
section
namespace Go.Proofs.YtblpmffajlkmjaaDoor
open Go.Am
noncomputable def T : TT := TT.of Tryd.prog
theorem hT : TT.Ok Tryd.prog T := TT.of_ok _
theorem hmx : Tryd.prog.follows .mixedOrders = true := by kernel_rfl
end Go.Proofs.YtblpmffajlkmjaaDoor
end

section
namespace Go.Proofs.YtblpmffajlkmjaaDoor
open Go.Am
abbrev F_law24iTrailTallies : Nat := 5
abbrev F_law24iknown : Nat := 7
abbrev F_trail_Lines : Nat := 8
abbrev F_trail_Spread : Nat := 12
abbrev F_law24ifew : Nat := 14
abbrev F_trail_Topics : Nat := 15
abbrev F_trail_Devices : Nat := 16
abbrev F_law24isameTallies : Nat := 17
abbrev F_ref24iTallies : Nat := 18
abbrev F_trail_line : Nat := 19
abbrev F_slices_IndexFunc__s_Hop_Hop : Nat := 21
abbrev F_trail_Spread_1 : Nat := 23
abbrev F_slices_Sorted__int : Nat := 24
abbrev F_maps_Keys__m_int_int_int_int : Nat := 25
abbrev F_ref09iMuch : Nat := 26
abbrev F_trail_tallies : Nat := 27
abbrev F_trail_Topics_1 : Nat := 28
abbrev F_trail_Devices_1 : Nat := 29
abbrev F_ref24iadd : Nat := 30
abbrev F_strconv_Itoa : Nat := 31
abbrev F_slices_Collect__int : Nat := 33
abbrev F_slices_Sort__s_int_int : Nat := 34
abbrev F_maps_Keys__m_int_int_int_int_1 : Nat := 35
abbrev F_trail_tallies_1 : Nat := 36
abbrev F_slices_Sorted__string : Nat := 37
abbrev F_maps_Keys__m_string_p_Tally_string_p_Tally : Nat := 38
abbrev F_internal_strconv_Itoa : Nat := 39
abbrev F_slices_AppendSeq__s_int_int : Nat := 40
abbrev F_slices_pdqsortOrdered__int : Nat := 41
abbrev F_math_bits_Len : Nat := 42
abbrev F_slices_Collect__string : Nat := 43
abbrev F_slices_Sort__s_string_string : Nat := 44
abbrev F_maps_Keys__m_string_p_Tally_string_p_Tally_1 : Nat := 45
abbrev F_internal_strconv_FormatInt : Nat := 46
abbrev F_slices_insertionSortOrdered__int : Nat := 47
abbrev F_slices_heapSortOrdered__int : Nat := 48
abbrev F_slices_breakPatternsOrdered__int : Nat := 49
abbrev F_slices_choosePivotOrdered__int : Nat := 50
abbrev F_slices_reverseRangeOrdered__int : Nat := 51
abbrev F_slices_partialInsertionSortOrdered__int : Nat := 52
abbrev F_cmp_Less__int : Nat := 53
abbrev F_slices_partitionEqualOrdered__int : Nat := 54
abbrev F_slices_partitionOrdered__int : Nat := 55
abbrev F_math_bits_Len64 : Nat := 57
abbrev F_slices_AppendSeq__s_string_string : Nat := 58
abbrev F_slices_pdqsortOrdered__string : Nat := 59
abbrev F_internal_strconv_small : Nat := 60
abbrev F_internal_strconv_numDigits : Nat := 61
abbrev F_internal_strconv_formatBase10 : Nat := 62
abbrev F_internal_strconv_formatBits : Nat := 63
abbrev F_slices_siftDownOrdered__int : Nat := 64
abbrev F_slices_nextPowerOfTwo : Nat := 65
abbrev F_slices_xorshift_Next : Nat := 66
abbrev F_slices_medianAdjacentOrdered__int : Nat := 67
abbrev F_slices_medianOrdered__int : Nat := 68
abbrev F_cmp_isNaN__int : Nat := 69
abbrev F_slices_insertionSortOrdered__string : Nat := 70
abbrev F_slices_heapSortOrdered__string : Nat := 71
abbrev F_slices_breakPatternsOrdered__string : Nat := 72
abbrev F_slices_choosePivotOrdered__string : Nat := 73
abbrev F_slices_reverseRangeOrdered__string : Nat := 74
abbrev F_slices_partialInsertionSortOrdered__string : Nat := 75
abbrev F_cmp_Less__string : Nat := 76
abbrev F_slices_partitionEqualOrdered__string : Nat := 77
abbrev F_slices_partitionOrdered__string : Nat := 78
abbrev F_slices_order2Ordered__int : Nat := 83
abbrev F_slices_siftDownOrdered__string : Nat := 84
abbrev F_slices_medianAdjacentOrdered__string : Nat := 85
abbrev F_slices_medianOrdered__string : Nat := 86
abbrev F_cmp_isNaN__string : Nat := 87
abbrev F_slices_order2Ordered__string : Nat := 90
end Go.Proofs.YtblpmffajlkmjaaDoor
end

section
namespace Go.Proofs.YtblpmffajlkmjaaDoor
open Go.Am
abbrev Y_int : Nat := 3
abbrev Y_bool : Nat := 4
abbrev Y_uint8 : Nat := 5
abbrev Y_string : Nat := 9
abbrev Y_s_Hop : Nat := 22
abbrev Y_s_string : Nat := 25
abbrev Y_Hop : Nat := 31
abbrev Y_s_Reach : Nat := 34
abbrev Y_Reach : Nat := 37
abbrev Y_s_Done : Nat := 39
abbrev Y_s_Tally : Nat := 41
abbrev Y_Tally : Nat := 46
abbrev Y_m_int_int : Nat := 51
abbrev Y_s_int : Nat := 52
abbrev Y_iter_Seq_int_ : Nat := 55
abbrev Y_s_Came : Nat := 57
abbrev Y_s_Event : Nat := 61
abbrev Y_s_uint8 : Nat := 62
abbrev Y_Done : Nat := 70
abbrev Y_s_Dest : Nat := 74
abbrev Y_Event : Nat := 76
abbrev Y_Came : Nat := 78
abbrev Y_p_Tally : Nat := 81
abbrev Y_func_int__bool : Nat := 86
abbrev Y_Dest : Nat := 88
abbrev Y_m_string_p_Tally : Nat := 89
abbrev Y_iter_Seq_string_ : Nat := 92
abbrev Y_func_string__bool : Nat := 99
abbrev Y_a24iuint8 : Nat := 114
abbrev Y_slices_xorshift : Nat := 118
abbrev Y_Key : Nat := 158
theorem u_int : T.und Y_int = some (.int .i64) := by kernel_rfl
theorem z_int : T.siz Y_int = some 1 := by kernel_rfl
theorem b_int : T.byt Y_int = some 8 := by kernel_rfl
theorem zr_int : T.zer Y_int = some (.int .i64 0) := by kernel_rfl
theorem ag_int : T.agg Y_int = some false := by kernel_rfl
theorem u_bool : T.und Y_bool = some (.bool) := by kernel_rfl
theorem u_string : T.und Y_string = some (.string) := by kernel_rfl
theorem z_string : T.siz Y_string = some 1 := by kernel_rfl
theorem b_string : T.byt Y_string = some 16 := by kernel_rfl
theorem zr_string : T.zer Y_string = some (.str []) := by kernel_rfl
theorem ag_string : T.agg Y_string = some false := by kernel_rfl
theorem u_s_Hop : T.und Y_s_Hop = some (.slice Y_Hop) := by kernel_rfl
theorem u_s_string : T.und Y_s_string = some (.slice Y_string) := by kernel_rfl
theorem z_s_string : T.siz Y_s_string = some 1 := by kernel_rfl
theorem ag_s_string : T.agg Y_s_string = some false := by kernel_rfl
theorem z_Hop : T.siz Y_Hop = some 6 := by kernel_rfl
theorem u_s_Reach : T.und Y_s_Reach = some (.slice Y_Reach) := by kernel_rfl
theorem z_Reach : T.siz Y_Reach = some 2 := by kernel_rfl
theorem b_Reach : T.byt Y_Reach = some 16 := by kernel_rfl
theorem zr_Reach : T.zer Y_Reach = some (.agg [.int .i64 0, .int .i64 0]) := by kernel_rfl
theorem u_s_Done : T.und Y_s_Done = some (.slice Y_Done) := by kernel_rfl
theorem u_s_Tally : T.und Y_s_Tally = some (.slice Y_Tally) := by kernel_rfl
theorem z_Tally : T.siz Y_Tally = some 6 := by kernel_rfl
theorem b_Tally : T.byt Y_Tally = some 56 := by kernel_rfl
theorem zr_Tally : T.zer Y_Tally = some (.agg [.str [], .int .i64 0, .int .i64 0, .int .i64 0, .int .i64 0, .int .i64 0]) := by kernel_rfl
theorem u_m_int_int : T.und Y_m_int_int = some (.map Y_int Y_int) := by kernel_rfl
theorem ag_m_int_int : T.agg Y_m_int_int = some false := by kernel_rfl
theorem u_s_int : T.und Y_s_int = some (.slice Y_int) := by kernel_rfl
theorem z_s_int : T.siz Y_s_int = some 1 := by kernel_rfl
theorem ag_s_int : T.agg Y_s_int = some false := by kernel_rfl
theorem u_s_Came : T.und Y_s_Came = some (.slice Y_Came) := by kernel_rfl
theorem u_s_Event : T.und Y_s_Event = some (.slice Y_Event) := by kernel_rfl
theorem u_s_uint8 : T.und Y_s_uint8 = some (.slice Y_uint8) := by kernel_rfl
theorem z_Done : T.siz Y_Done = some 15 := by kernel_rfl
theorem u_s_Dest : T.und Y_s_Dest = some (.slice Y_Dest) := by kernel_rfl
theorem z_Event : T.siz Y_Event = some 21 := by kernel_rfl
theorem u_p_Tally : T.und Y_p_Tally = some (.pointer Y_Tally) := by kernel_rfl
theorem zr_p_Tally : T.zer Y_p_Tally = some (.ptr none) := by kernel_rfl
theorem z_Dest : T.siz Y_Dest = some 3 := by kernel_rfl
theorem u_m_string_p_Tally : T.und Y_m_string_p_Tally = some (.map Y_string Y_p_Tally) := by kernel_rfl
theorem ag_m_string_p_Tally : T.agg Y_m_string_p_Tally = some false := by kernel_rfl
theorem z_slices_xorshift : T.siz Y_slices_xorshift = some 1 := by kernel_rfl
end Go.Proofs.YtblpmffajlkmjaaDoor
end

section
set_option maxRecDepth 100000
set_option maxHeartbeats 4000000
namespace Go.Proofs.YtblpmffajlkmjaaDoor
open Go.Am
def AsInt (v : AV) (K : Int → Prop) : Prop := match v with
 | .int _ n => K n
 | _ => False
def Q_math_bits_Len (a0 : Int) (s : AS) (R : AV → AS → Prop) : Prop :=
 ACalls Tryd.prog F_math_bits_Len64 [(.int .u64 a0)] s fun v1 s2 => ∃ n3 : Int, v1 = .int .i64 n3 ∧ (R (.int .i64 n3) s2)
def A_math_bits_Len : QA := (.seq .leaf (.seq (.cond (.seq .leaf .leaf) .leaf) (.seq .leaf .leaf)))
theorem q_math_bits_Len (a0 : Int) (s : AS) (R : AV → AS → Prop) (h : Q_math_bits_Len a0 s R) : ACalls Tryd.prog F_math_bits_Len [(.int .u64 a0)] s R :=
 ACalls.q (n := 8) (rs := [.tmp 2]) (A := A_math_bits_Len) hT hmx Tryd.func42 (by kernel_rfl) rfl rfl rfl (by kernel_rfl) (by kernel_rfl) h
def Q_math_bits_Len64 (a0 : Int) (s : AS) (R : AV → AS → Prop) : Prop :=
 JoinQ fun J1 =>
 (∀ n2 : Int, ∀ n3 : Int, ∀ s4 : AS, J1 [(.int .u64 n2), (.int .i64 n3)] s4 →
 JoinQ fun J5 =>
 (∀ n6 : Int, ∀ n7 : Int, ∀ s8 : AS, J5 [(.int .u64 n6), (.int .i64 n7)] s8 →
 JoinQ fun J9 =>
 (∀ n10 : Int, ∀ n11 : Int, ∀ s12 : AS, J9 [(.int .u64 n10), (.int .i64 n11)] s12 →
 RdI .u8 (aindex T Y_string (.str ([0, 1, 2, 2, 3, 3, 3, 3, 4, 4, 4, 4, 4, 4, 4, 4, 5, 5, 5, 5, 5, 5, 5, 5, 5, 5, 5, 5, 5, 5, 5, 5, 6, 6, 6, 6, 6, 6, 6, 6, 6, 6, 6, 6, 6, 6, 6, 6, 6, 6, 6, 6, 6, 6, 6, 6, 6, 6, 6, 6, 6, 6, 6, 6, 7, 7, 7, 7, 7, 7, 7, 7, 7, 7, 7, 7, 7, 7, 7, 7, 7, 7, 7, 7, 7, 7, 7, 7, 7, 7, 7, 7, 7, 7, 7, 7, 7, 7, 7, 7, 7, 7, 7, 7, 7, 7, 7, 7, 7, 7, 7, 7, 7, 7, 7, 7, 7, 7, 7, 7, 7, 7, 7, 7, 7, 7, 7, 7, 8, 8, 8, 8, 8, 8, 8, 8, 8, 8, 8, 8, 8, 8, 8, 8, 8, 8, 8, 8, 8, 8, 8, 8, 8, 8, 8, 8, 8, 8, 8, 8, 8, 8, 8, 8, 8, 8, 8, 8, 8, 8, 8, 8, 8, 8, 8, 8, 8, 8, 8, 8, 8, 8, 8, 8, 8, 8, 8, 8, 8, 8, 8, 8, 8, 8, 8, 8, 8, 8, 8, 8, 8, 8, 8, 8, 8, 8, 8, 8, 8, 8, 8, 8, 8, 8, 8, 8, 8, 8, 8, 8, 8, 8, 8, 8, 8, 8, 8, 8, 8, 8, 8, 8, 8, 8, 8, 8, 8, 8, 8, 8, 8, 8, 8, 8, 8, 8, 8, 8, 8, 8, 8, 8, 8, 8, 8, 8])) (.int .u8 (IntKind.wrap .u8 n10))) fun n13 => R (.int .i64 (IntKind.wrap .i64 (n11 + (IntKind.wrap .i64 n13)))) s12) ∧
 (bsplit (decide ((n6 : Int) ≥ 256))
 (NN 8 (J9 [(.int .u64 (Int.fdiv n6 (2 ^ min (Int.toNat 8) (IntKind.bits .u64)))), (.int .i64 (IntKind.wrap .i64 (n7 + 8)))] s8))
 (J9 [(.int .u64 n6), (.int .i64 n7)] s8))) ∧
 (bsplit (decide ((n2 : Int) ≥ 65536))
 (NN 16 (J5 [(.int .u64 (Int.fdiv n2 (2 ^ min (Int.toNat 16) (IntKind.bits .u64)))), (.int .i64 (IntKind.wrap .i64 (n3 + 16)))] s4))
 (J5 [(.int .u64 n2), (.int .i64 n3)] s4))) ∧
 (bsplit (decide ((a0 : Int) ≥ 4294967296))
 (NN 32 (J1 [(.int .u64 (Int.fdiv a0 (2 ^ min (Int.toNat 32) (IntKind.bits .u64)))), (.int .i64 32)] s))
 (J1 [(.int .u64 a0), (.int .i64 0)] s))
def A_math_bits_Len64 : QA := (.seq .leaf (.join [(0, .int .u64), (2, .int .i64)] [(0, 0), (2, 6)] (.seq .leaf (.cond (.seq .leaf .leaf) .leaf)) (.join [(0, .int .u64), (2, .int .i64)] [(0, 0), (2, 2), (7, 12)] (.seq .leaf (.cond (.seq .leaf .leaf) .leaf)) (.join [(0, .int .u64), (2, .int .i64)] [(0, 0), (2, 2), (13, 18)] (.seq .leaf (.cond (.seq .leaf .leaf) .leaf)) (.seq .leaf .leaf)))))
theorem q_math_bits_Len64 (a0 : Int) (s : AS) (R : AV → AS → Prop) (h : Q_math_bits_Len64 a0 s R) : ACalls Tryd.prog F_math_bits_Len64 [(.int .u64 a0)] s R :=
 ACalls.q (n := 25) (rs := [.tmp 2]) (A := A_math_bits_Len64) hT hmx Tryd.func57 (by kernel_rfl) rfl rfl rfl (by kernel_rfl) (by kernel_rfl) h
end Go.Proofs.YtblpmffajlkmjaaDoor
end

section
set_option maxRecDepth 100000
set_option maxHeartbeats 4000000
namespace Go.Proofs.YtblpmffajlkmjaaDoor
open Go.Am
def Q_slices_nextPowerOfTwo (a0 : Int) (s : AS) (R : AV → AS → Prop) : Prop :=
 ACalls Tryd.prog F_math_bits_Len [(.int .u64 (IntKind.wrap .u64 a0))] s fun v1 s2 => ∃ n3 : Int, v1 = .int .i64 n3 ∧ (NN n3 (R (.int .u64 (IntKind.wrap .u64 (1 * 2 ^ min (Int.toNat n3) (IntKind.bits .u64)))) s2))
def A_slices_nextPowerOfTwo : QA := (.seq .leaf (.seq .leaf .leaf))
theorem q_slices_nextPowerOfTwo (a0 : Int) (s : AS) (R : AV → AS → Prop) (h : Q_slices_nextPowerOfTwo a0 s R) : ACalls Tryd.prog F_slices_nextPowerOfTwo [(.int .i64 a0)] s R :=
 ACalls.q (n := 7) (rs := [.tmp 2]) (A := A_slices_nextPowerOfTwo) hT hmx Tryd.func65 (by kernel_rfl) rfl rfl rfl (by kernel_rfl) (by kernel_rfl) h
def Q_slices_xorshift_Next (a0 : Option (Nat × Nat)) (s : AS) (R : AV → AS → Prop) : Prop :=
 AsSome a0 fun l1 o2 => RdI .u64 (rd1 s l1 o2) fun n3 => AsSome a0 fun l4 o5 => RdI .u64 (rd1 s l4 o5) fun n6 => NN 13 (RdA (abinInt .xor .u64 n3 (IntKind.wrap .u64 (n6 * 2 ^ min (Int.toNat 13) (IntKind.bits .u64)))) fun v7 => AsSome a0 fun l8 o9 => qstore T Y_slices_xorshift s l8 o9 v7 fun s10 => AsSome a0 fun l11 o12 => RdI .u64 (rd1 s10 l11 o12) fun n13 => AsSome a0 fun l14 o15 => RdI .u64 (rd1 s10 l14 o15) fun n16 => NN 7 (RdA (abinInt .xor .u64 n13 (Int.fdiv n16 (2 ^ min (Int.toNat 7) (IntKind.bits .u64)))) fun v17 => AsSome a0 fun l18 o19 => qstore T Y_slices_xorshift s10 l18 o19 v17 fun s20 => AsSome a0 fun l21 o22 => RdI .u64 (rd1 s20 l21 o22) fun n23 => AsSome a0 fun l24 o25 => RdI .u64 (rd1 s20 l24 o25) fun n26 => NN 17 (RdA (abinInt .xor .u64 n23 (IntKind.wrap .u64 (n26 * 2 ^ min (Int.toNat 17) (IntKind.bits .u64)))) fun v27 => AsSome a0 fun l28 o29 => qstore T Y_slices_xorshift s20 l28 o29 v27 fun s30 => AsSome a0 fun l31 o32 => RdI .u64 (rd1 s30 l31 o32) fun n33 => R (.int .u64 n33) s30)))
def A_slices_xorshift_Next : QA := (.seq .leaf (.seq (.draw 7) (.seq (.draw 7) (.seq (.draw 7) (.seq .leaf .leaf)))))
theorem q_slices_xorshift_Next (a0 : Option (Nat × Nat)) (s : AS) (R : AV → AS → Prop) (h : Q_slices_xorshift_Next a0 s R) : ACalls Tryd.prog F_slices_xorshift_Next [(.ptr a0)] s R :=
 ACalls.q (n := 33) (rs := [.tmp 2]) (A := A_slices_xorshift_Next) hT hmx Tryd.func66 (by kernel_rfl) rfl rfl rfl (by kernel_rfl) (by kernel_rfl) h
end Go.Proofs.YtblpmffajlkmjaaDoor
end

section
set_option maxRecDepth 100000
set_option maxHeartbeats 4000000
namespace Go.Proofs.YtblpmffajlkmjaaDoor.SO
open Go.Am Go.Minster.SG
structure SE where
 O : OE
 c : El O → AV
 one : ∀ x, (c x).one = true
 ys : TypeId
 ye : TypeId
 us : T.und ys = some (.slice ye)
 zs : T.siz ye = some 1
 F_Less : FuncId
 F_Sort : FuncId
 F_pdqsortOrdered : FuncId
 F_insertionSortOrdered : FuncId
 F_heapSortOrdered : FuncId
 F_breakPatternsOrdered : FuncId
 F_choosePivotOrdered : FuncId
 F_reverseRangeOrdered : FuncId
 F_partialInsertionSortOrdered : FuncId
 F_partitionEqualOrdered : FuncId
 F_partitionOrdered : FuncId
 F_siftDownOrdered : FuncId
 F_medianAdjacentOrdered : FuncId
 F_medianOrdered : FuncId
 F_order2Ordered : FuncId
def Rd1 (E : SE) (o : Option AV) (K : El E.O → Prop) : Prop := ∃ x, o = some (E.c x) ∧ K x
variable (E : SE)
def Q_Sort (a0 : AV) (s : AS) (R : AV → AS → Prop) : Prop :=
 RdI .i64 (alenB T E.ys a0 s) fun n1 => ACalls Tryd.prog F_math_bits_Len [(.int .u64 (IntKind.wrap .u64 n1))] s fun v2 s3 => ∃ n4 : Int, v2 = .int .i64 n4 ∧ (ACalls Tryd.prog E.F_pdqsortOrdered [a0, (.int .i64 0), (.int .i64 n1), (.int .i64 n4)] s3 fun v5 s6 => v5 = .tup [] ∧ (R (.tup []) s6))
def A_Sort : QA := (.seq .leaf .leaf)
def Q_pdqsortOrdered (a0 : AV) (a1 : Int) (a2 : Int) (a3 : Int) (s : AS) (R : AV → AS → Prop) : Prop :=
 LoopQ fun I1 m2 => I1 m2 [(.int .i64 a1), (.int .i64 a2), (.int .i64 a3), (.bool true), (.bool true)] s ∧
 ∀ m3 : Nat, ∀ n4 : Int, ∀ n5 : Int, ∀ n6 : Int, ∀ b7 : Bool, ∀ b8 : Bool, ∀ s9 : AS, I1 m3 [(.int .i64 n4), (.int .i64 n5), (.int .i64 n6), (.bool b7), (.bool b8)] s9 →
 bsplit (decide ((IntKind.wrap .i64 (n5 - n4) : Int) ≤ 12))
 (ACalls Tryd.prog E.F_insertionSortOrdered [a0, (.int .i64 n4), (.int .i64 n5)] s9 fun v10 s11 => v10 = .tup [] ∧ (R (.tup []) s11))
 (bsplit ((n6 : Int) == 0)
 (ACalls Tryd.prog E.F_heapSortOrdered [a0, (.int .i64 n4), (.int .i64 n5)] s9 fun v12 s13 => v12 = .tup [] ∧ (R (.tup []) s13))
 (JoinQ fun J14 =>
 (∀ n15 : Int, ∀ s16 : AS, J14 [(.int .i64 n15)] s16 →
 ACalls Tryd.prog E.F_choosePivotOrdered [a0, (.int .i64 n4), (.int .i64 n5)] s16 fun v17 s18 => ∃ n19 : Int, ∃ n20 : Int, v17 = .tup [(.int .i64 n19), (.int .i64 n20)] ∧ (JoinQ fun J21 =>
 (∀ n22 : Int, ∀ n23 : Int, ∀ s24 : AS, J21 [(.int .i64 n22), (.int .i64 n23)] s24 →
 JoinQ fun J25 =>
 (∀ s26 : AS, J25 [] s26 →
 JoinQ fun J27 =>
 (∀ b28 : Bool, ∀ s29 : AS, J27 [(.bool b28)] s29 →
 bsplit b28
 (ACalls Tryd.prog E.F_partitionEqualOrdered [a0, (.int .i64 n4), (.int .i64 n5), (.int .i64 n22)] s29 fun v30 s31 => ∃ n32 : Int, v30 = .int .i64 n32 ∧ (∃ m', m' < m3 ∧ I1 m' [(.int .i64 n32), (.int .i64 n5), (.int .i64 n15), (.bool b7), (.bool b8)] s31))
 (ACalls Tryd.prog E.F_partitionOrdered [a0, (.int .i64 n4), (.int .i64 n5), (.int .i64 n22)] s29 fun v33 s34 => ∃ n35 : Int, ∃ b36 : Bool, v33 = .tup [(.int .i64 n35), (.bool b36)] ∧ (NZ 8 (bsplit (decide ((IntKind.wrap .i64 (n35 - n4) : Int) < (IntKind.wrap .i64 (n5 - n35))))
 (ACalls Tryd.prog E.F_pdqsortOrdered [a0, (.int .i64 n4), (.int .i64 n35), (.int .i64 n15)] s34 fun v37 s38 => v37 = .tup [] ∧ (∃ m', m' < m3 ∧ I1 m' [(.int .i64 (IntKind.wrap .i64 (n35 + 1))), (.int .i64 n5), (.int .i64 n15), (.bool (decide ((IntKind.wrap .i64 (n35 - n4) : Int) ≥ (IntKind.wrap .i64 (Int.tdiv (IntKind.wrap .i64 (n5 - n4)) 8))))), (.bool b36)] s38))
 (ACalls Tryd.prog E.F_pdqsortOrdered [a0, (.int .i64 (IntKind.wrap .i64 (n35 + 1))), (.int .i64 n5), (.int .i64 n15)] s34 fun v39 s40 => v39 = .tup [] ∧ (∃ m', m' < m3 ∧ I1 m' [(.int .i64 n4), (.int .i64 n35), (.int .i64 n15), (.bool (decide ((IntKind.wrap .i64 (n5 - n35) : Int) ≥ (IntKind.wrap .i64 (Int.tdiv (IntKind.wrap .i64 (n5 - n4)) 8))))), (.bool b36)] s40)))))) ∧
 (bsplit (decide ((n4 : Int) > 0)) (IxQ (aindexAddr T E.ys a0 (.int .i64 (IntKind.wrap .i64 (n4 - 1)))) fun l41 o42 => Rd1 E (rd1 s26 l41 o42) fun x43 => IxQ (aindexAddr T E.ys a0 (.int .i64 n22)) fun l44 o45 => Rd1 E (rd1 s26 l44 o45) fun x46 => ACalls Tryd.prog E.F_Less [(E.c x43), (E.c x46)] s26 fun v47 s48 => ∃ b49 : Bool, v47 = .bool b49 ∧ (J27 [(.bool (!b49))] s48)) (J27 [(.bool false)] s26))) ∧
 (JoinQ fun J50 =>
 (∀ b51 : Bool, ∀ s52 : AS, J50 [(.bool b51)] s52 →
 bsplit b51
 (ACalls Tryd.prog E.F_partialInsertionSortOrdered [a0, (.int .i64 n4), (.int .i64 n5)] s52 fun v53 s54 => ∃ b55 : Bool, v53 = .bool b55 ∧ (bsplit b55
 (R (.tup []) s54)
 (J25 [] s54)))
 (J25 [] s52)) ∧
 (bsplit b7 (bsplit b8 (J50 [(.bool ((n23 : Int) == 1))] s24) (J50 [(.bool false)] s24)) (J50 [(.bool false)] s24)))) ∧
 (bsplit ((n20 : Int) == 2)
 (ACalls Tryd.prog E.F_reverseRangeOrdered [a0, (.int .i64 n4), (.int .i64 n5)] s18 fun v56 s57 => v56 = .tup [] ∧ (J21 [(.int .i64 (IntKind.wrap .i64 ((IntKind.wrap .i64 (n5 - 1)) - (IntKind.wrap .i64 (n19 - n4))))), (.int .i64 1)] s57))
 (J21 [(.int .i64 n19), (.int .i64 n20)] s18)))) ∧
 (bsplit (!b7)
 (ACalls Tryd.prog E.F_breakPatternsOrdered [a0, (.int .i64 n4), (.int .i64 n5)] s9 fun v58 s59 => v58 = .tup [] ∧ (J14 [(.int .i64 (IntKind.wrap .i64 (n6 - 1)))] s59))
 (J14 [(.int .i64 n6)] s9))))
def A_pdqsortOrdered : QA := (.seq .leaf (.seq .leaf (.wrap (.loop [(1, .int .i64), (2, .int .i64), (3, .int .i64), (8, .bool), (9, .bool)] [(1, 3), (8, 133)] (.wrap (.seq .leaf (.seq (.seq .leaf (.cond (.seq .leaf .leaf) .leaf)) (.seq (.seq .leaf (.cond (.seq .leaf .leaf) .leaf)) (.join [(3, .int .i64)] [(3, 3), (34, 41)] (.seq .leaf (.cond (.seq .leaf .leaf) .leaf)) (.seq .leaf (.join [(11, .int .i64), (12, .int .i64)] [(11, 12), (49, 60)] (.seq .leaf (.cond (.seq .leaf (.seq .leaf .leaf)) .leaf)) (.join [] [(61, 72)] (.join [(68, .bool)] [(61, 68)] .leaf (.cond (.seq .leaf (.cond .leaf .leaf)) .leaf)) (.seq (.join [(87, .bool)] [(73, 87)] (.draw 12) (.cond (.seq .leaf (.seq .leaf .leaf)) .leaf)) (.seq .leaf (.seq .leaf (.seq .leaf (.seq .leaf (.seq .leaf (.cond (.seq .leaf (.seq .leaf .leaf)) (.seq .leaf (.seq .leaf .leaf)))))))))))))))))))))
def Q_insertionSortOrdered (a0 : AV) (a1 : Int) (a2 : Int) (s : AS) (R : AV → AS → Prop) : Prop :=
 LoopQ fun I1 m2 => I1 m2 [(.int .i64 (IntKind.wrap .i64 (a1 + 1)))] s ∧
 ∀ m3 : Nat, ∀ n4 : Int, ∀ s5 : AS, I1 m3 [(.int .i64 n4)] s5 →
 bsplit (decide ((n4 : Int) < a2))
 (LoopQ fun I6 m7 => I6 m7 [(.int .i64 n4)] s5 ∧
 ∀ m8 : Nat, ∀ n9 : Int, ∀ s10 : AS, I6 m8 [(.int .i64 n9)] s10 →
 bsplit (decide ((n9 : Int) > a1)) (IxQ (aindexAddr T E.ys a0 (.int .i64 n9)) fun l11 o12 => Rd1 E (rd1 s10 l11 o12) fun x13 => IxQ (aindexAddr T E.ys a0 (.int .i64 (IntKind.wrap .i64 (n9 - 1)))) fun l14 o15 => Rd1 E (rd1 s10 l14 o15) fun x16 => ACalls Tryd.prog E.F_Less [(E.c x13), (E.c x16)] s10 fun v17 s18 => ∃ b19 : Bool, v17 = .bool b19 ∧ (bsplit b19
 (IxQ (aindexAddr T E.ys a0 (.int .i64 (IntKind.wrap .i64 (n9 - 1)))) fun l20 o21 => Rd1 E (rd1 s18 l20 o21) fun x22 => IxQ (aindexAddr T E.ys a0 (.int .i64 n9)) fun l23 o24 => Rd1 E (rd1 s18 l23 o24) fun x25 => IxQ (aindexAddr T E.ys a0 (.int .i64 n9)) fun l26 o27 => StQ (awr s18 l26 o27 [(E.c x22)]) fun s28 => IxQ (aindexAddr T E.ys a0 (.int .i64 (IntKind.wrap .i64 (n9 - 1)))) fun l29 o30 => StQ (awr s28 l29 o30 [(E.c x25)]) fun s31 => ∃ m', m' < m8 ∧ I6 m' [(.int .i64 (IntKind.wrap .i64 (n9 - 1)))] s31)
 (∃ m', m' < m3 ∧ I1 m' [(.int .i64 (IntKind.wrap .i64 (n4 + 1)))] s18))) (∃ m', m' < m3 ∧ I1 m' [(.int .i64 (IntKind.wrap .i64 (n4 + 1)))] s10))
 (R (.tup []) s5)
def A_insertionSortOrdered : QA := (.seq .leaf (.wrap (.loop [(6, .int .i64)] [(6, 7), (10, 48)] (.seq (.seq .leaf (.cond .leaf .leaf)) (.seq (.wrap (.seq .leaf (.wrap (.loop [(7, .int .i64)] [(7, 7), (16, 48)] (.seq (.seq (.draw 13) (.cond .leaf .leaf)) (.seq (.wrap .calm) .leaf)))))) .leaf)))))
def Q_heapSortOrdered (a0 : AV) (a1 : Int) (a2 : Int) (s : AS) (R : AV → AS → Prop) : Prop :=
 JoinQ fun J1 =>
 (∀ s2 : AS, J1 [] s2 →
 LoopQ fun I3 m4 => I3 m4 [(.int .i64 (IntKind.wrap .i64 ((IntKind.wrap .i64 (a2 - a1)) - 1)))] s2 ∧
 ∀ m5 : Nat, ∀ n6 : Int, ∀ s7 : AS, I3 m5 [(.int .i64 n6)] s7 →
 bsplit (decide ((n6 : Int) ≥ 0))
 (IxQ (aindexAddr T E.ys a0 (.int .i64 (IntKind.wrap .i64 (a1 + n6)))) fun l8 o9 => Rd1 E (rd1 s7 l8 o9) fun x10 => IxQ (aindexAddr T E.ys a0 (.int .i64 a1)) fun l11 o12 => Rd1 E (rd1 s7 l11 o12) fun x13 => IxQ (aindexAddr T E.ys a0 (.int .i64 a1)) fun l14 o15 => StQ (awr s7 l14 o15 [(E.c x10)]) fun s16 => IxQ (aindexAddr T E.ys a0 (.int .i64 (IntKind.wrap .i64 (a1 + n6)))) fun l17 o18 => StQ (awr s16 l17 o18 [(E.c x13)]) fun s19 => ACalls Tryd.prog E.F_siftDownOrdered [a0, (.int .i64 0), (.int .i64 n6), (.int .i64 a1)] s19 fun v20 s21 => v20 = .tup [] ∧ (∃ m', m' < m5 ∧ I3 m' [(.int .i64 (IntKind.wrap .i64 (n6 - 1)))] s21))
 (R (.tup []) s7)) ∧
 (NZ 2 (LoopQ fun I22 m23 => I22 m23 [(.int .i64 (IntKind.wrap .i64 (Int.tdiv (IntKind.wrap .i64 ((IntKind.wrap .i64 (a2 - a1)) - 1)) 2)))] s ∧
 ∀ m24 : Nat, ∀ n25 : Int, ∀ s26 : AS, I22 m24 [(.int .i64 n25)] s26 →
 bsplit (decide ((n25 : Int) ≥ 0))
 (ACalls Tryd.prog E.F_siftDownOrdered [a0, (.int .i64 n25), (.int .i64 (IntKind.wrap .i64 (a2 - a1))), (.int .i64 a1)] s26 fun v27 s28 => v27 = .tup [] ∧ (∃ m', m' < m24 ∧ I22 m' [(.int .i64 (IntKind.wrap .i64 (n25 - 1)))] s28))
 (J1 [] s26)))
def A_heapSortOrdered : QA := (.seq .leaf (.seq .leaf (.seq .leaf (.join [] [(9, 9), (15, 26)] (.seq .leaf (.wrap (.loop [(9, .int .i64)] [(9, 9), (18, 26)] (.seq (.seq .leaf (.cond .leaf .leaf)) (.seq (.wrap .leaf) .leaf))))) (.seq .leaf (.wrap (.loop [(10, .int .i64)] [(10, 10), (29, 55)] (.seq (.seq .leaf (.cond .leaf .leaf)) (.seq (.wrap (.seq .calm .leaf)) .leaf)))))))))
def Q_breakPatternsOrdered (a0 : AV) (a1 : Int) (a2 : Int) (s : AS) (R : AV → AS → Prop) : Prop :=
 bsplit (decide ((IntKind.wrap .i64 (a2 - a1) : Int) ≥ 8))
 (NewQ (.cells [(.int .u64 0)] 0 false) s fun l1 s2 => StQ (awr s2 l1 0 [(.int .u64 (IntKind.wrap .u64 (IntKind.wrap .i64 (a2 - a1))))]) fun s3 => ACalls Tryd.prog F_slices_nextPowerOfTwo [(.int .i64 (IntKind.wrap .i64 (a2 - a1)))] s3 fun v4 s5 => ∃ n6 : Int, v4 = .int .u64 n6 ∧ (NZ 4 (LoopQ fun I7 m8 => I7 m8 [(.int .i64 (IntKind.wrap .i64 ((IntKind.wrap .i64 (a1 + (IntKind.wrap .i64 ((IntKind.wrap .i64 (Int.tdiv (IntKind.wrap .i64 (a2 - a1)) 4)) * 2)))) - 1)))] s5 ∧
 ∀ m9 : Nat, ∀ n10 : Int, ∀ s11 : AS, I7 m9 [(.int .i64 n10)] s11 →
 NZ 4 (bsplit (decide ((n10 : Int) ≤ (IntKind.wrap .i64 ((IntKind.wrap .i64 (a1 + (IntKind.wrap .i64 ((IntKind.wrap .i64 (Int.tdiv (IntKind.wrap .i64 (a2 - a1)) 4)) * 2)))) + 1))))
 (ACalls Tryd.prog F_slices_xorshift_Next [(.ptr (some (l1, 0)))] s11 fun v12 s13 => ∃ n14 : Int, v12 = .int .u64 n14 ∧ (RdA (abinInt .and .u64 n14 (IntKind.wrap .u64 (n6 - 1))) fun v15 => AsInt v15 fun n16 => JoinQ fun J17 =>
 (∀ n18 : Int, ∀ s19 : AS, J17 [(.int .i64 n18)] s19 →
 IxQ (aindexAddr T E.ys a0 (.int .i64 (IntKind.wrap .i64 (a1 + n18)))) fun l20 o21 => Rd1 E (rd1 s19 l20 o21) fun x22 => IxQ (aindexAddr T E.ys a0 (.int .i64 n10)) fun l23 o24 => Rd1 E (rd1 s19 l23 o24) fun x25 => IxQ (aindexAddr T E.ys a0 (.int .i64 n10)) fun l26 o27 => StQ (awr s19 l26 o27 [(E.c x22)]) fun s28 => IxQ (aindexAddr T E.ys a0 (.int .i64 (IntKind.wrap .i64 (a1 + n18)))) fun l29 o30 => StQ (awr s28 l29 o30 [(E.c x25)]) fun s31 => ∃ m', m' < m9 ∧ I7 m' [(.int .i64 (IntKind.wrap .i64 (n10 + 1)))] s31) ∧
 (bsplit (decide ((IntKind.wrap .i64 n16 : Int) ≥ (IntKind.wrap .i64 (a2 - a1))))
 (J17 [(.int .i64 (IntKind.wrap .i64 ((IntKind.wrap .i64 n16) - (IntKind.wrap .i64 (a2 - a1)))))] s13)
 (J17 [(.int .i64 (IntKind.wrap .i64 n16))] s13))))
 (R (.tup []) s11)))))
 (R (.tup []) s)
def A_breakPatternsOrdered : QA := (.seq .leaf (.seq .leaf (.cond (.seq .leaf (.seq .leaf (.seq .leaf (.wrap (.loop [(9, .int .i64)] [(9, 10), (26, 64)] (.seq (.seq .leaf (.cond .leaf .leaf)) (.seq (.wrap (.seq .leaf (.join [(10, .int .i64)] [(10, 10), (41, 46)] (.seq .leaf (.cond .leaf .leaf)) .calm))) .leaf))))))) .leaf)))
def Q_choosePivotOrdered (a0 : AV) (a1 : Int) (a2 : Int) (s : AS) (R : AV → AS → Prop) : Prop :=
 NewQ (.cells [(.int .i64 0)] 0 false) s fun l1 s2 => NZ 4 (NZ 4 (NZ 4 (JoinQ fun J3 =>
 (∀ n4 : Int, ∀ s5 : AS, J3 [(.int .i64 n4)] s5 →
 RdI .i64 (rd1 s5 l1 0) fun n6 => bsplit ((n6 : Int) == 0)
 (R (.tup [(.int .i64 n4), (.int .i64 1)]) s5)
 (bsplit ((n6 : Int) == 12)
 (R (.tup [(.int .i64 n4), (.int .i64 2)]) s5)
 (R (.tup [(.int .i64 n4), (.int .i64 0)]) s5))) ∧
 (bsplit (decide ((IntKind.wrap .i64 (a2 - a1) : Int) ≥ 8))
 (JoinQ fun J7 =>
 (∀ n8 : Int, ∀ n9 : Int, ∀ n10 : Int, ∀ s11 : AS, J7 [(.int .i64 n8), (.int .i64 n9), (.int .i64 n10)] s11 →
 ACalls Tryd.prog E.F_medianOrdered [a0, (.int .i64 n8), (.int .i64 n9), (.int .i64 n10), (.ptr (some (l1, 0)))] s11 fun v12 s13 => ∃ n14 : Int, v12 = .int .i64 n14 ∧ (J3 [(.int .i64 n14)] s13)) ∧
 (bsplit (decide ((IntKind.wrap .i64 (a2 - a1) : Int) ≥ 50))
 (ACalls Tryd.prog E.F_medianAdjacentOrdered [a0, (.int .i64 (IntKind.wrap .i64 (a1 + (IntKind.wrap .i64 ((IntKind.wrap .i64 (Int.tdiv (IntKind.wrap .i64 (a2 - a1)) 4)) * 1))))), (.ptr (some (l1, 0)))] s2 fun v15 s16 => ∃ n17 : Int, v15 = .int .i64 n17 ∧ (ACalls Tryd.prog E.F_medianAdjacentOrdered [a0, (.int .i64 (IntKind.wrap .i64 (a1 + (IntKind.wrap .i64 ((IntKind.wrap .i64 (Int.tdiv (IntKind.wrap .i64 (a2 - a1)) 4)) * 2))))), (.ptr (some (l1, 0)))] s16 fun v18 s19 => ∃ n20 : Int, v18 = .int .i64 n20 ∧ (ACalls Tryd.prog E.F_medianAdjacentOrdered [a0, (.int .i64 (IntKind.wrap .i64 (a1 + (IntKind.wrap .i64 ((IntKind.wrap .i64 (Int.tdiv (IntKind.wrap .i64 (a2 - a1)) 4)) * 3))))), (.ptr (some (l1, 0)))] s19 fun v21 s22 => ∃ n23 : Int, v21 = .int .i64 n23 ∧ (J7 [(.int .i64 n17), (.int .i64 n20), (.int .i64 n23)] s22))))
 (J7 [(.int .i64 (IntKind.wrap .i64 (a1 + (IntKind.wrap .i64 ((IntKind.wrap .i64 (Int.tdiv (IntKind.wrap .i64 (a2 - a1)) 4)) * 1))))), (.int .i64 (IntKind.wrap .i64 (a1 + (IntKind.wrap .i64 ((IntKind.wrap .i64 (Int.tdiv (IntKind.wrap .i64 (a2 - a1)) 4)) * 2))))), (.int .i64 (IntKind.wrap .i64 (a1 + (IntKind.wrap .i64 ((IntKind.wrap .i64 (Int.tdiv (IntKind.wrap .i64 (a2 - a1)) 4)) * 3)))))] s2)))
 (J3 [(.int .i64 (IntKind.wrap .i64 (a1 + (IntKind.wrap .i64 ((IntKind.wrap .i64 (Int.tdiv (IntKind.wrap .i64 (a2 - a1)) 4)) * 2)))))] s2)))))
def A_choosePivotOrdered : QA := (.seq .leaf (.seq .leaf (.seq .leaf (.seq .leaf (.seq .leaf (.seq .leaf (.join [(11, .int .i64)] [(10, 12), (31, 48)] (.seq .leaf (.cond (.join [(10, .int .i64), (11, .int .i64), (12, .int .i64)] [(10, 12), (33, 43)] (.seq .leaf (.cond (.seq .leaf (.seq .leaf .leaf)) .leaf)) .leaf) .leaf)) (.seq .leaf (.wrap (.seq .leaf (.cond (.seq .leaf .leaf) (.seq .leaf (.cond (.seq .leaf .leaf) (.seq .leaf .leaf))))))))))))))
def Q_reverseRangeOrdered (a0 : AV) (a1 : Int) (a2 : Int) (s : AS) (R : AV → AS → Prop) : Prop :=
 LoopQ fun I1 m2 => I1 m2 [(.int .i64 a1), (.int .i64 (IntKind.wrap .i64 (a2 - 1)))] s ∧
 ∀ m3 : Nat, ∀ n4 : Int, ∀ n5 : Int, ∀ s6 : AS, I1 m3 [(.int .i64 n4), (.int .i64 n5)] s6 →
 bsplit (decide ((n4 : Int) < n5))
 (IxQ (aindexAddr T E.ys a0 (.int .i64 n5)) fun l7 o8 => Rd1 E (rd1 s6 l7 o8) fun x9 => IxQ (aindexAddr T E.ys a0 (.int .i64 n4)) fun l10 o11 => Rd1 E (rd1 s6 l10 o11) fun x12 => IxQ (aindexAddr T E.ys a0 (.int .i64 n4)) fun l13 o14 => StQ (awr s6 l13 o14 [(E.c x9)]) fun s15 => IxQ (aindexAddr T E.ys a0 (.int .i64 n5)) fun l16 o17 => StQ (awr s15 l16 o17 [(E.c x12)]) fun s18 => ∃ m', m' < m3 ∧ I1 m' [(.int .i64 (IntKind.wrap .i64 (n4 + 1))), (.int .i64 (IntKind.wrap .i64 (n5 - 1)))] s18)
 (R (.tup []) s6)
def A_reverseRangeOrdered : QA := (.seq .leaf (.seq .leaf (.wrap (.loop [(6, .int .i64), (7, .int .i64)] [(6, 7), (11, 31)] (.seq (.seq .leaf (.cond .leaf .leaf)) (.wrap (.seq .calm (.seq .leaf .leaf))))))))
def Q_partialInsertionSortOrdered (a0 : AV) (a1 : Int) (a2 : Int) (s : AS) (R : AV → AS → Prop) : Prop :=
 LoopQ fun I1 m2 => I1 m2 [(.int .i64 (IntKind.wrap .i64 (a1 + 1))), (.int .i64 0)] s ∧
 ∀ m3 : Nat, ∀ n4 : Int, ∀ n5 : Int, ∀ s6 : AS, I1 m3 [(.int .i64 n4), (.int .i64 n5)] s6 →
 bsplit (decide ((n5 : Int) < 5))
 (JoinQ fun J7 =>
 (∀ n8 : Int, ∀ s9 : AS, J7 [(.int .i64 n8)] s9 →
 bsplit ((n8 : Int) == a2)
 (R (.bool true) s9)
 (bsplit (decide ((IntKind.wrap .i64 (a2 - a1) : Int) < 50))
 (R (.bool false) s9)
 (IxQ (aindexAddr T E.ys a0 (.int .i64 (IntKind.wrap .i64 (n8 - 1)))) fun l10 o11 => Rd1 E (rd1 s9 l10 o11) fun x12 => IxQ (aindexAddr T E.ys a0 (.int .i64 n8)) fun l13 o14 => Rd1 E (rd1 s9 l13 o14) fun x15 => IxQ (aindexAddr T E.ys a0 (.int .i64 n8)) fun l16 o17 => StQ (awr s9 l16 o17 [(E.c x12)]) fun s18 => IxQ (aindexAddr T E.ys a0 (.int .i64 (IntKind.wrap .i64 (n8 - 1)))) fun l19 o20 => StQ (awr s18 l19 o20 [(E.c x15)]) fun s21 => JoinQ fun J22 =>
 (∀ s23 : AS, J22 [] s23 →
 bsplit (decide ((IntKind.wrap .i64 (a2 - n8) : Int) ≥ 2))
 (LoopQ fun I24 m25 => I24 m25 [(.int .i64 (IntKind.wrap .i64 (n8 + 1)))] s23 ∧
 ∀ m26 : Nat, ∀ n27 : Int, ∀ s28 : AS, I24 m26 [(.int .i64 n27)] s28 →
 bsplit (decide ((n27 : Int) < a2))
 (IxQ (aindexAddr T E.ys a0 (.int .i64 n27)) fun l29 o30 => Rd1 E (rd1 s28 l29 o30) fun x31 => IxQ (aindexAddr T E.ys a0 (.int .i64 (IntKind.wrap .i64 (n27 - 1)))) fun l32 o33 => Rd1 E (rd1 s28 l32 o33) fun x34 => ACalls Tryd.prog E.F_Less [(E.c x31), (E.c x34)] s28 fun v35 s36 => ∃ b37 : Bool, v35 = .bool b37 ∧ (bsplit (!b37)
 (∃ m', m' < m3 ∧ I1 m' [(.int .i64 n8), (.int .i64 (IntKind.wrap .i64 (n5 + 1)))] s36)
 (IxQ (aindexAddr T E.ys a0 (.int .i64 (IntKind.wrap .i64 (n27 - 1)))) fun l38 o39 => Rd1 E (rd1 s36 l38 o39) fun x40 => IxQ (aindexAddr T E.ys a0 (.int .i64 n27)) fun l41 o42 => Rd1 E (rd1 s36 l41 o42) fun x43 => IxQ (aindexAddr T E.ys a0 (.int .i64 n27)) fun l44 o45 => StQ (awr s36 l44 o45 [(E.c x40)]) fun s46 => IxQ (aindexAddr T E.ys a0 (.int .i64 (IntKind.wrap .i64 (n27 - 1)))) fun l47 o48 => StQ (awr s46 l47 o48 [(E.c x43)]) fun s49 => ∃ m', m' < m26 ∧ I24 m' [(.int .i64 (IntKind.wrap .i64 (n27 + 1)))] s49)))
 (∃ m', m' < m3 ∧ I1 m' [(.int .i64 n8), (.int .i64 (IntKind.wrap .i64 (n5 + 1)))] s28))
 (∃ m', m' < m3 ∧ I1 m' [(.int .i64 n8), (.int .i64 (IntKind.wrap .i64 (n5 + 1)))] s23)) ∧
 (bsplit (decide ((IntKind.wrap .i64 (n8 - a1) : Int) ≥ 2))
 (LoopQ fun I50 m51 => I50 m51 [(.int .i64 (IntKind.wrap .i64 (n8 - 1)))] s21 ∧
 ∀ m52 : Nat, ∀ n53 : Int, ∀ s54 : AS, I50 m52 [(.int .i64 n53)] s54 →
 bsplit (decide ((n53 : Int) ≥ 1))
 (IxQ (aindexAddr T E.ys a0 (.int .i64 n53)) fun l55 o56 => Rd1 E (rd1 s54 l55 o56) fun x57 => IxQ (aindexAddr T E.ys a0 (.int .i64 (IntKind.wrap .i64 (n53 - 1)))) fun l58 o59 => Rd1 E (rd1 s54 l58 o59) fun x60 => ACalls Tryd.prog E.F_Less [(E.c x57), (E.c x60)] s54 fun v61 s62 => ∃ b63 : Bool, v61 = .bool b63 ∧ (bsplit (!b63)
 (J22 [] s62)
 (IxQ (aindexAddr T E.ys a0 (.int .i64 (IntKind.wrap .i64 (n53 - 1)))) fun l64 o65 => Rd1 E (rd1 s62 l64 o65) fun x66 => IxQ (aindexAddr T E.ys a0 (.int .i64 n53)) fun l67 o68 => Rd1 E (rd1 s62 l67 o68) fun x69 => IxQ (aindexAddr T E.ys a0 (.int .i64 n53)) fun l70 o71 => StQ (awr s62 l70 o71 [(E.c x66)]) fun s72 => IxQ (aindexAddr T E.ys a0 (.int .i64 (IntKind.wrap .i64 (n53 - 1)))) fun l73 o74 => StQ (awr s72 l73 o74 [(E.c x69)]) fun s75 => ∃ m', m' < m52 ∧ I50 m' [(.int .i64 (IntKind.wrap .i64 (n53 - 1)))] s75)))
 (J22 [] s54))
 (J22 [] s21))))) ∧
 (LoopQ fun I76 m77 => I76 m77 [(.int .i64 n4)] s6 ∧
 ∀ m78 : Nat, ∀ n79 : Int, ∀ s80 : AS, I76 m78 [(.int .i64 n79)] s80 →
 bsplit (decide ((n79 : Int) < a2)) (IxQ (aindexAddr T E.ys a0 (.int .i64 n79)) fun l81 o82 => Rd1 E (rd1 s80 l81 o82) fun x83 => IxQ (aindexAddr T E.ys a0 (.int .i64 (IntKind.wrap .i64 (n79 - 1)))) fun l84 o85 => Rd1 E (rd1 s80 l84 o85) fun x86 => ACalls Tryd.prog E.F_Less [(E.c x83), (E.c x86)] s80 fun v87 s88 => ∃ b89 : Bool, v87 = .bool b89 ∧ (bsplit (!b89)
 (∃ m', m' < m78 ∧ I76 m' [(.int .i64 (IntKind.wrap .i64 (n79 + 1)))] s88)
 (J7 [(.int .i64 n79)] s88))) (J7 [(.int .i64 n79)] s80)))
 (R (.bool false) s6)
def A_partialInsertionSortOrdered : QA := (.seq .leaf (.seq .leaf (.seq (.seq .leaf (.wrap (.loop [(7, .int .i64), (8, .int .i64)] [(6, 10), (13, 132)] (.seq (.seq .leaf (.cond .leaf .leaf)) (.seq (.wrap (.join [(7, .int .i64)] [(7, 7), (17, 34)] (.wrap (.loop [(7, .int .i64)] [(7, 7), (17, 34)] (.seq (.seq (.draw 13) (.cond .leaf .leaf)) (.wrap .leaf)))) (.seq (.seq .leaf (.cond (.seq .leaf .leaf) .leaf)) (.seq (.seq .leaf (.cond (.seq .leaf .leaf) .leaf)) (.seq .calm (.join [] [(9, 9), (58, 94)] (.seq .leaf (.cond (.seq .leaf (.wrap (.loop [(9, .int .i64)] [(9, 9), (64, 94)] (.seq (.seq .leaf (.cond .leaf .leaf)) (.seq (.wrap (.seq (.seq (.draw 9) (.cond .leaf .leaf)) .calm)) .leaf))))) .leaf)) (.seq .leaf (.cond (.seq .leaf (.wrap (.loop [(10, .int .i64)] [(10, 10), (101, 132)] (.seq (.seq .leaf (.cond .leaf .leaf)) (.seq (.wrap (.seq (.seq (.draw 9) (.cond .leaf .leaf)) .calm)) .leaf))))) .leaf)))))))) .leaf))))) (.seq .leaf .leaf))))
def Q_partitionEqualOrdered (a0 : AV) (a1 : Int) (a2 : Int) (a3 : Int) (s : AS) (R : AV → AS → Prop) : Prop :=
 IxQ (aindexAddr T E.ys a0 (.int .i64 a3)) fun l1 o2 => Rd1 E (rd1 s l1 o2) fun x3 => IxQ (aindexAddr T E.ys a0 (.int .i64 a1)) fun l4 o5 => Rd1 E (rd1 s l4 o5) fun x6 => IxQ (aindexAddr T E.ys a0 (.int .i64 a1)) fun l7 o8 => StQ (awr s l7 o8 [(E.c x3)]) fun s9 => IxQ (aindexAddr T E.ys a0 (.int .i64 a3)) fun l10 o11 => StQ (awr s9 l10 o11 [(E.c x6)]) fun s12 => LoopQ fun I13 m14 => I13 m14 [(.int .i64 (IntKind.wrap .i64 (a1 + 1))), (.int .i64 (IntKind.wrap .i64 (a2 - 1)))] s12 ∧
 ∀ m15 : Nat, ∀ n16 : Int, ∀ n17 : Int, ∀ s18 : AS, I13 m15 [(.int .i64 n16), (.int .i64 n17)] s18 →
 JoinQ fun J19 =>
 (∀ n20 : Int, ∀ s21 : AS, J19 [(.int .i64 n20)] s21 →
 JoinQ fun J22 =>
 (∀ n23 : Int, ∀ s24 : AS, J22 [(.int .i64 n23)] s24 →
 bsplit (decide ((n20 : Int) > n23))
 (R (.int .i64 n20) s24)
 (IxQ (aindexAddr T E.ys a0 (.int .i64 n23)) fun l25 o26 => Rd1 E (rd1 s24 l25 o26) fun x27 => IxQ (aindexAddr T E.ys a0 (.int .i64 n20)) fun l28 o29 => Rd1 E (rd1 s24 l28 o29) fun x30 => IxQ (aindexAddr T E.ys a0 (.int .i64 n20)) fun l31 o32 => StQ (awr s24 l31 o32 [(E.c x27)]) fun s33 => IxQ (aindexAddr T E.ys a0 (.int .i64 n23)) fun l34 o35 => StQ (awr s33 l34 o35 [(E.c x30)]) fun s36 => ∃ m', m' < m15 ∧ I13 m' [(.int .i64 (IntKind.wrap .i64 (n20 + 1))), (.int .i64 (IntKind.wrap .i64 (n23 - 1)))] s36)) ∧
 (LoopQ fun I37 m38 => I37 m38 [(.int .i64 n17)] s21 ∧
 ∀ m39 : Nat, ∀ n40 : Int, ∀ s41 : AS, I37 m39 [(.int .i64 n40)] s41 →
 bsplit (decide ((n20 : Int) ≤ n40)) (IxQ (aindexAddr T E.ys a0 (.int .i64 a1)) fun l42 o43 => Rd1 E (rd1 s41 l42 o43) fun x44 => IxQ (aindexAddr T E.ys a0 (.int .i64 n40)) fun l45 o46 => Rd1 E (rd1 s41 l45 o46) fun x47 => ACalls Tryd.prog E.F_Less [(E.c x44), (E.c x47)] s41 fun v48 s49 => ∃ b50 : Bool, v48 = .bool b50 ∧ (bsplit b50
 (∃ m', m' < m39 ∧ I37 m' [(.int .i64 (IntKind.wrap .i64 (n40 - 1)))] s49)
 (J22 [(.int .i64 n40)] s49))) (J22 [(.int .i64 n40)] s41))) ∧
 (LoopQ fun I51 m52 => I51 m52 [(.int .i64 n16)] s18 ∧
 ∀ m53 : Nat, ∀ n54 : Int, ∀ s55 : AS, I51 m53 [(.int .i64 n54)] s55 →
 bsplit (decide ((n54 : Int) ≤ n17)) (IxQ (aindexAddr T E.ys a0 (.int .i64 a1)) fun l56 o57 => Rd1 E (rd1 s55 l56 o57) fun x58 => IxQ (aindexAddr T E.ys a0 (.int .i64 n54)) fun l59 o60 => Rd1 E (rd1 s55 l59 o60) fun x61 => ACalls Tryd.prog E.F_Less [(E.c x58), (E.c x61)] s55 fun v62 s63 => ∃ b64 : Bool, v62 = .bool b64 ∧ (bsplit (!b64)
 (∃ m', m' < m53 ∧ I51 m' [(.int .i64 (IntKind.wrap .i64 (n54 + 1)))] s63)
 (J19 [(.int .i64 n54)] s63))) (J19 [(.int .i64 n54)] s55))
def A_partitionEqualOrdered : QA := (.seq .leaf (.seq .calm (.seq .leaf (.seq (.wrap (.loop [(9, .int .i64), (10, .int .i64)] [(9, 10), (29, 82)] (.wrap (.join [(9, .int .i64)] [(9, 9), (29, 45)] (.wrap (.loop [(9, .int .i64)] [(9, 9), (29, 45)] (.seq (.seq (.draw 12) (.cond .leaf .leaf)) (.wrap .leaf)))) (.join [(10, .int .i64)] [(10, 10), (46, 61)] (.wrap (.loop [(10, .int .i64)] [(10, 10), (46, 61)] (.seq (.seq (.draw 12) (.cond .leaf .leaf)) (.wrap .leaf)))) (.seq (.seq .leaf (.cond .leaf .leaf)) (.seq .calm (.seq .leaf .leaf)))))))) (.seq .leaf .leaf)))))
def Q_partitionOrdered (a0 : AV) (a1 : Int) (a2 : Int) (a3 : Int) (s : AS) (R : AV → AS → Prop) : Prop :=
 IxQ (aindexAddr T E.ys a0 (.int .i64 a3)) fun l1 o2 => Rd1 E (rd1 s l1 o2) fun x3 => IxQ (aindexAddr T E.ys a0 (.int .i64 a1)) fun l4 o5 => Rd1 E (rd1 s l4 o5) fun x6 => IxQ (aindexAddr T E.ys a0 (.int .i64 a1)) fun l7 o8 => StQ (awr s l7 o8 [(E.c x3)]) fun s9 => IxQ (aindexAddr T E.ys a0 (.int .i64 a3)) fun l10 o11 => StQ (awr s9 l10 o11 [(E.c x6)]) fun s12 => JoinQ fun J13 =>
 (∀ n14 : Int, ∀ s15 : AS, J13 [(.int .i64 n14)] s15 →
 JoinQ fun J16 =>
 (∀ n17 : Int, ∀ s18 : AS, J16 [(.int .i64 n17)] s18 →
 bsplit (decide ((n14 : Int) > n17))
 (IxQ (aindexAddr T E.ys a0 (.int .i64 a1)) fun l19 o20 => Rd1 E (rd1 s18 l19 o20) fun x21 => IxQ (aindexAddr T E.ys a0 (.int .i64 n17)) fun l22 o23 => Rd1 E (rd1 s18 l22 o23) fun x24 => IxQ (aindexAddr T E.ys a0 (.int .i64 n17)) fun l25 o26 => StQ (awr s18 l25 o26 [(E.c x21)]) fun s27 => IxQ (aindexAddr T E.ys a0 (.int .i64 a1)) fun l28 o29 => StQ (awr s27 l28 o29 [(E.c x24)]) fun s30 => R (.tup [(.int .i64 n17), (.bool true)]) s30)
 (IxQ (aindexAddr T E.ys a0 (.int .i64 n17)) fun l31 o32 => Rd1 E (rd1 s18 l31 o32) fun x33 => IxQ (aindexAddr T E.ys a0 (.int .i64 n14)) fun l34 o35 => Rd1 E (rd1 s18 l34 o35) fun x36 => IxQ (aindexAddr T E.ys a0 (.int .i64 n14)) fun l37 o38 => StQ (awr s18 l37 o38 [(E.c x33)]) fun s39 => IxQ (aindexAddr T E.ys a0 (.int .i64 n17)) fun l40 o41 => StQ (awr s39 l40 o41 [(E.c x36)]) fun s42 => JoinQ fun J43 =>
 (∀ n44 : Int, ∀ s45 : AS, J43 [(.int .i64 n44)] s45 →
 IxQ (aindexAddr T E.ys a0 (.int .i64 a1)) fun l46 o47 => Rd1 E (rd1 s45 l46 o47) fun x48 => IxQ (aindexAddr T E.ys a0 (.int .i64 n44)) fun l49 o50 => Rd1 E (rd1 s45 l49 o50) fun x51 => IxQ (aindexAddr T E.ys a0 (.int .i64 n44)) fun l52 o53 => StQ (awr s45 l52 o53 [(E.c x48)]) fun s54 => IxQ (aindexAddr T E.ys a0 (.int .i64 a1)) fun l55 o56 => StQ (awr s54 l55 o56 [(E.c x51)]) fun s57 => R (.tup [(.int .i64 n44), (.bool false)]) s57) ∧
 (LoopQ fun I58 m59 => I58 m59 [(.int .i64 (IntKind.wrap .i64 (n14 + 1))), (.int .i64 (IntKind.wrap .i64 (n17 - 1)))] s42 ∧
 ∀ m60 : Nat, ∀ n61 : Int, ∀ n62 : Int, ∀ s63 : AS, I58 m60 [(.int .i64 n61), (.int .i64 n62)] s63 →
 JoinQ fun J64 =>
 (∀ n65 : Int, ∀ s66 : AS, J64 [(.int .i64 n65)] s66 →
 JoinQ fun J67 =>
 (∀ n68 : Int, ∀ s69 : AS, J67 [(.int .i64 n68)] s69 →
 bsplit (decide ((n65 : Int) > n68))
 (J43 [(.int .i64 n68)] s69)
 (IxQ (aindexAddr T E.ys a0 (.int .i64 n68)) fun l70 o71 => Rd1 E (rd1 s69 l70 o71) fun x72 => IxQ (aindexAddr T E.ys a0 (.int .i64 n65)) fun l73 o74 => Rd1 E (rd1 s69 l73 o74) fun x75 => IxQ (aindexAddr T E.ys a0 (.int .i64 n65)) fun l76 o77 => StQ (awr s69 l76 o77 [(E.c x72)]) fun s78 => IxQ (aindexAddr T E.ys a0 (.int .i64 n68)) fun l79 o80 => StQ (awr s78 l79 o80 [(E.c x75)]) fun s81 => ∃ m', m' < m60 ∧ I58 m' [(.int .i64 (IntKind.wrap .i64 (n65 + 1))), (.int .i64 (IntKind.wrap .i64 (n68 - 1)))] s81)) ∧
 (LoopQ fun I82 m83 => I82 m83 [(.int .i64 n62)] s66 ∧
 ∀ m84 : Nat, ∀ n85 : Int, ∀ s86 : AS, I82 m84 [(.int .i64 n85)] s86 →
 bsplit (decide ((n65 : Int) ≤ n85)) (IxQ (aindexAddr T E.ys a0 (.int .i64 n85)) fun l87 o88 => Rd1 E (rd1 s86 l87 o88) fun x89 => IxQ (aindexAddr T E.ys a0 (.int .i64 a1)) fun l90 o91 => Rd1 E (rd1 s86 l90 o91) fun x92 => ACalls Tryd.prog E.F_Less [(E.c x89), (E.c x92)] s86 fun v93 s94 => ∃ b95 : Bool, v93 = .bool b95 ∧ (bsplit (!b95)
 (∃ m', m' < m84 ∧ I82 m' [(.int .i64 (IntKind.wrap .i64 (n85 - 1)))] s94)
 (J67 [(.int .i64 n85)] s94))) (J67 [(.int .i64 n85)] s86))) ∧
 (LoopQ fun I96 m97 => I96 m97 [(.int .i64 n61)] s63 ∧
 ∀ m98 : Nat, ∀ n99 : Int, ∀ s100 : AS, I96 m98 [(.int .i64 n99)] s100 →
 bsplit (decide ((n99 : Int) ≤ n62)) (IxQ (aindexAddr T E.ys a0 (.int .i64 n99)) fun l101 o102 => Rd1 E (rd1 s100 l101 o102) fun x103 => IxQ (aindexAddr T E.ys a0 (.int .i64 a1)) fun l104 o105 => Rd1 E (rd1 s100 l104 o105) fun x106 => ACalls Tryd.prog E.F_Less [(E.c x103), (E.c x106)] s100 fun v107 s108 => ∃ b109 : Bool, v107 = .bool b109 ∧ (bsplit b109
 (∃ m', m' < m98 ∧ I96 m' [(.int .i64 (IntKind.wrap .i64 (n99 + 1)))] s108)
 (J64 [(.int .i64 n99)] s108))) (J64 [(.int .i64 n99)] s100))))) ∧
 (LoopQ fun I110 m111 => I110 m111 [(.int .i64 (IntKind.wrap .i64 (a2 - 1)))] s15 ∧
 ∀ m112 : Nat, ∀ n113 : Int, ∀ s114 : AS, I110 m112 [(.int .i64 n113)] s114 →
 bsplit (decide ((n14 : Int) ≤ n113)) (IxQ (aindexAddr T E.ys a0 (.int .i64 n113)) fun l115 o116 => Rd1 E (rd1 s114 l115 o116) fun x117 => IxQ (aindexAddr T E.ys a0 (.int .i64 a1)) fun l118 o119 => Rd1 E (rd1 s114 l118 o119) fun x120 => ACalls Tryd.prog E.F_Less [(E.c x117), (E.c x120)] s114 fun v121 s122 => ∃ b123 : Bool, v121 = .bool b123 ∧ (bsplit (!b123)
 (∃ m', m' < m112 ∧ I110 m' [(.int .i64 (IntKind.wrap .i64 (n113 - 1)))] s122)
 (J16 [(.int .i64 n113)] s122))) (J16 [(.int .i64 n113)] s114))) ∧
 (LoopQ fun I124 m125 => I124 m125 [(.int .i64 (IntKind.wrap .i64 (a1 + 1)))] s12 ∧
 ∀ m126 : Nat, ∀ n127 : Int, ∀ s128 : AS, I124 m126 [(.int .i64 n127)] s128 →
 bsplit (decide ((n127 : Int) ≤ (IntKind.wrap .i64 (a2 - 1)))) (IxQ (aindexAddr T E.ys a0 (.int .i64 n127)) fun l129 o130 => Rd1 E (rd1 s128 l129 o130) fun x131 => IxQ (aindexAddr T E.ys a0 (.int .i64 a1)) fun l132 o133 => Rd1 E (rd1 s128 l132 o133) fun x134 => ACalls Tryd.prog E.F_Less [(E.c x131), (E.c x134)] s128 fun v135 s136 => ∃ b137 : Bool, v135 = .bool b137 ∧ (bsplit b137
 (∃ m', m' < m126 ∧ I124 m' [(.int .i64 (IntKind.wrap .i64 (n127 + 1)))] s136)
 (J13 [(.int .i64 n127)] s136))) (J13 [(.int .i64 n127)] s128))
def A_partitionOrdered : QA := (.seq .leaf (.seq .calm (.seq .leaf (.join [(10, .int .i64)] [(10, 10), (30, 45)] (.wrap (.loop [(10, .int .i64)] [(10, 10), (30, 45)] (.seq (.seq (.draw 12) (.cond .leaf .leaf)) (.wrap .leaf)))) (.join [(11, .int .i64)] [(11, 11), (46, 62)] (.wrap (.loop [(11, .int .i64)] [(11, 11), (46, 62)] (.seq (.seq (.draw 12) (.cond .leaf .leaf)) (.wrap .leaf)))) (.seq (.seq .leaf (.cond (.seq .calm (.seq .leaf .leaf)) .leaf)) (.seq .calm (.seq .leaf (.seq .leaf (.join [(11, .int .i64)] [(10, 11), (99, 152)] (.wrap (.loop [(10, .int .i64), (11, .int .i64)] [(10, 11), (99, 152)] (.wrap (.join [(10, .int .i64)] [(10, 10), (99, 114)] (.wrap (.loop [(10, .int .i64)] [(10, 10), (99, 114)] (.seq (.seq (.draw 12) (.cond .leaf .leaf)) (.wrap .leaf)))) (.join [(11, .int .i64)] [(11, 11), (115, 131)] (.wrap (.loop [(11, .int .i64)] [(11, 11), (115, 131)] (.seq (.seq (.draw 12) (.cond .leaf .leaf)) (.wrap .leaf)))) (.seq (.seq .leaf (.cond .leaf .leaf)) (.seq .calm (.seq .leaf .leaf)))))))) (.seq .calm (.seq .leaf .leaf))))))))))))
def Q_siftDownOrdered (a0 : AV) (a1 : Int) (a2 : Int) (a3 : Int) (s : AS) (R : AV → AS → Prop) : Prop :=
 LoopQ fun I1 m2 => I1 m2 [(.int .i64 a1)] s ∧
 ∀ m3 : Nat, ∀ n4 : Int, ∀ s5 : AS, I1 m3 [(.int .i64 n4)] s5 →
 bsplit (decide ((IntKind.wrap .i64 ((IntKind.wrap .i64 (2 * n4)) + 1) : Int) ≥ a2))
 (R (.tup []) s5)
 (JoinQ fun J6 =>
 (∀ n7 : Int, ∀ s8 : AS, J6 [(.int .i64 n7)] s8 →
 IxQ (aindexAddr T E.ys a0 (.int .i64 (IntKind.wrap .i64 (a3 + n4)))) fun l9 o10 => Rd1 E (rd1 s8 l9 o10) fun x11 => IxQ (aindexAddr T E.ys a0 (.int .i64 (IntKind.wrap .i64 (a3 + n7)))) fun l12 o13 => Rd1 E (rd1 s8 l12 o13) fun x14 => ACalls Tryd.prog E.F_Less [(E.c x11), (E.c x14)] s8 fun v15 s16 => ∃ b17 : Bool, v15 = .bool b17 ∧ (bsplit (!b17)
 (R (.tup []) s16)
 (IxQ (aindexAddr T E.ys a0 (.int .i64 (IntKind.wrap .i64 (a3 + n7)))) fun l18 o19 => Rd1 E (rd1 s16 l18 o19) fun x20 => IxQ (aindexAddr T E.ys a0 (.int .i64 (IntKind.wrap .i64 (a3 + n4)))) fun l21 o22 => Rd1 E (rd1 s16 l21 o22) fun x23 => IxQ (aindexAddr T E.ys a0 (.int .i64 (IntKind.wrap .i64 (a3 + n4)))) fun l24 o25 => StQ (awr s16 l24 o25 [(E.c x20)]) fun s26 => IxQ (aindexAddr T E.ys a0 (.int .i64 (IntKind.wrap .i64 (a3 + n7)))) fun l27 o28 => StQ (awr s26 l27 o28 [(E.c x23)]) fun s29 => ∃ m', m' < m3 ∧ I1 m' [(.int .i64 n7)] s29))) ∧
 (JoinQ fun J30 =>
 (∀ b31 : Bool, ∀ s32 : AS, J30 [(.bool b31)] s32 →
 bsplit b31
 (J6 [(.int .i64 (IntKind.wrap .i64 ((IntKind.wrap .i64 ((IntKind.wrap .i64 (2 * n4)) + 1)) + 1)))] s32)
 (J6 [(.int .i64 (IntKind.wrap .i64 ((IntKind.wrap .i64 (2 * n4)) + 1)))] s32)) ∧
 (bsplit (decide ((IntKind.wrap .i64 ((IntKind.wrap .i64 ((IntKind.wrap .i64 (2 * n4)) + 1)) + 1) : Int) < a2)) (IxQ (aindexAddr T E.ys a0 (.int .i64 (IntKind.wrap .i64 (a3 + (IntKind.wrap .i64 ((IntKind.wrap .i64 (2 * n4)) + 1)))))) fun l33 o34 => Rd1 E (rd1 s5 l33 o34) fun x35 => IxQ (aindexAddr T E.ys a0 (.int .i64 (IntKind.wrap .i64 ((IntKind.wrap .i64 (a3 + (IntKind.wrap .i64 ((IntKind.wrap .i64 (2 * n4)) + 1)))) + 1)))) fun l36 o37 => Rd1 E (rd1 s5 l36 o37) fun x38 => ACalls Tryd.prog E.F_Less [(E.c x35), (E.c x38)] s5 fun v39 s40 => ∃ b41 : Bool, v39 = .bool b41 ∧ (J30 [(.bool b41)] s40)) (J30 [(.bool false)] s5))))
def A_siftDownOrdered : QA := (.seq .leaf (.wrap (.loop [(8, .int .i64)] [(8, 9), (11, 75)] (.wrap (.seq .leaf (.seq (.seq .leaf (.cond .leaf .leaf)) (.join [(9, .int .i64)] [(9, 9), (17, 38)] (.join [(36, .bool)] [(17, 36)] (.draw 18) (.cond .leaf .leaf)) (.seq (.seq (.draw 12) (.cond .leaf .leaf)) (.seq .calm .leaf)))))))))
def Q_medianAdjacentOrdered (a0 : AV) (a1 : Int) (a2 : Option (Nat × Nat)) (s : AS) (R : AV → AS → Prop) : Prop :=
 ACalls Tryd.prog E.F_medianOrdered [a0, (.int .i64 (IntKind.wrap .i64 (a1 - 1))), (.int .i64 a1), (.int .i64 (IntKind.wrap .i64 (a1 + 1))), (.ptr a2)] s fun v1 s2 => ∃ n3 : Int, v1 = .int .i64 n3 ∧ (R (.int .i64 n3) s2)
def A_medianAdjacentOrdered : QA := (.seq .leaf (.seq .leaf .leaf))
def Q_medianOrdered (a0 : AV) (a1 : Int) (a2 : Int) (a3 : Int) (a4 : Option (Nat × Nat)) (s : AS) (R : AV → AS → Prop) : Prop :=
 ACalls Tryd.prog E.F_order2Ordered [a0, (.int .i64 a1), (.int .i64 a2), (.ptr a4)] s fun v1 s2 => ∃ n3 : Int, ∃ n4 : Int, v1 = .tup [(.int .i64 n3), (.int .i64 n4)] ∧ (ACalls Tryd.prog E.F_order2Ordered [a0, (.int .i64 n4), (.int .i64 a3), (.ptr a4)] s2 fun v5 s6 => ∃ n7 : Int, ∃ n8 : Int, v5 = .tup [(.int .i64 n7), (.int .i64 n8)] ∧ (ACalls Tryd.prog E.F_order2Ordered [a0, (.int .i64 n3), (.int .i64 n7), (.ptr a4)] s6 fun v9 s10 => ∃ n11 : Int, ∃ n12 : Int, v9 = .tup [(.int .i64 n11), (.int .i64 n12)] ∧ (R (.int .i64 n12) s10)))
def A_medianOrdered : QA := (.seq .leaf (.seq .leaf (.seq .leaf (.seq .leaf (.seq .leaf .leaf)))))
def Q_order2Ordered (a0 : AV) (a1 : Int) (a2 : Int) (a3 : Option (Nat × Nat)) (s : AS) (R : AV → AS → Prop) : Prop :=
 IxQ (aindexAddr T E.ys a0 (.int .i64 a2)) fun l1 o2 => Rd1 E (rd1 s l1 o2) fun x3 => IxQ (aindexAddr T E.ys a0 (.int .i64 a1)) fun l4 o5 => Rd1 E (rd1 s l4 o5) fun x6 => ACalls Tryd.prog E.F_Less [(E.c x3), (E.c x6)] s fun v7 s8 => ∃ b9 : Bool, v7 = .bool b9 ∧ (bsplit b9
 (AsSome a3 fun l10 o11 => RdI .i64 (rd1 s8 l10 o11) fun n12 => AsSome a3 fun l13 o14 => StQ (awr s8 l13 o14 [(.int .i64 (IntKind.wrap .i64 (n12 + 1)))]) fun s15 => R (.tup [(.int .i64 a2), (.int .i64 a1)]) s15)
 (R (.tup [(.int .i64 a1), (.int .i64 a2)]) s8))
def A_order2Ordered : QA := (.seq .leaf (.seq (.seq (.draw 8) (.cond (.seq .leaf (.seq .leaf .leaf)) .leaf)) (.seq .leaf .leaf)))
class SQ (E : SE) : Prop where
 q_Sort : ∀ (a0 : AV) (s : AS) (R : AV → AS → Prop), Q_Sort E a0 s R → ACalls Tryd.prog E.F_Sort [a0] s R
 q_pdqsortOrdered : ∀ (a0 : AV) (a1 : Int) (a2 : Int) (a3 : Int) (s : AS) (R : AV → AS → Prop), Q_pdqsortOrdered E a0 a1 a2 a3 s R → ACalls Tryd.prog E.F_pdqsortOrdered [a0, (.int .i64 a1), (.int .i64 a2), (.int .i64 a3)] s R
 q_insertionSortOrdered : ∀ (a0 : AV) (a1 : Int) (a2 : Int) (s : AS) (R : AV → AS → Prop), Q_insertionSortOrdered E a0 a1 a2 s R → ACalls Tryd.prog E.F_insertionSortOrdered [a0, (.int .i64 a1), (.int .i64 a2)] s R
 q_heapSortOrdered : ∀ (a0 : AV) (a1 : Int) (a2 : Int) (s : AS) (R : AV → AS → Prop), Q_heapSortOrdered E a0 a1 a2 s R → ACalls Tryd.prog E.F_heapSortOrdered [a0, (.int .i64 a1), (.int .i64 a2)] s R
 q_breakPatternsOrdered : ∀ (a0 : AV) (a1 : Int) (a2 : Int) (s : AS) (R : AV → AS → Prop), Q_breakPatternsOrdered E a0 a1 a2 s R → ACalls Tryd.prog E.F_breakPatternsOrdered [a0, (.int .i64 a1), (.int .i64 a2)] s R
 q_choosePivotOrdered : ∀ (a0 : AV) (a1 : Int) (a2 : Int) (s : AS) (R : AV → AS → Prop), Q_choosePivotOrdered E a0 a1 a2 s R → ACalls Tryd.prog E.F_choosePivotOrdered [a0, (.int .i64 a1), (.int .i64 a2)] s R
 q_reverseRangeOrdered : ∀ (a0 : AV) (a1 : Int) (a2 : Int) (s : AS) (R : AV → AS → Prop), Q_reverseRangeOrdered E a0 a1 a2 s R → ACalls Tryd.prog E.F_reverseRangeOrdered [a0, (.int .i64 a1), (.int .i64 a2)] s R
 q_partialInsertionSortOrdered : ∀ (a0 : AV) (a1 : Int) (a2 : Int) (s : AS) (R : AV → AS → Prop), Q_partialInsertionSortOrdered E a0 a1 a2 s R → ACalls Tryd.prog E.F_partialInsertionSortOrdered [a0, (.int .i64 a1), (.int .i64 a2)] s R
 q_partitionEqualOrdered : ∀ (a0 : AV) (a1 : Int) (a2 : Int) (a3 : Int) (s : AS) (R : AV → AS → Prop), Q_partitionEqualOrdered E a0 a1 a2 a3 s R → ACalls Tryd.prog E.F_partitionEqualOrdered [a0, (.int .i64 a1), (.int .i64 a2), (.int .i64 a3)] s R
 q_partitionOrdered : ∀ (a0 : AV) (a1 : Int) (a2 : Int) (a3 : Int) (s : AS) (R : AV → AS → Prop), Q_partitionOrdered E a0 a1 a2 a3 s R → ACalls Tryd.prog E.F_partitionOrdered [a0, (.int .i64 a1), (.int .i64 a2), (.int .i64 a3)] s R
 q_siftDownOrdered : ∀ (a0 : AV) (a1 : Int) (a2 : Int) (a3 : Int) (s : AS) (R : AV → AS → Prop), Q_siftDownOrdered E a0 a1 a2 a3 s R → ACalls Tryd.prog E.F_siftDownOrdered [a0, (.int .i64 a1), (.int .i64 a2), (.int .i64 a3)] s R
 q_medianAdjacentOrdered : ∀ (a0 : AV) (a1 : Int) (a2 : Option (Nat × Nat)) (s : AS) (R : AV → AS → Prop), Q_medianAdjacentOrdered E a0 a1 a2 s R → ACalls Tryd.prog E.F_medianAdjacentOrdered [a0, (.int .i64 a1), (.ptr a2)] s R
 q_medianOrdered : ∀ (a0 : AV) (a1 : Int) (a2 : Int) (a3 : Int) (a4 : Option (Nat × Nat)) (s : AS) (R : AV → AS → Prop), Q_medianOrdered E a0 a1 a2 a3 a4 s R → ACalls Tryd.prog E.F_medianOrdered [a0, (.int .i64 a1), (.int .i64 a2), (.int .i64 a3), (.ptr a4)] s R
 q_order2Ordered : ∀ (a0 : AV) (a1 : Int) (a2 : Int) (a3 : Option (Nat × Nat)) (s : AS) (R : AV → AS → Prop), Q_order2Ordered E a0 a1 a2 a3 s R → ACalls Tryd.prog E.F_order2Ordered [a0, (.int .i64 a1), (.int .i64 a2), (.ptr a3)] s R
end Go.Proofs.YtblpmffajlkmjaaDoor.SO
end

section
set_option maxRecDepth 100000
set_option maxHeartbeats 4000000
namespace Go.Proofs.YtblpmffajlkmjaaDoor
open Go.Am
def Q_law24iTrailTallies (a0 : AV) (s : AS) (R : AV → AS → Prop) : Prop :=
 ACalls Tryd.prog F_law24ifew [a0, (.slc none 0 0 true)] s fun v1 s2 => ∃ b3 : Bool, v1 = .bool b3 ∧ (bsplit (!b3)
 (ACalls Tryd.prog F_law24iknown [] s2 fun v4 s5 => ∃ b6 : Bool, v4 = .bool b6 ∧ (R (.bool b6) s5))
 (ACalls Tryd.prog F_trail_Topics [a0] s2 fun v7 s8 => ACalls Tryd.prog F_trail_Devices [a0] s8 fun v9 s10 => ACalls Tryd.prog F_ref24iTallies [a0, (.bool false)] s10 fun v11 s12 => ACalls Tryd.prog F_law24isameTallies [v7, v11] s12 fun v13 s14 => ∃ b15 : Bool, v13 = .bool b15 ∧ (bsplit (!b15) (R (.bool false) s14) (ACalls Tryd.prog F_ref24iTallies [a0, (.bool true)] s14 fun v16 s17 => ACalls Tryd.prog F_law24isameTallies [v9, v16] s17 fun v18 s19 => ∃ b20 : Bool, v18 = .bool b20 ∧ (bsplit (!b20)
 (R (.bool false) s19)
 (NewQ (.cells [.str [], .int .i64 0, .int .i64 0, .int .i64 0, .int .i64 0, .int .i64 0] 0 false) s19 fun l21 s22 => NewQ (.cells [.str [], .int .i64 0, .int .i64 0, .int .i64 0, .int .i64 0, .int .i64 0] 0 false) s22 fun l23 s24 => JoinQ fun J25 =>
 (∀ s26 : AS, J25 [] s26 →
 JoinQ fun J27 =>
 (∀ s28 : AS, J27 [] s28 →
 RdL (rdc s28 l21 0 6) fun g29 => RdL (rdc s28 l23 0 6) fun g30 => RdO (aeq T 100 Y_Tally (.agg g29) (.agg g30)) fun b31 => bsplit b31 (ACalls Tryd.prog F_law24iknown [] s28 fun v32 s33 => ∃ b34 : Bool, v32 = .bool b34 ∧ (R (.bool b34) s33)) (R (.bool false) s28)) ∧
 (LoopQ fun I35 m36 => I35 m36 [(.int .i64 0)] s26 ∧
 ∀ m37 : Nat, ∀ n38 : Int, ∀ s39 : AS, I35 m37 [(.int .i64 n38)] s39 →
 RdI .i64 (alenB T Y_s_Tally v9 s39) fun n40 => bsplit (decide ((n38 : Int) < n40))
 (RdI .i64 (rd1 s39 l23 1) fun n41 => IxQ (aindexAddr T Y_s_Tally v9 (.int .i64 n38)) fun l42 o43 => RdI .i64 (rd1 s39 l42 (o43 + 1)) fun n44 => StQ (awr s39 l23 1 [(.int .i64 (IntKind.wrap .i64 (n41 + n44)))]) fun s45 => RdI .i64 (rd1 s45 l23 5) fun n46 => IxQ (aindexAddr T Y_s_Tally v9 (.int .i64 n38)) fun l47 o48 => RdI .i64 (rd1 s45 l47 (o48 + 5)) fun n49 => StQ (awr s45 l23 5 [(.int .i64 (IntKind.wrap .i64 (n46 + n49)))]) fun s50 => ∃ m', m' < m37 ∧ I35 m' [(.int .i64 (IntKind.wrap .i64 (n38 + 1)))] s50)
 (J27 [] s39))) ∧
 (LoopQ fun I51 m52 => I51 m52 [(.int .i64 0)] s24 ∧
 ∀ m53 : Nat, ∀ n54 : Int, ∀ s55 : AS, I51 m53 [(.int .i64 n54)] s55 →
 RdI .i64 (alenB T Y_s_Tally v7 s55) fun n56 => bsplit (decide ((n54 : Int) < n56))
 (RdI .i64 (rd1 s55 l21 1) fun n57 => IxQ (aindexAddr T Y_s_Tally v7 (.int .i64 n54)) fun l58 o59 => RdI .i64 (rd1 s55 l58 (o59 + 1)) fun n60 => StQ (awr s55 l21 1 [(.int .i64 (IntKind.wrap .i64 (n57 + n60)))]) fun s61 => RdI .i64 (rd1 s61 l21 5) fun n62 => IxQ (aindexAddr T Y_s_Tally v7 (.int .i64 n54)) fun l63 o64 => RdI .i64 (rd1 s61 l63 (o64 + 5)) fun n65 => StQ (awr s61 l21 5 [(.int .i64 (IntKind.wrap .i64 (n62 + n65)))]) fun s66 => ∃ m', m' < m53 ∧ I51 m' [(.int .i64 (IntKind.wrap .i64 (n54 + 1)))] s66)
 (J25 [] s55))))))))
def A_law24iTrailTallies : QA := (.seq .leaf (.seq (.seq .leaf (.cond (.seq .leaf .leaf) .leaf)) (.seq .leaf (.seq (.seq .leaf (.cond (.seq .leaf .leaf) .leaf)) (.seq .leaf (.join [] [(7, 7), (29, 52)] (.seq .leaf (.wrap (.loop [(7, .int .i64)] [(7, 7), (29, 52)] (.seq (.seq .leaf (.cond .leaf .leaf)) (.seq (.wrap (.seq (.draw 7) (.draw 7))) .leaf))))) (.join [] [(8, 8), (53, 76)] (.seq .leaf (.wrap (.loop [(8, .int .i64)] [(8, 8), (53, 76)] (.seq (.seq .leaf (.cond .leaf .leaf)) (.seq (.wrap (.seq (.draw 7) (.draw 7))) .leaf))))) (.seq .leaf .leaf))))))))
theorem q_law24iTrailTallies (a0 : AV) (s : AS) (R : AV → AS → Prop) (h : Q_law24iTrailTallies a0 s R) : ACalls Tryd.prog F_law24iTrailTallies [a0] s R :=
 ACalls.q (n := 83) (rs := [.tmp 2]) (A := A_law24iTrailTallies) hT hmx Tryd.func5 (by kernel_rfl) rfl rfl rfl (by kernel_rfl) (by kernel_rfl) h
def Q_law24iknown  (s : AS) (R : AV → AS → Prop) : Prop :=
 RdG (abuild T Y_Hop [(0, (.int .i64 1)), (1, (.int .i64 3)), (2, (.int .i64 1))]) fun g1 => RdG (abuild T Y_Hop [(0, (.int .i64 2)), (1, (.int .i64 5)), (2, (.int .i64 2)), (3, (.int .i64 1))]) fun g2 => RdG (abuild T Y_Hop [(0, (.int .i64 4)), (1, (.int .i64 8)), (2, (.int .i64 2)), (5, (.str ([97])))]) fun g3 => RdL (absl T Y_s_Hop 3 [(0, (.agg g1)), (1, (.agg g2)), (2, (.agg g3))]) fun g4 => NewQ (.cells g4 0 false) s fun l5 s6 => ACalls Tryd.prog F_trail_Lines [(.slc (some (l5, 0)) 3 3 true)] s6 fun v7 s8 => ACalls Tryd.prog F_trail_Spread [(.slc (some (l5, 0)) 3 3 true)] s8 fun v9 s10 => RdI .i64 (alenB T Y_s_string v7 s10) fun n11 => bsplit ((n11 : Int) == 3) (IxQ (aindexAddr T Y_s_string v7 (.int .i64 0)) fun l12 o13 => RdS (rd1 s10 l12 o13) fun x14 => bsplit ((x14 : List UInt8) == ([51, 32, 112, 117, 98, 108, 105, 115, 104, 101, 100, 32, 49])) (IxQ (aindexAddr T Y_s_string v7 (.int .i64 1)) fun l15 o16 => RdS (rd1 s10 l15 o16) fun x17 => bsplit ((x17 : List UInt8) == ([53, 32, 99, 97, 109, 101, 32, 50, 32, 49])) (IxQ (aindexAddr T Y_s_string v7 (.int .i64 2)) fun l18 o19 => RdS (rd1 s10 l18 o19) fun x20 => bsplit ((x20 : List UInt8) == ([56, 32, 112, 111, 108, 108, 101, 100, 32, 50, 32, 97])) (RdI .i64 (alenB T Y_s_Reach v9 s10) fun n21 => bsplit ((n21 : Int) == 1) (IxQ (aindexAddr T Y_s_Reach v9 (.int .i64 0)) fun l22 o23 => RdL (rdc s10 l22 o23 2) fun g24 => RdG (abuild T Y_Reach [(0, (.int .i64 2)), (1, (.int .i64 2))]) fun g25 => RdO (aeq T 100 Y_Reach (.agg g24) (.agg g25)) fun b26 => R (.bool b26) s10) (R (.bool false) s10)) (R (.bool false) s10)) (R (.bool false) s10)) (R (.bool false) s10)) (R (.bool false) s10)
def A_law24iknown : QA := (.seq .leaf (.seq .leaf (.seq .leaf (.seq .leaf .leaf))))
theorem q_law24iknown  (s : AS) (R : AV → AS → Prop) (h : Q_law24iknown  s R) : ACalls Tryd.prog F_law24iknown [] s R :=
 ACalls.q (n := 45) (rs := [.tmp 0]) (A := A_law24iknown) hT hmx Tryd.func7 (by kernel_rfl) rfl rfl rfl (by kernel_rfl) (by kernel_rfl) h
def Q_trail_Lines (a0 : AV) (s : AS) (R : AV → AS → Prop) : Prop :=
 RdI .i64 (alenB T Y_s_Hop a0 s) fun n1 => LoopQ fun I2 m3 => I2 m3 [(.slc none 0 0 true), (.int .i64 0)] s ∧
 ∀ m4 : Nat, ∀ v5 : AV, ∀ n6 : Int, ∀ s7 : AS, I2 m4 [v5, (.int .i64 n6)] s7 →
 bsplit (decide ((n6 : Int) < n1))
 (IxQ (aindexAddr T Y_s_Hop a0 (.int .i64 n6)) fun l8 o9 => RdL (rdc s7 l8 o9 6) fun g10 => NewQ (.cells [.int .i64 0, .int .i64 0, .int .i64 0, .int .i64 0, .int .i64 0, .str []] 0 false) s7 fun l11 s12 => OkC (some 6) g10 (StQ (awr s12 l11 0 g10) fun s13 => RdL (rdc s13 l11 0 6) fun g14 => ACalls Tryd.prog F_trail_line [(.agg g14)] s13 fun v15 s16 => ∃ x17 : List UInt8, v15 = .str x17 ∧ (RdL (absl T Y_s_string 1 [(0, (.str x17))]) fun g18 => NewQ (.cells g18 0 false) s16 fun l19 s20 => Bd2 (aappend T Y_s_string Y_s_string v5 (.slc (some (l19, 0)) 1 1 true) s20) fun v21 s22 => ∃ m', m' < m4 ∧ I2 m' [v21, (.int .i64 (IntKind.wrap .i64 (n6 + 1)))] s22)))
 (R v5 s7)
def A_trail_Lines : QA := (.seq .leaf (.seq (.seq .leaf (.wrap (.loop [(2, .any), (7, .int .i64)] [(2, 2), (4, 4), (7, 16)] (.seq .leaf (.seq (.cond .leaf .leaf) (.seq (.wrap (.seq .leaf .leaf)) .leaf)))))) (.seq .leaf .leaf)))
theorem q_trail_Lines (a0 : AV) (s : AS) (R : AV → AS → Prop) (h : Q_trail_Lines a0 s R) : ACalls Tryd.prog F_trail_Lines [a0] s R :=
 ACalls.q (n := 18) (rs := [.tmp 2]) (A := A_trail_Lines) hT hmx Tryd.func8 (by kernel_rfl) rfl rfl rfl (by kernel_rfl) (by kernel_rfl) h
def Q_trail_Spread (a0 : AV) (s : AS) (R : AV → AS → Prop) : Prop :=
 ACalls Tryd.prog F_slices_IndexFunc__s_Hop_Hop [a0, (.func F_trail_Spread_1 [])] s fun v1 s2 => ∃ n3 : Int, v1 = .int .i64 n3 ∧ (bsplit (decide ((n3 : Int) < 0))
 (R (.slc none 0 0 true) s2)
 (NewQ (.map [] 0 false) s2 fun l4 s5 => JoinQ fun J6 =>
 (∀ s7 : AS, J6 [] s7 →
 ACalls Tryd.prog F_maps_Keys__m_int_int_int_int [(.map (some l4))] s7 fun v8 s9 => ACalls Tryd.prog F_slices_Sorted__int [v8] s9 fun v10 s11 => RdI .i64 (alenB T Y_s_int v10 s11) fun n12 => LoopQ fun I13 m14 => I13 m14 [(.slc none 0 0 true), (.int .i64 0)] s11 ∧
 ∀ m15 : Nat, ∀ v16 : AV, ∀ n17 : Int, ∀ s18 : AS, I13 m15 [v16, (.int .i64 n17)] s18 →
 bsplit (decide ((n17 : Int) < n12))
 (IxQ (aindexAddr T Y_s_int v10 (.int .i64 n17)) fun l19 o20 => RdI .i64 (rd1 s18 l19 o20) fun n21 => RdI .i64 (alookup T Y_m_int_int (.map (some l4)) (.int .i64 n21) false s18) fun n22 => RdG (abuild T Y_Reach [(0, (.int .i64 n21)), (1, (.int .i64 n22))]) fun g23 => RdL (absl T Y_s_Reach 1 [(0, (.agg g23))]) fun g24 => NewQ (.cells g24 0 false) s18 fun l25 s26 => Bd2 (aappend T Y_s_Reach Y_s_Reach v16 (.slc (some (l25, 0)) 1 1 true) s26) fun v27 s28 => ∃ m', m' < m15 ∧ I13 m' [v27, (.int .i64 (IntKind.wrap .i64 (n17 + 1)))] s28)
 (R v16 s18)) ∧
 (RdI .i64 (alenB T Y_s_Hop a0 s5) fun n29 => LoopQ fun I30 m31 => I30 m31 [(.int .i64 0)] s5 ∧
 ∀ m32 : Nat, ∀ n33 : Int, ∀ s34 : AS, I30 m32 [(.int .i64 n33)] s34 →
 bsplit (decide ((n33 : Int) < n29))
 (IxQ (aindexAddr T Y_s_Hop a0 (.int .i64 n33)) fun l35 o36 => RdL (rdc s34 l35 o36 6) fun g37 => NewQ (.cells [.int .i64 0, .int .i64 0, .int .i64 0, .int .i64 0, .int .i64 0, .str []] 0 false) s34 fun l38 s39 => OkC (some 6) g37 (StQ (awr s39 l38 0 g37) fun s40 => RdI .i64 (rd1 s40 l38 2) fun n41 => ∃ n42 : Int, ∃ b43 : Bool, alookup T Y_m_int_int (.map (some l4)) (.int .i64 n41) true s40 = some (.tup [(.int .i64 n42), (.bool b43)]) ∧ (JoinQ fun J44 =>
 (∀ b45 : Bool, ∀ s46 : AS, J44 [(.bool b45)] s46 →
 bsplit b45
 (RdI .i64 (rd1 s46 l38 2) fun n47 => RdI .i64 (rd1 s46 l38 1) fun n48 => IxQ (aindexAddr T Y_s_Hop a0 (.int .i64 n3)) fun l49 o50 => RdI .i64 (rd1 s46 l49 (o50 + 1)) fun n51 => StQ (amapUpdate T Y_m_int_int (.map (some l4)) (.int .i64 n47) (.int .i64 (IntKind.wrap .i64 (n48 - n51))) s46) fun s52 => ∃ m', m' < m32 ∧ I30 m' [(.int .i64 (IntKind.wrap .i64 (n33 + 1)))] s52)
 (∃ m', m' < m32 ∧ I30 m' [(.int .i64 (IntKind.wrap .i64 (n33 + 1)))] s46)) ∧
 (RdI .i64 (rd1 s40 l38 0) fun n53 => bsplit ((n53 : Int) == 2) (bsplit (!b43) (RdI .i64 (rd1 s40 l38 2) fun n54 => IxQ (aindexAddr T Y_s_Hop a0 (.int .i64 n3)) fun l55 o56 => RdI .i64 (rd1 s40 l55 (o56 + 2)) fun n57 => J44 [(.bool ((n54 : Int) != n57))] s40) (J44 [(.bool false)] s40)) (J44 [(.bool false)] s40)))))
 (J6 [] s34))))
def A_trail_Spread : QA := (.seq .leaf (.seq .leaf (.seq (.seq .leaf (.cond (.seq .leaf .leaf) .leaf)) (.seq .leaf (.join [] [(6, 8), (16, 57)] (.seq .leaf (.wrap (.loop [(18, .int .i64)] [(6, 8), (18, 57)] (.seq .leaf (.seq (.cond .leaf .leaf) (.seq (.wrap (.seq .leaf (.seq .leaf (.join [(45, .bool)] [(29, 45)] (.draw 15) (.cond (.draw 11) .leaf))))) .leaf)))))) (.seq (.seq .leaf (.wrap (.loop [(2, .any), (62, .int .i64)] [(2, 2), (10, 10), (62, 74)] (.seq .leaf (.seq (.cond .leaf .leaf) (.seq (.wrap (.seq .leaf .leaf)) .leaf)))))) (.seq .leaf .leaf)))))))
theorem q_trail_Spread (a0 : AV) (s : AS) (R : AV → AS → Prop) (h : Q_trail_Spread a0 s R) : ACalls Tryd.prog F_trail_Spread [a0] s R :=
 ACalls.q (n := 76) (rs := [.tmp 2]) (A := A_trail_Spread) hT hmx Tryd.func12 (by kernel_rfl) rfl rfl rfl (by kernel_rfl) (by kernel_rfl) h
def Q_law24ifew (a0 : AV) (a1 : AV) (s : AS) (R : AV → AS → Prop) : Prop :=
 JoinQ fun J1 =>
 (∀ n2 : Int, ∀ s3 : AS, J1 [(.int .i64 n2)] s3 →
 JoinQ fun J4 =>
 (∀ n5 : Int, ∀ s6 : AS, J4 [(.int .i64 n5)] s6 →
 RdI .i64 (alenB T Y_s_Done a0 s6) fun n7 => bsplit (decide ((n7 : Int) ≤ 100)) (RdI .i64 (alenB T Y_s_Came a1 s6) fun n8 => bsplit (decide ((n8 : Int) ≤ 60)) (R (.bool (decide ((n5 : Int) ≤ 20000))) s6) (R (.bool false) s6)) (R (.bool false) s6)) ∧
 (LoopQ fun I9 m10 => I9 m10 [(.int .i64 n2), (.int .i64 0)] s3 ∧
 ∀ m11 : Nat, ∀ n12 : Int, ∀ n13 : Int, ∀ s14 : AS, I9 m11 [(.int .i64 n12), (.int .i64 n13)] s14 →
 RdI .i64 (alenB T Y_s_Came a1 s14) fun n15 => bsplit (decide ((n13 : Int) < n15)) (bsplit (decide ((n13 : Int) ≤ 60))
 (IxQ (aindexAddr T Y_s_Came a1 (.int .i64 n13)) fun l16 o17 => RdA (rd1 s14 l16 (o17 + 3)) fun v18 => RdI .i64 (alenB T Y_s_uint8 v18 s14) fun n19 => ∃ m', m' < m11 ∧ I9 m' [(.int .i64 (IntKind.wrap .i64 (n12 + n19))), (.int .i64 (IntKind.wrap .i64 (n13 + 1)))] s14)
 (J4 [(.int .i64 n12)] s14)) (J4 [(.int .i64 n12)] s14))) ∧
 (LoopQ fun I20 m21 => I20 m21 [(.int .i64 0), (.int .i64 0)] s ∧
 ∀ m22 : Nat, ∀ n23 : Int, ∀ n24 : Int, ∀ s25 : AS, I20 m22 [(.int .i64 n23), (.int .i64 n24)] s25 →
 RdI .i64 (alenB T Y_s_Done a0 s25) fun n26 => bsplit (decide ((n24 : Int) < n26)) (bsplit (decide ((n24 : Int) ≤ 100))
 (IxQ (aindexAddr T Y_s_Done a0 (.int .i64 n24)) fun l27 o28 => RdA (rd1 s25 l27 (o28 + 11)) fun v29 => RdI .i64 (alenB T Y_s_Event v29 s25) fun n30 => IxQ (aindexAddr T Y_s_Done a0 (.int .i64 n24)) fun l31 o32 => RdS (rd1 s25 l31 (o32 + 3)) fun x33 => RdI .i64 (alenB T Y_string (.str x33) s25) fun n34 => IxQ (aindexAddr T Y_s_Done a0 (.int .i64 n24)) fun l35 o36 => RdS (rd1 s25 l35 (o36 + 4)) fun x37 => RdI .i64 (alenB T Y_string (.str x37) s25) fun n38 => LoopQ fun I39 m40 => I39 m40 [(.int .i64 0)] s25 ∧
 ∀ m41 : Nat, ∀ n42 : Int, ∀ s43 : AS, I39 m41 [(.int .i64 n42)] s43 →
 IxQ (aindexAddr T Y_s_Done a0 (.int .i64 n24)) fun l44 o45 => RdA (rd1 s43 l44 (o45 + 11)) fun v46 => RdI .i64 (alenB T Y_s_Event v46 s43) fun n47 => bsplit (decide ((n42 : Int) < n47)) (bsplit (decide ((n42 : Int) ≤ 20))
 (IxQ (aindexAddr T Y_s_Done a0 (.int .i64 n24)) fun l48 o49 => RdA (rd1 s43 l48 (o49 + 11)) fun v50 => IxQ (aindexAddr T Y_s_Event v50 (.int .i64 n42)) fun l51 o52 => RdL (rdc s43 l51 o52 21) fun g53 => ACalls Tryd.prog F_ref09iMuch [(.agg g53)] s43 fun v54 s55 => ∃ b56 : Bool, v54 = .bool b56 ∧ (bsplit b56
 (R (.bool false) s55)
 (∃ m', m' < m41 ∧ I39 m' [(.int .i64 (IntKind.wrap .i64 (n42 + 1)))] s55)))
 (∃ m', m' < m22 ∧ I20 m' [(.int .i64 (IntKind.wrap .i64 ((IntKind.wrap .i64 ((IntKind.wrap .i64 (n23 + (IntKind.wrap .i64 (20 * n30)))) + n34)) + n38))), (.int .i64 (IntKind.wrap .i64 (n24 + 1)))] s43)) (∃ m', m' < m22 ∧ I20 m' [(.int .i64 (IntKind.wrap .i64 ((IntKind.wrap .i64 ((IntKind.wrap .i64 (n23 + (IntKind.wrap .i64 (20 * n30)))) + n34)) + n38))), (.int .i64 (IntKind.wrap .i64 (n24 + 1)))] s43))
 (J1 [(.int .i64 n23)] s25)) (J1 [(.int .i64 n23)] s25))
def A_law24ifew : QA := (.seq .leaf (.seq .leaf (.join [(5, .int .i64)] [(4, 7), (9, 69)] (.seq .leaf (.wrap (.loop [(5, .int .i64), (6, .int .i64)] [(4, 7), (9, 69)] (.seq (.seq .leaf (.cond .leaf .leaf)) (.seq (.wrap (.seq (.draw 25) (.seq .leaf (.wrap (.loop [(7, .int .i64)] [(4, 4), (7, 7), (45, 69)] (.seq (.seq .leaf (.cond .leaf .leaf)) (.seq (.wrap (.seq .leaf (.cond (.seq .leaf .leaf) .leaf))) .leaf))))))) .leaf))))) (.join [(5, .int .i64)] [(5, 5), (8, 8), (70, 87)] (.seq .leaf (.wrap (.loop [(5, .int .i64), (8, .int .i64)] [(5, 5), (8, 8), (70, 87)] (.seq (.seq .leaf (.cond .leaf .leaf)) (.seq (.wrap .leaf) .leaf))))) (.seq .leaf .leaf)))))
theorem q_law24ifew (a0 : AV) (a1 : AV) (s : AS) (R : AV → AS → Prop) (h : Q_law24ifew a0 a1 s R) : ACalls Tryd.prog F_law24ifew [a0, a1] s R :=
 ACalls.q (n := 100) (rs := [.tmp 4]) (A := A_law24ifew) hT hmx Tryd.func14 (by kernel_rfl) rfl rfl rfl (by kernel_rfl) (by kernel_rfl) h
def Q_law24isameTallies (a0 : AV) (a1 : AV) (s : AS) (R : AV → AS → Prop) : Prop :=
 RdI .i64 (alenB T Y_s_Tally a0 s) fun n1 => RdI .i64 (alenB T Y_s_Tally a1 s) fun n2 => bsplit ((n1 : Int) != n2)
 (R (.bool false) s)
 (LoopQ fun I3 m4 => I3 m4 [(.int .i64 0)] s ∧
 ∀ m5 : Nat, ∀ n6 : Int, ∀ s7 : AS, I3 m5 [(.int .i64 n6)] s7 →
 RdI .i64 (alenB T Y_s_Tally a0 s7) fun n8 => bsplit (decide ((n6 : Int) < n8))
 (IxQ (aindexAddr T Y_s_Tally a0 (.int .i64 n6)) fun l9 o10 => RdL (rdc s7 l9 o10 6) fun g11 => IxQ (aindexAddr T Y_s_Tally a1 (.int .i64 n6)) fun l12 o13 => RdL (rdc s7 l12 o13 6) fun g14 => RdO (aeq T 100 Y_Tally (.agg g11) (.agg g14)) fun b15 => bsplit (!b15)
 (R (.bool false) s7)
 (∃ m', m' < m5 ∧ I3 m' [(.int .i64 (IntKind.wrap .i64 (n6 + 1)))] s7))
 (R (.bool true) s7))
def A_law24isameTallies : QA := (.seq .leaf (.seq (.seq .leaf (.cond (.seq .leaf .leaf) .leaf)) (.seq (.seq .leaf (.wrap (.loop [(5, .int .i64)] [(4, 5), (11, 25)] (.seq (.seq .leaf (.cond .leaf .leaf)) (.seq (.wrap (.seq (.draw 8) (.cond (.seq .leaf .leaf) .leaf))) .leaf))))) (.seq .leaf .leaf))))
theorem q_law24isameTallies (a0 : AV) (a1 : AV) (s : AS) (R : AV → AS → Prop) (h : Q_law24isameTallies a0 a1 s R) : ACalls Tryd.prog F_law24isameTallies [a0, a1] s R :=
 ACalls.q (n := 26) (rs := [.tmp 4]) (A := A_law24isameTallies) hT hmx Tryd.func17 (by kernel_rfl) rfl rfl rfl (by kernel_rfl) (by kernel_rfl) h
def Q_trail_line (a0 : List AV) (s : AS) (R : AV → AS → Prop) : Prop :=
 One1 a0 (NewQ (.cells a0 0 false) s fun l1 s2 => RdI .i64 (rd1 s2 l1 1) fun n3 => ACalls Tryd.prog F_strconv_Itoa [(.int .i64 n3)] s2 fun v4 s5 => ∃ x6 : List UInt8, v4 = .str x6 ∧ (LenOk (List.length x6 + List.length ([32])) (JoinQ fun J7 =>
 (∀ s8 : AS, J7 [] s8 →
 LenOk (List.length (x6 ++ ([32])) + List.length ([63])) (R (.str ((x6 ++ ([32])) ++ ([63]))) s8)) ∧
 (RdI .i64 (rd1 s5 l1 0) fun n9 => JoinQ fun J10 =>
 (∀ x11 : List UInt8, ∀ s12 : AS, J10 [(.str x11)] s12 →
 JoinQ fun J13 =>
 (∀ x14 : List UInt8, ∀ s15 : AS, J13 [(.str x14)] s15 →
 DrawQ fun S V => LenOk (List.length (x6 ++ ([32])) + List.length x14) (RdI .i64 (rd1 s15 l1 2) fun n16 => (∀ s17 : AS, Ext s15 s17 → WFs s17 → (True) → ACalls Tryd.prog F_strconv_Itoa [(.int .i64 n16)] s17 fun v18 s19 => ∃ x20 : List UInt8, v18 = .str x20 ∧ ((Ext s17 s19 ∧ S 5 [(.func F_strconv_Itoa []), (.int .i64 n16)] (.str x20) s19 ∧ V 5 [(.func F_strconv_Itoa []), (.int .i64 n16)] (.str x20)))) ∧ (∃ v, V 5 [(.func F_strconv_Itoa []), (.int .i64 n16)] v) ∧ ∀ v21 : AV, V 5 [(.func F_strconv_Itoa []), (.int .i64 n16)] v21 → ∃ x22 : List UInt8, v21 = .str x22 ∧ (LenOk (List.length ((x6 ++ ([32])) ++ x14) + List.length x22) (LenOk (List.length (((x6 ++ ([32])) ++ x14) ++ x22) + List.length ([32])) (RdI .i64 (rd1 s15 l1 3) fun n23 => (∀ s24 : AS, Ext s15 s24 → WFs s24 → (S 5 [(.func F_strconv_Itoa []), (.int .i64 n16)] (.str x22) s24 ∧ True) → ACalls Tryd.prog F_strconv_Itoa [(.int .i64 n23)] s24 fun v25 s26 => ∃ x27 : List UInt8, v25 = .str x27 ∧ ((Ext s24 s26 ∧ S 10 [(.func F_strconv_Itoa []), (.int .i64 n23)] (.str x27) s26 ∧ V 10 [(.func F_strconv_Itoa []), (.int .i64 n23)] (.str x27)))) ∧ (∃ v, V 10 [(.func F_strconv_Itoa []), (.int .i64 n23)] v) ∧ ∀ v28 : AV, V 10 [(.func F_strconv_Itoa []), (.int .i64 n23)] v28 → ∃ x29 : List UInt8, v28 = .str x29 ∧ (LenOk (List.length ((((x6 ++ ([32])) ++ x14) ++ x22) ++ ([32])) + List.length x29) (∀ s30 : AS, Ext s15 s30 → WFs s30 → (S 5 [(.func F_strconv_Itoa []), (.int .i64 n16)] (.str x22) s30 ∧ (S 10 [(.func F_strconv_Itoa []), (.int .i64 n23)] (.str x29) s30 ∧ True)) → LenOk (List.length (((((x6 ++ ([32])) ++ x14) ++ x22) ++ ([32])) ++ x29) + List.length x11) (R (.str ((((((x6 ++ ([32])) ++ x14) ++ x22) ++ ([32])) ++ x29) ++ x11)) s30)))))))) ∧
 (bsplit (!((x11 : List UInt8) == ([])))
 (J13 [(.str ([114, 101, 102, 117, 115, 101, 100, 32]))] s12)
 (J13 [(.str ([99, 97, 109, 101, 32]))] s12))) ∧
 (JoinQ fun J32 =>
 (∀ s33 : AS, J32 [] s33 →
 RdI .i64 (rd1 s33 l1 4) fun n34 => ACalls Tryd.prog F_strconv_Itoa [(.int .i64 n34)] s33 fun v35 s36 => ∃ x37 : List UInt8, v35 = .str x37 ∧ (LenOk (List.length ([32]) + List.length x37) (J10 [(.str (([32]) ++ x37))] s36))) ∧
 (JoinQ fun J38 =>
 (∀ s39 : AS, J38 [] s39 →
 DrawQ fun S V => LenOk (List.length (x6 ++ ([32])) + List.length ([112, 111, 108, 108, 101, 100, 32])) (RdI .i64 (rd1 s39 l1 2) fun n40 => (∀ s41 : AS, Ext s39 s41 → WFs s41 → (True) → ACalls Tryd.prog F_strconv_Itoa [(.int .i64 n40)] s41 fun v42 s43 => ∃ x44 : List UInt8, v42 = .str x44 ∧ ((Ext s41 s43 ∧ S 4 [(.func F_strconv_Itoa []), (.int .i64 n40)] (.str x44) s43 ∧ V 4 [(.func F_strconv_Itoa []), (.int .i64 n40)] (.str x44)))) ∧ (∃ v, V 4 [(.func F_strconv_Itoa []), (.int .i64 n40)] v) ∧ ∀ v45 : AV, V 4 [(.func F_strconv_Itoa []), (.int .i64 n40)] v45 → ∃ x46 : List UInt8, v45 = .str x46 ∧ (LenOk (List.length ((x6 ++ ([32])) ++ ([112, 111, 108, 108, 101, 100, 32])) + List.length x46) (LenOk (List.length (((x6 ++ ([32])) ++ ([112, 111, 108, 108, 101, 100, 32])) ++ x46) + List.length ([32])) (RdS (rd1 s39 l1 5) fun x47 => ∀ s48 : AS, Ext s39 s48 → WFs s48 → (S 4 [(.func F_strconv_Itoa []), (.int .i64 n40)] (.str x46) s48 ∧ True) → LenOk (List.length ((((x6 ++ ([32])) ++ ([112, 111, 108, 108, 101, 100, 32])) ++ x46) ++ ([32])) + List.length x47) (R (.str (((((x6 ++ ([32])) ++ ([112, 111, 108, 108, 101, 100, 32])) ++ x46) ++ ([32])) ++ x47)) s48)))))) ∧
 (JoinQ fun J50 =>
 (∀ s51 : AS, J50 [] s51 →
 LenOk (List.length (x6 ++ ([32])) + List.length ([112, 117, 98, 108, 105, 115, 104, 101, 100, 32])) (RdI .i64 (rd1 s51 l1 2) fun n52 => ACalls Tryd.prog F_strconv_Itoa [(.int .i64 n52)] s51 fun v53 s54 => ∃ x55 : List UInt8, v53 = .str x55 ∧ (LenOk (List.length ((x6 ++ ([32])) ++ ([112, 117, 98, 108, 105, 115, 104, 101, 100, 32])) + List.length x55) (R (.str (((x6 ++ ([32])) ++ ([112, 117, 98, 108, 105, 115, 104, 101, 100, 32])) ++ x55)) s54)))) ∧
 (bsplit ((n9 : Int) == 1)
 (J50 [] s5)
 (bsplit ((n9 : Int) == 4)
 (J38 [] s5)
 (bsplit ((n9 : Int) == 3)
 (J32 [] s5)
 (bsplit ((n9 : Int) == 2)
 (J10 [(.str ([]))] s5)
 (J7 [] s5))))))))))))
def A_trail_line : QA := (.seq .leaf (.seq .leaf (.seq .leaf (.join [] [(2, 2), (4, 5), (10, 55)] (.seq .leaf (.wrap (.join [(4, .str)] [(2, 2), (4, 4), (12, 39)] (.wrap (.join [] [(2, 2), (12, 35)] (.wrap (.join [] [(2, 2), (12, 25)] (.wrap (.join [] [(12, 19)] (.wrap (.seq (.seq (.seq .leaf (.cond .leaf .leaf)) (.seq (.seq .leaf (.cond .leaf .leaf)) (.seq (.seq .leaf (.cond .leaf .leaf)) (.seq .leaf (.cond .leaf .leaf))))) .leaf)) (.seq (.seq .leaf .leaf) .leaf))) (.seq (.seq (.drawH 9 [[], [], [], [], [], [], [], [], []] [4]) .leaf) .leaf))) .leaf)) (.seq (.seq .leaf (.join [(5, .str)] [(5, 5), (40, 41)] (.seq .leaf (.cond .leaf .leaf)) (.seq (.drawH 13 [[], [], [], [], [], [], [], [], [], [], [5], [], []] [5, 10]) .leaf))) .leaf)))) (.seq .leaf .leaf)))))
theorem q_trail_line (a0 : List AV) (s : AS) (R : AV → AS → Prop) (h : Q_trail_line a0 s R) : ACalls Tryd.prog F_trail_line [(.agg a0)] s R :=
 ACalls.q (n := 58) (rs := [.tmp 2]) (A := A_trail_line) hT hmx Tryd.func19 (by kernel_rfl) rfl rfl rfl (by kernel_rfl) (by kernel_rfl) h
def Q_slices_IndexFunc__s_Hop_Hop (a0 : AV) (a1 : AV) (s : AS) (R : AV → AS → Prop) : Prop :=
 RdI .i64 (alenB T Y_s_Hop a0 s) fun n1 => LoopQ fun I2 m3 => I2 m3 [(.int .i64 0)] s ∧
 ∀ m4 : Nat, ∀ n5 : Int, ∀ s6 : AS, I2 m4 [(.int .i64 n5)] s6 →
 bsplit (decide ((n5 : Int) < n1))
 (IxQ (aindexAddr T Y_s_Hop a0 (.int .i64 n5)) fun l7 o8 => RdL (rdc s6 l7 o8 6) fun g9 => ACallV Tryd.prog a1 [(.agg g9)] s6 fun v10 s11 => ∃ b12 : Bool, v10 = .bool b12 ∧ (bsplit b12
 (R (.int .i64 n5) s11)
 (∃ m', m' < m4 ∧ I2 m' [(.int .i64 (IntKind.wrap .i64 (n5 + 1)))] s11)))
 (R (.int .i64 (-1)) s6)
def A_slices_IndexFunc__s_Hop_Hop : QA := (.seq .leaf (.seq (.seq .leaf (.wrap (.loop [(8, .int .i64)] [(4, 5), (8, 18)] (.seq .leaf (.seq (.cond .leaf .leaf) (.seq (.wrap (.seq .leaf (.seq .leaf (.cond (.seq .leaf .leaf) .leaf)))) .leaf)))))) (.seq .leaf .leaf)))
theorem q_slices_IndexFunc__s_Hop_Hop (a0 : AV) (a1 : AV) (s : AS) (R : AV → AS → Prop) (h : Q_slices_IndexFunc__s_Hop_Hop a0 a1 s R) : ACalls Tryd.prog F_slices_IndexFunc__s_Hop_Hop [a0, a1] s R :=
 ACalls.q (n := 19) (rs := [.tmp 4]) (A := A_slices_IndexFunc__s_Hop_Hop) hT hmx Tryd.func21 (by kernel_rfl) rfl rfl rfl (by kernel_rfl) (by kernel_rfl) h
def Q_trail_Spread_1 (a0 : List AV) (s : AS) (R : AV → AS → Prop) : Prop :=
 One1 a0 (NewQ (.cells a0 0 false) s fun l1 s2 => RdI .i64 (rd1 s2 l1 0) fun n3 => R (.bool ((n3 : Int) == 1)) s2)
def A_trail_Spread_1 : QA := (.seq .leaf (.seq .leaf .leaf))
theorem q_trail_Spread_1 (a0 : List AV) (s : AS) (R : AV → AS → Prop) (h : Q_trail_Spread_1 a0 s R) : ACalls Tryd.prog F_trail_Spread_1 [(.agg a0)] s R :=
 ACalls.q (n := 6) (rs := [.tmp 2]) (A := A_trail_Spread_1) hT hmx Tryd.func23 (by kernel_rfl) rfl rfl rfl (by kernel_rfl) (by kernel_rfl) h
def Q_slices_Sorted__int (a0 : AV) (s : AS) (R : AV → AS → Prop) : Prop :=
 ACalls Tryd.prog F_slices_Collect__int [a0] s fun v1 s2 => ACalls Tryd.prog F_slices_Sort__s_int_int [v1] s2 fun v3 s4 => v3 = .tup [] ∧ (R v1 s4)
def A_slices_Sorted__int : QA := (.seq .leaf (.seq .leaf (.seq .leaf (.seq .leaf .leaf))))
theorem q_slices_Sorted__int (a0 : AV) (s : AS) (R : AV → AS → Prop) (h : Q_slices_Sorted__int a0 s R) : ACalls Tryd.prog F_slices_Sorted__int [a0] s R :=
 ACalls.q (n := 9) (rs := [.tmp 2]) (A := A_slices_Sorted__int) hT hmx Tryd.func24 (by kernel_rfl) rfl rfl rfl (by kernel_rfl) (by kernel_rfl) h
def Q_maps_Keys__m_int_int_int_int (a0 : Option Nat) (s : AS) (R : AV → AS → Prop) : Prop :=
 NewQ (.cells [(.map a0)] 0 false) s fun l1 s2 => R (.func F_maps_Keys__m_int_int_int_int_1 [(.ptr (some (l1, 0)))]) s2
def A_maps_Keys__m_int_int_int_int : QA := (.seq .leaf (.seq .leaf .leaf))
theorem q_maps_Keys__m_int_int_int_int (a0 : Option Nat) (s : AS) (R : AV → AS → Prop) (h : Q_maps_Keys__m_int_int_int_int a0 s R) : ACalls Tryd.prog F_maps_Keys__m_int_int_int_int [(.map a0)] s R :=
 ACalls.q (n := 4) (rs := [.tmp 2]) (A := A_maps_Keys__m_int_int_int_int) hT hmx Tryd.func25 (by kernel_rfl) rfl rfl rfl (by kernel_rfl) (by kernel_rfl) h
def Q_strconv_Itoa (a0 : Int) (s : AS) (R : AV → AS → Prop) : Prop :=
 ACalls Tryd.prog F_internal_strconv_Itoa [(.int .i64 a0)] s fun v1 s2 => ∃ x3 : List UInt8, v1 = .str x3 ∧ (R (.str x3) s2)
def A_strconv_Itoa : QA := (.seq .leaf (.seq .leaf .leaf))
theorem q_strconv_Itoa (a0 : Int) (s : AS) (R : AV → AS → Prop) (h : Q_strconv_Itoa a0 s R) : ACalls Tryd.prog F_strconv_Itoa [(.int .i64 a0)] s R :=
 ACalls.q (n := 5) (rs := [.tmp 2]) (A := A_strconv_Itoa) hT hmx Tryd.func31 (by kernel_rfl) rfl rfl rfl (by kernel_rfl) (by kernel_rfl) h
def Q_slices_Collect__int (a0 : AV) (s : AS) (R : AV → AS → Prop) : Prop :=
 ACalls Tryd.prog F_slices_AppendSeq__s_int_int [(.slc none 0 0 true), a0] s fun v1 s2 => R v1 s2
def A_slices_Collect__int : QA := (.seq .leaf (.seq .leaf .leaf))
theorem q_slices_Collect__int (a0 : AV) (s : AS) (R : AV → AS → Prop) (h : Q_slices_Collect__int a0 s R) : ACalls Tryd.prog F_slices_Collect__int [a0] s R :=
 ACalls.q (n := 5) (rs := [.tmp 2]) (A := A_slices_Collect__int) hT hmx Tryd.func33 (by kernel_rfl) rfl rfl rfl (by kernel_rfl) (by kernel_rfl) h
def Q_internal_strconv_Itoa (a0 : Int) (s : AS) (R : AV → AS → Prop) : Prop :=
 ACalls Tryd.prog F_internal_strconv_FormatInt [(.int .i64 a0), (.int .i64 10)] s fun v1 s2 => ∃ x3 : List UInt8, v1 = .str x3 ∧ (R (.str x3) s2)
def A_internal_strconv_Itoa : QA := (.seq .leaf (.seq .leaf .leaf))
theorem q_internal_strconv_Itoa (a0 : Int) (s : AS) (R : AV → AS → Prop) (h : Q_internal_strconv_Itoa a0 s R) : ACalls Tryd.prog F_internal_strconv_Itoa [(.int .i64 a0)] s R :=
 ACalls.q (n := 5) (rs := [.tmp 2]) (A := A_internal_strconv_Itoa) hT hmx Tryd.func39 (by kernel_rfl) rfl rfl rfl (by kernel_rfl) (by kernel_rfl) h
def Q_internal_strconv_FormatInt (a0 : Int) (a1 : Int) (s : AS) (R : AV → AS → Prop) : Prop :=
 bsplit ((a1 : Int) == 10)
 (JoinQ fun J1 =>
 (∀ b2 : Bool, ∀ s3 : AS, J1 [(.bool b2)] s3 →
 bsplit b2
 (ACalls Tryd.prog F_internal_strconv_small [(.int .i64 a0)] s3 fun v4 s5 => ∃ x6 : List UInt8, v4 = .str x6 ∧ (R (.str x6) s5))
 (NewQ (.cells [.int .u8 0, .int .u8 0, .int .u8 0, .int .u8 0, .int .u8 0, .int .u8 0, .int .u8 0, .int .u8 0, .int .u8 0, .int .u8 0, .int .u8 0, .int .u8 0, .int .u8 0, .int .u8 0, .int .u8 0, .int .u8 0, .int .u8 0, .int .u8 0, .int .u8 0, .int .u8 0, .int .u8 0, .int .u8 0, .int .u8 0, .int .u8 0] 0 false) s3 fun l7 s8 => JoinQ fun J9 =>
 (∀ n10 : Int, ∀ s11 : AS, J9 [(.int .u64 n10)] s11 →
 ACalls Tryd.prog F_internal_strconv_numDigits [(.int .u64 n10)] s11 fun v12 s13 => ∃ n14 : Int, v12 = .int .i64 n14 ∧ (RdA (aslice T Y_a24iuint8 (.ptr (some (l7, 0))) (some (.int .i64 1)) (some (.int .i64 (IntKind.wrap .i64 (1 + n14)))) none) fun v15 => ACalls Tryd.prog F_internal_strconv_formatBase10 [v15, (.int .u64 n10)] s13 fun v16 s17 => v16 = .tup [] ∧ (bsplit (decide ((a0 : Int) < 0))
 (IxQ (aindexAddr T Y_a24iuint8 (.ptr (some (l7, 0))) (.int .i64 0)) fun l18 o19 => StQ (awr s17 l18 o19 [(.int .u8 45)]) fun s20 => RdA (aslice T Y_a24iuint8 (.ptr (some (l7, 0))) none (some (.int .i64 (IntKind.wrap .i64 (1 + n14)))) none) fun v21 => RdS ((aconvert T Y_s_uint8 Y_string v21 s20).map (·.1)) fun x22 => R (.str x22) s20)
 (RdA (aslice T Y_a24iuint8 (.ptr (some (l7, 0))) (some (.int .i64 1)) (some (.int .i64 (IntKind.wrap .i64 (1 + n14)))) none) fun v23 => RdS ((aconvert T Y_s_uint8 Y_string v23 s17).map (·.1)) fun x24 => R (.str x24) s17)))) ∧
 (bsplit (decide ((a0 : Int) < 0))
 (J9 [(.int .u64 (IntKind.wrap .u64 (0 - (IntKind.wrap .u64 a0))))] s8)
 (J9 [(.int .u64 (IntKind.wrap .u64 a0))] s8)))) ∧
 (bsplit (decide ((0 : Int) ≤ a0)) (J1 [(.bool (decide ((a0 : Int) < 100)))] s) (J1 [(.bool false)] s)))
 (ACalls Tryd.prog F_internal_strconv_formatBits [(.slc none 0 0 true), (.int .u64 (IntKind.wrap .u64 a0)), (.int .i64 a1), (.bool (decide ((a0 : Int) < 0))), (.bool false)] s fun v25 s26 => ∃ v27 : AV, ∃ x28 : List UInt8, v25 = .tup [v27, (.str x28)] ∧ (R (.str x28) s26))
def A_internal_strconv_FormatInt : QA := (.seq .leaf (.seq (.seq .leaf (.cond (.seq (.join [(17, .bool)] [(12, 17)] .leaf (.cond (.seq .leaf .leaf) .leaf)) (.seq .leaf (.seq .leaf (.join [(6, .int .u64)] [(6, 6), (22, 25)] (.seq .leaf (.cond .leaf .leaf)) (.seq .leaf (.seq .leaf (.seq (.seq .leaf (.cond (.seq .leaf (.seq .leaf .leaf)) .leaf)) (.seq .leaf .leaf)))))))) .leaf)) (.seq .leaf (.seq .leaf .leaf))))
theorem q_internal_strconv_FormatInt (a0 : Int) (a1 : Int) (s : AS) (R : AV → AS → Prop) (h : Q_internal_strconv_FormatInt a0 a1 s R) : ACalls Tryd.prog F_internal_strconv_FormatInt [(.int .i64 a0), (.int .i64 a1)] s R :=
 ACalls.q (n := 54) (rs := [.tmp 4]) (A := A_internal_strconv_FormatInt) hT hmx Tryd.func46 (by kernel_rfl) rfl rfl rfl (by kernel_rfl) (by kernel_rfl) h
def Q_internal_strconv_small (a0 : Int) (s : AS) (R : AV → AS → Prop) : Prop :=
 bsplit (decide ((a0 : Int) < 10))
 (RdS (aslice T Y_string (.str ([48, 49, 50, 51, 52, 53, 54, 55, 56, 57, 97, 98, 99, 100, 101, 102, 103, 104, 105, 106, 107, 108, 109, 110, 111, 112, 113, 114, 115, 116, 117, 118, 119, 120, 121, 122])) (some (.int .i64 a0)) (some (.int .i64 (IntKind.wrap .i64 (a0 + 1)))) none) fun x1 => R (.str x1) s)
 (RdS (aslice T Y_string (.str ([48, 48, 48, 49, 48, 50, 48, 51, 48, 52, 48, 53, 48, 54, 48, 55, 48, 56, 48, 57, 49, 48, 49, 49, 49, 50, 49, 51, 49, 52, 49, 53, 49, 54, 49, 55, 49, 56, 49, 57, 50, 48, 50, 49, 50, 50, 50, 51, 50, 52, 50, 53, 50, 54, 50, 55, 50, 56, 50, 57, 51, 48, 51, 49, 51, 50, 51, 51, 51, 52, 51, 53, 51, 54, 51, 55, 51, 56, 51, 57, 52, 48, 52, 49, 52, 50, 52, 51, 52, 52, 52, 53, 52, 54, 52, 55, 52, 56, 52, 57, 53, 48, 53, 49, 53, 50, 53, 51, 53, 52, 53, 53, 53, 54, 53, 55, 53, 56, 53, 57, 54, 48, 54, 49, 54, 50, 54, 51, 54, 52, 54, 53, 54, 54, 54, 55, 54, 56, 54, 57, 55, 48, 55, 49, 55, 50, 55, 51, 55, 52, 55, 53, 55, 54, 55, 55, 55, 56, 55, 57, 56, 48, 56, 49, 56, 50, 56, 51, 56, 52, 56, 53, 56, 54, 56, 55, 56, 56, 56, 57, 57, 48, 57, 49, 57, 50, 57, 51, 57, 52, 57, 53, 57, 54, 57, 55, 57, 56, 57, 57])) (some (.int .i64 (IntKind.wrap .i64 (a0 * 2)))) (some (.int .i64 (IntKind.wrap .i64 ((IntKind.wrap .i64 (a0 * 2)) + 2)))) none) fun x2 => R (.str x2) s)
def A_internal_strconv_small : QA := (.seq .leaf (.seq (.seq .leaf (.cond (.seq .leaf .leaf) .leaf)) (.seq .leaf .leaf)))
theorem q_internal_strconv_small (a0 : Int) (s : AS) (R : AV → AS → Prop) (h : Q_internal_strconv_small a0 s R) : ACalls Tryd.prog F_internal_strconv_small [(.int .i64 a0)] s R :=
 ACalls.q (n := 15) (rs := [.tmp 2]) (A := A_internal_strconv_small) hT hmx Tryd.func60 (by kernel_rfl) rfl rfl rfl (by kernel_rfl) (by kernel_rfl) h
def Q_slices_Sorted__string (a0 : AV) (s : AS) (R : AV → AS → Prop) : Prop :=
 ACalls Tryd.prog F_slices_Collect__string [a0] s fun v1 s2 => ACalls Tryd.prog F_slices_Sort__s_string_string [v1] s2 fun v3 s4 => v3 = .tup [] ∧ (R v1 s4)
def A_slices_Sorted__string : QA := (.seq .leaf (.seq .leaf (.seq .leaf (.seq .leaf .leaf))))
theorem q_slices_Sorted__string (a0 : AV) (s : AS) (R : AV → AS → Prop) (h : Q_slices_Sorted__string a0 s R) : ACalls Tryd.prog F_slices_Sorted__string [a0] s R :=
 ACalls.q (n := 9) (rs := [.tmp 2]) (A := A_slices_Sorted__string) hT hmx Tryd.func37 (by kernel_rfl) rfl rfl rfl (by kernel_rfl) (by kernel_rfl) h
def Q_maps_Keys__m_string_p_Tally_string_p_Tally (a0 : Option Nat) (s : AS) (R : AV → AS → Prop) : Prop :=
 NewQ (.cells [(.map a0)] 0 false) s fun l1 s2 => R (.func F_maps_Keys__m_string_p_Tally_string_p_Tally_1 [(.ptr (some (l1, 0)))]) s2
def A_maps_Keys__m_string_p_Tally_string_p_Tally : QA := (.seq .leaf (.seq .leaf .leaf))
theorem q_maps_Keys__m_string_p_Tally_string_p_Tally (a0 : Option Nat) (s : AS) (R : AV → AS → Prop) (h : Q_maps_Keys__m_string_p_Tally_string_p_Tally a0 s R) : ACalls Tryd.prog F_maps_Keys__m_string_p_Tally_string_p_Tally [(.map a0)] s R :=
 ACalls.q (n := 4) (rs := [.tmp 2]) (A := A_maps_Keys__m_string_p_Tally_string_p_Tally) hT hmx Tryd.func38 (by kernel_rfl) rfl rfl rfl (by kernel_rfl) (by kernel_rfl) h
def Q_slices_Collect__string (a0 : AV) (s : AS) (R : AV → AS → Prop) : Prop :=
 ACalls Tryd.prog F_slices_AppendSeq__s_string_string [(.slc none 0 0 true), a0] s fun v1 s2 => R v1 s2
def A_slices_Collect__string : QA := (.seq .leaf (.seq .leaf .leaf))
theorem q_slices_Collect__string (a0 : AV) (s : AS) (R : AV → AS → Prop) (h : Q_slices_Collect__string a0 s R) : ACalls Tryd.prog F_slices_Collect__string [a0] s R :=
 ACalls.q (n := 5) (rs := [.tmp 2]) (A := A_slices_Collect__string) hT hmx Tryd.func43 (by kernel_rfl) rfl rfl rfl (by kernel_rfl) (by kernel_rfl) h
def Q_cmp_Less__int (a0 : Int) (a1 : Int) (s : AS) (R : AV → AS → Prop) : Prop :=
 ACalls Tryd.prog F_cmp_isNaN__int [(.int .i64 a0)] s fun v1 s2 => ∃ b3 : Bool, v1 = .bool b3 ∧ (bsplit b3 (ACalls Tryd.prog F_cmp_isNaN__int [(.int .i64 a1)] s2 fun v4 s5 => ∃ b6 : Bool, v4 = .bool b6 ∧ (bsplit (!b6) (R (.bool true) s5) (R (.bool (decide ((a0 : Int) < a1))) s5))) (R (.bool (decide ((a0 : Int) < a1))) s2))
def A_cmp_Less__int : QA := (.seq .leaf (.seq .leaf .leaf))
theorem q_cmp_Less__int (a0 : Int) (a1 : Int) (s : AS) (R : AV → AS → Prop) (h : Q_cmp_Less__int a0 a1 s R) : ACalls Tryd.prog F_cmp_Less__int [(.int .i64 a0), (.int .i64 a1)] s R :=
 ACalls.q (n := 17) (rs := [.tmp 4]) (A := A_cmp_Less__int) hT hmx Tryd.func53 (by kernel_rfl) rfl rfl rfl (by kernel_rfl) (by kernel_rfl) h
def Q_cmp_isNaN__int (a0 : Int) (s : AS) (R : AV → AS → Prop) : Prop :=
 R (.bool ((a0 : Int) != a0)) s
def A_cmp_isNaN__int : QA := (.seq .leaf (.seq .leaf .leaf))
theorem q_cmp_isNaN__int (a0 : Int) (s : AS) (R : AV → AS → Prop) (h : Q_cmp_isNaN__int a0 s R) : ACalls Tryd.prog F_cmp_isNaN__int [(.int .i64 a0)] s R :=
 ACalls.q (n := 6) (rs := [.tmp 2]) (A := A_cmp_isNaN__int) hT hmx Tryd.func69 (by kernel_rfl) rfl rfl rfl (by kernel_rfl) (by kernel_rfl) h
def Q_cmp_Less__string (a0 : List UInt8) (a1 : List UInt8) (s : AS) (R : AV → AS → Prop) : Prop :=
 ACalls Tryd.prog F_cmp_isNaN__string [(.str a0)] s fun v1 s2 => ∃ b3 : Bool, v1 = .bool b3 ∧ (bsplit b3 (ACalls Tryd.prog F_cmp_isNaN__string [(.str a1)] s2 fun v4 s5 => ∃ b6 : Bool, v4 = .bool b6 ∧ (bsplit (!b6) (R (.bool true) s5) (R (.bool (bytesLt a0 a1)) s5))) (R (.bool (bytesLt a0 a1)) s2))
def A_cmp_Less__string : QA := (.seq .leaf (.seq .leaf .leaf))
theorem q_cmp_Less__string (a0 : List UInt8) (a1 : List UInt8) (s : AS) (R : AV → AS → Prop) (h : Q_cmp_Less__string a0 a1 s R) : ACalls Tryd.prog F_cmp_Less__string [(.str a0), (.str a1)] s R :=
 ACalls.q (n := 17) (rs := [.tmp 4]) (A := A_cmp_Less__string) hT hmx Tryd.func76 (by kernel_rfl) rfl rfl rfl (by kernel_rfl) (by kernel_rfl) h
def Q_cmp_isNaN__string (a0 : List UInt8) (s : AS) (R : AV → AS → Prop) : Prop :=
 R (.bool (!((a0 : List UInt8) == a0))) s
def A_cmp_isNaN__string : QA := (.seq .leaf (.seq .leaf .leaf))
theorem q_cmp_isNaN__string (a0 : List UInt8) (s : AS) (R : AV → AS → Prop) (h : Q_cmp_isNaN__string a0 s R) : ACalls Tryd.prog F_cmp_isNaN__string [(.str a0)] s R :=
 ACalls.q (n := 6) (rs := [.tmp 2]) (A := A_cmp_isNaN__string) hT hmx Tryd.func87 (by kernel_rfl) rfl rfl rfl (by kernel_rfl) (by kernel_rfl) h
end Go.Proofs.YtblpmffajlkmjaaDoor
end

section
namespace Go.Proofs.YtblpmffajlkmjaaDoor
open Go.Am Go.Minster
end Go.Proofs.YtblpmffajlkmjaaDoor
end

section
namespace Go.Proofs.YtblpmffajlkmjaaDoor
open Go.Am Go.Minster
theorem sl_s_int : SlTy T Y_s_int Y_int 1 8 := ⟨u_s_int, z_int, b_int, ⟨_, _, zr_int, rfl, rfl⟩, by decide, by decide⟩
theorem wrap_i {n : Int} (h : 0 ≤ n ∧ n ≤ 4611686018427387904) : IntKind.wrap .i64 n = n := IntWalk.i64_in _ (by omega)
theorem wrap_i' {n : Int} (h : -4611686018427387904 ≤ n ∧ n ≤ 4611686018427387904) : IntKind.wrap .i64 n = n := IntWalk.i64_in _ (by omega)
theorem wrap_u {n : Int} (h : 0 ≤ n ∧ n ≤ 18446744073709551615) : IntKind.wrap .u64 n = n := IntWalk.u64_in _ (by omega)
end Go.Proofs.YtblpmffajlkmjaaDoor
end

section
namespace Go.Proofs.YtblpmffajlkmjaaDoor
open Go.Am Go.Minster
end Go.Proofs.YtblpmffajlkmjaaDoor
end

section
namespace Go.Proofs.YtblpmffajlkmjaaDoor.SO
open Go.Am Go.Minster.SG
variable {E : SE} [SQ E]
section
class LessOk (E : SE) : Prop where
 ok : ∀ (a b : El E.O) (s : AS), ACalls Tryd.prog E.F_Less [E.c a, E.c b] s fun v s' => v = .bool (decide (a.cmp b < 0)) ∧ Ext s s'
variable [LessOk E]
structure Arr (s : AS) (a : AV) (lo : Nat) (l : List (El E.O)) (rest : List AV) : Prop where
 val : ∃ c e, a = .slc (some (lo, 0)) l.length c e
 obj : ∃ g, s.h lo = some (.cells (l.map E.c ++ rest) g false)
section
variable {s : AS} {a : AV} {lo : Nat} {l : List (El E.O)} {rest : List AV}
theorem Arr.mut {L : List Nat} {s' : AS} (h : Arr s a lo l rest) (m : Mut L s s') (hL : lo ∉ L) : Arr s' a lo l rest := by
 obtain ⟨h1, g, h2⟩ := h
 exact ⟨h1, g, m.1 _ _ hL h2⟩
theorem Arr.ext {s' : AS} (h : Arr s a lo l rest) (e : Ext s s') : Arr s' a lo l rest := h.mut (L := []) e.mut (by simp)
theorem Arr.ix (h : Arr s a lo l rest) {i : Nat} (hi : i < l.length) : aindexAddr T E.ys a (.int .i64 (i : Nat)) = some (.ptr (some (lo, i * 1))) := by
 obtain ⟨⟨c, e, rfl⟩, _⟩ := h
 have : (0 : Int) ≤ (i : Int) ∧ (i : Int) < (l.length : Int) := by omega
 simp only [aindexAddr, E.us, E.zs, Option.bind_some]
 rw [if_pos this]
 simp
theorem Arr.rd (h : Arr s a lo l rest) {i : Nat} (hi : i < l.length) : rd1 s lo (i * 1) = some (E.c (el l i)) := by
 obtain ⟨_, g, h2⟩ := h
 have hat : At s lo (l.map E.c ++ rest) := ⟨_, _, h2⟩
 rw [Nat.mul_one, hat.rd1, List.getElem?_append_left (by simpa using hi), List.getElem?_map, el_get hi]
 rfl
theorem Arr.wr (h : Arr s a lo l rest) (hw : WFs s) {i : Nat} (hi : i < l.length) (x : El E.O) {K : AS → Prop} (hk : ∀ s', Arr s' a lo (l.set i x) rest → WFs s' → Mut [lo] s s' → K s') : StQ (awr s lo (i * 1) [E.c x]) K := by
 obtain ⟨h1, g, h2⟩ := h
 refine StQ.awr hw h2 (by rw [List.length_append, List.length_map]; simp; omega) fun s' P => hk s' ⟨?_, g, ?_⟩ P.wf P.mut
 ·rw [List.length_set]; exact h1
 ·rw [P.at]
  show some (AO.cells ((l.map E.c ++ rest).set (i * 1) (E.c x)) g false) = _
  rw [Nat.mul_one, List.set_append_left _ _ (by simpa using hi), List.map_set]
theorem Arr.swap (h : Arr s a lo l rest) (hw : WFs s) {i j : Nat} (hi : i < l.length) (hj : j < l.length) {K : AS → Prop} (hk : ∀ s', Arr s' a lo (swp l i j) rest → WFs s' → Mut [lo] s s' → K s') :
  IxQ (aindexAddr T E.ys a (.int .i64 (j : Nat))) fun l20 o21 => Rd1 E (rd1 s l20 o21) fun g22 => IxQ (aindexAddr T E.ys a (.int .i64 (i : Nat))) fun l23 o24 => Rd1 E (rd1 s l23 o24) fun g25 => IxQ (aindexAddr T E.ys a (.int .i64 (i : Nat))) fun l26 o27 => StQ (awr s l26 o27 [E.c g22]) fun s28 => IxQ (aindexAddr T E.ys a (.int .i64 (j : Nat))) fun l29 o30 => StQ (awr s28 l29 o30 [E.c g25]) fun s31 => K s31 :=
 ⟨_, _, h.ix hj, _, h.rd hj, _, _, h.ix hi, _, h.rd hi, _, _, h.ix hi, h.wr hw hi _ fun s1 h1 w1 m1 =>
  ⟨_, _, h1.ix (by simpa using hj), h1.wr w1 (by simpa using hj) _ fun s2 h2 w2 m2 => hk s2 h2 w2 (m1.trans m2)⟩⟩
theorem Arr.cmp (h : Arr s a lo l rest) {i j : Nat} (hi : i < l.length) (hj : j < l.length) {K : Bool → AS → Prop} (hk : ∀ s', Arr s' a lo l rest → WFs s' → Mut [lo] s s' → K (decide ((el l i).cmp (el l j) < 0)) s') :
  IxQ (aindexAddr T E.ys a (.int .i64 (i : Nat))) fun l11 o12 => Rd1 E (rd1 s l11 o12) fun g13 => IxQ (aindexAddr T E.ys a (.int .i64 (j : Nat))) fun l14 o15 => Rd1 E (rd1 s l14 o15) fun g16 => ACalls Tryd.prog E.F_Less [E.c g13, E.c g16] s fun v17 s18 => ∃ b19 : Bool, v17 = .bool b19 ∧ K b19 s18 := by
 refine ⟨_, _, h.ix hi, _, h.rd hi, _, _, h.ix hj, _, h.rd hj, ?_⟩
 refine ACalls.use (LessOk.ok (E := E) _ _ _) ?_
 rintro v s' ⟨rfl, e⟩ hw
 exact ⟨_, rfl, hk s' (h.ext e) hw e.mut⟩
end
theorem insSort_ok {s : AS} {a : AV} {lo : Nat} {l : List (El E.O)} {rest : List AV} {x y : Nat} (h : Arr s a lo l rest) (hxy : x ≤ y) (hy : y ≤ l.length) (hn : l.length ≤ 2 ^ 40) :
  ACalls Tryd.prog E.F_insertionSortOrdered [a, .int .i64 (x : Nat), .int .i64 (y : Nat)] s fun r s' => r = .tup [] ∧ ∃ l', Arr s' a lo l' rest ∧ Sw x y l l' ∧ Srt l' x y ∧ Mut [lo] s s' := by
 refine ACalls.pre fun hw => SQ.q_insertionSortOrdered _ _ _ _ _ ⟨fun m vs s' => ∃ (i : Nat) (l' : List (El E.O)), vs = [.int .i64 (i : Nat)] ∧ x + 1 ≤ i ∧ (i ≤ y ∨ i = x + 1) ∧ m = y - i ∧ Arr s' a lo l' rest ∧ WFs s' ∧ Sw x y l l' ∧ Srt l' x i ∧ Mut [lo] s s', y - (x + 1), ⟨x + 1, l, by rw [wrap_i (by omega)]; rfl, by omega, .inr rfl, rfl, h, hw, .refl _, fun p q h1 h2 h3 => by omega, Mut.refl _ _⟩, ?_⟩
 rintro m n s5 ⟨i, l1, hi, hxi, hiy, rfl, a5, w5, sw5, so5, m5⟩
 simp only [List.cons.injEq, AV.int.injEq, true_and, and_true] at hi
 subst hi
 have hl1 := sw5.len
 refine bsplit.dec (fun hlt => ?_) (fun hge => ⟨rfl, l1, a5, sw5, fun p q h1 h2 h3 => so5 p q h1 h2 (by omega), m5⟩)
 have fin : ∀ s' l', Arr s' a lo l' rest → WFs s' → Sw x y l l' → Srt l' x (i + 1) → Mut [lo] s s' → ∃ m', m' < y - i ∧ ∃ (k : Nat) (l' : List (El E.O)), [AV.int .i64 (IntKind.wrap .i64 ((i : Int) + 1))] = [.int .i64 (k : Nat)] ∧ x + 1 ≤ k ∧ (k ≤ y ∨ k = x + 1) ∧ m' = y - k ∧ Arr s' a lo l' rest ∧ WFs s' ∧ Sw x y l l' ∧ Srt l' x k ∧ Mut [lo] s s' :=
  fun s' l' h1 h2 h3 h4 h5 => ⟨y - (i + 1), by omega, i + 1, l', by rw [wrap_i (by omega)]; rfl, by omega, .inl (by omega), rfl, h1, h2, h3, h4, h5⟩
 refine ⟨fun m vs s' => ∃ (j : Nat) (l' : List (El E.O)), vs = [.int .i64 (j : Nat)] ∧ x ≤ j ∧ j ≤ i ∧ m = j - x ∧ Arr s' a lo l' rest ∧ WFs s' ∧ Sw x y l l' ∧ (∀ p q, x ≤ p → p < q → q ≤ i → q ≠ j → (el l' p).le (el l' q)) ∧ Mut [lo] s s', i - x, ⟨i, l1, rfl, by omega, by omega, rfl, a5, w5, sw5, fun p q h1 h2 h3 h4 => so5 p q h1 h2 (by omega), m5⟩, ?_⟩
 rintro m n s10 ⟨j, l2, hj, hxj, hji, rfl, a10, w10, sw10, so10, m10⟩
 simp only [List.cons.injEq, AV.int.injEq, true_and, and_true] at hj
 subst hj
 have hl2 := sw10.len
 refine bsplit.dec (fun hgt => ?_) (fun hle => fin _ l2 a10 w10 sw10 (ins_end hxj hji (.inl (by omega)) so10) m10)
 rw [wrap_i (by omega), show (j : Int) - 1 = ((j - 1 : Nat) : Int) by omega]
 refine a10.cmp (by omega) (by omega) fun s18 a18 w18 m18 => bsplit.dec (fun hc => ?_) (fun hc => fin _ l2 a18 w18 sw10 (ins_end hxj hji (.inr (El.nlt_le (by rw [← El.cmp_lt]; exact hc))) so10) (m10.trans m18))
 rw [El.cmp_lt] at hc
 refine a18.swap w18 (by omega) (by omega) fun s31 a31 w31 m31 => ⟨j - 1 - x, by omega, j - 1, _, rfl, by omega, by omega, rfl, a31, w31, .step sw10 ⟨by omega, by omega⟩ ⟨by omega, by omega⟩ (by omega), ins_step (by omega) (by omega) hji hc so10, (m10.trans m18).trans m31⟩
end
section
variable [LessOk E]
theorem wadd {x y : Nat} (h : x + y ≤ 4611686018427387904) : IntKind.wrap .i64 ((x : Int) + (y : Int)) = ((x + y : Nat) : Int) := by rw [wrap_i (by omega)]; omega
theorem wadd1 {x : Nat} (h : x + 1 ≤ 4611686018427387904) : IntKind.wrap .i64 ((x : Int) + 1) = ((x + 1 : Nat) : Int) := by rw [wrap_i (by omega)]; omega
theorem wsub {x y : Nat} (h : y ≤ x) (h' : x ≤ 4611686018427387904) : IntKind.wrap .i64 ((x : Int) - (y : Int)) = ((x - y : Nat) : Int) := by rw [wrap_i (by omega)]; omega
theorem wsub1 {x : Nat} (h : 1 ≤ x) (h' : x ≤ 4611686018427387904) : IntKind.wrap .i64 ((x : Int) - 1) = ((x - 1 : Nat) : Int) := by rw [wrap_i (by omega)]; omega
theorem wmul2 {x : Nat} (h : 2 * x ≤ 4611686018427387904) : IntKind.wrap .i64 (2 * (x : Int)) = ((2 * x : Nat) : Int) := by rw [wrap_i (by omega)]; omega
theorem tdivN (x k : Nat) : Int.tdiv (x : Int) (k : Int) = ((x / k : Nat) : Int) := rfl
theorem wid {x : Nat} (h : x ≤ 4611686018427387904) : IntKind.wrap .i64 (x : Int) = (x : Int) := wrap_i (by omega)
theorem siftDown_ok {s : AS} {a : AV} {lo : Nat} {l : List (El E.O)} {rest : List AV} {k n f : Nat} (h : Arr s a lo l rest) (hl : f + n ≤ l.length) (hn : l.length ≤ 2 ^ 40) (hk : k ≤ 2 ^ 40) (hh : Heap l f n (k + 1)) :
  ACalls Tryd.prog E.F_siftDownOrdered [a, .int .i64 (k : Nat), .int .i64 (n : Nat), .int .i64 (f : Nat)] s fun r s' => r = .tup [] ∧ ∃ l', Arr s' a lo l' rest ∧ Sw f (f + n) l l' ∧ Heap l' f n k ∧ Mut [lo] s s' := by
 refine ACalls.pre fun hw => SQ.q_siftDownOrdered _ _ _ _ _ _ ⟨fun m vs s' => ∃ (root : Nat) (l' : List (El E.O)), vs = [.int .i64 (root : Nat)] ∧ root ≤ n + k ∧ m = n + k - root ∧ Arr s' a lo l' rest ∧ WFs s' ∧ Sw f (f + n) l l' ∧ Sift l' f n k root ∧ Mut [lo] s s', n + k - k, ⟨k, l, rfl, by omega, rfl, h, hw, .refl _, hh.sift, Mut.refl _ _⟩, ?_⟩
 rintro m n4 s5 ⟨root, l1, hi, hrt, rfl, a5, w5, sw5, sf5, m5⟩
 simp only [List.cons.injEq, AV.int.injEq, true_and, and_true] at hi
 subst hi
 have hl1 := sw5.len
 rw [wmul2 (by omega), wadd1 (by omega)]
 refine bsplit.dec (fun hge => ⟨rfl, l1, a5, sw5, sf5.done fun c h0 hc hp => by omega, m5⟩) (fun hlt => ?_)
 refine ⟨fun vs s' => ∃ child : Nat, vs = [.int .i64 (child : Nat)] ∧ (child = 2 * root + 1 ∨ child = 2 * root + 2) ∧ child < n ∧ Arr s' a lo l1 rest ∧ WFs s' ∧ Mut [lo] s s' ∧ (∀ c, 0 < c → c < n → (c - 1) / 2 = root → (el l1 (f + c)).le (el l1 (f + child))), ?_, ?_⟩
 ·rintro n7 s8 ⟨child, hc, hch, hcn, a8, w8, m8, hmax⟩
  simp only [List.cons.injEq, AV.int.injEq, true_and, and_true] at hc
  subst hc
  rw [wadd (by omega), wadd (by omega)]
  refine a8.cmp (by omega) (by omega) fun s16 a16 w16 m16 => ?_
  refine bsplit.mk (fun hc => ?_) (fun hc => ?_)
  ·have hle := El.nlt_le (show ¬ (el l1 (f + root)).lt (el l1 (f + child)) = true by rw [← El.cmp_lt]; simpa using hc)
   exact ⟨rfl, l1, a16, sw5, sf5.done fun c h0 hc hp => El.le_trans (hmax c h0 hc hp) hle, m8.trans m16⟩
  ·have hlt2 : (el l1 (f + root)).lt (el l1 (f + child)) = true := by rw [← El.cmp_lt]; simpa using hc
   refine a16.swap w16 (by omega) (by omega) fun s29 a29 w29 m29 => ⟨n + k - child, by omega, child, _, rfl, by omega, rfl, a29, w29, .step sw5 ⟨by omega, by omega⟩ ⟨by omega, by omega⟩ (by omega), sf5.step (by omega) hch hcn hlt2 hmax, (m8.trans m16).trans m29⟩
 ·refine ⟨fun vs s' => ∃ t, vs = [.bool t] ∧ Arr s' a lo l1 rest ∧ WFs s' ∧ Mut [lo] s s' ∧ (t = true → 2 * root + 2 < n ∧ (el l1 (f + (2 * root + 1))).lt (el l1 (f + (2 * root + 2))) = true) ∧ (t = false → 2 * root + 2 < n → (el l1 (f + (2 * root + 2))).le (el l1 (f + (2 * root + 1)))), ?_, ?_⟩
  ·rintro b s32 ⟨t, ht, a32, w32, m32, h1, h2⟩
   simp only [List.cons.injEq, AV.bool.injEq, and_true] at ht
   subst ht
   refine bsplit.mk (fun hb => ?_) (fun hb => ?_)
   ·obtain ⟨h3, h4⟩ := h1 hb
    rw [wadd1 (by omega)]
    refine ⟨2 * root + 2, rfl, .inr rfl, h3, a32, w32, m32, fun c h0 hc hp => ?_⟩
    rcases (show c = 2 * root + 1 ∨ c = 2 * root + 2 by omega) with rfl | rfl
    ·exact El.lt_le h4
    ·exact El.le_refl _
   ·refine ⟨2 * root + 1, rfl, .inl rfl, by omega, a32, w32, m32, fun c h0 hc hp => ?_⟩
    rcases (show c = 2 * root + 1 ∨ c = 2 * root + 2 by omega) with rfl | rfl
    ·exact El.le_refl _
    ·exact h2 hb hc
  ·rw [wadd1 (by omega)]
   refine bsplit.dec (fun hlt2 => ?_) (fun hge => ⟨false, rfl, a5, w5, m5, by simp, fun _ h => by omega⟩)
   rw [wadd (by omega), wadd1 (by omega)]
   refine a5.cmp (by omega) (by omega) fun s40 a40 w40 m40 => ⟨_, rfl, a40, w40, m5.trans m40, fun h => ⟨by omega, ?_⟩, fun h _ => ?_⟩
   ·have := of_decide_eq_true h
    rw [El.cmp_lt] at this
    exact this
   ·have := of_decide_eq_false h
    rw [El.cmp_lt] at this
    exact El.nlt_le this
theorem heapSort_ok {s : AS} {a : AV} {lo : Nat} {l : List (El E.O)} {rest : List AV} {x y : Nat} (h : Arr s a lo l rest) (hxy : x < y) (hy : y ≤ l.length) (hn : l.length ≤ 2 ^ 40) :
  ACalls Tryd.prog E.F_heapSortOrdered [a, .int .i64 (x : Nat), .int .i64 (y : Nat)] s fun r s' => r = .tup [] ∧ ∃ l', Arr s' a lo l' rest ∧ Sw x y l l' ∧ Srt l' x y ∧ Mut [lo] s s' := by
 refine ACalls.pre fun hw => SQ.q_heapSortOrdered _ _ _ _ _ ⟨fun vs s' => ∃ l', Arr s' a lo l' rest ∧ WFs s' ∧ Sw x y l l' ∧ Heap l' x (y - x) 0 ∧ Mut [lo] s s', ?_, by decide, ?_⟩
 ·rintro s2 ⟨l1, a2, w2, sw2, hp2, m2⟩
  have hl1 := sw2.len
  rw [wsub (by omega) (by omega), wsub1 (by omega) (by omega)]
  refine ⟨fun m vs s' => ∃ (i : Nat) (l' : List (El E.O)), vs = [.int .i64 ((i : Int) - 1)] ∧ i ≤ y - x ∧ m = 2 * i ∧ Arr s' a lo l' rest ∧ WFs s' ∧ Sw x y l l' ∧ Heap l' x i 0 ∧ Tail l' x y i ∧ Mut [lo] s s', 2 * (y - x), ⟨y - x, l1, by congr 2; omega, by omega, rfl, a2, w2, sw2, hp2, fun p q _ _ _ _ => by omega, m2⟩, ?_⟩
  rintro m n6 s7 ⟨i, l2, hi, hiy, rfl, a7, w7, sw7, hp7, tl7, m7⟩
  simp only [List.cons.injEq, AV.int.injEq, true_and, and_true] at hi
  subst hi
  have hl2 := sw7.len
  refine bsplit.dec (fun hge => ?_) (fun hlt => ?_)
  ·obtain ⟨j, rfl⟩ : ∃ j, i = j + 1 := ⟨i - 1, by omega⟩
   rw [show (((j + 1 : Nat) : Int) - 1) = (j : Int) by omega, wadd (by omega)]
   obtain ⟨t1, t2⟩ := tl7.swap (n := j) (by omega) (by omega) hp7
   refine a7.swap w7 (by omega) (by omega) fun s23 a23 w23 m23 => ?_
   have sw23 : Sw x y l (swp l2 x (x + j)) := .step sw7 ⟨by omega, by omega⟩ ⟨by omega, by omega⟩ (by omega)
   refine ACalls.use (siftDown_ok (k := 0) (n := j) (f := x) a23 (by rw [swp_len]; omega) (by rw [swp_len]; omega) (by omega) t2) ?_
   rintro r s25 ⟨rfl, l3, a25, sw25, hp25, m25⟩ w25
   refine ⟨rfl, 2 * j, by omega, j, l3, by rw [wrap_i' (by omega)], by omega, rfl, a25, w25, sw23.trans (sw25.widen (Nat.le_refl _) (by omega) (by rw [swp_len]; omega)), hp25, t1.sw sw25, (m7.trans m23).trans m25⟩
  ·obtain rfl : i = 0 := by omega
   exact ⟨rfl, l2, a7, sw7, fun p q h1 h2 h3 => tl7 p q h1 h2 h3 (by omega), m7⟩
 ·rw [wsub (by omega) (by omega), wsub1 (by omega) (by omega), show (2 : Int) = ((2 : Nat) : Int) by rfl, tdivN, wid (by omega)]
  refine ⟨fun m vs s' => ∃ (i : Nat) (l' : List (El E.O)), vs = [.int .i64 ((i : Int) - 1)] ∧ i ≤ y - x ∧ m = 2 * i ∧ Arr s' a lo l' rest ∧ WFs s' ∧ Sw x y l l' ∧ Heap l' x (y - x) i ∧ Mut [lo] s s', 2 * ((y - x - 1) / 2 + 1), ⟨(y - x - 1) / 2 + 1, l, by congr 2; omega, by omega, rfl, h, hw, .refl _, fun c _ _ _ => by omega, Mut.refl _ _⟩, ?_⟩
  rintro m n29 s30 ⟨i, l2, hi, hiy, rfl, a30, w30, sw30, hp30, m30⟩
  simp only [List.cons.injEq, AV.int.injEq, true_and, and_true] at hi
  subst hi
  have hl2 := sw30.len
  refine bsplit.dec (fun hge => ?_) (fun hlt => ?_)
  ·obtain ⟨j, rfl⟩ : ∃ j, i = j + 1 := ⟨i - 1, by omega⟩
   rw [show (((j + 1 : Nat) : Int) - 1) = (j : Int) by omega]
   refine ACalls.use (siftDown_ok (k := j) (n := y - x) (f := x) a30 (by omega) (by omega) (by omega) hp30) ?_
   rintro r s32 ⟨rfl, l3, a32, sw32, hp32, m32⟩ w32
   refine ⟨rfl, 2 * j, by omega, j, l3, by rw [wrap_i' (by omega)], by omega, rfl, a32, w32, sw30.trans (by rw [show x + (y - x) = y by omega] at sw32; exact sw32), hp32, m30.trans m32⟩
  ·obtain rfl : i = 0 := by omega
   exact ⟨l2, a30, w30, sw30, hp30, m30⟩
end
section
variable [LessOk E]
theorem reverse_ok {s : AS} {a : AV} {lo : Nat} {l : List (El E.O)} {rest : List AV} {x y : Nat} (h : Arr s a lo l rest) (hxy : x < y) (hy : y ≤ l.length) (hn : l.length ≤ 2 ^ 40) :
  ACalls Tryd.prog E.F_reverseRangeOrdered [a, .int .i64 (x : Nat), .int .i64 (y : Nat)] s fun r s' => r = .tup [] ∧ ∃ l', Arr s' a lo l' rest ∧ Sw x y l l' ∧ Mut [lo] s s' := by
 refine ACalls.pre fun hw => SQ.q_reverseRangeOrdered _ _ _ _ _ ⟨fun m vs s' => ∃ (i j : Nat) (l' : List (El E.O)), vs = [.int .i64 (i : Nat), .int .i64 (j : Nat)] ∧ x ≤ i ∧ j < y ∧ i ≤ j + 1 ∧ m = j + 1 - i ∧ Arr s' a lo l' rest ∧ WFs s' ∧ Sw x y l l' ∧ Mut [lo] s s', y - 1 + 1 - x, ⟨x, y - 1, l, by rw [wsub1 (by omega) (by omega)], by omega, by omega, by omega, rfl, h, hw, .refl _, Mut.refl _ _⟩, ?_⟩
 rintro m n4 n5 s6 ⟨i, j, l1, hij, hx, hj, hle, rfl, a6, w6, sw6, m6⟩
 simp only [List.cons.injEq, AV.int.injEq, true_and, and_true] at hij
 obtain ⟨rfl, rfl⟩ := hij
 have hl1 := sw6.len
 refine bsplit.dec (fun hlt => ?_) (fun hge => ⟨rfl, l1, a6, sw6, m6⟩)
 refine a6.swap w6 (by omega) (by omega) fun s18 a18 w18 m18 => ?_
 rw [wadd1 (by omega), wsub1 (by omega) (by omega)]
 exact ⟨j - 1 + 1 - (i + 1), by omega, i + 1, j - 1, _, rfl, by omega, by omega, by omega, rfl, a18, w18, .step sw6 ⟨by omega, by omega⟩ ⟨by omega, by omega⟩ (by omega), m6.trans m18⟩
structure PSt (L G : El E.O → El E.O → Prop) (s : AS) (a : AV) (lo : Nat) (rest : List AV) (l : List (El E.O)) (x y : Nat) (s' : AS) (l' : List (El E.O)) (i j : Nat) : Prop where
 arr : Arr s' a lo l' rest
 wf : WFs s'
 sw : Sw x y l l'
 prt : Prt L G l' x y i j
 chg : Mut [lo] s s'
theorem PSt.to {L G : El E.O → El E.O → Prop} {s : AS} {a : AV} {lo : Nat} {rest : List AV} {l : List (El E.O)} {x y : Nat} {s' s'' : AS} {l' : List (El E.O)} {i j i' j' : Nat} (h : PSt L G s a lo rest l x y s' l' i j) (ha : Arr s'' a lo l' rest) (hw : WFs s'') (m : Mut [lo] s' s'') (hp : Prt L G l' x y i' j') : PSt L G s a lo rest l x y s'' l' i' j' :=
 ⟨ha, hw, h.sw, hp, h.chg.trans m⟩
theorem partition_ok {s : AS} {a : AV} {lo : Nat} {l : List (El E.O)} {rest : List AV} {x y p : Nat} (h : Arr s a lo l rest) (hp : x ≤ p ∧ p < y) (hy : y ≤ l.length) (hn : l.length ≤ 2 ^ 40) :
  ACalls Tryd.prog E.F_partitionOrdered [a, .int .i64 (x : Nat), .int .i64 (y : Nat), .int .i64 (p : Nat)] s fun r s' => ∃ (m : Nat) (b : Bool) (l' : List (El E.O)), r = .tup [.int .i64 (m : Nat), .bool b] ∧ Arr s' a lo l' rest ∧ Sw x y l l' ∧ Parted l' x y m ∧ Mut [lo] s s' := by
 refine ACalls.pre fun hw => SQ.q_partitionOrdered _ _ _ _ _ _ ?_
 refine h.swap hw (by omega) (by omega) fun s12 a12 w12 m12 => ?_
 have sw12 : Sw x y l (swp l x p) := .step (.refl _) ⟨by omega, by omega⟩ hp hy
 have fin : ∀ s' l' i j, PSt Lt Ge s a lo rest l x y s' l' i j → j < i → ∀ s'' , Arr s'' a lo (swp l' j x) rest → Mut [lo] s' s'' → ∀ b : Bool, ∃ (m : Nat) (b' : Bool) (l' : List (El E.O)), AV.tup [.int .i64 (j : Nat), .bool b] = .tup [.int .i64 (m : Nat), .bool b'] ∧ Arr s'' a lo l' rest ∧ Sw x y l l' ∧ Parted l' x y m ∧ Mut [lo] s s'' := by
  intro s' l' i j st hij s'' a2 m2 b
  have := st.prt.ij
  have := st.prt.xi
  have := st.prt.jy
  have hl' := st.sw.len
  exact ⟨j, b, _, rfl, a2, .step st.sw ⟨by omega, by omega⟩ ⟨by omega, by omega⟩ (by omega), st.prt.fin (by omega) hij, st.chg.trans m2⟩
 have ngt : ∀ {u v : El E.O}, ¬ u.cmp v < 0 → Ge u v := fun h => El.nlt_le (by rw [← El.cmp_lt]; exact h)
 have ylt : ∀ {u v : El E.O}, u.cmp v < 0 → Lt u v := fun h => El.cmp_lt.1 h
 refine ⟨fun vs s' => ∃ (i : Nat) (l' : List (El E.O)), vs = [.int .i64 (i : Nat)] ∧ PSt Lt Ge s a lo rest l x y s' l' i (y - 1) ∧ (i ≤ y - 1 → Ge (el l' i) (el l' x)), ?_, ?_⟩
 ·rintro n14 s15 ⟨i, l1, hi, st15, g15⟩
  simp only [List.cons.injEq, AV.int.injEq, true_and, and_true] at hi
  subst hi
  have hl1 := st15.sw.len
  have hxi := st15.prt.xi
  have hiy := st15.prt.ij
  refine ⟨fun vs s' => ∃ j : Nat, vs = [.int .i64 (j : Nat)] ∧ PSt Lt Ge s a lo rest l x y s' l1 i j ∧ (i ≤ j → Lt (el l1 j) (el l1 x)), ?_, ?_⟩
  ·rintro n17 s18 ⟨j, hj, st18, g18⟩
   simp only [List.cons.injEq, AV.int.injEq, true_and, and_true] at hj
   subst hj
   have hjy := st18.prt.jy
   have hij := st18.prt.ij
   refine bsplit.dec (fun hgt => ?_) (fun hle => ?_)
   ·refine st18.arr.swap st18.wf (by omega) (by omega) fun s30 a30 w30 m30 => fin _ _ _ _ st18 (by omega) _ a30 m30 true
   ·have hne : i ≠ j := by
     rintro rfl
     have h1 := g15 (by omega)
     have h2 := g18 (by omega)
     rw [Lt] at h2; rw [Ge, El.le] at h1
     rw [h1] at h2; cases h2
    refine st18.arr.swap st18.wf (by omega) (by omega) fun s42 a42 w42 m42 => ?_
    have st42 : PSt Lt Ge s a lo rest l x y s42 (swp l1 i j) (i + 1) (j - 1) := ⟨a42, w42, .step st18.sw ⟨by omega, by omega⟩ ⟨by omega, by omega⟩ (by omega), st18.prt.swap (by omega) (by omega) (g18 (by omega)) (g15 (by omega)), st18.chg.trans m42⟩
    refine ⟨fun vs s' => ∃ (i j : Nat) (l' : List (El E.O)), vs = [.int .i64 (j : Nat)] ∧ j < i ∧ PSt Lt Ge s a lo rest l x y s' l' i j, ?_, ?_⟩
    ·rintro n44 s45 ⟨i', j', l', hj', hij', st45⟩
     simp only [List.cons.injEq, AV.int.injEq, true_and, and_true] at hj'
     subst hj'
     have := st45.prt.jy
     have := st45.prt.xi
     have := st45.sw.len
     refine st45.arr.swap st45.wf (by omega) (by omega) fun s57 a57 w57 m57 => fin _ _ _ _ st45 hij' _ a57 m57 false
    ·rw [wadd1 (by omega), wsub1 (by omega) (by omega)]
     refine ⟨fun m vs s' => ∃ (i j : Nat) (l' : List (El E.O)), vs = [.int .i64 (i : Nat), .int .i64 (j : Nat)] ∧ m = j + 1 - i ∧ PSt Lt Ge s a lo rest l x y s' l' i j, _, ⟨i + 1, j - 1, _, rfl, rfl, st42⟩, ?_⟩
     rintro m n61 n62 s63 ⟨i2, j2, l2, hij2, rfl, st63⟩
     simp only [List.cons.injEq, AV.int.injEq, true_and, and_true] at hij2
     obtain ⟨rfl, rfl⟩ := hij2
     have hl2 := st63.sw.len
     have hx2 := st63.prt.xi
     have hjy2 := st63.prt.jy
     have hij2 := st63.prt.ij
     refine ⟨fun vs s' => ∃ (i : Nat), vs = [.int .i64 (i : Nat)] ∧ i2 ≤ i ∧ PSt Lt Ge s a lo rest l x y s' l2 i j2 ∧ (i ≤ j2 → Ge (el l2 i) (el l2 x)), ?_, ?_⟩
     ·rintro n65 s66 ⟨i3, hi3, hi23, st66, g66⟩
      simp only [List.cons.injEq, AV.int.injEq, true_and, and_true] at hi3
      subst hi3
      have hx3 := st66.prt.xi
      have hij3 := st66.prt.ij
      refine ⟨fun vs s' => ∃ j : Nat, vs = [.int .i64 (j : Nat)] ∧ j ≤ j2 ∧ PSt Lt Ge s a lo rest l x y s' l2 i3 j ∧ (i3 ≤ j → Lt (el l2 j) (el l2 x)), ?_, ?_⟩
      ·rintro n68 s69 ⟨j3, hj3, hj23, st69, g69⟩
       simp only [List.cons.injEq, AV.int.injEq, true_and, and_true] at hj3
       subst hj3
       have hjy3 := st69.prt.jy
       have hij4 := st69.prt.ij
       refine bsplit.dec (fun hgt => ⟨i3, j3, l2, rfl, by omega, st69⟩) (fun hle => ?_)
       have hne : i3 ≠ j3 := by
        rintro rfl
        have h1 := g66 (by omega)
        have h2 := g69 (by omega)
        rw [Lt] at h2; rw [Ge, El.le] at h1
        rw [h1] at h2; cases h2
       refine st69.arr.swap st69.wf (by omega) (by omega) fun s81 a81 w81 m81 => ?_
       rw [wadd1 (by omega), wsub1 (by omega) (by omega)]
       exact ⟨j3 - 1 + 1 - (i3 + 1), by omega, i3 + 1, j3 - 1, _, rfl, rfl, a81, w81, .step st69.sw ⟨by omega, by omega⟩ ⟨by omega, by omega⟩ (by omega), st69.prt.swap (by omega) (by omega) (g69 (by omega)) (g66 (by omega)), st69.chg.trans m81⟩
      ·refine ⟨fun m vs s' => ∃ j : Nat, vs = [.int .i64 (j : Nat)] ∧ j ≤ j2 ∧ m = 2 * j ∧ PSt Lt Ge s a lo rest l x y s' l2 i3 j, 2 * j2, ⟨j2, rfl, by omega, rfl, st66⟩, ?_⟩
       rintro m n85 s86 ⟨j3, hj3, hj23, rfl, st86⟩
       simp only [List.cons.injEq, AV.int.injEq, true_and, and_true] at hj3
       subst hj3
       have hjy3 := st86.prt.jy
       refine bsplit.dec (fun hle => ?_) (fun hgt => ⟨j3, rfl, hj23, st86, fun h => by omega⟩)
       refine st86.arr.cmp (by omega) (by omega) fun s94 a94 w94 m94 => bsplit.mk (fun hc => ?_) (fun hc => ?_)
       ·have hc' := ngt (by simpa using hc)
        rw [wsub1 (by omega) (by omega)]
        exact ⟨2 * (j3 - 1), by omega, j3 - 1, rfl, by omega, rfl, st86.to a94 w94 m94 (st86.prt.right (by omega) hc')⟩
       ·have hc' := ylt (by simpa using hc)
        exact ⟨j3, rfl, hj23, st86.to a94 w94 m94 st86.prt, fun _ => hc'⟩
     ·refine ⟨fun m vs s' => ∃ i : Nat, vs = [.int .i64 (i : Nat)] ∧ i2 ≤ i ∧ m = y - i ∧ PSt Lt Ge s a lo rest l x y s' l2 i j2, y - i2, ⟨i2, rfl, by omega, rfl, st63⟩, ?_⟩
      rintro m n99 s100 ⟨i3, hi3, hi23, rfl, st100⟩
      simp only [List.cons.injEq, AV.int.injEq, true_and, and_true] at hi3
      subst hi3
      have hx3 := st100.prt.xi
      refine bsplit.dec (fun hle => ?_) (fun hgt => ⟨i3, rfl, hi23, st100, fun h => by omega⟩)
      refine st100.arr.cmp (by omega) (by omega) fun s108 a108 w108 m108 => bsplit.dec (fun hc => ?_) (fun hc => ?_)
      ·rw [wadd1 (by omega)]
       exact ⟨y - (i3 + 1), by omega, i3 + 1, rfl, by omega, rfl, st100.to a108 w108 m108 (st100.prt.left (by omega) (ylt hc))⟩
      ·exact ⟨i3, rfl, hi23, st100.to a108 w108 m108 st100.prt, fun _ => ngt hc⟩
  ·rw [wsub1 (by omega) (by omega)]
   refine ⟨fun m vs s' => ∃ j : Nat, vs = [.int .i64 (j : Nat)] ∧ m = 2 * j ∧ PSt Lt Ge s a lo rest l x y s' l1 i j, 2 * (y - 1), ⟨y - 1, rfl, rfl, st15⟩, ?_⟩
   rintro m n113 s114 ⟨j3, hj3, rfl, st114⟩
   simp only [List.cons.injEq, AV.int.injEq, true_and, and_true] at hj3
   subst hj3
   have hjy3 := st114.prt.jy
   refine bsplit.dec (fun hle => ?_) (fun hgt => ⟨j3, rfl, st114, fun h => by omega⟩)
   refine st114.arr.cmp (by omega) (by omega) fun s122 a122 w122 m122 => bsplit.mk (fun hc => ?_) (fun hc => ?_)
   ·have hc' := ngt (by simpa using hc)
    rw [wsub1 (by omega) (by omega)]
    exact ⟨2 * (j3 - 1), by omega, j3 - 1, rfl, rfl, st114.to a122 w122 m122 (st114.prt.right (by omega) hc')⟩
   ·have hc' := ylt (by simpa using hc)
    exact ⟨j3, rfl, st114.to a122 w122 m122 st114.prt, fun _ => hc'⟩
 ·rw [wadd1 (by omega), wsub1 (by omega) (by omega)]
  refine ⟨fun m vs s' => ∃ i : Nat, vs = [.int .i64 (i : Nat)] ∧ m = y - i ∧ PSt Lt Ge s a lo rest l x y s' (swp l x p) i (y - 1), y - (x + 1), ⟨x + 1, rfl, rfl, a12, w12, sw12, Prt.start (by omega), m12⟩, ?_⟩
  rintro m n127 s128 ⟨i3, hi3, rfl, st128⟩
  simp only [List.cons.injEq, AV.int.injEq, true_and, and_true] at hi3
  subst hi3
  have hx3 := st128.prt.xi
  have hl3 := st128.sw.len
  refine bsplit.dec (fun hle => ?_) (fun hgt => ⟨i3, _, rfl, st128, fun h => by omega⟩)
  refine st128.arr.cmp (by omega) (by omega) fun s136 a136 w136 m136 => bsplit.dec (fun hc => ?_) (fun hc => ?_)
  ·rw [wadd1 (by omega)]
   exact ⟨y - (i3 + 1), by omega, i3 + 1, rfl, rfl, st128.to a136 w136 m136 (st128.prt.left (by omega) (ylt hc))⟩
  ·exact ⟨i3, _, rfl, st128.to a136 w136 m136 st128.prt, fun _ => ngt hc⟩
end
section
variable [LessOk E]
theorem partEq_ok {s : AS} {a : AV} {lo : Nat} {l : List (El E.O)} {rest : List AV} {x y p : Nat} (h : Arr s a lo l rest) (hp : x ≤ p ∧ p < y) (hy : y ≤ l.length) (hn : l.length ≤ 2 ^ 40) :
  ACalls Tryd.prog E.F_partitionEqualOrdered [a, .int .i64 (x : Nat), .int .i64 (y : Nat), .int .i64 (p : Nat)] s fun r s' => ∃ (i j : Nat) (l' : List (El E.O)), r = .int .i64 (i : Nat) ∧ Arr s' a lo l' rest ∧ Sw x y l l' ∧ Prt Le' Gt' l' x y i j ∧ j < i ∧ el l' x = el l p ∧ Mut [lo] s s' := by
 refine ACalls.pre fun hw => SQ.q_partitionEqualOrdered _ _ _ _ _ _ ?_
 refine h.swap hw (by omega) (by omega) fun s12 a12 w12 m12 => ?_
 have sw12 : Sw x y l (swp l x p) := .step (.refl _) ⟨by omega, by omega⟩ hp hy
 have ex12 : el (swp l x p) x = el l p := by
  rw [el_swp (by omega) (by omega)]
  split
  ·rename_i e; rw [e]
  ·rw [if_pos rfl]
 have ngt : ∀ {u v : El E.O}, ¬ u.cmp v < 0 → Le' v u := fun h => El.nlt_le (by rw [← El.cmp_lt]; exact h)
 have ylt : ∀ {u v : El E.O}, u.cmp v < 0 → Gt' v u := fun h => El.cmp_lt.1 h
 rw [wadd1 (by omega), wsub1 (by omega) (by omega)]
 refine ⟨fun m vs s' => ∃ (i j : Nat) (l' : List (El E.O)), vs = [.int .i64 (i : Nat), .int .i64 (j : Nat)] ∧ m = j + 1 - i ∧ PSt Le' Gt' s a lo rest l x y s' l' i j ∧ el l' x = el l p, _, ⟨x + 1, y - 1, _, rfl, rfl, ⟨a12, w12, sw12, Prt.start (by omega), m12⟩, ex12⟩, ?_⟩
 rintro m n16 n17 s18 ⟨i2, j2, l2, hij2, rfl, st18, ex18⟩
 simp only [List.cons.injEq, AV.int.injEq, true_and, and_true] at hij2
 obtain ⟨rfl, rfl⟩ := hij2
 have hl2 := st18.sw.len
 have hx2 := st18.prt.xi
 have hjy2 := st18.prt.jy
 have hij2 := st18.prt.ij
 refine ⟨fun vs s' => ∃ (i : Nat), vs = [.int .i64 (i : Nat)] ∧ i2 ≤ i ∧ PSt Le' Gt' s a lo rest l x y s' l2 i j2 ∧ (i ≤ j2 → Gt' (el l2 i) (el l2 x)), ?_, ?_⟩
 ·rintro n20 s21 ⟨i3, hi3, hi23, st21, g21⟩
  simp only [List.cons.injEq, AV.int.injEq, true_and, and_true] at hi3
  subst hi3
  have hx3 := st21.prt.xi
  have hij3 := st21.prt.ij
  refine ⟨fun vs s' => ∃ j : Nat, vs = [.int .i64 (j : Nat)] ∧ j ≤ j2 ∧ PSt Le' Gt' s a lo rest l x y s' l2 i3 j ∧ (i3 ≤ j → Le' (el l2 j) (el l2 x)), ?_, ?_⟩
  ·rintro n23 s24 ⟨j3, hj3, hj23, st24, g24⟩
   simp only [List.cons.injEq, AV.int.injEq, true_and, and_true] at hj3
   subst hj3
   have hjy3 := st24.prt.jy
   have hij4 := st24.prt.ij
   refine bsplit.dec (fun hgt => ⟨i3, j3, l2, rfl, st24.arr, st24.sw, st24.prt, by omega, ex18, st24.chg⟩) (fun hle => ?_)
   have hne : i3 ≠ j3 := by
    rintro rfl
    have h1 := g21 (by omega)
    have h2 := g24 (by omega)
    rw [Gt'] at h1; rw [Le', El.le] at h2
    rw [h2] at h1; cases h1
   refine st24.arr.swap st24.wf (by omega) (by omega) fun s36 a36 w36 m36 => ?_
   rw [wadd1 (by omega), wsub1 (by omega) (by omega)]
   exact ⟨j3 - 1 + 1 - (i3 + 1), by omega, i3 + 1, j3 - 1, _, rfl, rfl, ⟨a36, w36, .step st24.sw ⟨by omega, by omega⟩ ⟨by omega, by omega⟩ (by omega), st24.prt.swap (by omega) (by omega) (g24 (by omega)) (g21 (by omega)), st24.chg.trans m36⟩, by rw [el_swp (by omega) (by omega), if_neg (by omega), if_neg (by omega)]; exact ex18⟩
  ·refine ⟨fun m vs s' => ∃ j : Nat, vs = [.int .i64 (j : Nat)] ∧ j ≤ j2 ∧ m = 2 * j ∧ PSt Le' Gt' s a lo rest l x y s' l2 i3 j, 2 * j2, ⟨j2, rfl, by omega, rfl, st21⟩, ?_⟩
   rintro m n40 s41 ⟨j3, hj3, hj23, rfl, st41⟩
   simp only [List.cons.injEq, AV.int.injEq, true_and, and_true] at hj3
   subst hj3
   have hjy3 := st41.prt.jy
   refine bsplit.dec (fun hle => ?_) (fun hgt => ⟨j3, rfl, hj23, st41, fun h => by omega⟩)
   refine st41.arr.cmp (by omega) (by omega) fun s49 a49 w49 m49 => bsplit.dec (fun hc => ?_) (fun hc => ?_)
   ·rw [wsub1 (by omega) (by omega)]
    exact ⟨2 * (j3 - 1), by omega, j3 - 1, rfl, by omega, rfl, st41.to a49 w49 m49 (st41.prt.right (by omega) (ylt hc))⟩
   ·exact ⟨j3, rfl, hj23, st41.to a49 w49 m49 st41.prt, fun _ => ngt hc⟩
 ·refine ⟨fun m vs s' => ∃ i : Nat, vs = [.int .i64 (i : Nat)] ∧ i2 ≤ i ∧ m = y - i ∧ PSt Le' Gt' s a lo rest l x y s' l2 i j2, y - i2, ⟨i2, rfl, by omega, rfl, st18⟩, ?_⟩
  rintro m n54 s55 ⟨i3, hi3, hi23, rfl, st55⟩
  simp only [List.cons.injEq, AV.int.injEq, true_and, and_true] at hi3
  subst hi3
  have hx3 := st55.prt.xi
  refine bsplit.dec (fun hle => ?_) (fun hgt => ⟨i3, rfl, hi23, st55, fun h => by omega⟩)
  refine st55.arr.cmp (by omega) (by omega) fun s63 a63 w63 m63 => bsplit.mk (fun hc => ?_) (fun hc => ?_)
  ·have hc' := ngt (by simpa using hc)
   rw [wadd1 (by omega)]
   exact ⟨y - (i3 + 1), by omega, i3 + 1, rfl, by omega, rfl, st55.to a63 w63 m63 (st55.prt.left (by omega) hc')⟩
  ·have hc' := ylt (by simpa using hc)
   exact ⟨i3, rfl, hi23, st55.to a63 w63 m63 st55.prt, fun _ => hc'⟩
structure WSt (s : AS) (a : AV) (lo : Nat) (rest : List AV) (l : List (El E.O)) (x y : Nat) (s' : AS) (l' : List (El E.O)) : Prop where
 arr : Arr s' a lo l' rest
 wf : WFs s'
 sw : Sw x y l l'
 chg : Mut [lo] s s'
theorem WSt.to {s : AS} {a : AV} {lo : Nat} {rest : List AV} {l : List (El E.O)} {x y : Nat} {s' s'' : AS} {l' : List (El E.O)} (h : WSt s a lo rest l x y s' l') (ha : Arr s'' a lo l' rest) (hw : WFs s'') (m : Mut [lo] s' s'') : WSt s a lo rest l x y s'' l' := ⟨ha, hw, h.sw, h.chg.trans m⟩
theorem WSt.swap {s : AS} {a : AV} {lo : Nat} {rest : List AV} {l : List (El E.O)} {x y : Nat} {s' s'' : AS} {l' : List (El E.O)} {i j : Nat} (h : WSt s a lo rest l x y s' l') (hy : y ≤ l.length) (hi : x ≤ i ∧ i < y) (hj : x ≤ j ∧ j < y) (ha : Arr s'' a lo (swp l' i j) rest) (hw : WFs s'') (m : Mut [lo] s' s'') : WSt s a lo rest l x y s'' (swp l' i j) :=
 ⟨ha, hw, .step h.sw hi hj (by rw [h.sw.len]; exact hy), h.chg.trans m⟩
theorem srt_ext1 {l : List (El E.O)} {x i : Nat} (h : Srt l x i) (hx : x < i) (hle : (el l (i - 1)).le (el l i)) : Srt l x (i + 1) := by
 intro p q h1 h2 h3
 by_cases e : q = i
 ·subst e
  by_cases e2 : p = q - 1
  ·rw [e2]; exact hle
  ·exact El.le_trans (h p (q - 1) h1 (by omega) (by omega)) hle
 ·exact h p q h1 h2 (by omega)
theorem low_sw {l l' : List (El E.O)} {x y : Nat} (h : Sw x y l l') (hlow : 0 < x → ∀ q, x ≤ q → q < y → (el l (x - 1)).le (el l q)) : 0 < x → ∀ q, x ≤ q → q < y → (el l' (x - 1)).le (el l' q) := by
 intro h0 q h1 h2
 obtain ⟨j, hj, e⟩ := h.mem (k := q) ⟨h1, h2⟩
 rw [h.out (.inl (by omega)), e]
 exact hlow h0 j hj.1 hj.2
theorem partial_ok {s : AS} {a : AV} {lo : Nat} {l : List (El E.O)} {rest : List AV} {x y : Nat} (h : Arr s a lo l rest) (hxy : x < y) (hy : y ≤ l.length) (hn : l.length ≤ 2 ^ 40) (hlow : 0 < x → ∀ q, x ≤ q → q < y → (el l (x - 1)).le (el l q)) :
  ACalls Tryd.prog E.F_partialInsertionSortOrdered [a, .int .i64 (x : Nat), .int .i64 (y : Nat)] s fun r s' => ∃ (b : Bool) (l' : List (El E.O)), r = .bool b ∧ WSt s a lo rest l x y s' l' ∧ (b = true → Srt l' x y) := by
 have w0 : WFs s → WSt s a lo rest l x y s l := fun hw => ⟨h, hw, .refl _, Mut.refl _ _⟩
 refine ACalls.pre fun hw => SQ.q_partialInsertionSortOrdered _ _ _ _ _ ?_
 rw [Q_partialInsertionSortOrdered, wadd1 (by omega)]
 refine ⟨fun m vs s' => ∃ (i k : Nat) (l' : List (El E.O)), vs = [.int .i64 (i : Nat), .int .i64 (k : Nat)] ∧ k ≤ 5 ∧ m = 5 - k ∧ x + 1 ≤ i ∧ i ≤ y ∧ WSt s a lo rest l x y s' l' ∧ Srt l' x i, 5, ⟨x + 1, 0, l, rfl, by omega, rfl, by omega, by omega, w0 hw, fun p q _ _ _ => by omega⟩, ?_⟩
 rintro m n4 n5 s6 ⟨i0, k, l1, hik, hk, rfl, hi1, hi2, st6, so6⟩
 simp only [List.cons.injEq, AV.int.injEq, true_and, and_true] at hik
 obtain ⟨rfl, rfl⟩ := hik
 refine bsplit.dec (fun hlt5 => ?_) (fun _ => ⟨false, l1, rfl, st6, by simp⟩)
 refine ⟨fun vs s' => ∃ (i : Nat) (l' : List (El E.O)), vs = [.int .i64 (i : Nat)] ∧ x + 1 ≤ i ∧ i ≤ y ∧ WSt s a lo rest l x y s' l' ∧ Srt l' x i ∧ (i < y → (el l' i).lt (el l' (i - 1)) = true), ?_, ?_⟩
 ·rintro n8 s9 ⟨i, l2, hi, hi3, hi4, st9, so9, g9⟩
  simp only [List.cons.injEq, AV.int.injEq, true_and, and_true] at hi
  subst hi
  have hl2 := st9.sw.len
  refine bsplit.mk (fun he => ?_) (fun hne => ?_)
  ·have : i = y := by simp at he; omega
   subst this
   exact ⟨true, l2, rfl, st9, fun _ => so9⟩
  have hiy : i < y := by simp at hne; omega
  rw [wsub (by omega) (by omega)]
  refine bsplit.dec (fun _ => ⟨false, l2, rfl, st9, by simp⟩) (fun _ => ?_)
  rw [wsub1 (by omega) (by omega)]
  refine st9.arr.swap st9.wf (by omega) (by omega) fun s21 a21 w21 m21 => ?_
  have st21 := st9.swap hy ⟨by omega, by omega⟩ ⟨by omega, by omega⟩ a21 w21 m21
  have so21 : ∀ p q, x ≤ p → p < q → q ≤ i - 1 → q ≠ i - 1 → (el (swp l2 i (i - 1)) p).le (el (swp l2 i (i - 1)) q) := by
   intro p q h1 h2 h3 h4
   rw [el_swp (by omega) (by omega), el_swp (by omega) (by omega), if_neg (by omega), if_neg (by omega), if_neg (by omega), if_neg (by omega)]
   exact so9 p q h1 h2 (by omega)
  have next : ∀ s' l', WSt s a lo rest l x y s' l' → Srt l' x i → ∃ m', m' < 5 - k ∧ ∃ (i' k' : Nat) (l' : List (El E.O)), [AV.int .i64 (i : Nat), .int .i64 (IntKind.wrap .i64 ((k : Int) + 1))] = [.int .i64 (i' : Nat), .int .i64 (k' : Nat)] ∧ k' ≤ 5 ∧ m' = 5 - k' ∧ x + 1 ≤ i' ∧ i' ≤ y ∧ WSt s a lo rest l x y s' l' ∧ Srt l' x i' :=
   fun s' l' h1 h2 => ⟨5 - (k + 1), by omega, i, k + 1, l', by rw [wadd1 (by omega)], by omega, rfl, by omega, by omega, h1, h2⟩
  refine ⟨fun vs s' => ∃ l', WSt s a lo rest l x y s' l' ∧ Srt l' x i, ?_, ?_⟩
  ·rintro s23 ⟨l3, st23, so23⟩
   rw [wsub (by omega) (by omega)]
   refine bsplit.dec (fun _ => ?_) (fun _ => next _ _ st23 so23)
   rw [wadd1 (by omega)]
   refine ⟨fun m vs s' => ∃ (j : Nat) (l' : List (El E.O)), vs = [.int .i64 (j : Nat)] ∧ i + 1 ≤ j ∧ m = y - j ∧ WSt s a lo rest l x y s' l' ∧ Srt l' x i, y - (i + 1), ⟨i + 1, l3, rfl, by omega, rfl, st23, so23⟩, ?_⟩
   rintro m n27 s28 ⟨j, l4, hj, hij, rfl, st28, so28⟩
   simp only [List.cons.injEq, AV.int.injEq, true_and, and_true] at hj
   subst hj
   have hl4 := st28.sw.len
   refine bsplit.dec (fun hjy => ?_) (fun _ => next _ _ st28 so28)
   rw [wsub1 (by omega) (by omega)]
   refine st28.arr.cmp (by omega) (by omega) fun s36 a36 w36 m36 => bsplit.mk (fun _ => next _ _ (st28.to a36 w36 m36) so28) (fun _ => ?_)
   refine a36.swap w36 (by omega) (by omega) fun s49 a49 w49 m49 => ?_
   rw [wadd1 (by omega)]
   refine ⟨y - (j + 1), by omega, j + 1, _, rfl, by omega, rfl, (st28.to a36 w36 m36).swap hy ⟨by omega, by omega⟩ ⟨by omega, by omega⟩ a49 w49 m49, fun p q h1 h2 h3 => ?_⟩
   rw [el_swp (by omega) (by omega), el_swp (by omega) (by omega), if_neg (by omega), if_neg (by omega), if_neg (by omega), if_neg (by omega)]
   exact so28 p q h1 h2 h3
  ·rw [wsub (by omega) (by omega)]
   refine bsplit.dec (fun h2 => ?_) (fun h2 => ⟨_, st21, fun p q h1 h2 h3 => by omega⟩)
   refine ⟨fun m vs s' => ∃ (j : Nat) (l' : List (El E.O)), vs = [.int .i64 (j : Nat)] ∧ x ≤ j ∧ j ≤ i - 1 ∧ m = 2 * j ∧ WSt s a lo rest l x y s' l' ∧ (∀ p q, x ≤ p → p < q → q ≤ i - 1 → q ≠ j → (el l' p).le (el l' q)), 2 * (i - 1), ⟨i - 1, _, rfl, by omega, by omega, rfl, st21, so21⟩, ?_⟩
   rintro m n53 s54 ⟨j, l4, hj, hxj, hji, rfl, st54, so54⟩
   simp only [List.cons.injEq, AV.int.injEq, true_and, and_true] at hj
   subst hj
   have hl4 := st54.sw.len
   have fin : ∀ s', WSt s a lo rest l x y s' l4 → (j = x ∨ (el l4 (j - 1)).le (el l4 j)) → ∃ l', WSt s a lo rest l x y s' l' ∧ Srt l' x i := by
    intro s' h1 h2
    have := ins_end hxj hji h2 so54
    rw [show i - 1 + 1 = i by omega] at this
    exact ⟨l4, h1, this⟩
   refine bsplit.dec (fun hj1 => ?_) (fun hj1 => fin _ st54 (.inl (by omega)))
   rw [wsub1 (by omega) (by omega)]
   refine st54.arr.cmp (by omega) (by omega) fun s62 a62 w62 m62 => bsplit.mk (fun hc => fin _ (st54.to a62 w62 m62) (.inr (El.nlt_le (by rw [← El.cmp_lt]; simpa using hc)))) (fun hc => ?_)
   have hc' : (el l4 j).lt (el l4 (j - 1)) = true := by rw [← El.cmp_lt]; simpa using hc
   have hxj' : x < j := by
    rcases Nat.lt_or_ge x j with h' | h'
    ·exact h'
    ·exfalso
     obtain rfl : x = j := by omega
     have := low_sw st54.sw hlow (by omega) x (by omega) (by omega)
     rw [El.le] at this
     rw [this] at hc'; cases hc'
   refine a62.swap w62 (by omega) (by omega) fun s75 a75 w75 m75 => ?_
   exact ⟨2 * (j - 1), by omega, j - 1, _, rfl, by omega, by omega, rfl, (st54.to a62 w62 m62).swap hy ⟨by omega, by omega⟩ ⟨by omega, by omega⟩ a75 w75 m75, ins_step (by omega) hxj' hji hc' so54⟩
 ·refine ⟨fun m vs s' => ∃ (i : Nat), vs = [.int .i64 (i : Nat)] ∧ x + 1 ≤ i ∧ i ≤ y ∧ m = y - i ∧ WSt s a lo rest l x y s' l1 ∧ Srt l1 x i, y - i0, ⟨i0, rfl, hi1, hi2, rfl, st6, so6⟩, ?_⟩
  rintro m n79 s80 ⟨i, hi, hi3, hi4, rfl, st80, so80⟩
  simp only [List.cons.injEq, AV.int.injEq, true_and, and_true] at hi
  subst hi
  have hl1 := st80.sw.len
  refine bsplit.dec (fun hiy => ?_) (fun hge => ⟨i, l1, rfl, hi3, hi4, st80, so80, fun h => by omega⟩)
  rw [wsub1 (by omega) (by omega)]
  refine st80.arr.cmp (by omega) (by omega) fun s88 a88 w88 m88 => bsplit.mk (fun hc => ?_) (fun hc => ?_)
  ·rw [wadd1 (by omega)]
   exact ⟨y - (i + 1), by omega, i + 1, rfl, by omega, by omega, rfl, st80.to a88 w88 m88, srt_ext1 so80 (by omega) (El.nlt_le (by rw [← El.cmp_lt]; simpa using hc))⟩
  ·exact ⟨i, l1, rfl, hi3, hi4, st80.to a88 w88 m88, so80, fun _ => by rw [← El.cmp_lt]; simpa using hc⟩
end
section
variable [LessOk E]
noncomputable def bitsChk (x : Nat) : Bool := match aindex T Y_string (.str [0, 1, 2, 2, 3, 3, 3, 3, 4, 4, 4, 4, 4, 4, 4, 4, 5, 5, 5, 5, 5, 5, 5, 5, 5, 5, 5, 5, 5, 5, 5, 5, 6, 6, 6, 6, 6, 6, 6, 6, 6, 6, 6, 6, 6, 6, 6, 6, 6, 6, 6, 6, 6, 6, 6, 6, 6, 6, 6, 6, 6, 6, 6, 6, 7, 7, 7, 7, 7, 7, 7, 7, 7, 7, 7, 7, 7, 7, 7, 7, 7, 7, 7, 7, 7, 7, 7, 7, 7, 7, 7, 7, 7, 7, 7, 7, 7, 7, 7, 7, 7, 7, 7, 7, 7, 7, 7, 7, 7, 7, 7, 7, 7, 7, 7, 7, 7, 7, 7, 7, 7, 7, 7, 7, 7, 7, 7, 7, 8, 8, 8, 8, 8, 8, 8, 8, 8, 8, 8, 8, 8, 8, 8, 8, 8, 8, 8, 8, 8, 8, 8, 8, 8, 8, 8, 8, 8, 8, 8, 8, 8, 8, 8, 8, 8, 8, 8, 8, 8, 8, 8, 8, 8, 8, 8, 8, 8, 8, 8, 8, 8, 8, 8, 8, 8, 8, 8, 8, 8, 8, 8, 8, 8, 8, 8, 8, 8, 8, 8, 8, 8, 8, 8, 8, 8, 8, 8, 8, 8, 8, 8, 8, 8, 8, 8, 8, 8, 8, 8, 8, 8, 8, 8, 8, 8, 8, 8, 8, 8, 8, 8, 8, 8, 8, 8, 8, 8, 8, 8, 8, 8, 8, 8, 8, 8, 8, 8, 8, 8, 8, 8, 8, 8, 8, 8, 8]) (.int .u8 (IntKind.wrap .u8 (x : Nat))) with
 | some (.int .u8 k) => decide (0 ≤ k ∧ k ≤ 8 ∧ (x = 0 ∨ (x < 2 ^ k.toNat ∧ 2 ^ k.toNat ≤ 2 * x)))
 | _ => false
theorem bits_all : (List.range 256).all bitsChk = true := by kernel_rfl
theorem bits_get {x : Nat} (h : x < 256) : ∃ k : Nat, aindex T Y_string (.str [0, 1, 2, 2, 3, 3, 3, 3, 4, 4, 4, 4, 4, 4, 4, 4, 5, 5, 5, 5, 5, 5, 5, 5, 5, 5, 5, 5, 5, 5, 5, 5, 6, 6, 6, 6, 6, 6, 6, 6, 6, 6, 6, 6, 6, 6, 6, 6, 6, 6, 6, 6, 6, 6, 6, 6, 6, 6, 6, 6, 6, 6, 6, 6, 7, 7, 7, 7, 7, 7, 7, 7, 7, 7, 7, 7, 7, 7, 7, 7, 7, 7, 7, 7, 7, 7, 7, 7, 7, 7, 7, 7, 7, 7, 7, 7, 7, 7, 7, 7, 7, 7, 7, 7, 7, 7, 7, 7, 7, 7, 7, 7, 7, 7, 7, 7, 7, 7, 7, 7, 7, 7, 7, 7, 7, 7, 7, 7, 8, 8, 8, 8, 8, 8, 8, 8, 8, 8, 8, 8, 8, 8, 8, 8, 8, 8, 8, 8, 8, 8, 8, 8, 8, 8, 8, 8, 8, 8, 8, 8, 8, 8, 8, 8, 8, 8, 8, 8, 8, 8, 8, 8, 8, 8, 8, 8, 8, 8, 8, 8, 8, 8, 8, 8, 8, 8, 8, 8, 8, 8, 8, 8, 8, 8, 8, 8, 8, 8, 8, 8, 8, 8, 8, 8, 8, 8, 8, 8, 8, 8, 8, 8, 8, 8, 8, 8, 8, 8, 8, 8, 8, 8, 8, 8, 8, 8, 8, 8, 8, 8, 8, 8, 8, 8, 8, 8, 8, 8, 8, 8, 8, 8, 8, 8, 8, 8, 8, 8, 8, 8, 8, 8, 8, 8, 8, 8]) (.int .u8 (IntKind.wrap .u8 (x : Nat))) = some (.int .u8 (k : Nat)) ∧ k ≤ 8 ∧ (x = 0 ∨ (x < 2 ^ k ∧ 2 ^ k ≤ 2 * x)) := by
 have := List.all_eq_true.1 bits_all x (List.mem_range.2 h)
 unfold bitsChk at this
 split at this
 ·rename_i k hk
  obtain ⟨h1, h2, h3⟩ := of_decide_eq_true this
  refine ⟨k.toNat, ?_, by omega, h3⟩
  rw [hk, Int.toNat_of_nonneg h1]
 ·cases this
theorem len_ok {x : Nat} (hx : x < 65536) (s : AS) : ACalls Tryd.prog F_math_bits_Len [.int .u64 (x : Nat)] s fun r s' => ∃ k : Nat, r = .int .i64 (k : Nat) ∧ k ≤ 16 ∧ (0 < x → x < 2 ^ k ∧ 2 ^ k ≤ 2 * x) ∧ s' = s := by
 refine q_math_bits_Len _ _ _ ?_
 suffices h : ACalls Tryd.prog F_math_bits_Len64 [.int .u64 (x : Nat)] s fun r s' => ∃ k : Nat, r = .int .i64 (k : Nat) ∧ k ≤ 16 ∧ (0 < x → x < 2 ^ k ∧ 2 ^ k ≤ 2 * x) ∧ s' = s from
  h.mono (by rintro r s' ⟨k, rfl, h1, h2, rfl⟩; exact ⟨_, rfl, k, rfl, h1, h2, rfl⟩)
 refine q_math_bits_Len64 _ _ _ ⟨fun vs s' => vs = [.int .u64 (x : Nat), .int .i64 0] ∧ s' = s, ?_, bsplit.dec (fun h => by omega) (fun _ => ⟨rfl, rfl⟩)⟩
 rintro n2 n3 s4 ⟨hv, rfl⟩
 simp only [List.cons.injEq, AV.int.injEq, true_and, and_true] at hv
 obtain ⟨rfl, rfl⟩ := hv
 refine ⟨fun vs s' => vs = [.int .u64 (x : Nat), .int .i64 0] ∧ s' = s4, ?_, bsplit.dec (fun h => by omega) (fun _ => ⟨rfl, rfl⟩)⟩
 rintro n6 n7 s8 ⟨hv, rfl⟩
 simp only [List.cons.injEq, AV.int.injEq, true_and, and_true] at hv
 obtain ⟨rfl, rfl⟩ := hv
 refine ⟨fun vs s' => ∃ y b : Nat, vs = [.int .u64 (y : Nat), .int .i64 (b : Nat)] ∧ y < 256 ∧ ((b = 0 ∧ y = x) ∨ (b = 8 ∧ y = x / 256 ∧ 0 < y)) ∧ s' = s8, ?_, bsplit.dec (fun h => ⟨by decide, x / 256, 8, ?_, by omega, .inr ⟨rfl, rfl, by omega⟩, rfl⟩) (fun h => ⟨x, 0, rfl, by omega, .inl ⟨rfl, rfl⟩, rfl⟩)⟩
 ·rintro n10 n11 s12 ⟨y, b, hv, hy, hb, rfl⟩
  simp only [List.cons.injEq, AV.int.injEq, true_and, and_true] at hv
  obtain ⟨rfl, rfl⟩ := hv
  obtain ⟨k, hk, h1, h2⟩ := bits_get hy
  refine ⟨_, hk, b + k, ?_, by omega, fun h0 => ?_, rfl⟩
  ·rw [wrap_i (n := (k : Int)) (by omega), wrap_i (by omega)]; rfl
  ·rcases hb with ⟨rfl, rfl⟩ | ⟨rfl, hyx, h3⟩
   ·rw [Nat.zero_add]; omega
   ·rw [Nat.pow_add]
    rcases h2 with h2 | ⟨h2, h4⟩
    ·omega
    ·generalize 2 ^ k = w at h2 h4 ⊢
     omega
 ·have : Int.fdiv (x : Int) (2 ^ min (Int.toNat 8) (IntKind.bits .u64)) = ((x / 256 : Nat) : Int) := by
   show Int.fdiv (x : Int) ((256 : Nat) : Int) = _
   rw [Int.fdiv_eq_ediv_of_nonneg _ (by omega)]; rfl
  rw [this]; rfl
theorem pow2_ok {x : Nat} (hx : x < 65536) (h0 : 0 < x) (s : AS) : ACalls Tryd.prog F_slices_nextPowerOfTwo [.int .i64 (x : Nat)] s fun r s' => ∃ k : Nat, r = .int .u64 ((2 ^ k : Nat) : Int) ∧ k ≤ 16 ∧ x < 2 ^ k ∧ 2 ^ k ≤ 2 * x ∧ s' = s := by
 refine q_slices_nextPowerOfTwo _ _ _ ?_
 rw [Q_slices_nextPowerOfTwo, wrap_u (by omega)]
 refine (len_ok hx s).mono ?_
 rintro r s' ⟨k, rfl, h1, h2, rfl⟩
 obtain ⟨h3, h4⟩ := h2 h0
 refine ⟨_, rfl, by omega, k, ?_, h1, h3, h4, rfl⟩
 have e : min (Int.toNat (k : Int)) (IntKind.bits .u64) = k := by
  rw [Int.toNat_natCast]
  exact Nat.min_eq_left (Nat.le_trans h1 (by decide))
 rw [e, Int.one_mul, wrap_u]
 ·rw [Int.natCast_pow]; rfl
 ·have : (2 : Int) ^ k = ((2 ^ k : Nat) : Int) := by rw [Int.natCast_pow]; rfl
  rw [this]; omega
theorem xor_some (n m : Int) : ∃ w : Int, abinInt .xor .u64 n m = some (.int .u64 w) := ⟨_, rfl⟩
theorem RdA.xor {n m : Int} {K : AV → Prop} (h : ∀ w : Int, K (.int .u64 w)) : RdA (abinInt .xor .u64 n m) K := ⟨_, (xor_some n m).choose_spec, h _⟩
theorem xstep {s : AS} {q : Nat} {v0 v : AV} {K : AS → Prop} (hw : WFs s) (ho : Am.Own s q [v0]) (hv : v.one = true) (h : ∀ s', Am.Own s' q [v] → WFs s' → Mut [q] s s' → K s') : AsSome (some (q, 0)) fun l o => qstore T Y_slices_xorshift s l o v K :=
 qstore_one hv z_slices_xorshift (StQ.own hw ho (by simp) fun s' P => h s' P.at P.wf P.mut)
theorem rdq {s : AS} {q : Nat} {n : Int} {K : Int → Prop} (ho : Am.Own s q [.int .u64 n]) (h : K n) : AsSome (some (q, 0)) fun l o => RdI .u64 (rd1 s l o) K := ⟨n, by rw [ho.at.rd1]; rfl, h⟩
set_option maxRecDepth 100000 in
theorem xnext_ok {s : AS} {q : Nat} {n : Int} (h : Am.Own s q [.int .u64 n]) : ACalls Tryd.prog F_slices_xorshift_Next [.ptr (some (q, 0))] s fun r s' => ∃ m m' : Int, r = .int .u64 m ∧ Am.Own s' q [.int .u64 m'] ∧ Mut [q] s s' := by
 refine ACalls.pre fun hw => q_slices_xorshift_Next _ _ _ ?_
 refine rdq h ?_
 refine rdq h ?_
 refine ⟨by decide, ?_⟩
 refine RdA.xor fun w => ?_
 try dsimp only
 refine xstep (v := .int .u64 w) hw h rfl fun s10 o10 w10 m10 => ?_
 refine rdq o10 ?_
 refine rdq o10 ?_
 refine ⟨by decide, ?_⟩
 refine RdA.xor fun w => ?_
 try dsimp only
 refine xstep (v := .int .u64 w) w10 o10 rfl fun s20 o20 w20 m20 => ?_
 refine rdq o20 ?_
 refine rdq o20 ?_
 refine ⟨by decide, ?_⟩
 refine RdA.xor fun w => ?_
 try dsimp only
 refine xstep (v := .int .u64 w) w20 o20 rfl fun s30 o30 w30 m30 => ?_
 exact rdq o30 ⟨_, _, rfl, o30, (m10.trans m20).trans m30⟩
theorem and_small {n : Int} {k : Nat} (hk : k ≤ 16) : ∃ w : Nat, abinInt .and .u64 n (IntKind.wrap .u64 (((2 ^ k : Nat) : Int) - 1)) = some (.int .u64 (w : Nat)) ∧ w < 2 ^ k := by
 have h1 : 0 < 2 ^ k := Nat.pow_pos (by omega)
 have h2 : 2 ^ k ≤ 65536 := Nat.le_trans (Nat.pow_le_pow_right (by omega) hk) (by decide)
 refine ⟨(BitVec.ofInt 64 n &&& BitVec.ofInt 64 (((2 ^ k - 1 : Nat) : Int))).toNat, ?_, ?_⟩
 ·rw [wrap_u (by omega)]
  rw [show (((2 ^ k : Nat) : Int) - 1) = ((2 ^ k - 1 : Nat) : Int) by omega]
  have key : ∀ z : BitVec 64, IntKind.wrap .u64 (z.toNat : Int) = (z.toNat : Int) := fun z => wrap_u ⟨by omega, by have := z.isLt; omega⟩
  exact congrArg (fun u => some (AV.int .u64 u)) (key (BitVec.ofInt 64 n &&& BitVec.ofInt 64 (((2 ^ k - 1 : Nat) : Int))))
 ·rw [BitVec.toNat_and]
  have h3 := @Nat.and_le_right (BitVec.ofInt 64 n).toNat (BitVec.ofInt 64 (((2 ^ k - 1 : Nat) : Int))).toNat
  have h4 : (BitVec.ofInt 64 (((2 ^ k - 1 : Nat) : Int))).toNat = 2 ^ k - 1 := by
   rw [BitVec.ofInt_natCast, BitVec.toNat_ofNat]
   exact Nat.mod_eq_of_lt (by omega)
  omega
theorem break_ok {s : AS} {a : AV} {lo : Nat} {l : List (El E.O)} {rest : List AV} {x y : Nat} (h : Arr s a lo l rest) (hxy : x < y) (hy : y ≤ l.length) (hn : l.length < 65536) :
  ACalls Tryd.prog E.F_breakPatternsOrdered [a, .int .i64 (x : Nat), .int .i64 (y : Nat)] s fun r s' => r = .tup [] ∧ ∃ l', WSt s a lo rest l x y s' l' := by
 refine ACalls.pre fun hw => SQ.q_breakPatternsOrdered _ _ _ _ _ ?_
 have hlo : s.h lo ≠ none := by obtain ⟨_, g, h2⟩ := h; rw [h2]; simp
 rw [Q_breakPatternsOrdered, wsub (by omega) (by omega)]
 refine bsplit.dec (fun h8 => ?_) (fun _ => ⟨rfl, l, h, hw, .refl _, Mut.refl _ _⟩)
 refine NewQ.intro hw rfl fun q s2 F => StQ.own F.wf F.own (by simp) fun s3 P => ?_
 have o3 : Am.Own s3 q [_] := P.at
 have hq : q ≠ lo := by rintro rfl; exact hlo F.no
 have a3 : Arr s3 a lo l rest := (h.ext F.ext).mut P.mut (by simp; exact fun e => hq e.symm)
 have m3 : Mut [lo] s s3 := ⟨fun z o hz ho => by
  have := F.ext.1 z o ho
  exact P.mut.1 z o (by simp; rintro rfl; rw [F.no] at ho; cases ho) this, Nat.le_trans F.ext.2 P.mut.2⟩
 refine ACalls.use (pow2_ok (x := y - x) (by omega) (by omega) s3) ?_
 rintro r s5 ⟨k, rfl, hk, hk1, hk2, rfl⟩ hw5
 refine ⟨_, rfl, by decide, ?_⟩
 rw [show (4 : Int) = ((4 : Nat) : Int) by rfl, tdivN, wid (by omega), show (((y - x) / 4 : Nat) : Int) * 2 = (((y - x) / 4 * 2 : Nat) : Int) by omega, wid (by omega), wadd (by omega), wsub1 (by omega) (by omega), wadd1 (by omega)]
 generalize hd : x + (y - x) / 4 * 2 = d
 refine ⟨fun m vs s' => ∃ (i : Nat) (l' : List (El E.O)) (v : Int), vs = [.int .i64 (i : Nat)] ∧ d - 1 ≤ i ∧ m = d + 2 - i ∧ Am.Own s' q [.int .u64 v] ∧ WSt s a lo rest l x y s' l', d + 2 - (d - 1), ⟨d - 1, l, _, rfl, by omega, rfl, o3, a3, hw5, .refl _, m3⟩, ?_⟩
 rintro m n10 s11 ⟨i, l1, v, hi, hdi, rfl, o11, st11⟩
 simp only [List.cons.injEq, AV.int.injEq, true_and, and_true] at hi
 subst hi
 have hl1 := st11.sw.len
 refine ⟨by decide, bsplit.dec (fun hle => ?_) (fun _ => ⟨rfl, l1, st11⟩)⟩
 refine ACalls.use (xnext_ok o11) ?_
 rintro r s13 ⟨w1, w2, rfl, o13, m13⟩ hw13
 have a13 : Arr s13 a lo l1 rest := st11.arr.mut m13 (by simp; exact fun e => hq e.symm)
 have M13 : Mut [lo] s s13 := ⟨fun z o hz ho => m13.1 z o (by simp; rintro rfl; rw [F.no] at ho; cases ho) (st11.chg.1 z o hz ho), Nat.le_trans st11.chg.2 m13.2⟩
 have st13 : WSt s a lo rest l x y s13 l1 := ⟨a13, hw13, st11.sw, M13⟩
 obtain ⟨w, hw1, hw2⟩ := and_small (n := w1) hk
 refine ⟨_, rfl, _, hw1, ?_⟩
 show JoinQ _
 rw [wid (by omega)]
 refine ⟨fun vs s' => s' = s13 ∧ ∃ t : Nat, vs = [.int .i64 (t : Nat)] ∧ t < y - x, ?_, bsplit.dec (fun hge => ⟨rfl, w - (y - x), by rw [wsub (by omega) (by omega)], by omega⟩) (fun hlt => ⟨rfl, w, rfl, by omega⟩)⟩
 rintro n18 s19 ⟨rfl, t, ht, hty⟩
 simp only [List.cons.injEq, AV.int.injEq, true_and, and_true] at ht
 subst ht
 rw [wadd (by omega)]
 refine st13.arr.swap st13.wf (by omega) (by omega) fun s31 a31 w31 m31 => ?_
 rw [wadd1 (by omega)]
 exact ⟨d + 2 - (i + 1), by omega, i + 1, _, _, rfl, by omega, rfl, o13.mut m31 (by simpa using hq), st13.swap hy ⟨by omega, by omega⟩ ⟨by omega, by omega⟩ a31 w31 m31⟩
end
section
variable [LessOk E]
theorem mut_sub {L L' : List Nat} {s s' : AS} (h : Mut L s s') (hs : ∀ x ∈ L, x ∈ L') : Mut L' s s' := ⟨fun x o hx ho => h.1 x o (fun hm => hx (hs x hm)) ho, h.2⟩
structure Ct (s : AS) (a : AV) (lo : Nat) (l : List (El E.O)) (rest : List AV) (q : Nat) (s' : AS) : Prop where
 ne : q ≠ lo
 own : ∃ c : Int, Am.Own s' q [.int .i64 c]
 arr : Arr s' a lo l rest
 wf : WFs s'
 chg : Mut [q, lo] s s'
section
variable {s s0 : AS} {a : AV} {lo : Nat} {l : List (El E.O)} {rest : List AV} {q : Nat}
theorem order2_ok (h : Ct s0 a lo l rest q s) {x y : Nat} (hx : x < l.length) (hy : y < l.length) :
  ACalls Tryd.prog E.F_order2Ordered [a, .int .i64 (x : Nat), .int .i64 (y : Nat), .ptr (some (q, 0))] s fun r s' => ∃ u v : Nat, r = .tup [.int .i64 (u : Nat), .int .i64 (v : Nat)] ∧ (u = x ∨ u = y) ∧ (v = x ∨ v = y) ∧ Ct s0 a lo l rest q s' := by
 refine SQ.q_order2Ordered _ _ _ _ _ _ ?_
 refine h.arr.cmp hy hx fun s8 a8 w8 m8 => ?_
 obtain ⟨c, o⟩ := h.own
 have o8 : Am.Own s8 q _ := o.mut m8 (by simpa using h.ne)
 have M8 : Mut [q, lo] s0 s8 := h.chg.trans (mut_sub m8 (by simp))
 refine bsplit.dec (fun _ => ?_) (fun _ => ⟨x, y, rfl, .inl rfl, .inr rfl, h.ne, ⟨c, o8⟩, a8, w8, M8⟩)
 refine ⟨c, by rw [o8.at.rd1]; rfl, StQ.own w8 o8 (by simp) fun s15 P => ⟨y, x, rfl, .inr rfl, .inl rfl, h.ne, ⟨_, P.at⟩, a8.mut P.mut (by simp; exact fun e => h.ne e.symm), P.wf, M8.trans (mut_sub P.mut (by simp))⟩⟩
theorem median_ok (h : Ct s0 a lo l rest q s) {x y z : Nat} (hx : x < l.length) (hy : y < l.length) (hz : z < l.length) :
  ACalls Tryd.prog E.F_medianOrdered [a, .int .i64 (x : Nat), .int .i64 (y : Nat), .int .i64 (z : Nat), .ptr (some (q, 0))] s fun r s' => ∃ u : Nat, r = .int .i64 (u : Nat) ∧ (u = x ∨ u = y ∨ u = z) ∧ Ct s0 a lo l rest q s' := by
 refine SQ.q_medianOrdered _ _ _ _ _ _ _ ?_
 refine (order2_ok h hx hy).mono ?_
 rintro r s2 ⟨u1, v1, rfl, hu1, hv1, h2⟩
 refine ⟨_, _, rfl, (order2_ok h2 (by omega) hz).mono ?_⟩
 rintro r s6 ⟨u2, v2, rfl, hu2, hv2, h6⟩
 refine ⟨_, _, rfl, (order2_ok h6 (by omega) (by omega)).mono ?_⟩
 rintro r s10 ⟨u3, v3, rfl, hu3, hv3, h10⟩
 exact ⟨_, _, rfl, v3, rfl, by omega, h10⟩
theorem medAdj_ok (h : Ct s0 a lo l rest q s) {x : Nat} (h0 : 1 ≤ x) (hx : x + 1 < l.length) (hn : l.length < 65536) :
  ACalls Tryd.prog E.F_medianAdjacentOrdered [a, .int .i64 (x : Nat), .ptr (some (q, 0))] s fun r s' => ∃ u : Nat, r = .int .i64 (u : Nat) ∧ (x ≤ u + 1 ∧ u ≤ x + 1) ∧ Ct s0 a lo l rest q s' := by
 refine SQ.q_medianAdjacentOrdered _ _ _ _ _ ?_
 rw [Q_medianAdjacentOrdered, wsub1 (by omega) (by omega), wadd1 (by omega)]
 refine (median_ok h (by omega) (by omega) (by omega)).mono ?_
 rintro r s' ⟨u, rfl, hu, h'⟩
 exact ⟨_, rfl, u, rfl, by omega, h'⟩
theorem choose_ok {x y : Nat} (h : Arr s a lo l rest) (hxy : x < y) (hy : y ≤ l.length) (hn : l.length < 65536) :
  ACalls Tryd.prog E.F_choosePivotOrdered [a, .int .i64 (x : Nat), .int .i64 (y : Nat)] s fun r s' => ∃ (p : Nat) (t : Int), r = .tup [.int .i64 (p : Nat), .int .i64 t] ∧ (x ≤ p ∧ p < y) ∧ Arr s' a lo l rest ∧ Mut [lo] s s' := by
 have hlo : s.h lo ≠ none := by obtain ⟨_, g, h2⟩ := h; rw [h2]; simp
 refine ACalls.pre fun hw => SQ.q_choosePivotOrdered _ _ _ _ _ (NewQ.intro hw rfl fun q s2 F => ⟨by decide, by decide, by decide, ?_⟩)
 have hq : q ≠ lo := by rintro rfl; exact hlo F.no
 have c2 : Ct s2 a lo l rest q s2 := ⟨hq, ⟨_, F.own⟩, h.ext F.ext, F.wf, Mut.refl _ _⟩
 have back : ∀ s', Ct s2 a lo l rest q s' → Mut [lo] s s' := fun s' c => ⟨fun z o hz ho => c.chg.1 z o (by
  simp only [List.mem_cons, List.not_mem_nil, or_false, not_or]
  exact ⟨(by rintro rfl; rw [F.no] at ho; cases ho), by simpa using hz⟩) (F.ext.1 z o ho), Nat.le_trans F.ext.2 c.chg.2⟩
 have w4 : ∀ k : Nat, k ≤ 3 → IntKind.wrap .i64 ((x : Int) + IntKind.wrap .i64 (IntKind.wrap .i64 (Int.tdiv (IntKind.wrap .i64 ((y : Int) - (x : Int))) 4) * ((k : Nat) : Int))) = ((x + (y - x) / 4 * k : Nat) : Int) := by
  intro k hk
  have hm : (y - x) / 4 * k ≤ (y - x) / 4 * 3 := Nat.mul_le_mul_left _ hk
  rw [wsub (by omega) (by omega), show (4 : Int) = ((4 : Nat) : Int) by rfl, tdivN, wid (by omega), ← Int.natCast_mul, wid (by omega), wadd (by omega)]
 have w1 := w4 1 (by omega)
 have w2 := w4 2 (by omega)
 have w3 := w4 3 (by omega)
 simp only [Int.natCast_one, show ((2 : Nat) : Int) = 2 by rfl, show ((3 : Nat) : Int) = 3 by rfl] at w1 w2 w3
 rw [w1, w2, w3, wsub (by omega) (by omega)]
 refine ⟨fun vs s' => ∃ p : Nat, vs = [.int .i64 (p : Nat)] ∧ (x ≤ p ∧ p < y) ∧ Ct s2 a lo l rest q s', ?_, bsplit.dec (fun h8 => ?_) (fun _ => ⟨_, rfl, by omega, c2⟩)⟩
 ·rintro n4 s5 ⟨p, hp, hpy, c5⟩
  simp only [List.cons.injEq, AV.int.injEq, true_and, and_true] at hp
  subst hp
  obtain ⟨c, o⟩ := c5.own
  refine ⟨c, by rw [o.at.rd1]; rfl, ?_⟩
  refine bsplit.mk (fun _ => ⟨p, _, rfl, hpy, c5.arr, back _ c5⟩) (fun _ => bsplit.mk (fun _ => ⟨p, _, rfl, hpy, c5.arr, back _ c5⟩) (fun _ => ⟨p, _, rfl, hpy, c5.arr, back _ c5⟩))
 ·refine ⟨fun vs s' => ∃ i j k : Nat, vs = [.int .i64 (i : Nat), .int .i64 (j : Nat), .int .i64 (k : Nat)] ∧ (x ≤ i ∧ i < y) ∧ (x ≤ j ∧ j < y) ∧ (x ≤ k ∧ k < y) ∧ Ct s2 a lo l rest q s', ?_, bsplit.dec (fun h50 => ?_) (fun _ => ⟨_, _, _, rfl, by omega, by omega, by omega, c2⟩)⟩
  ·rintro n8 n9 n10 s11 ⟨i, j, k, hv, hi, hj, hk, c11⟩
   simp only [List.cons.injEq, AV.int.injEq, true_and, and_true] at hv
   obtain ⟨rfl, rfl, rfl⟩ := hv
   refine (median_ok c11 (by omega) (by omega) (by omega)).mono ?_
   rintro r s13 ⟨u, rfl, hu, c13⟩
   exact ⟨_, rfl, u, rfl, by omega, c13⟩
  ·refine (medAdj_ok c2 (by omega) (by omega) hn).mono ?_
   rintro r s16 ⟨i, rfl, hi, c16⟩
   refine ⟨_, rfl, (medAdj_ok c16 (by omega) (by omega) hn).mono ?_⟩
   rintro r s19 ⟨j, rfl, hj, c19⟩
   refine ⟨_, rfl, (medAdj_ok c19 (by omega) (by omega) hn).mono ?_⟩
   rintro r s22 ⟨k, rfl, hk, c22⟩
   exact ⟨_, rfl, i, j, k, rfl, by omega, by omega, by omega, c22⟩
end
end
section
variable [LessOk E]
structure Gd (s : AS) (a : AV) (lo : Nat) (rest : List AV) (l : List (El E.O)) (x y : Nat) (s' : AS) (l' : List (El E.O)) (c d : Nat) : Prop where
 st : WSt s a lo rest l x y s' l'
 ar : Around l' x y c d
 xc : x ≤ c
 cd : c ≤ d
 dy : d ≤ y
section
variable {s : AS} {a : AV} {lo : Nat} {rest : List AV} {l : List (El E.O)} {x y : Nat}
theorem Gd.sub {s' s'' : AS} {l' l'' : List (El E.O)} {c d c' d' : Nat} (h : Gd s a lo rest l x y s' l' c d) (hy : y ≤ l.length) (ha : Arr s'' a lo l'' rest) (hw : WFs s'') (hs : Sw c' d' l' l'') (m : Mut [lo] s' s'') (hc : c ≤ c') (hd : d' ≤ d) : WSt s a lo rest l x y s'' l'' :=
 ⟨ha, hw, h.st.sw.trans (hs.widen (Nat.le_trans h.xc hc) (Nat.le_trans hd h.dy) (by rw [h.st.sw.len]; exact hy)), h.st.chg.trans m⟩
theorem Gd.perm {s' s'' : AS} {l' l'' : List (El E.O)} {c d : Nat} (h : Gd s a lo rest l x y s' l' c d) (hy : y ≤ l.length) (ha : Arr s'' a lo l'' rest) (hw : WFs s'') (hs : Sw c d l' l'') (m : Mut [lo] s' s'') : Gd s a lo rest l x y s'' l'' c d :=
 ⟨h.sub hy ha hw hs m (Nat.le_refl _) (Nat.le_refl _), h.ar.sw h.xc h.dy hs, h.xc, h.cd, h.dy⟩
theorem Gd.to {s' s'' : AS} {l' : List (El E.O)} {c d : Nat} (h : Gd s a lo rest l x y s' l' c d) (ha : Arr s'' a lo l' rest) (hw : WFs s'') (m : Mut [lo] s' s'') : Gd s a lo rest l x y s'' l' c d :=
 ⟨h.st.to ha hw m, h.ar, h.xc, h.cd, h.dy⟩
theorem Gd.low {s' : AS} {l' : List (El E.O)} {c d : Nat} (h : Gd s a lo rest l x y s' l' c d) (hlow : 0 < x → ∀ q, x ≤ q → q < y → (el l (x - 1)).le (el l q)) : 0 < c → ∀ q, c ≤ q → q < d → (el l' (c - 1)).le (el l' q) := by
 intro h0 q h1 h2
 have := h.xc
 have := h.dy
 by_cases e : c = x
 ·subst e
  exact low_sw h.st.sw hlow h0 q h1 (by omega)
 ·exact h.ar (c - 1) q (by omega) (by omega) (by omega) (.inl (by omega))
end
theorem pdq_ok {a : AV} {lo : Nat} {rest : List AV} : ∀ (n : Nat) {s : AS} {l : List (El E.O)} {x y : Nat} (lim : Int), y - x = n → Arr s a lo l rest → x ≤ y → y ≤ l.length → l.length < 65536 → (0 < x → ∀ q, x ≤ q → q < y → (el l (x - 1)).le (el l q)) →
  ACalls Tryd.prog E.F_pdqsortOrdered [a, .int .i64 (x : Nat), .int .i64 (y : Nat), .int .i64 lim] s fun r s' => r = .tup [] ∧ ∃ l', WSt s a lo rest l x y s' l' ∧ Srt l' x y := by
 intro n
 induction n using Nat.strongRecOn with
 | _ n IH =>
 intro s l x y lim hn h hxy hy hl hlow
 refine ACalls.pre fun hw => SQ.q_pdqsortOrdered _ _ _ _ _ _ ⟨fun m vs s' => ∃ (c d : Nat) (li : Int) (b1 b2 : Bool) (l' : List (El E.O)), vs = [.int .i64 (c : Nat), .int .i64 (d : Nat), .int .i64 li, .bool b1, .bool b2] ∧ m = d - c ∧ Gd s a lo rest l x y s' l' c d, y - x, ⟨x, y, lim, true, true, l, rfl, rfl, ⟨h, hw, .refl _, Mut.refl _ _⟩, Around.start _ _ _, by omega, by omega, by omega⟩, ?_⟩
 rintro m n4 n5 n6 b7 b8 s9 ⟨c, d, li, b1, b2, l1, hv, rfl, g9⟩
 simp only [List.cons.injEq, AV.int.injEq, AV.bool.injEq, true_and, and_true] at hv
 obtain ⟨rfl, rfl, rfl, rfl, rfl⟩ := hv
 have hxc := g9.xc
 have hcd := g9.cd
 have hdy := g9.dy
 have hl1 := g9.st.sw.len
 rw [wsub (by omega) (by omega)]
 refine bsplit.dec (fun h12 => ?_) (fun h12 => bsplit.mk (fun _ => ?_) (fun _ => ?_))
 ·refine ACalls.use (insSort_ok g9.st.arr hcd (by omega) (by omega)) ?_
  rintro r s11 ⟨rfl, l2, a11, sw11, so11, m11⟩ w11
  have g11 := g9.perm hy a11 w11 sw11 m11
  exact ⟨rfl, rfl, l2, g11.st, g11.ar.srt so11⟩
 ·refine ACalls.use (heapSort_ok g9.st.arr (by omega) (by omega) (by omega)) ?_
  rintro r s11 ⟨rfl, l2, a11, sw11, so11, m11⟩ w11
  have g11 := g9.perm hy a11 w11 sw11 m11
  exact ⟨rfl, rfl, l2, g11.st, g11.ar.srt so11⟩
 have hcd' : c < d := by omega
 refine ⟨fun vs s' => ∃ (li : Int) (l' : List (El E.O)), vs = [.int .i64 li] ∧ Gd s a lo rest l x y s' l' c d, ?_, bsplit.mk (fun _ => ?_) (fun _ => ⟨_, l1, rfl, g9⟩)⟩
 ·rintro n15 s16 ⟨li2, l2, hv, g16⟩
  simp only [List.cons.injEq, AV.int.injEq, true_and, and_true] at hv
  subst hv
  have hl2 := g16.st.sw.len
  refine ACalls.use (choose_ok g16.st.arr hcd' (by omega) (by omega)) ?_
  rintro r s18 ⟨p, t, rfl, hp, a18, m18⟩ w18
  have g18 := g16.to a18 w18 m18
  refine ⟨_, _, rfl, fun vs s' => ∃ (p : Nat) (t : Int) (l' : List (El E.O)), vs = [.int .i64 (p : Nat), .int .i64 t] ∧ (c ≤ p ∧ p < d) ∧ Gd s a lo rest l x y s' l' c d, ?_, bsplit.mk (fun _ => ?_) (fun _ => ⟨p, t, l2, rfl, hp, g18⟩)⟩
  ·rintro n22 n23 s24 ⟨p, t, l3, hv, hp, g24⟩
   simp only [List.cons.injEq, AV.int.injEq, true_and, and_true] at hv
   obtain ⟨rfl, rfl⟩ := hv
   refine ⟨fun vs s' => ∃ l', Gd s a lo rest l x y s' l' c d, ?_, ?_⟩
   ·rintro s26 ⟨l4, g26⟩
    have hl4 := g26.st.sw.len
    refine ⟨fun vs s' => ∃ b, vs = [.bool b] ∧ Gd s a lo rest l x y s' l4 c d ∧ (b = true → 0 < c ∧ (el l4 p).le (el l4 (c - 1))), ?_, ?_⟩
    ·rintro b28 s29 ⟨b, hv, g29, hb⟩
     simp only [List.cons.injEq, AV.bool.injEq, and_true] at hv
     subst hv
     refine bsplit.mk (fun hb1 => ?_) (fun _ => ?_)
     ·obtain ⟨hc0, hle⟩ := hb hb1
      refine ACalls.use (partEq_ok g29.st.arr hp (by omega) (by omega)) ?_
      rintro r s31 ⟨i, j, l5, rfl, a31, sw31, pr31, hji, ex31, m31⟩ w31
      have g31 := g29.perm hy a31 w31 sw31 m31
      have hxi := pr31.xi
      have hjd := pr31.jy
      have hij := pr31.ij
      refine ⟨_, rfl, d - i, by omega, i, d, _, _, _, l5, rfl, rfl, g31.st, g31.ar.equal hxc hdy pr31 hji (fun k h1 h2 => ?_), by omega, by omega, by omega⟩
      rw [ex31]
      refine El.le_trans hle ?_
      have := g31.low hlow hc0 k h1 h2
      rw [sw31.out (.inl (by omega))] at this
      exact this
     ·refine ACalls.use (partition_ok g29.st.arr hp (by omega) (by omega)) ?_
      rintro r s34 ⟨mm, bb, l5, rfl, a34, sw34, pa34, m34⟩ w34
      have g34 := g29.perm hy a34 w34 sw34 m34
      have hcm := pa34.xm
      have hmd := pa34.my
      have hl5 := g34.st.sw.len
      have hlow5 := g34.low hlow
      refine ⟨_, _, rfl, by decide, ?_⟩
      rw [wadd1 (by omega)]
      refine bsplit.mk (fun _ => ?_) (fun _ => ?_)
      ·refine ACalls.use (IH (mm - c) (by omega) (s := s34) (l := l5) (x := c) (y := mm) _ rfl a34 hcm (by omega) (by omega) (fun h0 q h1 h2 => hlow5 h0 q h1 (by omega))) ?_
       rintro r s38 ⟨rfl, l6, st38, so38⟩ w38
       refine ⟨rfl, d - (mm + 1), by omega, mm + 1, d, _, _, _, l6, rfl, rfl, g34.sub hy st38.arr w38 st38.sw st38.chg (Nat.le_refl _) (by omega), g34.ar.right hxc hdy pa34 st38.sw so38, by omega, by omega, by omega⟩
      ·refine ACalls.use (IH (d - (mm + 1)) (by omega) (s := s34) (l := l5) (x := mm + 1) (y := d) _ rfl a34 (by omega) (by omega) (by omega) (fun h0 q h1 h2 => by
        rw [Nat.add_sub_cancel]; exact pa34.ge q (by omega) h2)) ?_
       rintro r s38 ⟨rfl, l6, st38, so38⟩ w38
       refine ⟨rfl, mm - c, by omega, c, mm, _, _, _, l6, rfl, rfl, g34.sub hy st38.arr w38 st38.sw st38.chg (by omega) (Nat.le_refl _), g34.ar.left hxc hdy pa34 st38.sw so38, by omega, by omega, by omega⟩
    ·refine bsplit.dec (fun hc0 => ?_) (fun _ => ⟨false, rfl, g26, by simp⟩)
     rw [wsub1 (by omega) (by omega)]
     refine g26.st.arr.cmp (by omega) (by omega) fun s48 a48 w48 m48 => ⟨_, rfl, g26.to a48 w48 m48, fun hb => ⟨by omega, ?_⟩⟩
     exact El.nlt_le (by rw [← El.cmp_lt]; simpa using hb)
   ·refine ⟨fun vs s' => ∃ b, vs = [.bool b] ∧ s' = s24, ?_, bsplit.mk (fun _ => bsplit.mk (fun _ => ⟨_, rfl, rfl⟩) (fun _ => ⟨_, rfl, rfl⟩)) (fun _ => ⟨_, rfl, rfl⟩)⟩
    rintro b51 s52 ⟨b, hv, rfl⟩
    simp only [List.cons.injEq, AV.bool.injEq, and_true] at hv
    subst hv
    have hl3 := g24.st.sw.len
    refine bsplit.mk (fun _ => ?_) (fun _ => ⟨l3, g24⟩)
    refine ACalls.use (partial_ok g24.st.arr hcd' (by omega) (by omega) (g24.low hlow)) ?_
    rintro r s54 ⟨b, l4, rfl, st54, hs⟩ w54
    have g54 := g24.perm hy st54.arr w54 st54.sw st54.chg
    exact ⟨_, rfl, bsplit.mk (fun hb => ⟨rfl, l4, g54.st, g54.ar.srt (hs hb)⟩) (fun _ => ⟨l4, g54⟩)⟩
  ·refine ACalls.use (reverse_ok g18.st.arr hcd' (by omega) (by omega)) ?_
   rintro r s57 ⟨rfl, l3, a57, sw57, m57⟩ w57
   rw [wsub1 (by omega) (by omega), wsub (by omega) (by omega), wsub (by omega) (by omega)]
   exact ⟨rfl, d - 1 - (p - c), 1, l3, rfl, by omega, g18.perm hy a57 w57 sw57 m57⟩
 ·refine ACalls.use (break_ok g9.st.arr hcd' (by omega) (by omega)) ?_
  rintro r s59 ⟨rfl, l2, st59⟩ w59
  exact ⟨rfl, _, l2, rfl, g9.perm hy st59.arr w59 st59.sw st59.chg⟩
theorem sort_ok {s : AS} {a : AV} {lo : Nat} {rest : List AV} {l : List (El E.O)} (h : Arr s a lo l rest) (hl : l.length < 65536) :
  ACalls Tryd.prog E.F_Sort [a] s fun r s' => r = .tup [] ∧ ∃ l', Arr s' a lo l' rest ∧ l'.Perm l ∧ Srt l' 0 l'.length ∧ Mut [lo] s s' := by
 refine SQ.q_Sort _ _ _ ?_
 have hlen : alenB T E.ys a s = some (.int .i64 (l.length : Nat)) := by
  obtain ⟨⟨c, e, rfl⟩, _⟩ := h
  simp [alenB, E.us]
 refine ⟨_, hlen, ?_⟩
 dsimp only
 rw [wrap_u (by omega)]
 refine ACalls.use (len_ok hl s) ?_
 rintro r s3 ⟨k, rfl, _, _, rfl⟩ w3
 refine ⟨_, rfl, ?_⟩
 refine (pdq_ok (l.length - 0) (x := 0) (y := l.length) k rfl h (by omega) (by omega) hl (by omega)).mono ?_
 rintro r s6 ⟨rfl, l', st, so⟩
 exact ⟨rfl, rfl, l', st.arr, st.sw.perm, by rw [st.sw.len]; exact so, st.chg⟩
end
section
theorem insNilN_ok {a : Option (Nat × Nat)} (s : AS) : ACalls Tryd.prog E.F_insertionSortOrdered [.slc a 0 0 true, .int .i64 0, .int .i64 0] s fun r s' => r = .tup [] ∧ s' = s := by
 refine SQ.q_insertionSortOrdered _ _ _ _ _ ⟨fun m vs s' => vs = [.int .i64 1] ∧ s' = s, 0, ⟨rfl, rfl⟩, ?_⟩
 rintro m n s5 ⟨hi, rfl⟩
 simp only [List.cons.injEq, AV.int.injEq, true_and, and_true] at hi
 subst hi
 exact bsplit.no (by decide) ⟨rfl, rfl⟩
theorem pdqNilN_ok {a : Option (Nat × Nat)} (s : AS) (lim : Int) : ACalls Tryd.prog E.F_pdqsortOrdered [.slc a 0 0 true, .int .i64 0, .int .i64 0, .int .i64 lim] s fun r s' => r = .tup [] ∧ s' = s := by
 refine SQ.q_pdqsortOrdered _ _ _ _ _ _ ⟨fun m vs s' => vs = [.int .i64 0, .int .i64 0, .int .i64 lim, .bool true, .bool true] ∧ s' = s, 0, ⟨rfl, rfl⟩, ?_⟩
 rintro m n4 n5 n6 b7 b8 s9 ⟨hi, rfl⟩
 simp only [List.cons.injEq, AV.int.injEq, AV.bool.injEq, true_and, and_true] at hi
 obtain ⟨rfl, rfl, rfl, rfl, rfl⟩ := hi
 refine bsplit.yes (by decide) ?_
 refine ACalls.use (insNilN_ok s9) ?_
 rintro r s' ⟨rfl, rfl⟩ _
 exact ⟨rfl, rfl, rfl⟩
theorem sortNilN_ok {a : Option (Nat × Nat)} (s : AS) : ACalls Tryd.prog E.F_Sort [.slc a 0 0 true] s fun r s' => r = .tup [] ∧ s' = s := by
 refine SQ.q_Sort _ _ _ ?_
 have hlen : alenB T E.ys (.slc a 0 0 true) s = some (.int .i64 0) := by simp [alenB, E.us]
 refine ⟨_, hlen, ?_⟩
 dsimp only
 rw [show IntKind.wrap .u64 (0 : Int) = ((0 : Nat) : Int) from wrap_u (by omega)]
 refine ACalls.use (len_ok (by omega) s) ?_
 rintro r s3 ⟨k, rfl, _, _, rfl⟩ w3
 refine ⟨_, rfl, ?_⟩
 refine ACalls.use (pdqNilN_ok _ _) ?_
 rintro r s6 ⟨rfl, rfl⟩ _
 exact ⟨rfl, rfl, rfl⟩
def ArrN (s0 s : AS) (v : AV) (l : List (El E.O)) : Prop := Ext s0 s ∧ ((l = [] ∧ ∃ a, v = .slc a 0 0 true) ∨ ∃ la, v = .slc (some (la, 0)) l.length l.length false ∧ Arr s v la l [] ∧ s0.h la = none)
variable [LessOk E]
theorem sortGro_ok {s0 s : AS} {v : AV} {l : List (El E.O)} {sz : Nat} (g : GroN (fun x => [E.c x]) sz [] s0 s v l) (hl : l.length < 65536) :
  ACalls Tryd.prog E.F_Sort [v] s fun r s' => r = .tup [] ∧ ∃ l', l'.Perm l ∧ Srt l' 0 l'.length ∧ ArrN s0 s' v l' := by
 have e0 : Ext s0 s := g.chg.ext
 rcases g.gro with ⟨rfl, a, rfl⟩ | ⟨la, rfl, ho⟩
 ·refine (sortNilN_ok s).mono ?_
  rintro r s' ⟨rfl, rfl⟩
  exact ⟨rfl, [], .refl _, fun i j h1 h2 h3 => by simp at h3, e0, .inl ⟨rfl, a, rfl⟩⟩
 ·have hfm : ∀ l : List (El E.O), l.flatMap (fun x => [E.c x]) = l.map E.c := fun l => by induction l with | nil => rfl | cons x l ih => simp [ih]
  have ha : Arr s (.slc (some (la, 0)) l.length l.length false) la l [] := ⟨⟨_, _, rfl⟩, sz, by rw [← hfm]; simpa using ho⟩
  have hn : s0.h la = none := g.new la (by simp [labOf])
  refine (sort_ok ha hl).mono ?_
  rintro r s' ⟨rfl, l', ha', hp, hs, m'⟩
  refine ⟨rfl, l', hp, hs, ⟨fun x o hx => m'.1 x o (by simp only [List.mem_singleton]; rintro rfl; rw [hn] at hx; cases hx) (e0.1 x o hx), Nat.le_trans e0.2 m'.2⟩, .inr ⟨la, by rw [hp.length_eq], ha', hn⟩⟩
theorem ArrN.dots {s0 s : AS} {v : AV} {l : List (El E.O)} (h : ArrN s0 s v l) : Sl (fun x => [E.c x]) 1 s v l := by
 have hfm : ∀ l : List (El E.O), l.flatMap (fun x => [E.c x]) = l.map E.c := fun l => by induction l with | nil => rfl | cons x l ih => simp [ih]
 rcases h.2 with ⟨rfl, a, rfl⟩ | ⟨la, rfl, ⟨_, g, ho⟩, _⟩
 ·exact Sl.nil
 ·refine SlAt.mk ⟨_, _, ho⟩ (by rw [hfm]; simp) ?_ (Nat.le_refl _)
  rw [List.drop_zero, List.append_nil, hfm]
  exact List.take_of_length_le (by simp)
end
end Go.Proofs.YtblpmffajlkmjaaDoor.SO
end

section
set_option maxRecDepth 100000
set_option maxHeartbeats 4000000
namespace Go.Proofs.YtblpmffajlkmjaaDoor.OI
open Go.Am Go.Minster2
def oe : Go.Minster.SG.OE := ⟨Int, 0, fun a b => decide (a < b), fun a b => if a < b then -1 else 0, fun a b => by by_cases h : a < b <;> simp [h], fun a b c h h' => by simp only [decide_eq_false_iff_not] at *; omega, fun a => by simp, fun a b h => by simp only [decide_eq_true_eq, decide_eq_false_iff_not] at *; omega⟩
def se : SO.SE := ⟨oe, fun x => .int .i64 x, fun x => rfl, Y_s_int, Y_int, u_s_int, z_int, F_cmp_Less__int, F_slices_Sort__s_int_int, F_slices_pdqsortOrdered__int, F_slices_insertionSortOrdered__int, F_slices_heapSortOrdered__int, F_slices_breakPatternsOrdered__int, F_slices_choosePivotOrdered__int, F_slices_reverseRangeOrdered__int, F_slices_partialInsertionSortOrdered__int, F_slices_partitionEqualOrdered__int, F_slices_partitionOrdered__int, F_slices_siftDownOrdered__int, F_slices_medianAdjacentOrdered__int, F_slices_medianOrdered__int, F_slices_order2Ordered__int⟩
instance : SO.SQ se where
 q_Sort := fun a0 s R h =>
  ACalls.q (n := 11) (rs := []) (A := SO.A_Sort) hT hmx Tryd.func34 (by kernel_rfl) rfl rfl rfl (by kernel_rfl) (by kernel_rfl) h
 q_pdqsortOrdered := fun a0 a1 a2 a3 s R h =>
  ACalls.q (n := 134) (rs := []) (A := SO.A_pdqsortOrdered) hT hmx Tryd.func41 (by kernel_rfl) rfl rfl rfl (by kernel_rfl) (by kernel_rfl) h
 q_insertionSortOrdered := fun a0 a1 a2 s R h =>
  ACalls.q (n := 49) (rs := []) (A := SO.A_insertionSortOrdered) hT hmx Tryd.func47 (by kernel_rfl) rfl rfl rfl (by kernel_rfl) (by kernel_rfl) h
 q_heapSortOrdered := fun a0 a1 a2 s R h =>
  ACalls.q (n := 56) (rs := []) (A := SO.A_heapSortOrdered) hT hmx Tryd.func48 (by kernel_rfl) rfl rfl rfl (by kernel_rfl) (by kernel_rfl) h
 q_breakPatternsOrdered := fun a0 a1 a2 s R h =>
  ACalls.q (n := 65) (rs := []) (A := SO.A_breakPatternsOrdered) hT hmx Tryd.func49 (by kernel_rfl) rfl rfl rfl (by kernel_rfl) (by kernel_rfl) h
 q_choosePivotOrdered := fun a0 a1 a2 s R h =>
  ACalls.q (n := 57) (rs := [.tmp 6, .tmp 7]) (A := SO.A_choosePivotOrdered) hT hmx Tryd.func50 (by kernel_rfl) rfl rfl rfl (by kernel_rfl) (by kernel_rfl) h
 q_reverseRangeOrdered := fun a0 a1 a2 s R h =>
  ACalls.q (n := 32) (rs := []) (A := SO.A_reverseRangeOrdered) hT hmx Tryd.func51 (by kernel_rfl) rfl rfl rfl (by kernel_rfl) (by kernel_rfl) h
 q_partialInsertionSortOrdered := fun a0 a1 a2 s R h =>
  ACalls.q (n := 133) (rs := [.tmp 6]) (A := SO.A_partialInsertionSortOrdered) hT hmx Tryd.func52 (by kernel_rfl) rfl rfl rfl (by kernel_rfl) (by kernel_rfl) h
 q_partitionEqualOrdered := fun a0 a1 a2 a3 s R h =>
  ACalls.q (n := 84) (rs := [.tmp 8]) (A := SO.A_partitionEqualOrdered) hT hmx Tryd.func54 (by kernel_rfl) rfl rfl rfl (by kernel_rfl) (by kernel_rfl) h
 q_partitionOrdered := fun a0 a1 a2 a3 s R h =>
  ACalls.q (n := 168) (rs := [.tmp 8, .tmp 9]) (A := SO.A_partitionOrdered) hT hmx Tryd.func55 (by kernel_rfl) rfl rfl rfl (by kernel_rfl) (by kernel_rfl) h
 q_siftDownOrdered := fun a0 a1 a2 a3 s R h =>
  ACalls.q (n := 76) (rs := []) (A := SO.A_siftDownOrdered) hT hmx Tryd.func64 (by kernel_rfl) rfl rfl rfl (by kernel_rfl) (by kernel_rfl) h
 q_medianAdjacentOrdered := fun a0 a1 a2 s R h =>
  ACalls.q (n := 15) (rs := [.tmp 6]) (A := SO.A_medianAdjacentOrdered) hT hmx Tryd.func67 (by kernel_rfl) rfl rfl rfl (by kernel_rfl) (by kernel_rfl) h
 q_medianOrdered := fun a0 a1 a2 a3 a4 s R h =>
  ACalls.q (n := 36) (rs := [.tmp 10]) (A := SO.A_medianOrdered) hT hmx Tryd.func68 (by kernel_rfl) rfl rfl rfl (by kernel_rfl) (by kernel_rfl) h
 q_order2Ordered := fun a0 a1 a2 a3 s R h =>
  ACalls.q (n := 28) (rs := [.tmp 8, .tmp 9]) (A := SO.A_order2Ordered) hT hmx Tryd.func83 (by kernel_rfl) rfl rfl rfl (by kernel_rfl) (by kernel_rfl) h
theorem nan_ok (a : Int) (s : AS) : ACalls Tryd.prog F_cmp_isNaN__int [.int .i64 a] s fun v s' => v = .bool false ∧ s' = s := q_cmp_isNaN__int _ _ _ ⟨by simp, rfl⟩
theorem less_ok (a b : Int) (s : AS) : ACalls Tryd.prog F_cmp_Less__int [.int .i64 a, .int .i64 b] s fun v s' => v = .bool (decide (a < b)) ∧ s' = s := by
 refine q_cmp_Less__int _ _ _ _ ?_
 refine ACalls.use (nan_ok a s) ?_
 rintro v s' ⟨rfl, rfl⟩ _
 exact ⟨_, rfl, bsplit.no rfl ⟨rfl, rfl⟩⟩
instance : SO.LessOk se := ⟨fun (a b : Int) s => (less_ok a b s).mono (by
 rintro v s' ⟨rfl, rfl⟩
 refine ⟨?_, Ext.refl _⟩
 show AV.bool _ = AV.bool (decide ((if _ then (-1 : Int) else 0) < 0))
 by_cases h : (a : Int) < b
 ·rw [if_pos h]; simp [h]
 ·rw [if_neg h]; simp [h])⟩
end Go.Proofs.YtblpmffajlkmjaaDoor.OI
end

section
set_option maxRecDepth 100000
set_option maxHeartbeats 4000000
namespace Go.Proofs.YtblpmffajlkmjaaDoor.OS
open Go.Am Go.Minster2
theorem le_tr (a b c : List UInt8) (h : bytesLt b a = false) (h' : bytesLt c b = false) : bytesLt c a = false := by
 cases hc : bytesLt c a with
 | false => rfl
 | true =>
  rcases bytesLt_total b c with g | g | g
  ·rw [bytesLt_trans g hc] at h; cases h
  ·rw [g, hc] at h; cases h
  ·rw [g] at h'; cases h'
theorem lt_le (a b : List UInt8) (h : bytesLt a b = true) : bytesLt b a = false := by
 cases hc : bytesLt b a with
 | false => rfl
 | true => have := bytesLt_trans h hc; rw [bytesLt_irrefl] at this; cases this
def oe : Go.Minster.SG.OE := ⟨List UInt8, [], bytesLt, fun a b => if bytesLt a b then -1 else 0, fun a b => by cases h : bytesLt a b <;> simp, le_tr, fun a => bytesLt_irrefl a, lt_le⟩
def se : SO.SE := ⟨oe, fun x => .str x, fun x => rfl, Y_s_string, Y_string, u_s_string, z_string, F_cmp_Less__string, F_slices_Sort__s_string_string, F_slices_pdqsortOrdered__string, F_slices_insertionSortOrdered__string, F_slices_heapSortOrdered__string, F_slices_breakPatternsOrdered__string, F_slices_choosePivotOrdered__string, F_slices_reverseRangeOrdered__string, F_slices_partialInsertionSortOrdered__string, F_slices_partitionEqualOrdered__string, F_slices_partitionOrdered__string, F_slices_siftDownOrdered__string, F_slices_medianAdjacentOrdered__string, F_slices_medianOrdered__string, F_slices_order2Ordered__string⟩
instance : SO.SQ se where
 q_Sort := fun a0 s R h =>
  ACalls.q (n := 11) (rs := []) (A := SO.A_Sort) hT hmx Tryd.func44 (by kernel_rfl) rfl rfl rfl (by kernel_rfl) (by kernel_rfl) h
 q_pdqsortOrdered := fun a0 a1 a2 a3 s R h =>
  ACalls.q (n := 134) (rs := []) (A := SO.A_pdqsortOrdered) hT hmx Tryd.func59 (by kernel_rfl) rfl rfl rfl (by kernel_rfl) (by kernel_rfl) h
 q_insertionSortOrdered := fun a0 a1 a2 s R h =>
  ACalls.q (n := 49) (rs := []) (A := SO.A_insertionSortOrdered) hT hmx Tryd.func70 (by kernel_rfl) rfl rfl rfl (by kernel_rfl) (by kernel_rfl) h
 q_heapSortOrdered := fun a0 a1 a2 s R h =>
  ACalls.q (n := 56) (rs := []) (A := SO.A_heapSortOrdered) hT hmx Tryd.func71 (by kernel_rfl) rfl rfl rfl (by kernel_rfl) (by kernel_rfl) h
 q_breakPatternsOrdered := fun a0 a1 a2 s R h =>
  ACalls.q (n := 65) (rs := []) (A := SO.A_breakPatternsOrdered) hT hmx Tryd.func72 (by kernel_rfl) rfl rfl rfl (by kernel_rfl) (by kernel_rfl) h
 q_choosePivotOrdered := fun a0 a1 a2 s R h =>
  ACalls.q (n := 57) (rs := [.tmp 6, .tmp 7]) (A := SO.A_choosePivotOrdered) hT hmx Tryd.func73 (by kernel_rfl) rfl rfl rfl (by kernel_rfl) (by kernel_rfl) h
 q_reverseRangeOrdered := fun a0 a1 a2 s R h =>
  ACalls.q (n := 32) (rs := []) (A := SO.A_reverseRangeOrdered) hT hmx Tryd.func74 (by kernel_rfl) rfl rfl rfl (by kernel_rfl) (by kernel_rfl) h
 q_partialInsertionSortOrdered := fun a0 a1 a2 s R h =>
  ACalls.q (n := 133) (rs := [.tmp 6]) (A := SO.A_partialInsertionSortOrdered) hT hmx Tryd.func75 (by kernel_rfl) rfl rfl rfl (by kernel_rfl) (by kernel_rfl) h
 q_partitionEqualOrdered := fun a0 a1 a2 a3 s R h =>
  ACalls.q (n := 84) (rs := [.tmp 8]) (A := SO.A_partitionEqualOrdered) hT hmx Tryd.func77 (by kernel_rfl) rfl rfl rfl (by kernel_rfl) (by kernel_rfl) h
 q_partitionOrdered := fun a0 a1 a2 a3 s R h =>
  ACalls.q (n := 168) (rs := [.tmp 8, .tmp 9]) (A := SO.A_partitionOrdered) hT hmx Tryd.func78 (by kernel_rfl) rfl rfl rfl (by kernel_rfl) (by kernel_rfl) h
 q_siftDownOrdered := fun a0 a1 a2 a3 s R h =>
  ACalls.q (n := 76) (rs := []) (A := SO.A_siftDownOrdered) hT hmx Tryd.func84 (by kernel_rfl) rfl rfl rfl (by kernel_rfl) (by kernel_rfl) h
 q_medianAdjacentOrdered := fun a0 a1 a2 s R h =>
  ACalls.q (n := 15) (rs := [.tmp 6]) (A := SO.A_medianAdjacentOrdered) hT hmx Tryd.func85 (by kernel_rfl) rfl rfl rfl (by kernel_rfl) (by kernel_rfl) h
 q_medianOrdered := fun a0 a1 a2 a3 a4 s R h =>
  ACalls.q (n := 36) (rs := [.tmp 10]) (A := SO.A_medianOrdered) hT hmx Tryd.func86 (by kernel_rfl) rfl rfl rfl (by kernel_rfl) (by kernel_rfl) h
 q_order2Ordered := fun a0 a1 a2 a3 s R h =>
  ACalls.q (n := 28) (rs := [.tmp 8, .tmp 9]) (A := SO.A_order2Ordered) hT hmx Tryd.func90 (by kernel_rfl) rfl rfl rfl (by kernel_rfl) (by kernel_rfl) h
theorem nan_ok (a : List UInt8) (s : AS) : ACalls Tryd.prog F_cmp_isNaN__string [.str a] s fun v s' => v = .bool false ∧ s' = s := q_cmp_isNaN__string _ _ _ ⟨by simp, rfl⟩
theorem less_ok (a b : List UInt8) (s : AS) : ACalls Tryd.prog F_cmp_Less__string [.str a, .str b] s fun v s' => v = .bool (bytesLt a b) ∧ s' = s := by
 refine q_cmp_Less__string _ _ _ _ ?_
 refine ACalls.use (nan_ok a s) ?_
 rintro v s' ⟨rfl, rfl⟩ _
 exact ⟨_, rfl, bsplit.no rfl ⟨rfl, rfl⟩⟩
instance : SO.LessOk se := ⟨fun (a b : List UInt8) s => (less_ok a b s).mono (by
 rintro v s' ⟨rfl, rfl⟩
 refine ⟨?_, Ext.refl _⟩
 show AV.bool _ = AV.bool (decide ((if _ then (-1 : Int) else 0) < 0))
 cases h : bytesLt a b <;> simp)⟩
end Go.Proofs.YtblpmffajlkmjaaDoor.OS
end

section
namespace Go.Proofs.YtblpmffajlkmjaaDoor
open Go.Am Go.Trail
theorem get_lt {α : Type} {l : List α} {i : Nat} (h : i < l.length) : ∃ x, l[i]? = some x := ⟨_, List.getElem?_eq_getElem h⟩
def hopC (h : Hop) : List AV := [.int .i64 h.kind, .int .i64 h.act, .int .i64 h.region, .int .i64 h.src, .int .i64 h.code, .str h.device]
theorem hopC_len (h : Hop) : (hopC h).length = 6 := rfl
def reachC (e : Int × Int) : List AV := [.int .i64 e.1, .int .i64 e.2]
theorem reachC_len (e : Int × Int) : (reachC e).length = 2 := rfl
theorem reachC_one (e : Int × Int) : (reachC e).all AV.one = true := rfl
theorem sl_s_Reach : SlTy T Y_s_Reach Y_Reach 2 16 := ⟨u_s_Reach, z_Reach, b_Reach, ⟨_, _, zr_Reach, rfl, rfl⟩, by decide, by decide⟩
theorem sl_s_string : SlTy T Y_s_string Y_string 1 16 := ⟨u_s_string, z_string, b_string, ⟨_, _, zr_string, rfl, rfl⟩, by decide, by decide⟩
theorem sty_s_int : STy T Y_s_int := ⟨ag_s_int, z_s_int⟩
theorem sty_s_string : STy T Y_s_string := ⟨ag_s_string, z_s_string⟩
section
variable {s : AS} {a : AV} {l : List Hop} {g : FuncId} {cap : List AV} {P : Hop → Bool}
theorem IndexFunc_ok (hl : Sl hopC 6 s a l) (hn : l.length ≤ 2 ^ 40) (hf : ∀ i s', Ext s s' → WFs s' → ACalls Tryd.prog g ([.agg (hopC i)] ++ cap) s' fun v s'' => v = .bool (P i) ∧ Ext s' s'') :
  ACalls Tryd.prog F_slices_IndexFunc__s_Hop_Hop [a, .func g cap] s fun v s' => Ext s s' ∧ ∃ n : Int, v = .int .i64 n ∧ ((n = -1 ∧ l.any P = false) ∨ ∃ k : Nat, n = k ∧ k < l.length ∧ (∃ x, l[k]? = some x ∧ P x = true) ∧ ∀ j x, j < k → l[j]? = some x → P x = false) := by
 refine ACalls.pre fun hw => q_slices_IndexFunc__s_Hop_Hop _ _ _ _ ⟨_, hl.lenB u_s_Hop _, fun m vs s' => ∃ i : Nat, vs = [.int .i64 (i : Nat)] ∧ i ≤ l.length ∧ m = l.length - i ∧ Ext s s' ∧ WFs s' ∧ (∀ j x, j < i → l[j]? = some x → P x = false), l.length, ⟨0, rfl, by omega, rfl, Ext.refl _, hw, by omega⟩, ?_⟩
 rintro m n s6 ⟨i, hi, h6, rfl, e6, w6, hall⟩
 simp only [List.cons.injEq, AV.int.injEq, true_and, and_true] at hi
 subst hi
 refine bsplit.dec (fun hlt => ?_) (fun hge => ⟨e6, -1, rfl, .inl ⟨rfl, ?_⟩⟩)
 ·obtain ⟨x, hx⟩ := get_lt (l := l) (i := i) (by omega)
  obtain ⟨la, o, h8, h9⟩ := hl.ix (by decide) hopC_len u_s_Hop z_Hop hx
  refine ⟨la, o, h8 _, _, (h9 _ e6).2, ?_⟩
  refine ACalls.use (hf x s6 e6 w6) ?_
  rintro v s11 ⟨rfl, e11⟩ w11
  refine ⟨_, rfl, bsplit.mk (fun hb => ⟨e6.trans e11, _, rfl, .inr ⟨i, rfl, by omega, ⟨x, hx, hb⟩, hall⟩⟩) (fun hb => ⟨l.length - (i + 1), by omega, i + 1, by rw [wrap_i (by omega)]; rfl, by omega, rfl, e6.trans e11, w11, fun j y hj hy => ?_⟩)⟩
  rcases Nat.lt_or_ge j i with h | h
  ·exact hall j y h hy
  ·obtain rfl : j = i := by omega
   rw [hx] at hy; obtain rfl := Option.some.inj hy; exact hb
 ·rw [List.any_eq_false]
  intro x hx
  obtain ⟨j, hj⟩ := List.mem_iff_getElem?.1 hx
  have : j < l.length := by
   rcases Nat.lt_or_ge j l.length with h | h
   ·exact h
   ·rw [List.getElem?_eq_none h] at hj; cases hj
  rw [hall j x (by omega) hj]; simp
end
theorem Spread_1_ok (h : Hop) (s : AS) : ACalls Tryd.prog F_trail_Spread_1 [.agg (hopC h)] s fun v s' => v = .bool (h.kind == 1) ∧ Ext s s' :=
 ACalls.pre fun hw => q_trail_Spread_1 _ _ _ ⟨rfl, NewQ.intro hw rfl fun l s2 F => ⟨h.kind, by rw [F.own.at.rd1]; rfl, rfl, F.ext⟩⟩
end Go.Proofs.YtblpmffajlkmjaaDoor
end

section
namespace Go.Proofs.YtblpmffajlkmjaaDoor
open Go.Am Go.Trail
abbrev iK (k : Int) : AV := .int .i64 k
theorem mp_int : MpTy (K := Int) T Y_m_int_int Y_int Y_int iK (iK 0) :=
 ⟨u_m_int_int, fun a b => by rw [aeqInt u_int]; simp only [Option.some.injEq]; by_cases h : a = b <;> simp [h], fun a => by kernel_rfl, fun a => by simp [abits], zr_int⟩
def intC (k : Int) : List AV := [iK k]
theorem intC_len (k : Int) : (intC k).length = 1 := rfl
theorem srt_pair {O : Go.Minster.SG.OE} {l : List (Go.Minster.SG.El O)} (h : Go.Minster.SG.Srt l 0 l.length) : l.Pairwise fun a b => Go.Minster.SG.El.lt b a = false := by
 refine List.pairwise_iff_getElem.2 fun i j hi hj hij => ?_
 have hle := h i j (by omega) hij hj
 have ei : Go.Minster.SG.el l i = l[i] := by have := Go.Minster.SG.el_get hi; rw [List.getElem?_eq_getElem hi] at this; exact (Option.some.inj this).symm
 have ej : Go.Minster.SG.el l j = l[j] := by have := Go.Minster.SG.el_get hj; rw [List.getElem?_eq_getElem hj] at this; exact (Option.some.inj this).symm
 rw [ei, ej] at hle
 exact hle
theorem sort_int {s0 s : AS} {v : AV} {l : List Int} {sz : Nat} (g : GroN intC sz [] s0 s v l) (hl : l.length < 65536) :
  ACalls Tryd.prog F_slices_Sort__s_int_int [v] s fun r s' => r = .tup [] ∧ ∃ l' : List Int, l'.Perm l ∧ l'.Pairwise (fun a b => decide (b < a) = false) ∧ Ext s0 s' ∧ Sl intC 1 s' v l' := by
 refine (SO.sortGro_ok (E := OI.se) (l := l) g hl).mono ?_
 rintro r s' ⟨h1, l', h2, h3, h4⟩
 exact ⟨h1, l', h2, srt_pair h3, h4.1, h4.dots⟩
theorem sorted_int {vf : Int → AV} {m : Nat} {es : List (Int × Int × Nat)} {c : Nat} {ro : Bool} {s : AS} {gf : FuncId} {lb : Nat} (hgf : callable Tryd.prog gf = true) (hes : es.length < 65536) (hm : MpAt iK vf s m es c ro)
  (hrun : ∀ s1, Ext s s1 → WFs s1 → ItRun1 Tryd.prog iK vf m es c ro (fun e => iK e.1) gf [.ptr (some (lb, 0))] s1) :
  ACalls Tryd.prog F_slices_Sorted__int [.func gf [.ptr (some (lb, 0))]] s fun v s' => ∃ l : List Int, l.Nodup ∧ (∀ k, k ∈ l ↔ mget es k ≠ none) ∧ l.Pairwise (· ≤ ·) ∧ l.length = es.length ∧ Ext s s' ∧ Sl intC 1 s' v l := by
 refine q_slices_Sorted__int _ _ _ (ACalls.use (q_slices_Collect__int _ _ _ ((appendSeq1_calls hT Tryd.func40 (by kernel_rfl) (ts := Y_s_int) (te := Y_int) (tq := Y_iter_Seq_int_) (by kernel_rfl) (by kernel_rfl) (by kernel_rfl) sty_s_int sl_s_int (el := fun e => iK e.1) (fun e => rfl) hgf (by omega) hm hrun).mono fun v s' h => h)) ?_)
 rintro v s2 ⟨done, h1, h2, h3, g⟩ w2
 have hnd := keys_nodup hm.nd h2 h3
 have hlen : (done.map fun e => e.1).length = es.length := by
  rw [List.length_map]
  have hes2 : es.Nodup := hm.nd.imp fun {a b} h e => h (by rw [e])
  exact ((List.perm_ext_iff_of_nodup h3 hes2).2 fun a => ⟨h2 a, h1 a⟩).length_eq
 refine ACalls.use (sort_int (GroN.as (g := intC) (h := fun e : Int × Int × Nat => e.1) (fun x => rfl) g) (by omega)) ?_
 rintro r s4 ⟨rfl, l, hp, hs, e4, ha⟩ w4
 refine ⟨rfl, l, hp.nodup_iff.2 hnd, fun k => ?_, hs.imp (fun {a b} h => ?_), by rw [hp.length_eq, hlen], e4, ha⟩
 ·rw [hp.mem_iff, List.mem_map]
  constructor
  ·rintro ⟨e, he, rfl⟩ hx
   exact mget_none.1 hx e (h2 e he) rfl
  ·intro hx
   cases hv : mget es k with
   | none => exact absurd hv hx
   | some v =>
    obtain ⟨j, n, hj⟩ := mget_some hv
    exact ⟨_, h1 _ (List.mem_of_getElem? hj), rfl⟩
 ·have := of_decide_eq_false h
  omega
theorem keys_sorted {m : Nat} {es : List (Int × Int × Nat)} {c : Nat} {ro : Bool} {s : AS} (hes : es.length < 65536) (hm : MpAt iK iK s m es c ro) {R : AV → AS → Prop} (hR : ∀ v s' (l : List Int), l.Nodup → (∀ k, k ∈ l ↔ mget es k ≠ none) → l.Pairwise (· ≤ ·) → l.length = es.length → Ext s s' → Sl intC 1 s' v l → WFs s' → R v s') :
  ACalls Tryd.prog F_maps_Keys__m_int_int_int_int [.map (some m)] s fun v8 s9 => ACalls Tryd.prog F_slices_Sorted__int [v8] s9 R := by
 refine ACalls.pre fun hw => q_maps_Keys__m_int_int_int_int _ _ _ (NewQ.intro hw rfl fun lb s1 F => ?_)
 have h1 := hm.ext F.ext
 refine ACalls.use (sorted_int (by kernel_rfl) hes h1 fun s2 e _ => keys1_run hT Tryd.func35 (tm := Y_m_int_int) (tk := Y_int) (tf := Y_func_int__bool) (tb := Y_bool) (by kernel_rfl) (by kernel_rfl) (by kernel_rfl) ag_m_int_int u_m_int_int (F.own.at.ext e) (h1.ext e)) ?_
 rintro v s' ⟨l, a, b, c, d, e, f⟩ w
 exact hR v s' l a b c d (F.ext.trans e) f w
theorem Spread_ok {s : AS} {a : AV} {l : List Hop} (hl : Sl hopC 6 s a l) (hn : l.length ≤ 1000) :
  ACalls Tryd.prog F_trail_Spread [a] s fun v s' => Ext s s' ∧ Sl reachC 2 s' v (spread l) := by
 refine ACalls.pre fun hw => q_trail_Spread _ _ _ ?_
 refine ACalls.use (IndexFunc_ok (P := fun h => h.kind == 1) (cap := []) hl (by omega) fun i s' e' w' => Spread_1_ok i s') ?_
 rintro v s2 ⟨e2, n, rfl, hc⟩ w2
 unfold spread pubOf
 refine ⟨n, rfl, bsplit.dec (fun hlt => ?_) (fun hge => ?_)⟩
 ·rcases hc with ⟨_, h⟩ | ⟨k, rfl, _⟩
  ·rw [find_none h]; exact ⟨e2, Sl.nil⟩
  ·omega
 rcases hc with ⟨rfl, _⟩ | ⟨k, rfl, hk, ⟨p, hp, hp1⟩, hall⟩
 ·omega
 rw [find_at hp hp1 hall]
 obtain ⟨lp, op, p8, p9⟩ := hl.ix (by decide) hopC_len u_s_Hop z_Hop hp
 refine NewQ.intro w2 rfl fun l4 s5 F5 => ?_
 have e5 := e2.trans F5.ext
 have hl4 : s.h l4 = none := e2.none F5.no
 have hold : ∀ {s' : AS}, Mut [l4] s5 s' → Ext s s' := fun m => ⟨fun x o hx => m.1 x o (by simp only [List.mem_singleton]; rintro rfl; rw [hl4] at hx; cases hx) (e5.1 x o hx), Nat.le_trans e5.2 m.2⟩
 let inv : Nat → AS → Prop := fun i s' => WFs s' ∧ Mut [l4] s5 s' ∧ ∃ es c, MpAt iK iK s' l4 es c false ∧ SameF (mget es) ((l.take i).foldl (stepR p.region (gapOf p)) [])
 refine ⟨fun vs s' => vs = [] ∧ inv l.length s', ?_, _, hl.lenB u_s_Hop _, fun m vs s' => ∃ i : Nat, vs = [.int .i64 (i : Nat)] ∧ i ≤ l.length ∧ m = l.length - i ∧ inv i s', l.length, ⟨0, rfl, by omega, rfl, F5.wf, Mut.refl _ _, [], 0, MpAt.new F5.at, SameF.nil⟩, ?_⟩
 ·
  rintro s7 ⟨_, w7, m7, es, c, M, S⟩
  rw [List.take_length] at S
  generalize hO : l.foldl (stepR p.region (gapOf p)) [] = O at S
  have hO2 : O.length ≤ l.length := by
   rw [← hO]; have := foldR_len p.region (gapOf p) l []; simpa using this
  have hes : es.length ≤ O.length := by
   have hk := keys_nodup M.nd (fun e h => h) (M.nd.imp fun {a b} h e => h (by rw [e]))
   have := nodup_len (d := es.map fun e => e.1) (es := O.map fun e => e.1) hk fun x hx => by
    obtain ⟨e, he, rfl⟩ := List.mem_map.1 hx
    have := mget_mem M.nd he
    exact List.mem_map.2 ⟨(e.1, e.2.1), (S.mem _).2 this, rfl⟩
   simpa using this
  refine keys_sorted (by omega) M fun v10 s11 ks h1 h2 h3 h4 e11 hks w11 => ?_
  have hsort := S.sorted h1 h2 h3
  have M11 := M.ext e11
  refine ⟨_, hks.lenB u_s_int _, fun m vs s' => ∃ (i : Nat) (v : AV), vs = [v, .int .i64 (i : Nat)] ∧ i ≤ ks.length ∧ m = ks.length - i ∧ WFs s' ∧ GroN reachC 2 [] s11 s' v ((ks.take i).map fun k => (k, (mget es k).getD 0)), ks.length, ⟨0, _, rfl, by omega, rfl, w11, by simpa using GroN.nil⟩, ?_⟩
  rintro m v16 n17 s18 ⟨i, v, hv, hi, rfl, w18, g18⟩
  simp only [List.cons.injEq, AV.int.injEq, true_and, and_true] at hv
  obtain ⟨rfl, rfl⟩ := hv
  refine bsplit.dec (fun hlt => ?_) (fun hge => ?_)
  rotate_left
  ·obtain rfl : i = ks.length := by omega
   rw [List.take_length, hsort] at g18
   refine ⟨(hold m7).trans (e11.trans g18.chg.ext), ?_⟩
   show Sl reachC 2 s18 v16 (List.foldl _ _ _)
   rw [hO]
   exact g18.sl reachC_len
  obtain ⟨x, hx⟩ := get_lt (l := ks) (i := i) (by omega)
  obtain ⟨la, o, k8, k9⟩ := hks.ix (by decide) intC_len u_s_int z_int hx
  have M18 := M11.ext g18.chg.ext
  have hxm := (h2 x).1 (List.mem_of_getElem? hx)
  cases hg : mget es x with
  | none => exact absurd hg hxm
  | some y =>
   refine ⟨la, o, k8 _, x, (k9 _ g18.chg.ext).1 0 (by decide), y, ?_, [iK x, iK y], ?_, ?_⟩
   ·rw [M18.find mp_int x false, hg]; rfl
   ·kernel_rfl
   refine GroN.append1 sl_s_Reach reachC_len reachC_one w18 g18 (by simp) (x, y) (by simp only [List.length_map, List.length_take]; omega) fun v' s' g' w' m' => ⟨ks.length - (i + 1), by omega, i + 1, v', by rw [wrap_i (by omega)]; rfl, by omega, rfl, w', ?_⟩
   have ht : ks.take (i + 1) = ks.take i ++ [x] := by rw [List.take_add_one, hx]; rfl
   rw [ht, List.map_append, List.map_singleton, hg]
   exact g'
 rintro m n33 s34 ⟨i, hi, hil, rfl, w34, m34, es, c, M, S⟩
 simp only [List.cons.injEq, AV.int.injEq, true_and, and_true] at hi
 subst hi
 refine bsplit.dec (fun hlt => ?_) (fun hge => ?_)
 rotate_left
 ·obtain rfl : i = l.length := by omega
  exact ⟨rfl, w34, m34, es, c, M, S⟩
 obtain ⟨x, hx⟩ := get_lt (l := l) (i := i) (by omega)
 obtain ⟨la, o, h8, h9⟩ := hl.ix (by decide) hopC_len u_s_Hop z_Hop hx
 have e34 := hold m34
 have ht : l.take (i + 1) = l.take i ++ [x] := by rw [List.take_add_one, hx]; rfl
 have hfold : (l.take (i + 1)).foldl (stepR p.region (gapOf p)) [] = stepR p.region (gapOf p) ((l.take i).foldl (stepR p.region (gapOf p)) []) x := by
  rw [ht, List.foldl_append]; rfl
 refine ⟨la, o, h8 _, _, (h9 _ e34).2, NewSt w34 rfl rfl rfl fun l38 s40 F40 => ?_⟩
 have hr := F40.own.at.rd1
 have e40 := e34.trans F40.ext
 have M40 := M.ext F40.ext
 have hn38 : l38 ≠ l4 := fun e => by have := F40.no; rw [e, M.obj] at this; cases this
 have next : ∀ s', WFs s' → Mut [l4] s40 s' → (∃ es c, MpAt iK iK s' l4 es c false ∧ SameF (mget es) ((l.take (i + 1)).foldl (stepR p.region (gapOf p)) [])) → ∃ m', m' < l.length - i ∧ ∃ i' : Nat, [AV.int .i64 (IntKind.wrap .i64 ((i : Int) + 1))] = [.int .i64 (i' : Nat)] ∧ i' ≤ l.length ∧ m' = l.length - i' ∧ inv i' s' :=
  fun s' w' m' h' => ⟨l.length - (i + 1), by omega, i + 1, by rw [wrap_i (by omega)]; rfl, by omega, rfl, w', m34.trans (F40.ext.mut.trans m'), h'⟩
 refine ⟨x.region, hr 2, ((mget es x.region).getD 0), (mget es x.region).isSome, ?_, ?_⟩
 ·rw [M40.find mp_int x.region true]
  cases mget es x.region <;> rfl
 by_cases hnew : newH p.region (mget es) x
 ·refine ⟨fun vs s' => s' = s40 ∧ vs = [.bool true], ?_, ?_⟩
  ·rintro b s46 ⟨rfl, hb⟩
   simp only [List.cons.injEq, AV.bool.injEq, and_true] at hb
   subst hb
   refine bsplit.yes rfl ⟨x.region, hr 2, x.act, hr 1, lp, op, p8 _, p.act, (p9 _ e40).1 1 (by decide), ?_⟩
   refine MpAt.upd mp_int F40.wf M40 x.region (gapOf p x) fun s' es' c' M' hget w' m' => next s' w' m' ⟨es', c', M', ?_⟩
   rw [hfold]
   exact S.add x hnew hget
  ·refine ⟨x.kind, hr 0, bsplit.yes (by simpa using hnew.1) (bsplit.yes (by rw [hnew.2.1]; rfl) ⟨x.region, hr 2, lp, op, p8 _, p.region, (p9 _ e40).1 2 (by decide), rfl, ?_⟩)⟩
   rw [show (x.region != p.region) = true by simpa using hnew.2.2]
 ·have hkeep := S.keep (g := gapOf p) x hnew
  refine ⟨fun vs s' => s' = s40 ∧ vs = [.bool false], ?_, ?_⟩
  ·rintro b s46 ⟨rfl, hb⟩
   simp only [List.cons.injEq, AV.bool.injEq, and_true] at hb
   subst hb
   exact bsplit.no rfl (next s46 F40.wf (Mut.refl _ _) ⟨es, c, M40, by rw [hfold]; exact hkeep⟩)
  ·refine ⟨x.kind, hr 0, bsplit.mk (fun hk => bsplit.mk (fun hh => ⟨x.region, hr 2, lp, op, p8 _, p.region, (p9 _ e40).1 2 (by decide), rfl, ?_⟩) (fun _ => ⟨rfl, rfl⟩)) (fun _ => ⟨rfl, rfl⟩)⟩
   have h1 : x.region = p.region := by
    refine Decidable.byContradiction fun hne => hnew ⟨by simpa using hk, ?_, hne⟩
    cases hv : mget es x.region with
    | none => rfl
    | some v => rw [hv] at hh; cases hh
   rw [h1]; simp
end Go.Proofs.YtblpmffajlkmjaaDoor
end

section
namespace Go.Proofs.YtblpmffajlkmjaaDoor
open Go.Am Go.Minster2
abbrev sK (k : List UInt8) : AV := .str k
abbrev pV (p : Nat) : AV := .ptr (some (p, 0))
theorem mp_str : MpTy (K := List UInt8) T Y_m_string_p_Tally Y_string Y_p_Tally sK (.ptr none) :=
 ⟨u_m_string_p_Tally, fun a b => by rw [aeqStr u_string]; simp only [Option.some.injEq]; by_cases h : a = b <;> simp [h], fun a => by kernel_rfl, fun a => by simp [abits], zr_p_Tally⟩
def txtC (k : List UInt8) : List AV := [sK k]
theorem txtC_len (k : List UInt8) : (txtC k).length = 1 := rfl
theorem sort_str {s0 s : AS} {v : AV} {l : List (List UInt8)} {sz : Nat} (g : GroN txtC sz [] s0 s v l) (hl : l.length < 65536) :
  ACalls Tryd.prog F_slices_Sort__s_string_string [v] s fun r s' => r = .tup [] ∧ ∃ l' : List (List UInt8), l'.Perm l ∧ l'.Pairwise (fun a b => bytesLt b a = false) ∧ Ext s0 s' ∧ Sl txtC 1 s' v l' := by
 refine (SO.sortGro_ok (E := OS.se) (l := l) g hl).mono ?_
 rintro r s' ⟨h1, l', h2, h3, h4⟩
 exact ⟨h1, l', h2, srt_pair h3, h4.1, h4.dots⟩
theorem sorted_str {V : Type} {vf : V → AV} {m : Nat} {es : List (List UInt8 × V × Nat)} {c : Nat} {ro : Bool} {s : AS} {gf : FuncId} {lb : Nat} (hgf : callable Tryd.prog gf = true) (hes : es.length < 65536) (hm : MpAt sK vf s m es c ro)
  (hrun : ∀ s1, Ext s s1 → WFs s1 → ItRun1 Tryd.prog sK vf m es c ro (fun e => sK e.1) gf [.ptr (some (lb, 0))] s1) :
  ACalls Tryd.prog F_slices_Sorted__string [.func gf [.ptr (some (lb, 0))]] s fun v s' => ∃ l : List (List UInt8), l.Nodup ∧ (∀ k, k ∈ l ↔ mget es k ≠ none) ∧ l.Pairwise (fun a b => bytesLt b a = false) ∧ l.length = es.length ∧ Ext s s' ∧ Sl txtC 1 s' v l := by
 refine q_slices_Sorted__string _ _ _ (ACalls.use (q_slices_Collect__string _ _ _ ((appendSeq1_calls hT Tryd.func58 (by kernel_rfl) (ts := Y_s_string) (te := Y_string) (tq := Y_iter_Seq_string_) (by kernel_rfl) (by kernel_rfl) (by kernel_rfl) sty_s_string sl_s_string (el := fun e => sK e.1) (fun e => rfl) hgf (by omega) hm hrun).mono fun v s' h => h)) ?_)
 rintro v s2 ⟨done, h1, h2, h3, g⟩ w2
 have hnd := keys_nodup hm.nd h2 h3
 have hlen : (done.map fun e => e.1).length = es.length := by
  rw [List.length_map]
  have hes2 : es.Nodup := hm.nd.imp fun {a b} h e => h (by rw [e])
  exact ((List.perm_ext_iff_of_nodup h3 hes2).2 fun a => ⟨h2 a, h1 a⟩).length_eq
 refine ACalls.use (sort_str (GroN.as (g := txtC) (h := fun e : List UInt8 × V × Nat => e.1) (fun x => rfl) g) (by omega)) ?_
 rintro r s4 ⟨rfl, l, hp, hs, e4, ha⟩ w4
 refine ⟨rfl, l, hp.nodup_iff.2 hnd, fun k => ?_, hs, by rw [hp.length_eq, hlen], e4, ha⟩
 rw [hp.mem_iff, List.mem_map]
 constructor
 ·rintro ⟨e, he, rfl⟩ hx
  exact mget_none.1 hx e (h2 e he) rfl
 ·intro hx
  cases hv : mget es k with
  | none => exact absurd hv hx
  | some v =>
   obtain ⟨j, n, hj⟩ := mget_some hv
   exact ⟨_, h1 _ (List.mem_of_getElem? hj), rfl⟩
theorem skeys_sorted {m : Nat} {es : List (List UInt8 × Nat × Nat)} {c : Nat} {ro : Bool} {s : AS} (hes : es.length < 65536) (hm : MpAt sK pV s m es c ro) {R : AV → AS → Prop} (hR : ∀ v s' (l : List (List UInt8)), l.Nodup → (∀ k, k ∈ l ↔ mget es k ≠ none) → l.Pairwise (fun a b => bytesLt b a = false) → l.length = es.length → Ext s s' → Sl txtC 1 s' v l → WFs s' → R v s') :
  ACalls Tryd.prog F_maps_Keys__m_string_p_Tally_string_p_Tally [.map (some m)] s fun v8 s9 => ACalls Tryd.prog F_slices_Sorted__string [v8] s9 R := by
 refine ACalls.pre fun hw => q_maps_Keys__m_string_p_Tally_string_p_Tally _ _ _ (NewQ.intro hw rfl fun lb s1 F => ?_)
 have h1 := hm.ext F.ext
 refine ACalls.use (sorted_str (by kernel_rfl) hes h1 fun s2 e _ => keys1_run hT Tryd.func45 (tm := Y_m_string_p_Tally) (tk := Y_string) (tf := Y_func_string__bool) (tb := Y_bool) (by kernel_rfl) (by kernel_rfl) (by kernel_rfl) ag_m_string_p_Tally u_m_string_p_Tally (F.own.at.ext e) (h1.ext e)) ?_
 rintro v s' ⟨l, a, b, c, d, e, f⟩ w
 exact hR v s' l a b c d (F.ext.trans e) f w
end Go.Proofs.YtblpmffajlkmjaaDoor
end

section
set_option maxRecDepth 100000
set_option maxHeartbeats 4000000
namespace Go.Proofs.YtblpmffajlkmjaaDoor
open Go.Am
def Q_trail_Topics (a0 : AV) (s : AS) (R : AV → AS → Prop) : Prop :=
 ACalls Tryd.prog F_trail_tallies [a0, (.func F_trail_Topics_1 [])] s fun v1 s2 => R v1 s2
def A_trail_Topics : QA := (.seq .leaf (.seq .leaf .leaf))
theorem q_trail_Topics (a0 : AV) (s : AS) (R : AV → AS → Prop) (h : Q_trail_Topics a0 s R) : ACalls Tryd.prog F_trail_Topics [a0] s R :=
 ACalls.q (n := 5) (rs := [.tmp 2]) (A := A_trail_Topics) hT hmx Tryd.func15 (by kernel_rfl) rfl rfl rfl (by kernel_rfl) (by kernel_rfl) h
def Q_trail_Devices (a0 : AV) (s : AS) (R : AV → AS → Prop) : Prop :=
 ACalls Tryd.prog F_trail_tallies [a0, (.func F_trail_Devices_1 [])] s fun v1 s2 => R v1 s2
def A_trail_Devices : QA := (.seq .leaf (.seq .leaf .leaf))
theorem q_trail_Devices (a0 : AV) (s : AS) (R : AV → AS → Prop) (h : Q_trail_Devices a0 s R) : ACalls Tryd.prog F_trail_Devices [a0] s R :=
 ACalls.q (n := 5) (rs := [.tmp 2]) (A := A_trail_Devices) hT hmx Tryd.func16 (by kernel_rfl) rfl rfl rfl (by kernel_rfl) (by kernel_rfl) h
def Q_ref24iTallies (a0 : AV) (a1 : Bool) (s : AS) (R : AV → AS → Prop) : Prop :=
 LoopQ fun I1 m2 => I1 m2 [(.slc none 0 0 true), (.int .i64 0)] s ∧
 ∀ m3 : Nat, ∀ v4 : AV, ∀ n5 : Int, ∀ s6 : AS, I1 m3 [v4, (.int .i64 n5)] s6 →
 RdI .i64 (alenB T Y_s_Done a0 s6) fun n7 => bsplit (decide ((n5 : Int) < n7))
 (IxQ (aindexAddr T Y_s_Done a0 (.int .i64 n5)) fun l8 o9 => RdL (rdc s6 l8 (o9 + 2) 6) fun g10 => NewQ (.cells [.int .i64 0, .str [], .str [], .slc none 0 0 true, .slc none 0 0 true, .int .i64 0] 0 false) s6 fun l11 s12 => OkC (some 6) g10 (StQ (awr s12 l11 0 g10) fun s13 => RdS (rd1 s13 l11 1) fun x14 => JoinQ fun J15 =>
 (∀ x16 : List UInt8, ∀ s17 : AS, J15 [(.str x16)] s17 →
 IxQ (aindexAddr T Y_s_Done a0 (.int .i64 n5)) fun l18 o19 => RdI .i64 (rd1 s17 l18 (o19 + 8)) fun n20 => bsplit ((n20 : Int) != 0)
 (∃ m', m' < m3 ∧ I1 m' [v4, (.int .i64 (IntKind.wrap .i64 (n5 + 1)))] s17)
 (RdI .i64 (rd1 s17 l11 0) fun n21 => bsplit ((n21 : Int) == 1)
 (RdG (abuild T Y_Tally [(0, (.str x16)), (1, (.int .i64 1))]) fun g22 => ACalls Tryd.prog F_ref24iadd [v4, (.agg g22)] s17 fun v23 s24 => ∃ m', m' < m3 ∧ I1 m' [v23, (.int .i64 (IntKind.wrap .i64 (n5 + 1)))] s24)
 (bsplit ((n21 : Int) == 2)
 (RdG (abuild T Y_Tally [(0, (.str x16)), (2, (.int .i64 1))]) fun g25 => ACalls Tryd.prog F_ref24iadd [v4, (.agg g25)] s17 fun v26 s27 => ∃ m', m' < m3 ∧ I1 m' [v26, (.int .i64 (IntKind.wrap .i64 (n5 + 1)))] s27)
 (bsplit ((n21 : Int) == 3)
 (bsplit (!a1)
 (RdG (abuild T Y_Tally [(0, (.str x16)), (3, (.int .i64 1))]) fun g28 => ACalls Tryd.prog F_ref24iadd [v4, (.agg g28)] s17 fun v29 s30 => ∃ m', m' < m3 ∧ I1 m' [v29, (.int .i64 (IntKind.wrap .i64 (n5 + 1)))] s30)
 (∃ m', m' < m3 ∧ I1 m' [v4, (.int .i64 (IntKind.wrap .i64 (n5 + 1)))] s17))
 (bsplit ((n21 : Int) == 5)
 (JoinQ fun J31 =>
 (∀ v32 : AV, ∀ s33 : AS, J31 [v32] s33 →
 LoopQ fun I34 m35 => I34 m35 [v32, (.int .i64 0)] s33 ∧
 ∀ m36 : Nat, ∀ v37 : AV, ∀ n38 : Int, ∀ s39 : AS, I34 m36 [v37, (.int .i64 n38)] s39 →
 IxQ (aindexAddr T Y_s_Done a0 (.int .i64 n5)) fun l40 o41 => RdA (rd1 s39 l40 (o41 + 11)) fun v42 => RdI .i64 (alenB T Y_s_Event v42 s39) fun n43 => bsplit (decide ((n38 : Int) < n43)) (bsplit (!a1)
 (IxQ (aindexAddr T Y_s_Done a0 (.int .i64 n5)) fun l44 o45 => RdA (rd1 s39 l44 (o45 + 11)) fun v46 => IxQ (aindexAddr T Y_s_Event v46 (.int .i64 n38)) fun l47 o48 => RdS (rd1 s39 l47 (o48 + 2)) fun x49 => RdG (abuild T Y_Tally [(0, (.str x49)), (5, (.int .i64 1))]) fun g50 => ACalls Tryd.prog F_ref24iadd [v37, (.agg g50)] s39 fun v51 s52 => ∃ m', m' < m36 ∧ I34 m' [v51, (.int .i64 (IntKind.wrap .i64 (n38 + 1)))] s52)
 (∃ m', m' < m3 ∧ I1 m' [v37, (.int .i64 (IntKind.wrap .i64 (n5 + 1)))] s39)) (∃ m', m' < m3 ∧ I1 m' [v37, (.int .i64 (IntKind.wrap .i64 (n5 + 1)))] s39)) ∧
 (bsplit a1
 (IxQ (aindexAddr T Y_s_Done a0 (.int .i64 n5)) fun l53 o54 => RdA (rd1 s17 l53 (o54 + 11)) fun v55 => RdI .i64 (alenB T Y_s_Event v55 s17) fun n56 => RdG (abuild T Y_Tally [(0, (.str x16)), (4, (.int .i64 1)), (5, (.int .i64 n56))]) fun g57 => ACalls Tryd.prog F_ref24iadd [v4, (.agg g57)] s17 fun v58 s59 => J31 [v58] s59)
 (J31 [v4] s17)))
 (∃ m', m' < m3 ∧ I1 m' [v4, (.int .i64 (IntKind.wrap .i64 (n5 + 1)))] s17)))))) ∧
 (bsplit a1
 (RdS (rd1 s13 l11 2) fun x60 => J15 [(.str x60)] s13)
 (J15 [(.str x14)] s13))))
 (R v4 s6)
def A_ref24iTallies : QA := (.seq .leaf (.seq .leaf (.seq (.seq .leaf (.wrap (.loop [(5, .any), (6, .int .i64)] [(5, 96)] (.seq (.seq .leaf (.cond .leaf .leaf)) (.seq (.wrap (.seq .leaf (.seq .leaf (.join [(8, .str)] [(8, 8), (23, 25)] (.seq .leaf (.cond .leaf .leaf)) (.seq (.seq .leaf (.cond .leaf .leaf)) (.seq .leaf (.wrap (.seq .leaf (.cond .leaf (.seq .leaf (.cond .leaf (.seq .leaf (.cond (.seq .leaf (.cond .leaf .leaf)) (.seq .leaf (.cond (.join [(5, .any)] [(5, 5), (57, 68)] (.seq .leaf (.cond .leaf .leaf)) (.seq .leaf (.wrap (.loop [(5, .any), (9, .int .i64)] [(5, 5), (9, 9), (69, 96)] (.seq (.seq .leaf (.cond .leaf .leaf)) (.seq (.wrap .leaf) .leaf)))))) .leaf))))))))))))))) .leaf))))) (.seq .leaf .leaf))))
theorem q_ref24iTallies (a0 : AV) (a1 : Bool) (s : AS) (R : AV → AS → Prop) (h : Q_ref24iTallies a0 a1 s R) : ACalls Tryd.prog F_ref24iTallies [a0, (.bool a1)] s R :=
 ACalls.q (n := 98) (rs := [.tmp 4]) (A := A_ref24iTallies) hT hmx Tryd.func18 (by kernel_rfl) rfl rfl rfl (by kernel_rfl) (by kernel_rfl) h
def Q_ref09iMuch (a0 : List AV) (s : AS) (R : AV → AS → Prop) : Prop :=
 One1 a0 (NewQ (.cells a0 0 false) s fun l1 s2 => RdS (rd1 s2 l1 2) fun x3 => RdI .i64 (alenB T Y_string (.str x3) s2) fun n4 => bsplit (decide ((n4 : Int) > 300)) (R (.bool true) s2) (RdA (rd1 s2 l1 3) fun v5 => RdI .i64 (alenB T Y_s_uint8 v5 s2) fun n6 => bsplit (decide ((n6 : Int) > 3000)) (R (.bool true) s2) (RdA (rd1 s2 l1 20) fun v7 => RdI .i64 (alenB T Y_s_Dest v7 s2) fun n8 => bsplit (decide ((n8 : Int) > 3000))
 (R (.bool true) s2)
 (LoopQ fun I9 m10 => I9 m10 [(.int .i64 0), (.int .i64 0)] s2 ∧
 ∀ m11 : Nat, ∀ n12 : Int, ∀ n13 : Int, ∀ s14 : AS, I9 m11 [(.int .i64 n12), (.int .i64 n13)] s14 →
 RdA (rd1 s14 l1 20) fun v15 => RdI .i64 (alenB T Y_s_Dest v15 s14) fun n16 => bsplit (decide ((n13 : Int) < n16))
 (RdA (rd1 s14 l1 20) fun v17 => IxQ (aindexAddr T Y_s_Dest v17 (.int .i64 n13)) fun l18 o19 => RdS (rd1 s14 l18 (o19 + 2)) fun x20 => RdI .i64 (alenB T Y_string (.str x20) s14) fun n21 => RdI .i64 (amax false [(.int .i64 n21), (.int .i64 200001)]) fun n22 => bsplit (decide ((IntKind.wrap .i64 (n12 + n22) : Int) > 200000))
 (R (.bool true) s14)
 (∃ m', m' < m11 ∧ I9 m' [(.int .i64 (IntKind.wrap .i64 (n12 + n22))), (.int .i64 (IntKind.wrap .i64 (n13 + 1)))] s14))
 (R (.bool false) s14)))))
def A_ref09iMuch : QA := (.seq .leaf (.seq (.seq .leaf (.cond (.seq .leaf .leaf) .leaf)) (.seq .leaf (.seq (.seq .leaf (.wrap (.loop [(3, .int .i64), (4, .int .i64)] [(2, 4), (21, 39)] (.seq (.seq .leaf (.cond .leaf .leaf)) (.seq (.wrap (.seq .leaf (.seq .leaf (.cond (.seq .leaf .leaf) .leaf)))) .leaf))))) (.seq .leaf .leaf)))))
theorem q_ref09iMuch (a0 : List AV) (s : AS) (R : AV → AS → Prop) (h : Q_ref09iMuch a0 s R) : ACalls Tryd.prog F_ref09iMuch [(.agg a0)] s R :=
 ACalls.q (n := 40) (rs := [.tmp 2]) (A := A_ref09iMuch) hT hmx Tryd.func26 (by kernel_rfl) rfl rfl rfl (by kernel_rfl) (by kernel_rfl) h
def Q_trail_tallies (a0 : AV) (a1 : AV) (s : AS) (R : AV → AS → Prop) : Prop :=
 NewQ (.map [] 0 false) s fun l1 s2 => NewQ (.cells [(.map none)] 0 false) s2 fun l3 s4 => StQ (awr s4 l3 0 [(.map (some l1))]) fun s5 => JoinQ fun J6 =>
 (∀ s7 : AS, J6 [] s7 →
 RdM (rd1 s7 l3 0) fun r8 => ACalls Tryd.prog F_maps_Keys__m_string_p_Tally_string_p_Tally [(.map r8)] s7 fun v9 s10 => ACalls Tryd.prog F_slices_Sorted__string [v9] s10 fun v11 s12 => RdI .i64 (alenB T Y_s_string v11 s12) fun n13 => LoopQ fun I14 m15 => I14 m15 [(.slc none 0 0 true), (.int .i64 0)] s12 ∧
 ∀ m16 : Nat, ∀ v17 : AV, ∀ n18 : Int, ∀ s19 : AS, I14 m16 [v17, (.int .i64 n18)] s19 →
 bsplit (decide ((n18 : Int) < n13))
 (IxQ (aindexAddr T Y_s_string v11 (.int .i64 n18)) fun l20 o21 => RdS (rd1 s19 l20 o21) fun x22 => RdM (rd1 s19 l3 0) fun r23 => RdP (alookup T Y_m_string_p_Tally (.map r23) (.str x22) false s19) fun p24 => AsSome p24 fun l25 o26 => RdL (rdc s19 l25 o26 6) fun g27 => RdL (absl T Y_s_Tally 1 [(0, (.agg g27))]) fun g28 => NewQ (.cells g28 0 false) s19 fun l29 s30 => Bd2 (aappend T Y_s_Tally Y_s_Tally v17 (.slc (some (l29, 0)) 1 1 true) s30) fun v31 s32 => ∃ m', m' < m16 ∧ I14 m' [v31, (.int .i64 (IntKind.wrap .i64 (n18 + 1)))] s32)
 (R v17 s19)) ∧
 (RdI .i64 (alenB T Y_s_Done a0 s5) fun n33 => LoopQ fun I34 m35 => I34 m35 [(.int .i64 0)] s5 ∧
 ∀ m36 : Nat, ∀ n37 : Int, ∀ s38 : AS, I34 m36 [(.int .i64 n37)] s38 →
 bsplit (decide ((n37 : Int) < n33))
 (IxQ (aindexAddr T Y_s_Done a0 (.int .i64 n37)) fun l39 o40 => RdL (rdc s38 l39 o40 15) fun g41 => NewQ (.cells [.int .i64 0, .int .i64 0, .int .i64 0, .str [], .str [], .slc none 0 0 true, .slc none 0 0 true, .int .i64 0, .int .i64 0, .int .i64 0, .int .u64 0, .slc none 0 0 true, .slc none 0 0 true, .bool false, .slc none 0 0 true] 0 false) s38 fun l42 s43 => OkC (some 15) g41 (StQ (awr s43 l42 0 g41) fun s44 => RdI .i64 (rd1 s44 l42 8) fun n45 => bsplit ((n45 : Int) == 0)
 (RdL (rdc s44 l42 0 15) fun g46 => ACallV Tryd.prog a1 [(.agg g46), (.func F_trail_tallies_1 [(.ptr (some (l3, 0)))])] s44 fun v47 s48 => v47 = .tup [] ∧ (∃ m', m' < m36 ∧ I34 m' [(.int .i64 (IntKind.wrap .i64 (n37 + 1)))] s48))
 (∃ m', m' < m36 ∧ I34 m' [(.int .i64 (IntKind.wrap .i64 (n37 + 1)))] s44)))
 (J6 [] s38))
def A_trail_tallies : QA := (.seq .leaf (.seq .leaf (.seq .leaf (.join [] [(8, 8), (13, 27)] (.seq .leaf (.wrap (.loop [(15, .int .i64)] [(8, 8), (15, 27)] (.seq .leaf (.seq (.cond .leaf .leaf) (.seq (.wrap (.seq .leaf (.seq .leaf (.cond .leaf .leaf)))) .leaf)))))) (.seq (.seq .leaf (.wrap (.loop [(4, .any), (32, .int .i64)] [(4, 4), (10, 10), (32, 44)] (.seq .leaf (.seq (.cond .leaf .leaf) (.seq (.wrap (.seq .leaf .leaf)) .leaf)))))) (.seq .leaf .leaf))))))
theorem q_trail_tallies (a0 : AV) (a1 : AV) (s : AS) (R : AV → AS → Prop) (h : Q_trail_tallies a0 a1 s R) : ACalls Tryd.prog F_trail_tallies [a0, a1] s R :=
 ACalls.q (n := 46) (rs := [.tmp 4]) (A := A_trail_tallies) hT hmx Tryd.func27 (by kernel_rfl) rfl rfl rfl (by kernel_rfl) (by kernel_rfl) h
def Q_trail_Topics_1 (a0 : List AV) (a1 : AV) (s : AS) (R : AV → AS → Prop) : Prop :=
 One1 a0 (NewQ (.cells a0 0 false) s fun l1 s2 => RdI .i64 (rd1 s2 l1 2) fun n3 => bsplit ((n3 : Int) == 1)
 (RdS (rd1 s2 l1 3) fun x4 => ACallV Tryd.prog a1 [(.str x4)] s2 fun v5 s6 => ∃ p7 : Option (Nat × Nat), v5 = .ptr p7 ∧ (AsSome p7 fun l8 o9 => RdI .i64 (rd1 s6 l8 (o9 + 1)) fun n10 => AsSome p7 fun l11 o12 => StQ (awr s6 l11 (o12 + 1) [(.int .i64 (IntKind.wrap .i64 (n10 + 1)))]) fun s13 => R (.tup []) s13))
 (bsplit ((n3 : Int) == 2)
 (RdS (rd1 s2 l1 3) fun x14 => ACallV Tryd.prog a1 [(.str x14)] s2 fun v15 s16 => ∃ p17 : Option (Nat × Nat), v15 = .ptr p17 ∧ (AsSome p17 fun l18 o19 => RdI .i64 (rd1 s16 l18 (o19 + 2)) fun n20 => AsSome p17 fun l21 o22 => StQ (awr s16 l21 (o22 + 2) [(.int .i64 (IntKind.wrap .i64 (n20 + 1)))]) fun s23 => R (.tup []) s23))
 (bsplit ((n3 : Int) == 3)
 (RdS (rd1 s2 l1 3) fun x24 => ACallV Tryd.prog a1 [(.str x24)] s2 fun v25 s26 => ∃ p27 : Option (Nat × Nat), v25 = .ptr p27 ∧ (AsSome p27 fun l28 o29 => RdI .i64 (rd1 s26 l28 (o29 + 3)) fun n30 => AsSome p27 fun l31 o32 => StQ (awr s26 l31 (o32 + 3) [(.int .i64 (IntKind.wrap .i64 (n30 + 1)))]) fun s33 => R (.tup []) s33))
 (bsplit ((n3 : Int) == 5)
 (RdA (rd1 s2 l1 11) fun v34 => RdI .i64 (alenB T Y_s_Event v34 s2) fun n35 => LoopQ fun I36 m37 => I36 m37 [(.int .i64 0)] s2 ∧
 ∀ m38 : Nat, ∀ n39 : Int, ∀ s40 : AS, I36 m38 [(.int .i64 n39)] s40 →
 bsplit (decide ((n39 : Int) < n35))
 (IxQ (aindexAddr T Y_s_Event v34 (.int .i64 n39)) fun l41 o42 => RdL (rdc s40 l41 o42 21) fun g43 => NewQ (.cells [.int .i64 0, .int .u64 0, .str [], .slc none 0 0 true, .int .u64 0, .int .u64 0, .int .u64 0, .int .u64 0, .int .u64 0, .int .u64 0, .int .u64 0, .int .u64 0, .int .u64 0, .int .u64 0, .int .u64 0, .int .u64 0, .int .u64 0, .int .u64 0, .int .u64 0, .int .u64 0, .slc none 0 0 true] 0 false) s40 fun l44 s45 => OkC (some 21) g43 (StQ (awr s45 l44 0 g43) fun s46 => RdS (rd1 s46 l44 2) fun x47 => ACallV Tryd.prog a1 [(.str x47)] s46 fun v48 s49 => ∃ p50 : Option (Nat × Nat), v48 = .ptr p50 ∧ (AsSome p50 fun l51 o52 => RdI .i64 (rd1 s49 l51 (o52 + 5)) fun n53 => AsSome p50 fun l54 o55 => StQ (awr s49 l54 (o55 + 5) [(.int .i64 (IntKind.wrap .i64 (n53 + 1)))]) fun s56 => ∃ m', m' < m38 ∧ I36 m' [(.int .i64 (IntKind.wrap .i64 (n39 + 1)))] s56)))
 (R (.tup []) s40))
 (R (.tup []) s2)))))
def A_trail_Topics_1 : QA := (.seq .leaf (.seq .leaf (.wrap (.seq .leaf (.cond .leaf (.seq .leaf (.cond .leaf (.seq .leaf (.cond .leaf (.seq .leaf (.cond (.seq .leaf (.wrap (.loop [(54, .int .i64)] [(5, 5), (54, 68)] (.seq .leaf (.seq (.cond .leaf .leaf) (.seq (.wrap (.seq .leaf .leaf)) .leaf)))))) .leaf)))))))))))
theorem q_trail_Topics_1 (a0 : List AV) (a1 : AV) (s : AS) (R : AV → AS → Prop) (h : Q_trail_Topics_1 a0 a1 s R) : ACalls Tryd.prog F_trail_Topics_1 [(.agg a0), a1] s R :=
 ACalls.q (n := 69) (rs := []) (A := A_trail_Topics_1) hT hmx Tryd.func28 (by kernel_rfl) rfl rfl rfl (by kernel_rfl) (by kernel_rfl) h
def Q_trail_Devices_1 (a0 : List AV) (a1 : AV) (s : AS) (R : AV → AS → Prop) : Prop :=
 One1 a0 (NewQ (.cells a0 0 false) s fun l1 s2 => RdI .i64 (rd1 s2 l1 2) fun n3 => bsplit ((n3 : Int) == 1)
 (RdS (rd1 s2 l1 4) fun x4 => ACallV Tryd.prog a1 [(.str x4)] s2 fun v5 s6 => ∃ p7 : Option (Nat × Nat), v5 = .ptr p7 ∧ (AsSome p7 fun l8 o9 => RdI .i64 (rd1 s6 l8 (o9 + 1)) fun n10 => AsSome p7 fun l11 o12 => StQ (awr s6 l11 (o12 + 1) [(.int .i64 (IntKind.wrap .i64 (n10 + 1)))]) fun s13 => R (.tup []) s13))
 (bsplit ((n3 : Int) == 2)
 (RdS (rd1 s2 l1 4) fun x14 => ACallV Tryd.prog a1 [(.str x14)] s2 fun v15 s16 => ∃ p17 : Option (Nat × Nat), v15 = .ptr p17 ∧ (AsSome p17 fun l18 o19 => RdI .i64 (rd1 s16 l18 (o19 + 2)) fun n20 => AsSome p17 fun l21 o22 => StQ (awr s16 l21 (o22 + 2) [(.int .i64 (IntKind.wrap .i64 (n20 + 1)))]) fun s23 => R (.tup []) s23))
 (bsplit ((n3 : Int) == 5)
 (RdS (rd1 s2 l1 4) fun x24 => ACallV Tryd.prog a1 [(.str x24)] s2 fun v25 s26 => ∃ p27 : Option (Nat × Nat), v25 = .ptr p27 ∧ (AsSome p27 fun l28 o29 => RdI .i64 (rd1 s26 l28 (o29 + 4)) fun n30 => AsSome p27 fun l31 o32 => StQ (awr s26 l31 (o32 + 4) [(.int .i64 (IntKind.wrap .i64 (n30 + 1)))]) fun s33 => AsSome p27 fun l34 o35 => RdI .i64 (rd1 s33 l34 (o35 + 5)) fun n36 => RdA (rd1 s33 l1 11) fun v37 => RdI .i64 (alenB T Y_s_Event v37 s33) fun n38 => AsSome p27 fun l39 o40 => StQ (awr s33 l39 (o40 + 5) [(.int .i64 (IntKind.wrap .i64 (n36 + n38)))]) fun s41 => R (.tup []) s41))
 (R (.tup []) s2))))
def A_trail_Devices_1 : QA := (.seq .leaf (.seq .leaf (.wrap (.seq .leaf (.cond .leaf (.seq .leaf (.cond .leaf (.seq .leaf (.cond (.seq .leaf (.seq .leaf (.draw 8))) .leaf)))))))))
theorem q_trail_Devices_1 (a0 : List AV) (a1 : AV) (s : AS) (R : AV → AS → Prop) (h : Q_trail_Devices_1 a0 a1 s R) : ACalls Tryd.prog F_trail_Devices_1 [(.agg a0), a1] s R :=
 ACalls.q (n := 59) (rs := []) (A := A_trail_Devices_1) hT hmx Tryd.func29 (by kernel_rfl) rfl rfl rfl (by kernel_rfl) (by kernel_rfl) h
def Q_ref24iadd (a0 : AV) (a1 : List AV) (s : AS) (R : AV → AS → Prop) : Prop :=
 One1 a1 (NewQ (.cells a1 0 false) s fun l1 s2 => JoinQ fun J3 =>
 (∀ n4 : Int, ∀ s5 : AS, J3 [(.int .i64 n4)] s5 →
 Bd2 (aappend T Y_s_Tally Y_s_Tally (.slc none 0 0 true) a0 s5) fun v6 s7 => JoinQ fun J8 =>
 (∀ b9 : Bool, ∀ s10 : AS, J8 [(.bool b9)] s10 →
 bsplit b9
 (IxQ (aindexAddr T Y_s_Tally a0 (.int .i64 n4)) fun l11 o12 => RdL (rdc s10 l11 o12 6) fun g13 => NewQ (.cells [.str [], .int .i64 0, .int .i64 0, .int .i64 0, .int .i64 0, .int .i64 0] 0 false) s10 fun l14 s15 => OkC (some 6) g13 (StQ (awr s15 l14 0 g13) fun s16 => RdS (rd1 s16 l1 0) fun x17 => RdI .i64 (rd1 s16 l14 1) fun n18 => RdI .i64 (rd1 s16 l1 1) fun n19 => RdI .i64 (rd1 s16 l14 2) fun n20 => RdI .i64 (rd1 s16 l1 2) fun n21 => RdI .i64 (rd1 s16 l14 3) fun n22 => RdI .i64 (rd1 s16 l1 3) fun n23 => RdI .i64 (rd1 s16 l14 4) fun n24 => RdI .i64 (rd1 s16 l1 4) fun n25 => RdI .i64 (rd1 s16 l14 5) fun n26 => RdI .i64 (rd1 s16 l1 5) fun n27 => RdG (abuild T Y_Tally [(0, (.str x17)), (1, (.int .i64 (IntKind.wrap .i64 (n18 + n19)))), (2, (.int .i64 (IntKind.wrap .i64 (n20 + n21)))), (3, (.int .i64 (IntKind.wrap .i64 (n22 + n23)))), (4, (.int .i64 (IntKind.wrap .i64 (n24 + n25)))), (5, (.int .i64 (IntKind.wrap .i64 (n26 + n27))))]) fun g28 => IxQ (aindexAddr T Y_s_Tally v6 (.int .i64 n4)) fun l29 o30 => OkC (some 6) g28 (StQ (awr s16 l29 o30 g28) fun s31 => R v6 s31)))
 (DrawQ fun S V => RdA (aslice T Y_s_Tally a0 none (some (.int .i64 n4)) none) fun v32 => (∀ s33 : AS, Ext s10 s33 → WFs s33 → (True) → Bd2 (aappend T Y_s_Tally Y_s_Tally (.slc none 0 0 true) v32 s33) fun v34 s35 => (Ext s33 s35 ∧ S 3 [(.slc none 0 0 true), v32] v34 s35 ∧ V 3 [(.slc none 0 0 true), v32] v34)) ∧ (∃ v, V 3 [(.slc none 0 0 true), v32] v) ∧ ∀ v36 : AV, V 3 [(.slc none 0 0 true), v32] v36 → RdL (rdc s10 l1 0 6) fun g37 => (∀ s38 : AS, Ext s10 s38 → WFs s38 → (True) → RdL (absl T Y_s_Tally 1 [(0, (.agg g37))]) fun g39 => NewQ (.cells g39 0 false) s38 fun l40 s41 => (Ext s38 s41 ∧ S 5 [(.agg g37)] (.slc (some (l40, 0)) 1 1 true) s41 ∧ V 5 [(.agg g37)] (.slc (some (l40, 0)) 1 1 true))) ∧ (∃ v, V 5 [(.agg g37)] v) ∧ ∀ v42 : AV, V 5 [(.agg g37)] v42 → RdA (aslice T Y_s_Tally a0 (some (.int .i64 n4)) none none) fun v43 => ∀ s44 : AS, Ext s10 s44 → WFs s44 → (S 3 [(.slc none 0 0 true), v32] v36 s44 ∧ (S 5 [(.agg g37)] v42 s44 ∧ True)) → Bd2 (aappend T Y_s_Tally Y_s_Tally v36 v42 s44) fun v46 s47 => Bd2 (aappend T Y_s_Tally Y_s_Tally v46 v43 s47) fun v48 s49 => R v48 s49)) ∧
 (RdI .i64 (alenB T Y_s_Tally a0 s7) fun n50 => bsplit (decide ((n4 : Int) < n50)) (IxQ (aindexAddr T Y_s_Tally a0 (.int .i64 n4)) fun l51 o52 => RdS (rd1 s7 l51 o52) fun x53 => RdS (rd1 s7 l1 0) fun x54 => J8 [(.bool ((x53 : List UInt8) == x54))] s7) (J8 [(.bool false)] s7))) ∧
 (LoopQ fun I55 m56 => I55 m56 [(.int .i64 0)] s2 ∧
 ∀ m57 : Nat, ∀ n58 : Int, ∀ s59 : AS, I55 m57 [(.int .i64 n58)] s59 →
 RdI .i64 (alenB T Y_s_Tally a0 s59) fun n60 => bsplit (decide ((n58 : Int) < n60)) (IxQ (aindexAddr T Y_s_Tally a0 (.int .i64 n58)) fun l61 o62 => RdS (rd1 s59 l61 o62) fun x63 => RdS (rd1 s59 l1 0) fun x64 => bsplit (bytesLt x63 x64)
 (∃ m', m' < m57 ∧ I55 m' [(.int .i64 (IntKind.wrap .i64 (n58 + 1)))] s59)
 (J3 [(.int .i64 n58)] s59)) (J3 [(.int .i64 n58)] s59)))
def A_ref24iadd : QA := (.seq .leaf (.seq .leaf (.join [(5, .int .i64)] [(5, 5), (8, 23)] (.wrap (.loop [(5, .int .i64)] [(5, 5), (8, 23)] (.seq (.seq (.draw 12) (.cond .leaf .leaf)) (.wrap .leaf)))) (.seq .leaf (.seq (.join [(39, .bool)] [(26, 39)] (.draw 12) (.cond (.seq .leaf (.seq .leaf (.seq .leaf .leaf))) .leaf)) (.seq (.drawT [0, 1, 2, 3, 4, 5, 7, 8, 9] [6, 10, 11] [[], [], [], [], [], [], [], [], [], [], [], []] [3, 5]) .leaf))))))
theorem q_ref24iadd (a0 : AV) (a1 : List AV) (s : AS) (R : AV → AS → Prop) (h : Q_ref24iadd a0 a1 s R) : ACalls Tryd.prog F_ref24iadd [a0, (.agg a1)] s R :=
 ACalls.q (n := 87) (rs := [.tmp 4]) (A := A_ref24iadd) hT hmx Tryd.func30 (by kernel_rfl) rfl rfl rfl (by kernel_rfl) (by kernel_rfl) h
def Q_trail_tallies_1 (a0 : List UInt8) (c0 : Option (Nat × Nat)) (s : AS) (R : AV → AS → Prop) : Prop :=
 JoinQ fun J1 =>
 (∀ s2 : AS, J1 [] s2 →
 AsSome c0 fun l3 o4 => RdM (rd1 s2 l3 o4) fun r5 => RdP (alookup T Y_m_string_p_Tally (.map r5) (.str a0) false s2) fun p6 => R (.ptr p6) s2) ∧
 (AsSome c0 fun l7 o8 => RdM (rd1 s l7 o8) fun r9 => RdP (alookup T Y_m_string_p_Tally (.map r9) (.str a0) false s) fun p10 => RdO (aeq T 100 Y_p_Tally (.ptr p10) (.ptr none)) fun b11 => bsplit b11
 (AsSome c0 fun l12 o13 => RdM (rd1 s l12 o13) fun r14 => RdG (abuild T Y_Tally [(0, (.str a0))]) fun g15 => One1 g15 (NewQ (.cells g15 0 false) s fun l16 s17 => StQ (amapUpdate T Y_m_string_p_Tally (.map r14) (.str a0) (.ptr (some (l16, 0))) s17) fun s18 => J1 [] s18))
 (J1 [] s))
def A_trail_tallies_1 : QA := (.seq .leaf (.join [] [(4, 12)] (.seq .leaf (.cond .leaf .leaf)) (.seq .leaf .leaf)))
theorem q_trail_tallies_1 (a0 : List UInt8) (c0 : Option (Nat × Nat)) (s : AS) (R : AV → AS → Prop) (h : Q_trail_tallies_1 a0 c0 s R) : ACalls Tryd.prog F_trail_tallies_1 [(.str a0), (.ptr c0)] s R :=
 ACalls.q (n := 16) (rs := [.tmp 3]) (A := A_trail_tallies_1) hT hmx Tryd.func36 (by kernel_rfl) rfl rfl rfl (by kernel_rfl) (by kernel_rfl) h
end Go.Proofs.YtblpmffajlkmjaaDoor
end

section
set_option maxRecDepth 100000
namespace Go.Proofs.YtblpmffajlkmjaaDoor
open Go.Am Go.Trail Go.ChangeShapes Go.WideShapes Go.ChangeAt Go.RowKit
structure Ds where
 cells : List AV
 dev : Nm
 len : cells.length = 3
 at2 : cells[2]? = some (.str dev)
structure Ev where
 cells : List AV
 topic : Nm
 pay : AV
 to : AV
 len : cells.length = 21
 one : cells.all AV.one = true
 at2 : cells[2]? = some (.str topic)
 at3 : cells[3]? = some pay
 at20 : cells[20]? = some to
structure Ev.Ok (s : AS) (e : Ev) : Prop where
 pay : ∃ cs n, SlAt s e.pay 1 cs n
 to : ∃ l : List Ds, Sl Ds.cells 3 s e.to l
structure Dc where
 cells : List AV
 kind : Int
 topic : Nm
 device : Nm
 code : Int
 ev : AV
 evs : List Ev
 len : cells.length = 15
 one : cells.all AV.one = true
 at2 : cells[2]? = some (.int .i64 kind)
 at3 : cells[3]? = some (.str topic)
 at4 : cells[4]? = some (.str device)
 at8 : cells[8]? = some (.int .i64 code)
 at11 : cells[11]? = some ev
structure Dc.Ok (s : AS) (d : Dc) : Prop where
 ev : Sl Ev.cells 21 s d.ev d.evs
 evs : ∀ e ∈ d.evs, e.Ok s
 lt : d.topic.length ≤ reachBytes
 ld : d.device.length ≤ reachBytes
 le : d.evs.length ≤ reachBytes
structure Hist (s : AS) (v : AV) (l : List Dc) : Prop where
 sl : Sl Dc.cells 15 s v l
 ok : ∀ d ∈ l, d.Ok s
theorem Ev.Ok.ext {s s' : AS} {e : Ev} (h : e.Ok s) (x : Ext s s') : e.Ok s' := by
 obtain ⟨⟨cs, n, h1⟩, l, h2⟩ := h
 exact ⟨⟨cs, n, h1.ext x⟩, l, h2.ext x⟩
theorem Dc.Ok.ext {s s' : AS} {d : Dc} (h : d.Ok s) (x : Ext s s') : d.Ok s' := ⟨h.ev.ext x, fun e he => (h.evs e he).ext x, h.lt, h.ld, h.le⟩
theorem Hist.ext {s s' : AS} {v : AV} {l : List Dc} (h : Hist s v l) (x : Ext s s') : Hist s' v l := ⟨h.sl.ext x, fun d hd => (h.ok d hd).ext x⟩
def iL : LK := .int .i64
def kinds_Done : List CK := [.fl iL, .fl iL, .fl iL, .str, .str, .sl Y_uint8 6, .sl Y_uint8 6, .fl iL, .fl iL, .fl iL, .fl (.int .u64), .sl Y_Event 6, .sl Y_uint8 6, .fl .bool, .sl Y_Key 6]
def kinds_Event : List CK := [.fl iL, .fl (.int .u64), .str, .sl Y_uint8 4] ++ (List.replicate 16 (.fl (.int .u64)) ++ [.sl Y_Dest 4])
set_option maxRecDepth 100000 in
theorem kd : kinds Tryd.prog 9 Y_Done = some kinds_Done := by kernel_rfl
set_option maxRecDepth 100000 in
theorem ke : kinds Tryd.prog 6 Y_Event = some kinds_Event := by kernel_rfl
set_option maxRecDepth 100000 in
theorem kt : kinds Tryd.prog 4 Y_Dest = some [.fl iL, .fl (.int .u64), .str] := by kernel_rfl
theorem leafK.one {P : Program} {w : World} {k : CK} {v : AV} (h : leafK P w k v) : v.one = true := by
 cases k with
 | fl k => exact leafOk.one h
 | str => obtain ⟨b, rfl, _⟩ := h; rfl
 | sl e d => exact h.1
theorem cellsK.one {P : Program} {w : World} : ∀ {ks : List CK} {vs : List AV}, cellsK P w ks vs → vs.all AV.one = true
 | [], [], _ => rfl
 | [], _ :: _, h => h.elim
 | _ :: _, [], h => h.elim
 | k :: ks, v :: vs, h => by
  rw [List.all_cons, leafK.one h.1, cellsK.one h.2]; rfl
theorem cellsK.split {P : Program} {w : World} {ks' : List CK} : ∀ {ks : List CK} {vs : List AV}, cellsK P w (ks ++ ks') vs → ∃ a b, vs = a ++ b ∧ cellsK P w ks a ∧ cellsK P w ks' b
 | [], vs, h => ⟨[], vs, rfl, trivial, h⟩
 | k :: ks, vs, h => by
  obtain ⟨v, vs', rfl, h1, h2⟩ := cellsK.cons h
  obtain ⟨a, b, rfl, h3, h4⟩ := cellsK.split h2
  exact ⟨v :: a, b, rfl, ⟨h1, h3⟩, h4⟩
theorem open_Dest {w : World} {c : List AV} (h : okD Tryd.prog w 4 Y_Dest c) : ∃ x : Ds, c = x.cells ∧ True := by
 have hk := h.kinds _ _ _ _ kt
 obtain ⟨a, c1, rfl, ⟨r, rfl, _⟩, g1⟩ := hk.cons
 obtain ⟨b, c2, rfl, ⟨n, rfl, _⟩, g2⟩ := g1.cons
 obtain ⟨b, c3, rfl, ⟨t, rfl, _⟩, g3⟩ := g2.cons
 obtain rfl := g3.nil
 exact ⟨⟨_, t, rfl, rfl⟩, rfl, trivial⟩
theorem cells_uint8 : Tryd.prog.cellsOf Y_uint8 = 1 := by kernel_rfl
theorem cells_Dest : Tryd.prog.cellsOf Y_Dest = 3 := by kernel_rfl
theorem cells_Event : Tryd.prog.cellsOf Y_Event = 21 := by kernel_rfl
theorem cells_Done : Tryd.prog.cellsOf Y_Done = 15 := by kernel_rfl
theorem open_Event {w : World} {c : List AV} (h : okD Tryd.prog w 6 Y_Event c) : ∃ x : Ev, c = x.cells ∧ x.Ok (sW w) := by
 have hk := h.kinds _ _ _ _ ke
 have h1 := cellsK.one hk
 have h2 := cellsK.len hk
 obtain ⟨a, c1, rfl, ⟨r, rfl, _⟩, g1⟩ := hk.cons
 obtain ⟨b, c2, rfl, ⟨n, rfl, _⟩, g2⟩ := g1.cons
 obtain ⟨b, c3, rfl, ⟨t, rfl, _⟩, g3⟩ := g2.cons
 obtain ⟨p, c4, rfl, ⟨_, _, Cp, hp, _⟩, g4⟩ := g3.cons
 obtain ⟨m, c5, rfl, g5, g6⟩ := cellsK.split (ks := List.replicate 16 (.fl (.int .u64))) (ks' := [.sl Y_Dest 4]) g4
 obtain ⟨u, c6, rfl, ⟨_, _, Cu, hu, hu2⟩, g7⟩ := g6.cons
 obtain rfl := g7.nil
 have hm : m.length = 16 := by rw [cellsK.len g5]; rfl
 rw [cells_uint8] at hp
 rw [cells_Dest] at hu
 obtain ⟨l, e1, e2, _⟩ := elems (f := Ds.cells) (Q := fun _ => True) Cu fun c hc => open_Dest (hu2 c hc)
 rw [e1, e2] at hu
 refine ⟨⟨_, t, p, u, h2, h1, rfl, rfl, ?_⟩, rfl, ⟨_, _, hp⟩, l, hu⟩
 simp only [List.getElem?_cons_succ, List.getElem?_append_right (Nat.le_of_eq hm), hm]
 rfl
theorem open_Done {w : World} {c : List AV} (h : okD Tryd.prog w 9 Y_Done c) : ∃ x : Dc, c = x.cells ∧ x.Ok (sW w) := by
 have hk := h.kinds _ _ _ _ kd
 have h1 := cellsK.one hk
 have h2 := cellsK.len hk
 obtain ⟨x0, c0, rfl, _, g0⟩ := hk.cons
 obtain ⟨x1, c1, rfl, _, g1⟩ := g0.cons
 obtain ⟨x2, c2, rfl, ⟨kd, rfl, _⟩, g2⟩ := g1.cons
 obtain ⟨x3, c3, rfl, ⟨t, rfl, ht⟩, g3⟩ := g2.cons
 obtain ⟨x4, c4, rfl, ⟨u, rfl, hu⟩, g4⟩ := g3.cons
 obtain ⟨x5, c5, rfl, _, g5⟩ := g4.cons
 obtain ⟨x6, c6, rfl, _, g6⟩ := g5.cons
 obtain ⟨x7, c7, rfl, _, g7⟩ := g6.cons
 obtain ⟨x8, c8, rfl, ⟨co, rfl, _⟩, g8⟩ := g7.cons
 obtain ⟨x9, c9, rfl, _, g9⟩ := g8.cons
 obtain ⟨x10, c10, rfl, _, g10⟩ := g9.cons
 obtain ⟨x11, c11, rfl, ⟨he1, he2, C, hC, hC2⟩, g11⟩ := g10.cons
 rw [cells_Event] at hC
 obtain ⟨l, e1, e2, e3⟩ := elems (f := Ev.cells) (Q := fun e => e.Ok (sW w)) C fun c hc => open_Event (hC2 c hc)
 rw [e1, e2] at hC
 have hle : l.length ≤ reachBytes := by
  rcases hC with ⟨_, hz, _⟩ | ⟨a, c, e, hx, _⟩
  ·rw [hz]; exact Nat.zero_le _
  ·exact he2 _ _ _ _ hx
 exact ⟨⟨_, kd, t, u, co, x11, l, h2, h1, rfl, rfl, rfl, rfl, rfl⟩, rfl, hC, e3, ht, hu, hle⟩
set_option maxRecDepth 100000 in
theorem hist_arg {H : Type} {enc : TypeId × Value → H} {W : World} {base : Nat} {v : Value} (hv : Value.okWide Tryd.prog W .any base Y_s_Done v) (h : ∃ (d : DataW H) (p : List MemPlace), DataW.Trod enc Tryd.prog W 0 (fun _ => true) true Y_s_Done v d p ∧ light Tryd.prog Y_s_Done d) :
  ∃ l : List Dc, Hist (sW W) (absV W.heap.size (MW W) v) l := by
 obtain ⟨d, p, h, hl⟩ := h
 have ho := arg5 (d := 10) (by kernel_rfl) (by kernel_rfl) (hT.und _ _ u_s_Done) hv h hl
 unfold okD at ho
 rw [hT.und _ _ u_s_Done] at ho
 obtain ⟨u, e, _, _, C, hC, hC2⟩ := ho
 obtain ⟨rfl, _⟩ := List.cons.inj e
 rw [cells_Done] at hC
 obtain ⟨l, e1, e2, e3⟩ := elems (f := Dc.cells) (Q := fun e => e.Ok (sW W)) C fun c hc => open_Done (hC2 c hc)
 rw [e1, e2] at hC
 exact ⟨l, hC, e3⟩
end Go.Proofs.YtblpmffajlkmjaaDoor
end

section
set_option maxRecDepth 100000
namespace Go.Proofs.YtblpmffajlkmjaaDoor
open Go.Am Go.Trail
theorem strLen (t : Nm) (s : AS) : alenB T Y_string (.str t) s = some (.int .i64 (t.length : Nat)) := by simp [alenB, u_string]
theorem Much_ok {s : AS} {e : Ev} (o : e.Ok s) : ACalls Tryd.prog F_ref09iMuch [.agg e.cells] s fun v s' => (∃ b : Bool, v = .bool b) ∧ Ext s s' := by
 refine ACalls.pre fun hw => q_ref09iMuch _ _ _ ⟨e.one, NewQ.intro hw rfl fun l1 s2 F => ?_⟩
 have hr := F.own.at.rd1
 obtain ⟨⟨cp, np, hp⟩, l, hl⟩ := o.ext F.ext
 have yes : ∀ b, (∃ b' : Bool, AV.bool b = .bool b') ∧ Ext s s2 := fun b => ⟨⟨b, rfl⟩, F.ext⟩
 refine ⟨e.topic, by rw [hr]; exact e.at2, _, strLen _ _, bsplit.mk (fun _ => yes _) (fun _ => ⟨e.pay, by rw [hr]; exact e.at3, _, hp.lenB u_s_uint8, bsplit.mk (fun _ => yes _) (fun _ => ⟨e.to, by rw [hr]; exact e.at20, _, hl.lenB u_s_Dest _, bsplit.dec (fun _ => yes _) (fun hle => ?_)⟩)⟩)⟩
 refine ⟨fun m vs s' => s' = s2 ∧ ∃ (i : Nat) (n : Int), vs = [.int .i64 n, .int .i64 (i : Nat)] ∧ i ≤ l.length ∧ m = l.length - i, l.length, ⟨rfl, 0, 0, rfl, by omega, rfl⟩, ?_⟩
 rintro m n12 n13 s14 ⟨rfl, i, n, hv, hi, rfl⟩
 simp only [List.cons.injEq, AV.int.injEq, true_and, and_true] at hv
 obtain ⟨rfl, rfl⟩ := hv
 refine ⟨e.to, by rw [hr]; exact e.at20, _, hl.lenB u_s_Dest _, bsplit.dec (fun hlt => ?_) (fun _ => yes _)⟩
 obtain ⟨x, hx⟩ := get_lt (l := l) (i := i) (by omega)
 obtain ⟨lx, ox, x8, x9⟩ := hl.ix (by decide) Ds.len u_s_Dest z_Dest hx
 refine ⟨e.to, by rw [hr]; exact e.at20, lx, ox, x8 _, x.dev, by rw [(x9 _ (Ext.refl _)).1 2 (by decide)]; exact x.at2, _, strLen _ _, ?_⟩
 obtain ⟨k, hk⟩ : ∃ k : Int, amax false [.int .i64 (x.dev.length : Nat), .int .i64 200001] = some (.int .i64 k) := ⟨_, rfl⟩
 refine ⟨k, hk, bsplit.mk (fun _ => yes _) (fun _ => ⟨l.length - (i + 1), by omega, rfl, i + 1, _, by rw [show IntKind.wrap .i64 ((i : Int) + 1) = ((i + 1 : Nat) : Int) from wrap_i (by omega)], by omega, rfl⟩)⟩
def wOf (d : Dc) : Nat := 20 * d.evs.length + d.topic.length + d.device.length
def wSum (l : List Dc) : Nat := (l.map wOf).sum
theorem wSum_le : ∀ {l : List Dc} {s : AS} {k : Nat}, (∀ d ∈ l, d.Ok s) → l.length ≤ k → wSum l ≤ k * (22 * reachBytes)
 | [], s, k, _, _ => by simp [wSum]
 | d :: l, s, k, h, hk => by
  obtain ⟨j, rfl⟩ : ∃ j, k = j + 1 := ⟨k - 1, by simp at hk; omega⟩
  have ih := wSum_le (l := l) (k := j) (fun x hx => h x (by simp [hx])) (by simp at hk; omega)
  have o := h d (by simp)
  have h1 := o.lt
  have h2 := o.ld
  have h3 := o.le
  unfold wSum at ih ⊢
  rw [List.map_cons, List.sum_cons, Nat.succ_mul]
  have : wOf d ≤ 22 * reachBytes := by unfold wOf; omega
  omega
theorem few_ok {s : AS} {a : AV} {l : List Dc} (h : Hist s a l) :
  ACalls Tryd.prog F_law24ifew [a, .slc none 0 0 true] s fun v s' => ∃ b : Bool, v = .bool b ∧ (b = true → l.length ≤ 100 ∧ wSum l ≤ 20000) ∧ Ext s s' := by
 have hb : ∀ i, i ≤ 101 → wSum (l.take i) ≤ 101 * (22 * reachBytes) := fun i hi => wSum_le (fun d hd => h.ok d (List.mem_of_mem_take hd)) (by rw [List.length_take]; omega)
 have hR : 101 * (22 * reachBytes) ≤ 2 ^ 60 := by unfold reachBytes; decide
 refine ACalls.pre fun hw => q_law24ifew _ _ _ _ ?_
 refine ⟨fun vs s' => Ext s s' ∧ ∃ i : Nat, i ≤ 101 ∧ i ≤ l.length ∧ (i = l.length ∨ i = 101) ∧ vs = [.int .i64 (wSum (l.take i) : Nat)], ?_, fun m vs s' => Ext s s' ∧ WFs s' ∧ ∃ i : Nat, i ≤ 101 ∧ i ≤ l.length ∧ m = 101 - i ∧ vs = [.int .i64 (wSum (l.take i) : Nat), .int .i64 (i : Nat)], 101, ⟨Ext.refl _, hw, 0, by omega, by omega, rfl, by simp [wSum]⟩, ?_⟩
 ·rintro n2 s3 ⟨e3, i, hi, hil, hend, hv⟩
  simp only [List.cons.injEq, AV.int.injEq, true_and, and_true] at hv
  subst hv
  refine ⟨fun vs s' => s' = s3 ∧ vs = [.int .i64 (wSum (l.take i) : Nat)], ?_, fun m vs s' => s' = s3 ∧ vs = [.int .i64 (wSum (l.take i) : Nat), .int .i64 0], 0, ⟨rfl, rfl⟩, ?_⟩
  ·rintro n5 s6 ⟨rfl, hv⟩
   simp only [List.cons.injEq, AV.int.injEq, true_and, and_true] at hv
   subst hv
   refine ⟨_, h.sl.lenB u_s_Done _, bsplit.dec (fun h100 => ⟨0, by simp [alenB, u_s_Came], bsplit.yes (by decide) ⟨_, rfl, fun hd => ?_, e3⟩⟩) (fun _ => ⟨false, rfl, by simp, e3⟩)⟩
   have hd' := of_decide_eq_true hd
   have hil2 : i = l.length := by omega
   subst hil2
   rw [List.take_length] at hd'
   exact ⟨by omega, by omega⟩
  ·rintro m n12 n13 s14 ⟨rfl, hv⟩
   simp only [List.cons.injEq, AV.int.injEq, true_and, and_true] at hv
   obtain ⟨rfl, rfl⟩ := hv
   exact ⟨0, by simp [alenB, u_s_Came], bsplit.no (by decide) ⟨rfl, rfl⟩⟩
 rintro m n23 n24 s25 ⟨e25, w25, i, hi, hil, rfl, hv⟩
 simp only [List.cons.injEq, AV.int.injEq, true_and, and_true] at hv
 obtain ⟨rfl, rfl⟩ := hv
 refine ⟨_, h.sl.lenB u_s_Done _, bsplit.dec (fun hlt => bsplit.dec (fun h100 => ?_) (fun hge => ⟨e25, i, hi, hil, .inr (by omega), rfl⟩)) (fun hge => ⟨e25, i, hi, hil, .inl (by omega), rfl⟩)⟩
 obtain ⟨d, hd⟩ := get_lt (l := l) (i := i) (by omega)
 obtain ⟨lx, ox, x8, x9⟩ := h.sl.ix (by decide) Dc.len u_s_Done z_Done hd
 have od := (h.ok d (List.mem_of_getElem? hd)).ext e25
 have rx : ∀ {s'}, Ext s s' → ∀ j, j < 15 → rd1 s' lx (ox + j) = d.cells[j]? := fun e j hj => (x9 _ e).1 j hj
 have hev := od.ev.lenB u_s_Event
 have htk : l.take (i + 1) = l.take i ++ [d] := by rw [List.take_add_one, hd]; rfl
 have hws : wSum (l.take (i + 1)) = wSum (l.take i) + wOf d := by
  rw [htk]; unfold wSum; rw [List.map_append, List.sum_append]; simp
 have hb1 := hb (i + 1) (by omega)
 have hwo : wOf d = 20 * d.evs.length + d.topic.length + d.device.length := rfl
 refine ⟨lx, ox, x8 _, d.ev, by rw [rx e25 11 (by decide)]; exact d.at11, _, hev _, lx, ox, x8 _, d.topic, by rw [rx e25 3 (by decide)]; exact d.at3, _, strLen _ _, lx, ox, x8 _, d.device, by rw [rx e25 4 (by decide)]; exact d.at4, _, strLen _ _, ?_⟩
 have hn : IntKind.wrap .i64 (IntKind.wrap .i64 (IntKind.wrap .i64 ((wSum (l.take i) : Nat) + IntKind.wrap .i64 (20 * (d.evs.length : Nat))) + (d.topic.length : Nat)) + (d.device.length : Nat)) = ((wSum (l.take (i + 1)) : Nat) : Int) := by
  rw [hws] at hb1
  rw [wrap_i (n := 20 * (d.evs.length : Nat)) (by omega), wrap_i (n := (wSum (l.take i) : Nat) + 20 * (d.evs.length : Nat)) (by omega), wrap_i (n := (wSum (l.take i) : Nat) + 20 * (d.evs.length : Nat) + (d.topic.length : Nat)) (by omega), wrap_i (by omega), hws, hwo]
  omega
 dsimp only
 rw [hn]
 have next : ∀ s', Ext s25 s' → WFs s' → ∃ m', m' < 101 - i ∧ Ext s s' ∧ WFs s' ∧ ∃ i' : Nat, i' ≤ 101 ∧ i' ≤ l.length ∧ m' = 101 - i' ∧ [AV.int .i64 (wSum (l.take (i + 1)) : Nat), .int .i64 (IntKind.wrap .i64 ((i : Int) + 1))] = [.int .i64 (wSum (l.take i') : Nat), .int .i64 (i' : Nat)] :=
  fun s' e' w' => ⟨101 - (i + 1), by omega, e25.trans e', w', i + 1, by omega, by omega, rfl, by rw [show IntKind.wrap .i64 ((i : Int) + 1) = ((i + 1 : Nat) : Int) from wrap_i (by omega)]⟩
 refine ⟨fun m vs s' => Ext s25 s' ∧ WFs s' ∧ ∃ k : Nat, k ≤ 21 ∧ m = 21 - k ∧ vs = [.int .i64 (k : Nat)], 21, ⟨Ext.refl _, w25, 0, by omega, rfl, rfl⟩, ?_⟩
 rintro m n42 s43 ⟨e43, w43, k, hk, rfl, hv⟩
 simp only [List.cons.injEq, AV.int.injEq, true_and, and_true] at hv
 subst hv
 have E43 := e25.trans e43
 refine ⟨lx, ox, x8 _, d.ev, by rw [rx E43 11 (by decide)]; exact d.at11, _, hev _, bsplit.dec (fun hlt2 => bsplit.dec (fun h20 => ?_) (fun _ => next _ e43 w43)) (fun _ => next _ e43 w43)⟩
 obtain ⟨y, hy⟩ := get_lt (l := d.evs) (i := k) (by omega)
 obtain ⟨ly, oy, y8, y9⟩ := (od.ev.ext e43).ix (by decide) Ev.len u_s_Event z_Event hy
 refine ⟨lx, ox, x8 _, d.ev, by rw [rx E43 11 (by decide)]; exact d.at11, ly, oy, y8 _, y.cells, (y9 _ (Ext.refl _)).2, ?_⟩
 refine ACalls.use (Much_ok ((od.evs y (List.mem_of_getElem? hy)).ext e43)) ?_
 rintro v s55 ⟨⟨b, rfl⟩, e55⟩ w55
 exact ⟨b, rfl, bsplit.mk (fun _ => ⟨false, rfl, by simp, E43.trans e55⟩) (fun _ => ⟨21 - (k + 1), by omega, e43.trans e55, w55, k + 1, by omega, rfl, by rw [show IntKind.wrap .i64 ((k : Int) + 1) = ((k + 1 : Nat) : Int) from wrap_i (by omega)]⟩)⟩
end Go.Proofs.YtblpmffajlkmjaaDoor
end

section
set_option maxRecDepth 100000
namespace Go.Proofs.YtblpmffajlkmjaaDoor
open Go.Am Go.Trail
def talC (k : Nm) (x : Cnt) : List AV := [.str k, .int .i64 x.s, .int .i64 x.u, .int .i64 x.p, .int .i64 x.q, .int .i64 x.e]
structure TalE (s0 : AS) (lb m : Nat) (s : AS) (es : List (Nm × Nat × Nat)) (c : Nat) (f : Nm → Option Cnt) : Prop where
 box : Am.Own s lb [.map (some m)]
 map : MpAt sK pV s m es c false
 at_ : ∀ k p, mget es k = some p → ∃ x, f k = some x ∧ Am.Own s p (talC k x)
 no : ∀ k, mget es k = none → f k = none
 inj : ∀ k k' p, mget es k = some p → mget es k' = some p → k = k'
 new : ∀ k p, mget es k = some p → s0.h p = none
 small : ∀ k x, f k = some x → x.small
 nb : s0.h lb = none
 nm : s0.h m = none
 ext : Ext s0 s
section
variable {s0 s s' : AS} {lb m : Nat} {es : List (Nm × Nat × Nat)} {c : Nat} {f : Nm → Option Cnt}
theorem TalE.up (t : TalE s0 lb m s es c f) (e : Ext s s') : TalE s0 lb m s' es c f :=
 ⟨t.box.ext e, t.map.ext e, fun k p h => by obtain ⟨x, h1, h2⟩ := t.at_ k p h; exact ⟨x, h1, h2.ext e⟩, t.no, t.inj, t.new, t.small, t.nb, t.nm, t.ext.trans e⟩
theorem TalE.ne (t : TalE s0 lb m s es c f) {k : Nm} {p : Nat} (h : mget es k = some p) : p ≠ lb ∧ p ≠ m := by
 obtain ⟨x, _, h2⟩ := t.at_ k p h
 constructor
 ·rintro rfl
  have := h2.at.inj t.box.at
  simp [talC] at this
 ·rintro rfl
  have h3 := t.map.obj
  have h4 : s.h p = some (.cells (talC k x) 0 false) := h2
  rw [h4] at h3; cases h3
theorem TalE.put (t : TalE s0 lb m s es c f) {k : Nm} {p : Nat} (h : mget es k = some p) {x' : Cnt} (P : Put s s' p (.cells (talC k x') 0 false)) (hx : x'.small) : TalE s0 lb m s' es c fun k' => if k' = k then some x' else f k' := by
 obtain ⟨n1, n2⟩ := t.ne h
 have hm := P.mut
 refine ⟨t.box.mut hm (by simpa using n1.symm), t.map.mut hm (by simpa using n2.symm), fun k' p' h' => ?_, fun k' h' => ?_, t.inj, t.new, fun k' x hx' => ?_, t.nb, t.nm, ?_⟩
 ·by_cases he : k' = k
  ·subst he
   rw [h] at h'; obtain rfl := Option.some.inj h'
   exact ⟨x', by simp, P.at⟩
  ·obtain ⟨x, h1, h2⟩ := t.at_ k' p' h'
   refine ⟨x, by rw [if_neg he]; exact h1, h2.mut hm ?_⟩
   simp only [List.mem_singleton]
   rintro rfl
   exact he (t.inj k' k p' h' h)
 ·by_cases he : k' = k
  ·subst he; rw [h] at h'; cases h'
  ·rw [if_neg he]; exact t.no k' h'
 ·by_cases he : k' = k
  ·rw [if_pos he] at hx'; obtain rfl := Option.some.inj hx'; exact hx
  ·rw [if_neg he] at hx'; exact t.small k' x hx'
 ·exact ⟨fun y o hy => hm.1 y o (by simp only [List.mem_singleton]; rintro rfl; rw [t.new k y h] at hy; cases hy) (t.ext.1 y o hy), Nat.le_trans t.ext.2 hm.2⟩
theorem TalE.box_rd (t : TalE s0 lb m s es c f) : rd1 s lb 0 = some (.map (some m)) := by rw [t.box.at.rd1]; rfl
theorem aeqPtr0 {T : TT} {t e : TypeId} (hu : T.und t = some (.pointer e)) (d : Nat) : aeq T (d + 1) t (.ptr none) (.ptr none) = some true := by simp [aeq, hu]
theorem aeqPtr1 {T : TT} {t e : TypeId} (hu : T.und t = some (.pointer e)) (d : Nat) (a : Nat × Nat) : aeq T (d + 1) t (.ptr (some a)) (.ptr none) = some false := by simp [aeq, hu]
theorem zero_small : Cnt.zero.small := by unfold Cnt.small; decide
theorem of_ok (t : TalE s0 lb m s es c f) (k : Nm) :
  ACalls Tryd.prog F_trail_tallies_1 [.str k, .ptr (some (lb, 0))] s fun v s' => ∃ p es' c' f', v = .ptr (some (p, 0)) ∧ TalE s0 lb m s' es' c' f' ∧ mget es' k = some p ∧ (f' = fun k' => if k' = k then some ((f k).getD Cnt.zero) else f k') ∧ Mut [m] s s' ∧ (s.h p = none ∨ ∃ x, Am.Own s p (talC k x)) := by
 refine ACalls.pre fun hw => q_trail_tallies_1 _ _ _ _ ⟨fun vs s' => vs = [] ∧ ∃ p es' c' f', TalE s0 lb m s' es' c' f' ∧ mget es' k = some p ∧ (f' = fun k' => if k' = k then some ((f k).getD Cnt.zero) else f k') ∧ Mut [m] s s' ∧ (s.h p = none ∨ ∃ x, Am.Own s p (talC k x)), ?_, ?_⟩
 ·rintro s2 ⟨_, p, es', c', f', t', hp, hf, hmu, hnew⟩
  refine ⟨_, t'.box_rd, some (p, 0), ?_, p, es', c', f', rfl, t', hp, hf, hmu, hnew⟩
  rw [t'.map.find mp_str k false, hp]; rfl
 cases hg : mget es k with
 | none =>
  refine ⟨_, t.box_rd, none, by rw [t.map.find mp_str k false, hg]; rfl, true, aeqPtr0 u_p_Tally 99, bsplit.yes rfl ⟨_, t.box_rd, talC k Cnt.zero, by kernel_rfl, rfl, NewQ.intro hw rfl fun l16 s17 F => ?_⟩⟩
  have t17 := t.up F.ext
  have hfk := t.no k hg
  refine MpAt.upd mp_str F.wf t17.map k l16 fun s' es' c' M' hget w' m' => ⟨rfl, l16, es', c', _, ?_, by rw [hget]; simp, rfl, F.ext.mut.trans m', .inl F.no⟩
  have nl : l16 ≠ m := by rintro rfl; have := F.no; rw [t.map.obj] at this; cases this
  have nb : lb ≠ m := by
   rintro rfl
   have h3 := t.map.obj
   have h4 : s.h lb = some (.cells [.map (some lb)] 0 false) := t.box
   rw [h4] at h3; cases h3
  have o16 : Am.Own s' l16 (talC k Cnt.zero) := F.own.mut m' (by simpa using nl)
  have hold : ∀ k' p', mget es k' = some p' → p' ≠ l16 := fun k' p' h' e => by
   obtain ⟨x, _, h2⟩ := t.at_ k' p' h'
   have h4 : s.h p' = some (.cells (talC k' x) 0 false) := h2
   rw [e, F.no] at h4; cases h4
  refine ⟨t17.box.mut m' (by simpa using nb), M', fun k' p' h' => ?_, fun k' h' => ?_, fun k1 k2 p' h1 h2 => ?_, fun k' p' h' => ?_, fun k' x hx => ?_, t.nb, t.nm, ?_⟩
  ·rw [hget] at h'
   by_cases he : k' = k
   ·rw [if_pos he] at h'; obtain rfl := Option.some.inj h'
    subst he
    exact ⟨Cnt.zero, by simp [hfk], o16⟩
   ·rw [if_neg he] at h'
    obtain ⟨x, h1, h2⟩ := t17.at_ k' p' h'
    exact ⟨x, by rw [if_neg he]; exact h1, h2.mut m' (by simpa using (t17.ne h').2)⟩
  ·rw [hget] at h'
   by_cases he : k' = k
   ·rw [if_pos he] at h'; cases h'
   ·rw [if_neg he] at h' ⊢; exact t.no k' h'
  ·rw [hget] at h1 h2
   by_cases e1 : k1 = k <;> by_cases e2 : k2 = k
   ·rw [e1, e2]
   ·rw [if_pos e1] at h1; rw [if_neg e2] at h2; obtain rfl := Option.some.inj h1; exact absurd rfl (hold k2 _ h2)
   ·rw [if_neg e1] at h1; rw [if_pos e2] at h2; obtain rfl := Option.some.inj h2; exact absurd rfl (hold k1 _ h1)
   ·rw [if_neg e1] at h1; rw [if_neg e2] at h2; exact t.inj k1 k2 p' h1 h2
  ·rw [hget] at h'
   by_cases he : k' = k
   ·rw [if_pos he] at h'; obtain rfl := Option.some.inj h'
    exact t.ext.none F.no
   ·rw [if_neg he] at h'; exact t.new k' p' h'
  ·by_cases he : k' = k
   ·rw [if_pos he, hfk] at hx; obtain rfl := Option.some.inj hx; exact zero_small
   ·rw [if_neg he] at hx; exact t.small k' x hx
  ·exact ⟨fun y o hy => m'.1 y o (by simp only [List.mem_singleton]; rintro rfl; rw [t.nm] at hy; cases hy) (t17.ext.1 y o hy), Nat.le_trans t17.ext.2 m'.2⟩
 | some p =>
  refine ⟨_, t.box_rd, some (p, 0), by rw [t.map.find mp_str k false, hg]; rfl, false, aeqPtr1 u_p_Tally 99 _, bsplit.no rfl ⟨rfl, p, es, c, f, t, hg, ?_, Mut.refl _ _, by obtain ⟨x, _, h2⟩ := t.at_ k p hg; exact .inr ⟨x, h2⟩⟩⟩
  obtain ⟨x, h1, _⟩ := t.at_ k p hg
  funext k'
  by_cases he : k' = k
  ·rw [if_pos he, he, h1]; rfl
  ·rw [if_neg he]
theorem up_eq {f f' : Nm → Option Cnt} {k : Nm} {d : Cnt} (hf : f' = fun k' => if k' = k then some ((f k).getD Cnt.zero) else f k') : (fun k' => if k' = k then some (((f k).getD Cnt.zero).add d) else f' k') = upF f (k, d) := by
 funext k'
 unfold upF
 by_cases he : k' = k
 ·rw [if_pos he, if_pos he]
 ·rw [if_neg he, if_neg he, hf]; simp only; rw [if_neg he]
theorem bump {p : Nat} {k : Nm} {f' : Nm → Option Cnt} (t : TalE s0 lb m s es c f') (hw : WFs s) (hp : mget es k = some p) {x x' : Cnt} (hx : f' k = some x) {j : Nat} (hj : j < 6) {n : Int} (hc : (talC k x).set j (.int .i64 n) = talC k x') (hs : x'.small) {K : AS → Prop}
  (hK : ∀ s', TalE s0 lb m s' es c (fun k' => if k' = k then some x' else f' k') → WFs s' → Am.Own s' p (talC k x') → Mut [p] s s' → K s') : StQ (awr s p (0 + j) [.int .i64 n]) K := by
 obtain ⟨y, h1, h2⟩ := t.at_ k p hp
 rw [hx] at h1; obtain rfl := Option.some.inj h1
 rw [Nat.zero_add]
 refine StQ.own hw h2 (by simp [talC]; omega) fun s' P => ?_
 have e : wrs (talC k x) j [.int .i64 n] = talC k x' := hc
 rw [e] at P
 exact hK s' (t.put hp P hs) P.wf P.at P.mut
end
end Go.Proofs.YtblpmffajlkmjaaDoor
end

section
set_option maxRecDepth 100000
namespace Go.Proofs.YtblpmffajlkmjaaDoor
open Go.Am Go.Trail
def opsT (d : Dc) : List Ent := if d.kind = 1 then [(d.topic, ⟨1, 0, 0, 0, 0⟩)] else if d.kind = 2 then [(d.topic, ⟨0, 1, 0, 0, 0⟩)] else if d.kind = 3 then [(d.topic, ⟨0, 0, 1, 0, 0⟩)] else if d.kind = 5 then d.evs.map (fun e => (e.topic, ⟨0, 0, 0, 0, 1⟩)) else []
def opsD (d : Dc) : List Ent := if d.kind = 1 then [(d.device, ⟨1, 0, 0, 0, 0⟩)] else if d.kind = 2 then [(d.device, ⟨0, 1, 0, 0, 0⟩)] else if d.kind = 5 then [(d.device, ⟨0, 0, 0, 1, (d.evs.length : Nat)⟩)] else []
section
variable {s0 s s' : AS} {lb m : Nat} {es : List (Nm × Nat × Nat)} {c : Nat} {f : Nm → Option Cnt}
theorem count1 (t : TalE s0 lb m s es c f) (k : Nm) {j : Nat} (hj : j < 6) (dj : Cnt) (get : Cnt → Int) (hget : ∀ x, (talC k x)[j]? = some (.int .i64 (get x))) (hset : ∀ x, x.small → (talC k x).set j (.int .i64 (IntKind.wrap .i64 (get x + 1))) = talC k (x.add dj)) {K : AS → Prop}
  (hK : ∀ s' es' c', TalE s0 lb m s' es' c' (upF f (k, dj)) → WFs s' → K s') : ACallV Tryd.prog (.func F_trail_tallies_1 [.ptr (some (lb, 0))]) [.str k] s fun v s6 => ∃ p7 : Option (Nat × Nat), v = .ptr p7 ∧ (AsSome p7 fun l8 o9 => RdI .i64 (rd1 s6 l8 (o9 + j)) fun n10 => AsSome p7 fun l11 o12 => StQ (awr s6 l11 (o12 + j) [.int .i64 (IntKind.wrap .i64 (n10 + 1))]) fun s13 => K s13) := by
 refine ACalls.use (of_ok t k) ?_
 rintro v s' ⟨p, es', c', f', rfl, t', hp, hf, _, _⟩ w'
 obtain ⟨x, hx, ox⟩ := t'.at_ k p hp
 have hxs := t'.small k x hx
 have hxk : x = (f k).getD Cnt.zero := by rw [hf] at hx; simpa using hx.symm
 refine ⟨some (p, 0), rfl, get x, by rw [Nat.zero_add, ox.at.rd1]; exact hget x, ?_⟩
 refine bump t' w' hp hx hj (hset x hxs) (Cnt.add_small _ _) fun s'' t'' w'' _ _ => hK s'' es' c' ?_ w''
 rw [hxk, up_eq hf] at t''
 exact t''
theorem set1 (k : Nm) (x : Cnt) (h : x.small) : (talC k x).set 1 (.int .i64 (IntKind.wrap .i64 (x.s + 1))) = talC k (x.add ⟨1, 0, 0, 0, 0⟩) := by
 obtain ⟨h1, h2, h3, h4, h5⟩ := h.all
 simp [talC, Cnt.add, h1, h2, h3, h4, h5]
theorem set2 (k : Nm) (x : Cnt) (h : x.small) : (talC k x).set 2 (.int .i64 (IntKind.wrap .i64 (x.u + 1))) = talC k (x.add ⟨0, 1, 0, 0, 0⟩) := by
 obtain ⟨h1, h2, h3, h4, h5⟩ := h.all
 simp [talC, Cnt.add, h1, h2, h3, h4, h5]
theorem set3 (k : Nm) (x : Cnt) (h : x.small) : (talC k x).set 3 (.int .i64 (IntKind.wrap .i64 (x.p + 1))) = talC k (x.add ⟨0, 0, 1, 0, 0⟩) := by
 obtain ⟨h1, h2, h3, h4, h5⟩ := h.all
 simp [talC, Cnt.add, h1, h2, h3, h4, h5]
theorem set4 (k : Nm) (x : Cnt) (h : x.small) : (talC k x).set 4 (.int .i64 (IntKind.wrap .i64 (x.q + 1))) = talC k (x.add ⟨0, 0, 0, 1, 0⟩) := by
 obtain ⟨h1, h2, h3, h4, h5⟩ := h.all
 simp [talC, Cnt.add, h1, h2, h3, h4, h5]
theorem set5 (k : Nm) (x : Cnt) (h : x.small) : (talC k x).set 5 (.int .i64 (IntKind.wrap .i64 (x.e + 1))) = talC k (x.add ⟨0, 0, 0, 0, 1⟩) := by
 obtain ⟨h1, h2, h3, h4, h5⟩ := h.all
 simp [talC, Cnt.add, h1, h2, h3, h4, h5]
def Counts (g : FuncId) (ops : Dc → List Ent) : Prop := ∀ (s0 s : AS) (lb m : Nat) (es : List (Nm × Nat × Nat)) (c : Nat) (f : Nm → Option Cnt) (d : Dc), d.Ok s0 → TalE s0 lb m s es c f →
 ACalls Tryd.prog g [.agg d.cells, .func F_trail_tallies_1 [.ptr (some (lb, 0))]] s fun v s' => v = .tup [] ∧ ∃ es' c', TalE s0 lb m s' es' c' ((ops d).foldl upF f)
theorem Topics_counts : Counts F_trail_Topics_1 opsT := by
 intro s0 s lb m es c f d o t
 refine ACalls.pre fun hw => q_trail_Topics_1 _ _ _ _ ⟨d.one, NewQ.intro hw rfl fun l1 s2 F => ?_⟩
 have hr := F.own.at.rd1
 have t2 := t.up F.ext
 unfold opsT
 refine ⟨d.kind, by rw [hr]; exact d.at2, bsplit.mk (fun hk => ?_) (fun hk1 => bsplit.mk (fun hk => ?_) (fun hk2 => bsplit.mk (fun hk => ?_) (fun hk3 => bsplit.mk (fun hk => ?_) (fun hk5 => ?_))))⟩
 ·rw [if_pos (by simpa using hk)]
  exact ⟨d.topic, by rw [hr]; exact d.at3, count1 t2 d.topic (by decide) _ (fun x => x.s) (fun x => rfl) (set1 _) fun s' es' c' t' w' => ⟨rfl, es', c', t'⟩⟩
 ·rw [if_neg (by simpa using hk1), if_pos (by simpa using hk)]
  exact ⟨d.topic, by rw [hr]; exact d.at3, count1 t2 d.topic (by decide) _ (fun x => x.u) (fun x => rfl) (set2 _) fun s' es' c' t' w' => ⟨rfl, es', c', t'⟩⟩
 ·rw [if_neg (by simpa using hk1), if_neg (by simpa using hk2), if_pos (by simpa using hk)]
  exact ⟨d.topic, by rw [hr]; exact d.at3, count1 t2 d.topic (by decide) _ (fun x => x.p) (fun x => rfl) (set3 _) fun s' es' c' t' w' => ⟨rfl, es', c', t'⟩⟩
 ·rw [if_neg (by simpa using hk1), if_neg (by simpa using hk2), if_neg (by simpa using hk3), if_pos (by simpa using hk)]
  have hle : d.evs.length ≤ 140737488351232 := o.le
  refine ⟨d.ev, by rw [hr]; exact d.at11, _, o.ev.lenB u_s_Event _, fun mm vs s' => ∃ (i : Nat), vs = [.int .i64 (i : Nat)] ∧ i ≤ d.evs.length ∧ mm = d.evs.length - i ∧ WFs s' ∧ ∃ es' c', TalE s0 lb m s' es' c' (((d.evs.take i).map fun e => (e.topic, (⟨0, 0, 0, 0, 1⟩ : Cnt))).foldl upF f), d.evs.length, ⟨0, rfl, by omega, rfl, F.wf, es, c, t2⟩, ?_⟩
  rintro mm n39 s40 ⟨i, hv, hi, rfl, w40, es4, c4, t4⟩
  simp only [List.cons.injEq, AV.int.injEq, true_and, and_true] at hv
  subst hv
  refine bsplit.dec (fun hlt => ?_) (fun hge => ?_)
  rotate_left
  ·obtain rfl : i = d.evs.length := by omega
   rw [List.take_length] at t4
   exact ⟨rfl, es4, c4, t4⟩
  obtain ⟨y, hy⟩ := get_lt (l := d.evs) (i := i) (by omega)
  obtain ⟨ly, oy, y8, y9⟩ := o.ev.ix (by decide) Ev.len u_s_Event z_Event hy
  refine ⟨ly, oy, y8 _, y.cells, (y9 _ t4.ext).2, NewSt w40 y.len rfl y.one fun l44 s46 F46 => ⟨y.topic, by rw [F46.own.at.rd1]; exact y.at2, ?_⟩⟩
  refine count1 (t4.up F46.ext) y.topic (by decide) ⟨0, 0, 0, 0, 1⟩ (fun x => x.e) (fun x => rfl) (set5 _) fun s' es' c' t' w' => ⟨d.evs.length - (i + 1), by omega, i + 1, by rw [wrap_i (by omega)]; rfl, by omega, rfl, w', es', c', ?_⟩
  have ht : d.evs.take (i + 1) = d.evs.take i ++ [y] := by rw [List.take_add_one, hy]; rfl
  rw [ht, List.map_append, List.foldl_append]
  exact t'
 ·rw [if_neg (by simpa using hk1), if_neg (by simpa using hk2), if_neg (by simpa using hk3), if_neg (by simpa using hk5)]
  exact ⟨rfl, es, c, t2⟩
theorem Devices_counts : Counts F_trail_Devices_1 opsD := by
 intro s0 s lb m es c f d o t
 refine ACalls.pre fun hw => q_trail_Devices_1 _ _ _ _ ⟨d.one, NewQ.intro hw rfl fun l1 s2 F => ?_⟩
 have hr := F.own.at.rd1
 have t2 := t.up F.ext
 unfold opsD
 refine ⟨d.kind, by rw [hr]; exact d.at2, bsplit.mk (fun hk => ?_) (fun hk1 => bsplit.mk (fun hk => ?_) (fun hk2 => bsplit.mk (fun hk => ?_) (fun hk5 => ?_)))⟩
 ·rw [if_pos (by simpa using hk)]
  exact ⟨d.device, by rw [hr]; exact d.at4, count1 t2 d.device (by decide) _ (fun x => x.s) (fun x => rfl) (set1 _) fun s' es' c' t' w' => ⟨rfl, es', c', t'⟩⟩
 ·rw [if_neg (by simpa using hk1), if_pos (by simpa using hk)]
  exact ⟨d.device, by rw [hr]; exact d.at4, count1 t2 d.device (by decide) _ (fun x => x.u) (fun x => rfl) (set2 _) fun s' es' c' t' w' => ⟨rfl, es', c', t'⟩⟩
 ·rw [if_neg (by simpa using hk1), if_neg (by simpa using hk2), if_pos (by simpa using hk)]
  refine ⟨d.device, by rw [hr]; exact d.at4, ACalls.use (of_ok t2 d.device) ?_⟩
  rintro v s' ⟨p, es', c', f', rfl, t', hp, hf, hmu, hnew⟩ w'
  obtain ⟨x, hx, ox⟩ := t'.at_ _ p hp
  have hxs := t'.small _ x hx
  have hxk : x = (f d.device).getD Cnt.zero := by rw [hf] at hx; simpa using hx.symm
  have n1 : l1 ≠ p := by
   rintro rfl
   rcases hnew with h | ⟨y, h⟩
   ·have := F.at; rw [h] at this; cases this
   ·have := F.own.at.inj h.at
    have h15 := d.len
    rw [this] at h15
    simp [talC] at h15
  have n2 : l1 ≠ m := by
   rintro rfl
   have := F.at; rw [t2.map.obj] at this; cases this
  have o1 : Am.Own s' l1 d.cells := F.own.mut hmu (by simpa using n2)
  refine ⟨some (p, 0), rfl, x.q, by rw [Nat.zero_add, ox.at.rd1]; rfl, ?_⟩
  refine bump t' w' hp hx (j := 4) (by decide) (set4 _ x hxs) (Cnt.add_small _ _) fun s33 t33 w33 o33 m33 => ?_
  have o1' : Am.Own s33 l1 d.cells := o1.mut m33 (by simpa using n1)
  have hx1 : (fun k' => if k' = d.device then some (x.add ⟨0, 0, 0, 1, 0⟩) else f' k') d.device = some (x.add ⟨0, 0, 0, 1, 0⟩) := by simp
  refine ⟨(x.add ⟨0, 0, 0, 1, 0⟩).e, by rw [Nat.zero_add, o33.at.rd1]; rfl, d.ev, by rw [o1'.at.rd1]; exact d.at11, _, o.ev.lenB u_s_Event _, ?_⟩
  refine bump t33 w33 hp hx1 (j := 5) (x' := x.add ⟨0, 0, 0, 1, (d.evs.length : Nat)⟩) (by decide) ?_ (Cnt.add_small _ _) fun s41 t41 w41 _ _ => ⟨rfl, es', c', ?_⟩
  ·obtain ⟨h1, h2, h3, h4, h5⟩ := hxs.all
   simp [talC, Cnt.add, h1, h2, h3, h4, h5]
  ·have e : (fun k' => if k' = d.device then some (x.add ⟨0, 0, 0, 1, (d.evs.length : Nat)⟩) else (fun k' => if k' = d.device then some (x.add ⟨0, 0, 0, 1, 0⟩) else f' k') k') = upF f (d.device, ⟨0, 0, 0, 1, (d.evs.length : Nat)⟩) := by
    rw [← up_eq hf, ← hxk]
    funext k'
    by_cases he : k' = d.device
    ·rw [if_pos he, if_pos he]
    ·rw [if_neg he, if_neg he]; simp only; rw [if_neg he]
   rw [e] at t41
   exact t41
 ·rw [if_neg (by simpa using hk1), if_neg (by simpa using hk2), if_neg (by simpa using hk5)]
  exact ⟨rfl, es, c, t2⟩
end
end Go.Proofs.YtblpmffajlkmjaaDoor
end

section
set_option maxRecDepth 100000
namespace Go.Trail
open Go.Minster2
theorem insT_put : ∀ (o : List Ent) (j : Nat) (x : Ent), j ≤ o.length → (∀ (u : Nat) z, u < j → o[u]? = some z → Go.Am.bytesLt z.1 x.1 = true) → (∀ z, o[j]? = some z → Go.Am.bytesLt z.1 x.1 = false ∧ z.1 ≠ x.1) → insT o x = o.take j ++ [x] ++ o.drop j
 | [], j, x, hj, _, _ => by
  obtain rfl : j = 0 := by simpa using hj
  rfl
 | y :: o, 0, x, _, _, h => by
  obtain ⟨h1, h2⟩ := h y rfl
  unfold insT
  rw [if_neg (by rw [h1]; simp), if_neg h2]; rfl
 | y :: o, j + 1, x, hj, hl, h => by
  have h1 := hl 0 y (by omega) rfl
  unfold insT
  rw [if_pos h1, insT_put o j x (by simpa using hj) (fun u z hu hz => hl (u + 1) z (by omega) (by simpa using hz)) fun z hz => h z (by simpa using hz)]
  rfl
theorem insT_has : ∀ (o : List Ent) (j : Nat) (x z : Ent), (∀ (u : Nat) z, u < j → o[u]? = some z → Go.Am.bytesLt z.1 x.1 = true) → o[j]? = some z → z.1 = x.1 → insT o x = o.set j (z.1, z.2.add x.2)
 | [], j, x, z, _, h, _ => by simp at h
 | y :: o, 0, x, z, _, h, he => by
  obtain rfl : y = z := by simpa using h
  unfold insT
  rw [if_neg (by rw [he, bytesLt_irrefl]; simp), if_pos he]; rfl
 | y :: o, j + 1, x, z, hl, h, he => by
  have h1 := hl 0 y (by omega) rfl
  unfold insT
  rw [if_pos h1, insT_has o j x z (fun u z hu hz => hl (u + 1) z (by omega) (by simpa using hz)) (by simpa using h) he]; rfl
end Go.Trail
namespace Go.Proofs.YtblpmffajlkmjaaDoor
open Go.Am Go.Trail
def entC (e : Ent) : List AV := talC e.1 e.2
theorem entC_len (e : Ent) : (entC e).length = 6 := rfl
theorem entC_one (e : Ent) : (entC e).all AV.one = true := rfl
theorem sl_s_Tally : SlTy T Y_s_Tally Y_Tally 6 56 := ⟨u_s_Tally, z_Tally, b_Tally, ⟨_, _, zr_Tally, rfl, rfl⟩, by decide, by decide⟩
def opsC (ops : Dc → List Ent) (d : Dc) : List Ent := if d.code = 0 then ops d else []
def rows (ops : Dc → List Ent) (l : List Dc) : List Ent := (l.flatMap (opsC ops)).foldl insT []
theorem tallies_ok {s : AS} {a : AV} {l : List Dc} (h : Hist s a l) (hn : l.length ≤ 100) {g : FuncId} {ops : Dc → List Ent} (hc : Counts g ops) (hs : ∀ x ∈ l.flatMap (opsC ops), x.2.small) (hlen : (l.flatMap (opsC ops)).length ≤ 60000) :
  ACalls Tryd.prog F_trail_tallies [a, .func g []] s fun v s' => Ext s s' ∧ Sl entC 6 s' v (rows ops l) := by
 refine ACalls.pre fun hw => q_trail_tallies _ _ _ _ (NewQ.intro hw rfl fun l1 s2 F1 => NewQ.intro F1.wf rfl fun l3 s4 F3 => StQ.own F3.wf F3.own (by simp) fun s5 P => ?_)
 have e5 : Ext s s5 := ⟨fun x o hx => by rw [P.eq x (F3.ne (F1.ext.1 x o hx))]; exact F3.ext.1 x o (F1.ext.1 x o hx), by rw [P.nl]; exact Nat.le_trans F1.ext.2 F3.ext.2⟩
 have m5 : s5.h l1 = some (.map [] 0 false) := by rw [P.eq l1 (F3.ne F1.at)]; exact F3.ext.1 _ _ F1.at
 have t5 : TalE s l3 l1 s5 [] 0 fun _ => none := ⟨P.at, MpAt.new m5, (fun k p h => by cases h), fun _ _ => rfl, (fun k k' p h => by cases h), (fun k p h => by cases h), (fun k x h => by cases h), F1.ext.none F3.no, F1.no, e5⟩
 refine ⟨fun vs s' => vs = [] ∧ WFs s' ∧ ∃ es c, TalE s l3 l1 s' es c ((l.flatMap (opsC ops)).foldl upF fun _ => none), ?_, _, h.sl.lenB u_s_Done _, fun mm vs s' => ∃ i : Nat, vs = [.int .i64 (i : Nat)] ∧ i ≤ l.length ∧ mm = l.length - i ∧ WFs s' ∧ ∃ es c, TalE s l3 l1 s' es c (((l.take i).flatMap (opsC ops)).foldl upF fun _ => none), l.length, ⟨0, rfl, by omega, rfl, P.wf, [], 0, t5⟩, ?_⟩
 ·rintro s7 ⟨_, w7, es, c, t⟩
  have S := SameG.fold (l.flatMap (opsC ops)) SameG.nil hs
  have hO := foldT_len (l.flatMap (opsC ops)) []
  unfold rows
  generalize (l.flatMap (opsC ops)).foldl insT [] = O at S hO ⊢
  generalize (l.flatMap (opsC ops)).foldl upF (fun _ => none) = f at S t
  simp only [List.length_nil, Nat.zero_add] at hO
  have hes : es.length ≤ O.length := by
   have hk := keys_nodup t.map.nd (fun e h => h) (t.map.nd.imp fun {a b} h e => h (by rw [e]))
   have := nodup_len (d := es.map fun e => e.1) (es := O.map fun e => e.1) hk fun x hx => by
    obtain ⟨e, he, rfl⟩ := List.mem_map.1 hx
    obtain ⟨y, h1, _⟩ := t.at_ _ _ (mget_mem t.map.nd he)
    exact List.mem_map.2 ⟨(e.1, y), (S.mem _).2 h1, rfl⟩
   simpa using this
  refine ⟨some l1, t.box_rd, skeys_sorted (by omega) t.map fun v11 s12 ks h1 h2 h3 h4 e12 hks w12 => ?_⟩
  have hsort := S.sorted h1 (fun k => by
   rw [h2]
   constructor
   ·intro hk
    cases hv : mget es k with
    | none => exact absurd hv hk
    | some p => obtain ⟨x, hx, _⟩ := t.at_ k p hv; rw [hx]; simp
   ·exact fun hk hv => hk (t.no k hv)) h3
  have t12 := t.up e12
  refine ⟨_, hks.lenB u_s_string _, fun mm vs s' => ∃ (i : Nat) (v : AV), vs = [v, .int .i64 (i : Nat)] ∧ i ≤ ks.length ∧ mm = ks.length - i ∧ WFs s' ∧ GroN entC 6 [] s12 s' v ((ks.take i).map fun k => (k, (f k).getD Cnt.zero)), ks.length, ⟨0, _, rfl, by omega, rfl, w12, GroN.nil⟩, ?_⟩
  rintro mm v17 n18 s19 ⟨i, v, hv, hi, rfl, w19, g19⟩
  simp only [List.cons.injEq, AV.int.injEq, true_and, and_true] at hv
  obtain ⟨rfl, rfl⟩ := hv
  refine bsplit.dec (fun hlt => ?_) (fun hge => ?_)
  rotate_left
  ·obtain rfl : i = ks.length := by omega
   rw [List.take_length, hsort] at g19
   exact ⟨t12.ext.trans g19.chg.ext, g19.sl entC_len⟩
  obtain ⟨x, hx⟩ := get_lt (l := ks) (i := i) (by omega)
  obtain ⟨la, o, k8, k9⟩ := hks.ix (by decide) txtC_len u_s_string z_string hx
  have t19 := t12.up g19.chg.ext
  have hxm := (h2 x).1 (List.mem_of_getElem? hx)
  cases hg : mget es x with
  | none => exact absurd hg hxm
  | some p =>
   obtain ⟨y, hy, oy⟩ := t19.at_ x p hg
   refine ⟨la, o, k8 _, x, (k9 _ g19.chg.ext).1 0 (by decide), some l1, t19.box_rd, some (p, 0), by rw [t19.map.find mp_str x false, hg]; rfl, talC x y, oy.at.rdc (by simp [talC]), ?_⟩
   refine GroN.append1 sl_s_Tally entC_len entC_one w19 g19 (by simp) (x, y) (by simp only [List.length_map, List.length_take]; omega) fun v' s' g' w' m' => ⟨ks.length - (i + 1), by omega, i + 1, v', by rw [wrap_i (by omega)]; rfl, by omega, rfl, w', ?_⟩
   have ht : ks.take (i + 1) = ks.take i ++ [x] := by rw [List.take_add_one, hx]; rfl
   rw [ht, List.map_append, List.map_singleton, hy]
   exact g'
 rintro mm n37 s38 ⟨i, hv, hi, rfl, w38, es, c, t⟩
 simp only [List.cons.injEq, AV.int.injEq, true_and, and_true] at hv
 subst hv
 refine bsplit.dec (fun hlt => ?_) (fun hge => ?_)
 rotate_left
 ·obtain rfl : i = l.length := by omega
  rw [List.take_length] at t
  exact ⟨rfl, w38, es, c, t⟩
 obtain ⟨d, hd⟩ := get_lt (l := l) (i := i) (by omega)
 obtain ⟨lx, ox, x8, x9⟩ := h.sl.ix (by decide) Dc.len u_s_Done z_Done hd
 have od := h.ok d (List.mem_of_getElem? hd)
 have ht : l.take (i + 1) = l.take i ++ [d] := by rw [List.take_add_one, hd]; rfl
 have hfl : (l.take (i + 1)).flatMap (opsC ops) = (l.take i).flatMap (opsC ops) ++ opsC ops d := by rw [ht, List.flatMap_append]; simp
 refine ⟨lx, ox, x8 _, d.cells, (x9 _ t.ext).2, NewSt w38 d.len rfl d.one fun l42 s44 F => ⟨d.code, by rw [F.own.at.rd1]; exact d.at8, bsplit.mk (fun hco => ?_) (fun hco => ?_)⟩⟩
 ·refine ⟨d.cells, ?_, ?_⟩
  ·rw [F.own.at.rdc (by rw [d.len]; decide), List.drop_zero, List.take_of_length_le (by rw [d.len]; decide)]
  refine ACalls.use (hc s s44 l3 l1 es c _ d od (t.up F.ext)) ?_
  rintro v s48 ⟨rfl, es', c', t'⟩ w48
  refine ⟨rfl, l.length - (i + 1), by omega, i + 1, by rw [wrap_i (by omega)]; rfl, by omega, rfl, w48, es', c', ?_⟩
  rw [hfl, List.foldl_append]
  unfold opsC
  rw [if_pos (by simpa using hco)]
  exact t'
 ·refine ⟨l.length - (i + 1), by omega, i + 1, by rw [wrap_i (by omega)]; rfl, by omega, rfl, F.wf, es, c, ?_⟩
  rw [hfl]
  unfold opsC
  rw [if_neg (by simpa using hco), List.append_nil]
  exact t.up F.ext
theorem flat_set (l : List Ent) (k : Nat) (x : Ent) (hk : k < l.length) : wrs (l.flatMap entC) (k * 6) (entC x) = (l.set k x).flatMap entC := by
 have hsp : l.flatMap entC = (l.take k).flatMap entC ++ entC (l[k]) ++ (l.drop (k + 1)).flatMap entC := by
  conv => lhs; rw [← List.take_append_drop k l, List.flatMap_append, List.drop_eq_getElem_cons hk, List.flatMap_cons]
  rw [List.append_assoc]
 have hl : ((l.take k).flatMap entC).length = k * 6 := by rw [flat_len entC_len, List.length_take, Nat.min_eq_left (by omega)]
 have := wrs_mid ((l.take k).flatMap entC) (entC l[k]) (entC x) ((l.drop (k + 1)).flatMap entC) (by rw [entC_len, entC_len])
 rw [hl] at this
 rw [hsp, this, List.set_eq_take_append_cons_drop, if_pos hk, List.flatMap_append, List.flatMap_cons, List.append_assoc]
theorem add_ok {s : AS} {a : AV} {o : List Ent} (hl : Sl entC 6 s a o) (ha : a ≠ .emp) (ho : o.length ≤ 100000) (x : Ent) :
  ACalls Tryd.prog F_ref24iadd [a, .agg (entC x)] s fun v s' => Ext s s' ∧ Sl entC 6 s' v (insT o x) ∧ v ≠ .emp := by
 refine ACalls.pre fun hw => q_ref24iadd _ _ _ _ ⟨rfl, NewQ.intro hw rfl fun l1 s2 F => ?_⟩
 have hl2 := hl.ext F.ext
 have hr := F.own.at.rd1
 refine ⟨fun vs s' => s' = s2 ∧ ∃ j : Nat, vs = [.int .i64 (j : Nat)] ∧ j ≤ o.length ∧ (∀ (u : Nat) z, u < j → o[u]? = some z → bytesLt z.1 x.1 = true) ∧ ∀ z, o[j]? = some z → bytesLt z.1 x.1 = false, ?_, fun m vs s' => ∃ j : Nat, vs = [.int .i64 (j : Nat)] ∧ j ≤ o.length ∧ m = o.length - j ∧ s' = s2 ∧ ∀ (u : Nat) z, u < j → o[u]? = some z → bytesLt z.1 x.1 = true, o.length, ⟨0, rfl, by omega, rfl, rfl, fun u z hu => by omega⟩, ?_⟩
 rotate_left
 ·rintro m n58 s59 ⟨j, hj, hjl, rfl, rfl, hlow⟩
  simp only [List.cons.injEq, AV.int.injEq, true_and, and_true] at hj
  subst hj
  refine ⟨_, hl2.lenB u_s_Tally _, bsplit.dec (fun hlt => ?_) (fun hge => ⟨rfl, j, rfl, hjl, hlow, fun z hz => by rw [List.getElem?_eq_none (by omega)] at hz; cases hz⟩)⟩
  obtain ⟨z, hz⟩ := get_lt (l := o) (i := j) (by omega)
  obtain ⟨lz, oz, z8, z9⟩ := hl2.ix (by decide) entC_len u_s_Tally z_Tally hz
  refine ⟨lz, oz, z8 _, z.1, (z9 _ (Ext.refl _)).1 0 (by decide), x.1, hr 0, bsplit.mk (fun hb => ?_) (fun hb => ⟨rfl, j, rfl, hjl, hlow, fun z' hz' => by rw [hz] at hz'; obtain rfl := Option.some.inj hz'; exact hb⟩)⟩
  refine ⟨o.length - (j + 1), by omega, j + 1, by rw [wrap_i (by omega)]; rfl, by omega, rfl, rfl, fun u y hu hy => ?_⟩
  rcases Nat.lt_or_ge u j with h | h
  ·exact hlow u y h hy
  ·obtain rfl : u = j := by omega
   rw [hz] at hy; obtain rfl := Option.some.inj hy; exact hb
 rintro n4 s5 ⟨rfl, j, hj, hjl, hlow, hhigh⟩
 simp only [List.cons.injEq, AV.int.injEq, true_and, and_true] at hj
 subst hj
 refine GroN.appendS sl_s_Tally entC_len entC_one F.wf (GroN.nil (M := [])) (by simp) hl2 (by simp; omega) u_s_Tally fun v6 s7 g7 w7 _ => ?_
 rw [List.nil_append] at g7
 have e7 : Ext s s7 := F.ext.trans g7.chg.ext
 have hl7 := hl.ext e7
 have hr7 := (F.own.at.ext g7.chg.ext).rd1
 refine ⟨fun vs s' => s' = s7 ∧ ((vs = [.bool true] ∧ ∃ z, o[j]? = some z ∧ z.1 = x.1) ∨ (vs = [.bool false] ∧ ∀ z, o[j]? = some z → z.1 ≠ x.1)), ?_, _, hl7.lenB u_s_Tally _, bsplit.dec (fun hlt => ?_) (fun hge => ⟨rfl, .inr ⟨rfl, fun z hz => by rw [List.getElem?_eq_none (by omega)] at hz; cases hz⟩⟩)⟩
 rotate_left
 ·obtain ⟨z, hz⟩ := get_lt (l := o) (i := j) (by omega)
  obtain ⟨lz, oz, z8, z9⟩ := hl7.ix (by decide) entC_len u_s_Tally z_Tally hz
  refine ⟨lz, oz, z8 _, z.1, (z9 _ (Ext.refl _)).1 0 (by decide), x.1, hr7 0, rfl, ?_⟩
  by_cases hzx : z.1 = x.1
  ·exact .inl ⟨by simp [hzx], z, hz, hzx⟩
  ·exact .inr ⟨by simp [hzx], fun z' hz' => by rw [hz] at hz'; obtain rfl := Option.some.inj hz'; exact hzx⟩
 rintro b9 s10 ⟨rfl, hb⟩
 rcases hb with ⟨hb, z, hz, hzx⟩ | ⟨hb, hput⟩
 ·simp only [List.cons.injEq, AV.bool.injEq, and_true] at hb
  subst hb
  have hjo : j < o.length := by
   rcases Nat.lt_or_ge j o.length with h | h
   ·exact h
   ·rw [List.getElem?_eq_none h] at hz; cases hz
  obtain ⟨lz, oz, z8, z9⟩ := hl7.ix (by decide) entC_len u_s_Tally z_Tally hz
  refine bsplit.yes rfl ⟨lz, oz, z8 _, entC z, (z9 _ (Ext.refl _)).2, NewSt w7 rfl rfl rfl fun l14 s16 F14 => ?_⟩
  have h14 := F14.own.at.rd1
  have h1 := (F.own.at.ext (g7.chg.ext.trans F14.ext)).rd1
  have g16 := g7.step F14.ext
  refine ⟨x.1, h1 0, z.2.s, h14 1, x.2.s, h1 1, z.2.u, h14 2, x.2.u, h1 2, z.2.p, h14 3, x.2.p, h1 3, z.2.q, h14 4, x.2.q, h1 4, z.2.e, h14 5, x.2.e, h1 5, entC (x.1, z.2.add x.2), by kernel_rfl, ?_⟩
  rcases g16.gro with ⟨h0, _⟩ | ⟨la, rfl, hown⟩
  ·rw [h0] at hjo; simp at hjo
  have hix : aindexAddr T Y_s_Tally (.slc (some (la, 0)) o.length o.length false) (.int .i64 (j : Nat)) = some (.ptr (some (la, j * 6))) := by
   have : (0 : Int) ≤ (j : Int) ∧ (j : Int) < (o.length : Int) := by omega
   simp only [aindexAddr, u_s_Tally, z_Tally, Option.bind_some]
   rw [if_pos this]
   simp
  refine ⟨la, j * 6, hix, ⟨rfl, rfl⟩, StQ.awr F14.wf hown (by rw [flat_len entC_len]; simp [entC, talC]; omega) fun s31 P => ?_⟩
  have hat := P.at
  rw [flat_set o j _ hjo] at hat
  refine ⟨⟨fun y ob hy => P.mut.1 y ob (by simp only [List.mem_singleton]; rintro rfl; have := F.ext.none (g7.new y (by simp [labOf])); rw [this] at hy; cases hy) ((e7.trans F14.ext).1 y ob hy), Nat.le_trans (e7.trans F14.ext).2 P.mut.2⟩, ?_, by simp⟩
  rw [insT_has o j x z hlow hz hzx, hzx]
  unfold Sl
  rw [List.length_set]
  exact SlAt.mk ⟨_, _, hat⟩ (by rw [flat_len entC_len, List.length_set]) (by rw [List.drop_zero, List.take_of_length_le (by rw [flat_len entC_len, List.length_set]; exact Nat.le_refl _)]) (Nat.le_refl _)
 simp only [List.cons.injEq, AV.bool.injEq, and_true] at hb
 subst hb
 obtain ⟨v32, u1, u2⟩ := hl7.upto entC_len u_s_Tally z_Tally ha hjl .i64
 obtain ⟨v43, u3, u4⟩ := hl7.from entC_len u_s_Tally z_Tally ha hjl .i64
 have htk : (o.take j).length = j := by rw [List.length_take]; omega
 have hx7 : rdc s10 l1 0 6 = some (entC x) := by
  rw [(F.own.at.ext g7.chg.ext).rdc (by simp [entC, talC])]; rfl
 refine bsplit.no rfl ⟨fun z _ v s' => (z = 3 → GroN entC 6 [] s10 s' v (o.take j)) ∧ (z = 5 → ∃ lb, v = .slc (some (lb, 0)) 1 1 true ∧ At s' lb (entC x)), fun z _ v => z = 5 → ∃ lb, v = .slc (some (lb, 0)) 1 1 true, ?_, v32, u1, fun s33 e33 w33 _ => ?_, ⟨.undef, (fun h => by cases h)⟩, fun v36 _ => ⟨entC x, hx7, fun s38 e38 w38 _ => ?_, ⟨.slc (some (0, 0)) 1 1 true, fun _ => ⟨0, rfl⟩⟩, fun v42 hv42 => ⟨v43, u3, fun s44 e44 w44 hS => ?_⟩⟩⟩
 ·rintro z ks v s s' e ⟨h1, h2⟩
  refine ⟨fun hq => (h1 hq).step e, fun hq => ?_⟩
  obtain ⟨l, a, b⟩ := h2 hq
  exact ⟨l, a, b.ext e⟩
 ·refine GroN.appendS sl_s_Tally entC_len entC_one w33 (GroN.start (M := []) e33.mut) (by simp) (u2.ext e33) (by simp [htk]; omega) u_s_Tally fun v' s' g' w' m' => ?_
  rw [List.nil_append] at g'
  exact ⟨Mut.ext (by simpa [labOf] using m'), ⟨(fun _ => g'), (fun h => by cases h)⟩, (fun h => by cases h)⟩
 ·exact ⟨_, absl_agg sl_s_Tally (entC_len _) (entC_one _), NewQ.intro w38 rfl fun lb s30 F30 => ⟨F30.ext, ⟨(fun h => by cases h), fun _ => ⟨lb, rfl, F30.own.at⟩⟩, fun _ => ⟨lb, rfl⟩⟩⟩
 have g44 := hS.1.1 rfl
 obtain ⟨lb, rfl, hlb⟩ := hS.2.1.2 rfl
 have hone : Sl entC 6 s44 (.slc (some (lb, 0)) 1 1 true) [x] := SlAt.mk hlb (by simp [entC, talC]) (by simp [entC, talC])
 refine GroN.appendS sl_s_Tally entC_len entC_one w44 g44 (by simp) hone (by simp [htk]; omega) u_s_Tally fun v46 s47 g47 w47 _ => ?_
 refine GroN.appendS sl_s_Tally entC_len entC_one w47 g47 (by simp) (u4.ext g47.chg.ext) (by simp [htk]; omega) u_s_Tally fun v48 s49 g49 w49 _ => ?_
 rw [insT_put o j x hjl hlow fun z hz => ⟨hhigh z hz, hput z hz⟩]
 exact ⟨e7.trans g49.chg.ext, g49.sl entC_len, g49.isSlc.1⟩
end Go.Proofs.YtblpmffajlkmjaaDoor
end

section
namespace Go.Trail
end Go.Trail
namespace Go.Proofs.YtblpmffajlkmjaaDoor
open Go.Am Go.Trail
end Go.Proofs.YtblpmffajlkmjaaDoor
end

section
namespace Go.Trail
def dg (n : Int) : Prop := n = 0 ∨ n = 1 ∨ n = 2 ∨ n = 3 ∨ n = 4 ∨ n = 5 ∨ n = 6 ∨ n = 7 ∨ n = 8 ∨ n = 9
def digit (n : Int) : List UInt8 := [UInt8.ofNat (48 + n.toNat)]
def lineF (h : Hop) : List UInt8 :=
 if h.kind = 1 then digit h.act ++ [32] ++ [112, 117, 98, 108, 105, 115, 104, 101, 100, 32] ++ digit h.region
 else if h.kind = 4 then digit h.act ++ [32] ++ [112, 111, 108, 108, 101, 100, 32] ++ digit h.region ++ [32] ++ h.device
 else digit h.act ++ [32] ++ [99, 97, 109, 101, 32] ++ digit h.region ++ [32] ++ digit h.src ++ []
structure LineOk (h : Hop) : Prop where
 act : dg h.act
 reg : dg h.region
 src : dg h.src
 dev : h.device.length ≤ 300
 kind : h.kind = 1 ∨ h.kind = 2 ∨ h.kind = 4
end Go.Trail
namespace Go.Proofs.YtblpmffajlkmjaaDoor
open Go.Am Go.Trail
theorem small_dig {n : Int} (h : dg n) (s : AS) : ACalls Tryd.prog F_internal_strconv_small [.int .i64 n] s fun v s' => v = .str (digit n) ∧ s' = s := by
 refine q_internal_strconv_small _ _ _ (bsplit.yes ?_ ⟨digit n, ?_, rfl, rfl⟩)
 ·rcases h with rfl | rfl | rfl | rfl | rfl | rfl | rfl | rfl | rfl | rfl <;> rfl
 ·rcases h with rfl | rfl | rfl | rfl | rfl | rfl | rfl | rfl | rfl | rfl <;> kernel_rfl
theorem itoa_ok {n : Int} (h : dg n) (s : AS) : ACalls Tryd.prog F_strconv_Itoa [.int .i64 n] s fun v s' => v = .str (digit n) ∧ s' = s := by
 have h0 : 0 ≤ n ∧ n < 100 := by rcases h with rfl | rfl | rfl | rfl | rfl | rfl | rfl | rfl | rfl | rfl <;> omega
 refine q_strconv_Itoa _ _ _ (ACalls.use (q_internal_strconv_Itoa (R := fun v s' => v = .str (digit n) ∧ s' = s) _ _ (ACalls.use (q_internal_strconv_FormatInt (R := fun v s' => v = .str (digit n) ∧ s' = s) _ _ _ (bsplit.yes rfl ⟨fun vs s' => vs = [.bool true] ∧ s' = s, ?_, bsplit.yes (by simpa using h0.1) ⟨by simp [h0.2], rfl⟩⟩)) ?_)) ?_)
 ·rintro b s3 ⟨hb, rfl⟩
  simp only [List.cons.injEq, AV.bool.injEq, and_true] at hb
  subst hb
  refine bsplit.yes rfl (ACalls.use (small_dig h _) ?_)
  rintro v s' ⟨rfl, rfl⟩ _
  exact ⟨_, rfl, rfl, rfl⟩
 ·rintro v s' ⟨rfl, rfl⟩ _
  exact ⟨_, rfl, rfl, rfl⟩
 ·rintro v s' ⟨rfl, rfl⟩ _
  exact ⟨_, rfl, rfl, rfl⟩
theorem digit_len (n : Int) : (digit n).length = 1 := rfl
theorem line_ok {h : Hop} (o : LineOk h) (s : AS) : ACalls Tryd.prog F_trail_line [.agg (hopC h)] s fun v s' => v = .str (lineF h) ∧ Ext s s' := by
 refine ACalls.pre fun hw => q_trail_line _ _ _ ⟨rfl, NewQ.intro hw rfl fun l1 s2 F => ⟨h.act, F.own.at.rd1 1, ?_⟩⟩
 refine ACalls.use (itoa_ok o.act _) ?_
 rintro v4 s5 ⟨rfl, rfl⟩ w5
 have hr := F.own.at.rd1
 have hrx : ∀ {s'}, Ext s5 s' → ∀ k, rd1 s' l1 k = (hopC h)[k]? := fun e => (F.own.at.ext e).rd1
 refine ⟨_, rfl, by simp [digit_len], fun _ _ => False, fun s8 hf => hf.elim, h.kind, hr 0, fun vs s' => vs = [.str []] ∧ s' = s5 ∧ h.kind = 2, ?_, fun _ _ => False, fun s33 hf => hf.elim, fun vs s' => s' = s5 ∧ h.kind = 4, ?_, fun vs s' => s' = s5 ∧ h.kind = 1, ?_, ?_⟩
 ·rintro x11 s12 ⟨hv, rfl, hk⟩
  simp only [List.cons.injEq, AV.str.injEq, and_true] at hv
  subst hv
  refine ⟨fun vs s' => vs = [.str [99, 97, 109, 101, 32]] ∧ s' = s12, ?_, bsplit.no rfl ⟨rfl, rfl⟩⟩
  rintro x14 s15 ⟨hv, rfl⟩
  simp only [List.cons.injEq, AV.str.injEq, and_true] at hv
  subst hv
  refine ⟨fun _ _ _ _ => True, fun z _ v => (z = 5 → v = .str (digit h.region)) ∧ (z = 10 → v = .str (digit h.src)), fun _ _ _ _ _ _ _ => trivial, by simp [digit_len], h.region, hr 2, fun s17 e17 w17 _ => ?_, ⟨.str (digit h.region), fun _ => rfl, by simp⟩, fun v21 hv21 => ?_⟩
  ·refine ACalls.use (itoa_ok o.reg _) ?_
   rintro v s' ⟨rfl, rfl⟩ _
   exact ⟨_, rfl, Ext.refl _, trivial, fun _ => rfl, by simp⟩
  obtain rfl := hv21.1 rfl
  refine ⟨_, rfl, by simp [digit_len], by simp [digit_len], h.src, hr 3, fun s24 e24 w24 _ => ?_, ⟨.str (digit h.src), by simp, fun _ => rfl⟩, fun v28 hv28 => ?_⟩
  ·refine ACalls.use (itoa_ok o.src _) ?_
   rintro v s' ⟨rfl, rfl⟩ _
   exact ⟨_, rfl, Ext.refl _, trivial, by simp, fun _ => rfl⟩
  obtain rfl := hv28.2 rfl
  refine ⟨_, rfl, by simp [digit_len], fun s30 e30 w30 _ => ⟨by simp [digit_len], ?_, F.ext.trans e30⟩⟩
  unfold lineF
  rw [if_neg (by omega), if_neg (by omega)]
 ·rintro s39 ⟨rfl, hk⟩
  refine ⟨fun _ _ _ _ => True, fun z _ v => v = .str (digit h.region), fun _ _ _ _ _ _ _ => trivial, by simp [digit_len], h.region, hr 2, fun s17 e17 w17 _ => ?_, ⟨.str (digit h.region), rfl⟩, fun v21 hv21 => ?_⟩
  ·refine ACalls.use (itoa_ok o.reg _) ?_
   rintro v s' ⟨rfl, rfl⟩ _
   exact ⟨_, rfl, Ext.refl _, trivial, rfl⟩
  subst hv21
  refine ⟨_, rfl, by simp [digit_len], by simp [digit_len], h.device, hr 5, fun s30 e30 w30 _ => ⟨by simp [digit_len]; have := o.dev; omega, ?_, F.ext.trans e30⟩⟩
  unfold lineF
  rw [if_neg (by omega), if_pos hk]
 ·rintro s51 ⟨rfl, hk⟩
  refine ⟨by simp [digit_len], h.region, hr 2, ?_⟩
  refine ACalls.use (itoa_ok o.reg _) ?_
  rintro v s' ⟨rfl, rfl⟩ _
  refine ⟨_, rfl, by simp [digit_len], ?_, F.ext⟩
  unfold lineF
  rw [if_pos hk]
 ·rcases o.kind with hk | hk | hk
  ·rw [hk]; exact bsplit.yes rfl ⟨rfl, rfl⟩
  ·rw [hk]; exact bsplit.no rfl (bsplit.no rfl (bsplit.no rfl (bsplit.yes rfl ⟨rfl, rfl, rfl⟩)))
  ·rw [hk]; exact bsplit.no rfl (bsplit.yes rfl ⟨rfl, rfl⟩)
def strC (t : List UInt8) : List AV := [.str t]
theorem strC_len (t : List UInt8) : (strC t).length = 1 := rfl
theorem Lines_ok {s : AS} {a : AV} {l : List Hop} (hl : Sl hopC 6 s a l) (hn : l.length ≤ 1000) (ho : ∀ h ∈ l, LineOk h) :
  ACalls Tryd.prog F_trail_Lines [a] s fun v s' => Ext s s' ∧ Sl strC 1 s' v (l.map lineF) := by
 refine ACalls.pre fun hw => q_trail_Lines _ _ _ ⟨_, hl.lenB u_s_Hop _, fun m vs s' => ∃ (i : Nat) (v : AV), vs = [v, .int .i64 (i : Nat)] ∧ i ≤ l.length ∧ m = l.length - i ∧ WFs s' ∧ GroN strC 1 [] s s' v ((l.take i).map lineF), l.length, ⟨0, _, rfl, by omega, rfl, hw, GroN.nil⟩, ?_⟩
 rintro m v5 n6 s7 ⟨i, v, hv, hi, rfl, w7, g7⟩
 simp only [List.cons.injEq, AV.int.injEq, true_and, and_true] at hv
 obtain ⟨rfl, rfl⟩ := hv
 refine bsplit.dec (fun hlt => ?_) (fun hge => ?_)
 rotate_left
 ·obtain rfl : i = l.length := by omega
  rw [List.take_length] at g7
  exact ⟨g7.chg.ext, g7.sl strC_len⟩
 obtain ⟨x, hx⟩ := get_lt (l := l) (i := i) (by omega)
 obtain ⟨la, o, h8, h9⟩ := hl.ix (by decide) hopC_len u_s_Hop z_Hop hx
 refine ⟨la, o, h8 _, _, (h9 _ g7.chg.ext).2, NewSt w7 rfl rfl rfl fun l11 s13 F => ⟨hopC x, F.own.at.rdc (by simp [hopC]), ?_⟩⟩
 refine ACalls.use (line_ok (ho x (List.mem_of_getElem? hx)) _) ?_
 rintro v15 s16 ⟨rfl, e16⟩ w16
 refine ⟨_, rfl, ?_⟩
 refine GroN.append1s (f := fun t => AV.str t) sl_s_string rfl (fun x => rfl) w16 (g7.step (F.ext.trans e16)) (by simp) (lineF x) (by simp only [List.length_map, List.length_take]; omega) fun v' s' g' w' m' => ⟨l.length - (i + 1), by omega, i + 1, v', by rw [wrap_i (by omega)]; rfl, by omega, rfl, w', ?_⟩
 have ht : l.take (i + 1) = l.take i ++ [x] := by rw [List.take_add_one, hx]; rfl
 rw [ht, List.map_append]
 exact g'
def h1 : Hop := ⟨1, 3, 1, 0, 0, []⟩
def h2 : Hop := ⟨2, 5, 2, 1, 0, []⟩
def h3 : Hop := ⟨4, 8, 2, 0, 0, [97]⟩
theorem tri_Reach : triples (T.und Y_Reach) = some [(false, Y_int, 0), (false, Y_int, 1)] := by kernel_rfl
theorem et_Reach : T.eqt Y_Reach = true := by kernel_rfl
theorem reach_eq (a b : Int × Int) : aeq T 100 Y_Reach (.agg (reachC a)) (.agg (reachC b)) = some (decide (a = b)) := by
 rw [aeq_tri tri_Reach et_Reach]
 simp only [eqTri, cond_false, part_s ag_int, reachC, List.getElem?_cons_zero, List.getElem?_cons_succ, Option.bind_some, aeqInt u_int]
 cases a; cases b
 simp only [Prod.mk.injEq]
 rename_i r c r' c'
 by_cases h1 : r = r' <;> by_cases h2 : c = c' <;> simp [h1, h2]
theorem known_s0 : ACalls Tryd.prog F_law24iknown [] s0 fun v s' => v = .bool true := by
 refine ACalls.pre fun hw => q_law24iknown _ _ ?_
 refine ⟨hopC h1, by kernel_rfl, hopC h2, by kernel_rfl, hopC h3, by kernel_rfl, hopC h1 ++ hopC h2 ++ hopC h3, by kernel_rfl, NewQ.intro hw rfl fun l5 s6 F => ?_⟩
 have hl : Sl hopC 6 s6 (.slc (some (l5, 0)) 3 3 true) [h1, h2, h3] := SlAt.mk F.own.at rfl rfl
 refine ACalls.use (Lines_ok hl (by decide) ?_) ?_
 ·intro h hh
  simp only [List.mem_cons, List.not_mem_nil, or_false] at hh
  rcases hh with rfl | rfl | rfl
  ·exact ⟨by simp [dg, h1], by simp [dg, h1], by simp [dg, h1], by simp [h1], by simp [h1]⟩
  ·exact ⟨by simp [dg, h2], by simp [dg, h2], by simp [dg, h2], by simp [h2], by simp [h2]⟩
  ·exact ⟨by simp [dg, h3], by simp [dg, h3], by simp [dg, h3], by simp [h3], by simp [h3]⟩
 rintro v7 s8 ⟨e8, g8⟩ w8
 refine ACalls.use (Spread_ok (hl.ext e8) (by decide)) ?_
 rintro v9 s10 ⟨e10, g10⟩ w10
 have g := g8.ext e10
 have hsp : spread [h1, h2, h3] = [(2, 2)] := by decide
 rw [hsp] at g10
 have at_ : ∀ {i t}, ([h1, h2, h3].map lineF)[i]? = some t → ∃ la o, aindexAddr T Y_s_string v7 (.int .i64 (i : Nat)) = some (.ptr (some (la, o))) ∧ rd1 s10 la o = some (.str t) := by
  intro i t ht
  obtain ⟨la, o, h8, h9⟩ := g.ix (by decide) strC_len u_s_string z_string ht
  exact ⟨la, o, h8 _, (h9 _ (Ext.refl _)).1 0 (by decide)⟩
 obtain ⟨l0, o0, a0, b0⟩ := at_ (i := 0) rfl
 obtain ⟨l1, o1, a1, b1⟩ := at_ (i := 1) rfl
 obtain ⟨l2, o2, a2, b2⟩ := at_ (i := 2) rfl
 obtain ⟨lr, or, r8, r9⟩ := g10.ix (by decide) reachC_len u_s_Reach z_Reach (i := 0) rfl
 refine ⟨_, g.lenB u_s_string _, bsplit.yes rfl ⟨l0, o0, a0, _, b0, bsplit.yes (by decide) ⟨l1, o1, a1, _, b1, bsplit.yes (by decide) ⟨l2, o2, a2, _, b2, bsplit.yes (by decide) ⟨_, g10.lenB u_s_Reach _, bsplit.yes rfl ⟨lr, or, r8 _, _, (r9 _ (Ext.refl _)).2, reachC (2, 2), by kernel_rfl, true, ?_, rfl⟩⟩⟩⟩⟩⟩
 rw [reach_eq]; rfl
theorem known_ok (s : AS) : ACalls Tryd.prog F_law24iknown [] s fun v s' => v = .bool true ∧ s' = s := ACalls.closed (by kernel_rfl) known_s0
end Go.Proofs.YtblpmffajlkmjaaDoor
end

section
set_option maxRecDepth 100000
namespace Go.Proofs.YtblpmffajlkmjaaDoor
open Go.Am Go.Trail
def opsR (dev : Bool) : Dc → List Ent := if dev then opsD else opsT
theorem pre_len {ops : Dc → List Ent} {l : List Dc} (h : (l.flatMap (opsC ops)).length ≤ 60000) (i : Nat) : ((l.take i).flatMap (opsC ops)).length ≤ 60000 := by
 have : l.flatMap (opsC ops) = (l.take i).flatMap (opsC ops) ++ (l.drop i).flatMap (opsC ops) := by rw [← List.flatMap_append, List.take_append_drop]
 rw [this, List.length_append] at h
 omega
theorem part_get {cs : List AV} {k : Nat} (hk : k < 6) : ((cs.drop 2).take 6)[k]? = cs[2 + k]? := by
 rw [List.getElem?_take, if_pos hk, List.getElem?_drop]
theorem rdc_mid {s : AS} {l o n : Nat} {cs : List AV} (h : rdc s l o n = some cs) (k m : Nat) (hm : k + m ≤ n) : rdc s l (o + k) m = some ((cs.drop k).take m) := by
 unfold Am.rdc at *
 split at h
 ·rename_i C g ro hl
  split at h
  ·rename_i hn
   rw [if_pos (by omega)]
   simp only [Option.some.injEq] at h
   rw [← h, List.drop_take, List.take_take, List.drop_drop]
   congr 2; omega
  ·cases h
 ·cases h
theorem rdc_part {s : AS} {l o : Nat} {cs : List AV} (h : rdc s l o 15 = some cs) : rdc s l (o + 2) 6 = some ((cs.drop 2).take 6) := rdc_mid h 2 6 (by decide)
theorem Tallies_ok {s : AS} {a : AV} {l : List Dc} (h : Hist s a l) (hn : l.length ≤ 100) (dev : Bool) (hlen : (l.flatMap (opsC (opsR dev))).length ≤ 60000) :
  ACalls Tryd.prog F_ref24iTallies [a, .bool dev] s fun v s' => Ext s s' ∧ Sl entC 6 s' v (rows (opsR dev) l) := by
 refine ACalls.pre fun hw => q_ref24iTallies _ _ _ _ ⟨fun mm vs s' => ∃ (i : Nat) (v : AV), vs = [v, .int .i64 (i : Nat)] ∧ i ≤ l.length ∧ mm = l.length - i ∧ WFs s' ∧ Ext s s' ∧ v ≠ .emp ∧ Sl entC 6 s' v (rows (opsR dev) (l.take i)), l.length, ⟨0, _, rfl, by omega, rfl, hw, Ext.refl _, by simp, Sl.nil⟩, ?_⟩
 rintro mm v4 n5 s6 ⟨i, v, hv, hi, rfl, w6, e6, hv4, g6⟩
 simp only [List.cons.injEq, AV.int.injEq, true_and, and_true] at hv
 obtain ⟨rfl, rfl⟩ := hv
 refine ⟨_, h.sl.lenB u_s_Done _, bsplit.dec (fun hlt => ?_) (fun hge => ?_)⟩
 rotate_left
 ·obtain rfl : i = l.length := by omega
  rw [List.take_length] at g6
  exact ⟨e6, g6⟩
 obtain ⟨d, hd⟩ := get_lt (l := l) (i := i) (by omega)
 obtain ⟨lx, ox, x8, x9⟩ := h.sl.ix (by decide) Dc.len u_s_Done z_Done hd
 have od := h.ok d (List.mem_of_getElem? hd)
 have ht : l.take (i + 1) = l.take i ++ [d] := by rw [List.take_add_one, hd]; rfl
 have hfl : (l.take (i + 1)).flatMap (opsC (opsR dev)) = (l.take i).flatMap (opsC (opsR dev)) ++ opsC (opsR dev) d := by rw [ht, List.flatMap_append]; simp
 have hpl := pre_len hlen (i + 1)
 rw [hfl, List.length_append] at hpl
 have hO : (rows (opsR dev) (l.take i)).length ≤ ((l.take i).flatMap (opsC (opsR dev))).length := by
  unfold rows; have := foldT_len ((l.take i).flatMap (opsC (opsR dev))) []; simpa using this
 have hrows : rows (opsR dev) (l.take (i + 1)) = (opsC (opsR dev) d).foldl insT (rows (opsR dev) (l.take i)) := by
  unfold rows; rw [hfl, List.foldl_append]
 generalize rows (opsR dev) (l.take i) = O at g6 hO hrows
 have next : ∀ v' s', WFs s' → Ext s s' → v' ≠ .emp → Sl entC 6 s' v' ((opsC (opsR dev) d).foldl insT O) → ∃ m', m' < l.length - i ∧ ∃ (i' : Nat) (v'' : AV), [v', AV.int .i64 (IntKind.wrap .i64 ((i : Int) + 1))] = [v'', .int .i64 (i' : Nat)] ∧ i' ≤ l.length ∧ m' = l.length - i' ∧ WFs s' ∧ Ext s s' ∧ v'' ≠ .emp ∧ Sl entC 6 s' v'' (rows (opsR dev) (l.take i')) :=
  fun v' s' w' e' h' g' => ⟨l.length - (i + 1), by omega, i + 1, v', by rw [wrap_i (by omega)]; rfl, by omega, rfl, w', e', h', by rw [hrows]; exact g'⟩
 have hpl6 : ((d.cells.drop 2).take 6).length = 6 := by rw [List.length_take, List.length_drop, d.len]; rfl
 have hone : ((d.cells.drop 2).take 6).all AV.one = true := by
  have := d.one
  rw [List.all_eq_true] at this ⊢
  exact fun x hx => this x (List.mem_of_mem_drop (List.mem_of_mem_take hx))
 refine ⟨lx, ox, x8 _, _, rdc_part (x9 _ e6).2, NewSt w6 hpl6 rfl hone fun l11 s13 F => ?_⟩
 have hr : ∀ k, k < 6 → rd1 s13 l11 k = d.cells[2 + k]? := fun k hk => by rw [F.own.at.rd1, part_get hk]
 have e13 := e6.trans F.ext
 have g13 := g6.ext F.ext
 refine ⟨d.topic, by rw [hr 1 (by decide)]; exact d.at3, fun vs s' => s' = s13 ∧ vs = [.str (if dev then d.device else d.topic)], ?_, bsplit.mk (fun hb => ⟨d.device, by rw [hr 2 (by decide)]; exact d.at4, rfl, by rw [hb]; rfl⟩) (fun hb => ⟨rfl, by rw [hb]; rfl⟩)⟩
 rintro x16 s17 ⟨rfl, hx16⟩
 simp only [List.cons.injEq, AV.str.injEq, and_true] at hx16
 have rx : ∀ {s'}, Ext s s' → ∀ j, j < 15 → rd1 s' lx (ox + j) = d.cells[j]? := fun e j hj => (x9 _ e).1 j hj
 refine ⟨lx, ox, x8 _, d.code, by rw [rx e13 8 (by decide)]; exact d.at8, bsplit.mk (fun hco => ?_) (fun hco => ?_)⟩
 ·refine next _ _ F.wf e13 hv4 ?_
  unfold opsC
  rw [if_neg (by simpa using hco)]
  exact g13
 have hoC : opsC (opsR dev) d = opsR dev d := by unfold opsC; rw [if_pos (by simpa using hco)]
 rw [hoC] at next hpl
 have one : ∀ (x : Ent), opsR dev d = [x] → ACalls Tryd.prog F_ref24iadd [v4, .agg (entC x)] s17 fun v23 s24 => ∃ m', m' < l.length - i ∧ ∃ (i' : Nat) (v'' : AV), [v23, AV.int .i64 (IntKind.wrap .i64 ((i : Int) + 1))] = [v'', .int .i64 (i' : Nat)] ∧ i' ≤ l.length ∧ m' = l.length - i' ∧ WFs s24 ∧ Ext s s24 ∧ v'' ≠ .emp ∧ Sl entC 6 s24 v'' (rows (opsR dev) (l.take i')) := by
  intro x hx
  refine ACalls.use (add_ok g13 hv4 (by omega) x) ?_
  rintro v s' ⟨e', g', hne⟩ w'
  exact next v s' w' (e13.trans e') hne (by rw [hx]; exact g')
 refine ⟨d.kind, by rw [hr 0 (by decide)]; exact d.at2, bsplit.mk (fun hk => ?_) (fun hk1 => bsplit.mk (fun hk => ?_) (fun hk2 => bsplit.mk (fun hk => ?_) (fun hk3 => bsplit.mk (fun hk => ?_) (fun hk5 => ?_))))⟩
 ·refine ⟨entC (x16, ⟨1, 0, 0, 0, 0⟩), by kernel_rfl, one _ ?_⟩
  rw [hx16]
  unfold opsR opsD opsT
  cases dev <;> simp [show d.kind = 1 by simpa using hk]
 ·refine ⟨entC (x16, ⟨0, 1, 0, 0, 0⟩), by kernel_rfl, one _ ?_⟩
  rw [hx16]
  unfold opsR opsD opsT
  cases dev <;> simp [show d.kind = 2 by simpa using hk]
 ·have hk' : d.kind = 3 := by simpa using hk
  cases dev with
  | false =>
   refine bsplit.yes rfl ⟨entC (x16, ⟨0, 0, 1, 0, 0⟩), by kernel_rfl, one _ ?_⟩
   rw [hx16]
   unfold opsR opsT
   simp [hk']
  | true =>
   refine bsplit.no rfl (next _ _ F.wf e13 hv4 ?_)
   unfold opsR opsD
   simpa [hk'] using g13
 ·have hk' : d.kind = 5 := by simpa using hk
  have hle : d.evs.length ≤ 140737488351232 := od.le
  have hev := (od.ext e13).ev
  cases dev with
  | false =>
   have hops : opsR false d = d.evs.map fun e => (e.topic, (⟨0, 0, 0, 0, 1⟩ : Cnt)) := by unfold opsR opsT; simp [hk']
   rw [hops] at next hpl
   rw [List.length_map] at hpl
   refine ⟨fun vs s' => vs = [v4] ∧ s' = s17, ?_, bsplit.no rfl ⟨rfl, rfl⟩⟩
   rintro v32 s33 ⟨hv, rfl⟩
   simp only [List.cons.injEq, and_true] at hv
   subst hv
   refine ⟨fun mm vs s' => ∃ (k : Nat) (v : AV), vs = [v, .int .i64 (k : Nat)] ∧ k ≤ d.evs.length ∧ mm = d.evs.length - k ∧ WFs s' ∧ Ext s s' ∧ v ≠ .emp ∧ Sl entC 6 s' v (((d.evs.take k).map fun e => (e.topic, (⟨0, 0, 0, 0, 1⟩ : Cnt))).foldl insT O), d.evs.length, ⟨0, _, rfl, by omega, rfl, F.wf, e13, hv4, g13⟩, ?_⟩
   rintro mm v37 n38 s39 ⟨k, v, hv, hk2, rfl, w39, e39, hne, g39⟩
   simp only [List.cons.injEq, AV.int.injEq, true_and, and_true] at hv
   obtain ⟨rfl, rfl⟩ := hv
   have hev39 := (od.ext e39).ev
   refine ⟨lx, ox, x8 _, d.ev, by rw [rx e39 11 (by decide)]; exact d.at11, _, hev39.lenB u_s_Event _, bsplit.dec (fun hlt2 => bsplit.yes rfl ?_) (fun hge2 => ?_)⟩
   rotate_left
   ·obtain rfl : k = d.evs.length := by omega
    rw [List.take_length] at g39
    exact next _ _ w39 e39 hne g39
   obtain ⟨y, hy⟩ := get_lt (l := d.evs) (i := k) (by omega)
   obtain ⟨ly, oy, y8, y9⟩ := hev39.ix (by decide) Ev.len u_s_Event z_Event hy
   have htk : d.evs.take (k + 1) = d.evs.take k ++ [y] := by rw [List.take_add_one, hy]; rfl
   have hlen2 := foldT_len ((d.evs.take k).map fun e => (e.topic, (⟨0, 0, 0, 0, 1⟩ : Cnt))) O
   rw [List.length_map, List.length_take] at hlen2
   refine ⟨lx, ox, x8 _, d.ev, by rw [rx e39 11 (by decide)]; exact d.at11, ly, oy, y8 _, y.topic, by rw [(y9 _ (Ext.refl _)).1 2 (by decide)]; exact y.at2, entC (y.topic, ⟨0, 0, 0, 0, 1⟩), by kernel_rfl, ?_⟩
   refine ACalls.use (add_ok g39 hne (by omega) _) ?_
   rintro v s' ⟨e', g', hne'⟩ w'
   refine ⟨d.evs.length - (k + 1), by omega, k + 1, v, by rw [wrap_i (by omega)]; rfl, by omega, rfl, w', e39.trans e', hne', ?_⟩
   rw [htk, List.map_append, List.foldl_append]
   exact g'
  | true =>
   have hops : opsR true d = [(d.device, ⟨0, 0, 0, 1, (d.evs.length : Nat)⟩)] := by unfold opsR opsD; simp [hk']
   rw [hops] at next hpl
   refine ⟨fun vs s' => ∃ v, vs = [v] ∧ WFs s' ∧ Ext s s' ∧ v ≠ .emp ∧ Sl entC 6 s' v (insT O (d.device, ⟨0, 0, 0, 1, (d.evs.length : Nat)⟩)), ?_, bsplit.yes rfl ?_⟩
   ·rintro v32 s33 ⟨v, hv, w33, e33, hne, g33⟩
    simp only [List.cons.injEq, and_true] at hv
    subst hv
    refine ⟨fun mm vs s' => vs = [v32, .int .i64 0] ∧ s' = s33, 0, ⟨rfl, rfl⟩, ?_⟩
    rintro mm v37 n38 s39 ⟨hv, rfl⟩
    simp only [List.cons.injEq, AV.int.injEq, true_and, and_true] at hv
    obtain ⟨rfl, rfl⟩ := hv
    have hev39 := (od.ext e33).ev
    exact ⟨lx, ox, x8 _, d.ev, by rw [rx e33 11 (by decide)]; exact d.at11, _, hev39.lenB u_s_Event _, bsplit.mk (fun _ => bsplit.no rfl (next _ _ w33 e33 hne g33)) (fun _ => next _ _ w33 e33 hne g33)⟩
   ·refine ⟨lx, ox, x8 _, d.ev, by rw [rx e13 11 (by decide)]; exact d.at11, _, hev.lenB u_s_Event _, entC (x16, ⟨0, 0, 0, 1, (d.evs.length : Nat)⟩), by kernel_rfl, ?_⟩
    refine ACalls.use (add_ok g13 hv4 (by omega) _) ?_
    rintro v s' ⟨e', g', hne'⟩ w'
    rw [hx16] at g'
    exact ⟨v, rfl, w', e13.trans e', hne', g'⟩
 ·refine next _ _ F.wf e13 hv4 ?_
  have h1 : d.kind ≠ 1 := by simpa using hk1
  have h2 : d.kind ≠ 2 := by simpa using hk2
  have h3 : d.kind ≠ 3 := by simpa using hk3
  have h5 : d.kind ≠ 5 := by simpa using hk5
  unfold opsR opsD opsT
  cases dev <;> simpa [h1, h2, h3, h5] using g13
end Go.Proofs.YtblpmffajlkmjaaDoor
end
