/-
  Names for the numbers of this program's types, and facts on them.
-/
import Derived.Test.YtbfchlimonimkaaTy1
import Derived.KernelRfl
namespace Go.Proofs.Ytbfchlimonimkaa
open Go.Am
abbrev Y___ : Nat := 0
abbrev Y_func__ : Nat := 1
abbrev Y_int64 : Nat := 2
abbrev Y_int : Nat := 3
abbrev Y_bool : Nat := 4
abbrev Y_uint8 : Nat := 5
abbrev Y_abi_BoundsErrorCode : Nat := 6
abbrev Y_struct__x_int64i_y_int__signed_bool__code_abi_BoundsErrorCod : Nat := 7
abbrev Y_runtime_boundsError : Nat := 8
abbrev Y_string : Nat := 9
abbrev Y_runtime_errorString : Nat := 10
abbrev Y_runtime_plainError : Nat := 11
abbrev Y_uintptr : Nat := 12
abbrev Y_struct__msg_string__addr_uintptr__ : Nat := 13
abbrev Y_runtime_errorAddressString : Nat := 14
abbrev Y_p_runtime_TypeAssertionError : Nat := 15
abbrev Y_p_runtime_PanicNilError : Nat := 16
abbrev Y_p_abi_Type : Nat := 17
abbrev Y_struct__typ_p_abi_Type__ : Nat := 18
abbrev Y_maps_unhashableTypeError : Nat := 19
abbrev Y_interface__ : Nat := 20
abbrev Y_int32 : Nat := 21
abbrev Y_s_Dot : Nat := 22
abbrev Y_func__bool : Nat := 23
abbrev Y_p_ctx_Ctx : Nat := 24
abbrev Y_func__p_ctx_Ctx : Nat := 25
abbrev Y_p_minsterref04iSet : Nat := 26
abbrev Y_uint64 : Nat := 27
abbrev Y_a16iuint64 : Nat := 28
abbrev Y_struct__V__16iuint64i_Extra__Dot__ : Nat := 29
abbrev Y_minsterref04iSet : Nat := 30
abbrev Y_Errno : Nat := 31
abbrev Y__bool__Errno_ : Nat := 32
abbrev Y_func_Dot__bool__Errno_ : Nat := 33
abbrev Y_struct__Region_int__Count_uint64i_ : Nat := 34
abbrev Y_Dot : Nat := 35
abbrev Y_func_Dot__bool : Nat := 36
abbrev Y_func_p_ctx_Ctx__p_minsterref04iSet__bool : Nat := 37
abbrev Y_func_Dot__Dot__bool : Nat := 38
abbrev Y__uint64i_Errno_ : Nat := 39
abbrev Y_func_int__uint64i_Errno_ : Nat := 40
abbrev Y_func_int__uint64 : Nat := 41
abbrev Y_func__Dot__Dot__bool : Nat := 42
abbrev Y_Vector : Nat := 43
abbrev Y__p_ctx_Ctx__Errno_ : Nat := 44
abbrev Y_func_Vector__Dot__p_ctx_Ctx__Errno_ : Nat := 45
abbrev Y__p_minsterref04iSet__bool_ : Nat := 46
abbrev Y_func_Vector__Dot__p_minsterref04iSet__bool_ : Nat := 47
abbrev Y__p_ctx_Ctx__p_minsterref04iSet_ : Nat := 48
abbrev Y_func__Dot__p_ctx_Ctx__p_minsterref04iSet_ : Nat := 49
abbrev Y_func__Vector : Nat := 50
abbrev Y_func__Dot : Nat := 51
abbrev Y_func_p_ctx_Ctx__bool : Nat := 52
abbrev Y_func_Vector__Dot__Dot__bool : Nat := 53
abbrev Y_func_p_minsterref04iSet__bool : Nat := 54
abbrev Y_func_p_minsterref04iSet__p_minsterref04iSet__bool : Nat := 55
abbrev Y_func_p_ctx_Ctx__Errno : Nat := 56
abbrev Y_func__p_minsterref04iSet : Nat := 57
abbrev Y_func_p_minsterref04iSet_ : Nat := 58
abbrev Y_func__Dot__Dot__Dot__bool : Nat := 59
abbrev Y_struct__v_Vector__extra__Dot__made_bool__ : Nat := 60
abbrev Y_ctx_Ctx : Nat := 61
abbrev Y_s_p_ctx_Ctx : Nat := 62
abbrev Y_s_int : Nat := 63
abbrev Y_func__Dot__int__Dot__bool : Nat := 64
abbrev Y_func_int__uint64i_bool : Nat := 65
abbrev Y_p_stable_Matrix : Nat := 66
abbrev Y__p_stable_Matrix__Errno_ : Nat := 67
abbrev Y_func_int__int__p_stable_Matrix__Errno_ : Nat := 68
abbrev Y_m_int_int : Nat := 69
abbrev Y_func_int__p_ctx_Ctx__Dot__Errno : Nat := 70
abbrev Y_func__Dot__p_ctx_Ctx : Nat := 71
abbrev Y_func_int__int__Dot__int__bool : Nat := 72
abbrev Y_s_minsterlaw14iAct : Nat := 73
abbrev Y_func__minsterlaw14iAct__bool : Nat := 74
abbrev Y_a17iVector : Nat := 75
abbrev Y_struct__Kind_int__Region_int__Dots__Dot__Live__Dot__V_Vector : Nat := 76
abbrev Y_minsterlaw14iAct : Nat := 77
abbrev Y_func_minsterlaw14iAct__bool : Nat := 78
abbrev Y_func_int__Vector__Errno : Nat := 79
abbrev Y_func__p_stable_Matrix : Nat := 80
abbrev Y_func__minsterlaw14iAct__int__Dot__bool : Nat := 81
abbrev Y_func_int__Dot__bool : Nat := 82
abbrev Y_func_int__Vector : Nat := 83
abbrev Y_func_int__int__minsterlaw14iAct__Dot__bool : Nat := 84
abbrev Y_func_p_stable_Matrix__minsterlaw14iAct_ : Nat := 85
abbrev Y_func_int__minsterlaw14iAct__int__Dot__bool : Nat := 86
abbrev Y_m_int_p_stable_view : Nat := 87
abbrev Y_a16iVector : Nat := 88
abbrev Y_struct__regions_int__own_int__told_m_int_p_stable_view__has_ : Nat := 89
abbrev Y_stable_Matrix : Nat := 90
abbrev Y_s_p_stable_Matrix : Nat := 91
abbrev Y__int__bool_ : Nat := 92
abbrev Y_func__Dot__Dot__func_Dot__Dot__int__int__bool_ : Nat := 93
abbrev Y_func_Dot__Dot__int : Nat := 94
abbrev Y_func__Dot__int__Dot__Dot : Nat := 95
abbrev Y_func__Dot__Dot : Nat := 96
abbrev Y_func__Dot__Dot_x97 : Nat := 97
abbrev Y_func__Dot__func_Dot__Dot__int_ : Nat := 98
abbrev Y_func_int__bool : Nat := 99
abbrev Y_m_Dot_struct__is_bool__ : Nat := 100
abbrev Y_struct__is_bool__ : Nat := 101
abbrev Y_p_stable_view : Nat := 102
abbrev Y_struct__seen_p_ctx_Ctx__live_m_Dot_struct__is_bool__ : Nat := 103
abbrev Y_stable_view : Nat := 104
abbrev Y_s_uint64 : Nat := 105
abbrev Y_func__uint64i_uint64 : Nat := 106
abbrev Y_uint : Nat := 107
abbrev Y_func__int__int : Nat := 108
abbrev Y_func_int__int__int : Nat := 109
abbrev Y_func_uint64i_uint64i_int : Nat := 110
abbrev Y_func__Dot__int_ : Nat := 111
abbrev Y_p_uint64 : Nat := 112
abbrev Y_s__Dot : Nat := 113
abbrev Y_func__Dot__int__Dot : Nat := 114
abbrev Y_func__Dot__int__int__int__func_Dot__Dot__int_ : Nat := 115
abbrev Y_func_uint__int : Nat := 116
abbrev Y_func_uint64i_bool : Nat := 117
abbrev Y_func__Dot__int__int__func_Dot__Dot__int_ : Nat := 118
abbrev Y_slices_sortedHint : Nat := 119
abbrev Y__int__slices_sortedHint_ : Nat := 120
abbrev Y_func__Dot__int__int__func_Dot__Dot__int__int__slices_sortedH : Nat := 121
abbrev Y_func__Dot__int__int__func_Dot__Dot__int__bool : Nat := 122
abbrev Y_func__Dot__int__int__int__func_Dot__Dot__int__int : Nat := 123
abbrev Y_func__Dot__int__int__int__func_Dot__Dot__int__int__bool_ : Nat := 124
abbrev Y_func_uint32i_int : Nat := 125
abbrev Y_uint32 : Nat := 126
abbrev Y_func_uint64i_int : Nat := 127
abbrev Y_func__Dot_ : Nat := 128
abbrev Y_slices_xorshift : Nat := 129
abbrev Y_func_int__uint : Nat := 130
abbrev Y_func__uint64 : Nat := 131
abbrev Y_func__Dot__int__p_int__func_Dot__Dot__int__int : Nat := 132
abbrev Y_p_int : Nat := 133
abbrev Y_func__Dot__int__int__int__p_int__func_Dot__Dot__int__int : Nat := 134
abbrev Y_p_slices_xorshift : Nat := 135
abbrev Y__int__int_ : Nat := 136
abbrev Y_func__Dot__int__int__p_int__func_Dot__Dot__int__int__int_ : Nat := 137
abbrev Y_func__string : Nat := 138
abbrev Y_struct__interface_p_abi_Type__concrete_p_abi_Type__asserted_ : Nat := 139
abbrev Y_runtime_TypeAssertionError : Nat := 140
abbrev Y_a0ip_runtime_PanicNilError : Nat := 141
abbrev Y_struct__0ip_runtime_PanicNilError__ : Nat := 142
abbrev Y_runtime_PanicNilError : Nat := 143
abbrev Y_func__int : Nat := 144
abbrev Y_abi_TFlag : Nat := 145
abbrev Y_abi_Kind : Nat := 146
abbrev Y_func_unsafe_Pointer__unsafe_Pointer__bool : Nat := 147
abbrev Y_p_uint8 : Nat := 148
abbrev Y_abi_NameOff : Nat := 149
abbrev Y_abi_TypeOff : Nat := 150
abbrev Y_struct__Size__uintptr__PtrBytes_uintptr__Hash_uint32i_TFlag_ : Nat := 151
abbrev Y_abi_Type : Nat := 152
abbrev Y_unsafe_Pointer : Nat := 153
theorem u_int64 : T.und Y_int64 = some (.int .i64) := by kernel_rfl
theorem z_int64 : T.siz Y_int64 = some 1 := by kernel_rfl
theorem b_int64 : T.byt Y_int64 = some 8 := by kernel_rfl
theorem zr_int64 : T.zer Y_int64 = some (.int .i64 0) := by kernel_rfl
theorem ag_int64 : T.agg Y_int64 = some false := by kernel_rfl
theorem u_int : T.und Y_int = some (.int .i64) := by kernel_rfl
theorem z_int : T.siz Y_int = some 1 := by kernel_rfl
theorem b_int : T.byt Y_int = some 8 := by kernel_rfl
theorem zr_int : T.zer Y_int = some (.int .i64 0) := by kernel_rfl
theorem ag_int : T.agg Y_int = some false := by kernel_rfl
theorem u_bool : T.und Y_bool = some (.bool) := by kernel_rfl
theorem z_bool : T.siz Y_bool = some 1 := by kernel_rfl
theorem b_bool : T.byt Y_bool = some 1 := by kernel_rfl
theorem zr_bool : T.zer Y_bool = some (.bool false) := by kernel_rfl
theorem ag_bool : T.agg Y_bool = some false := by kernel_rfl
theorem u_uint8 : T.und Y_uint8 = some (.int .u8) := by kernel_rfl
theorem z_uint8 : T.siz Y_uint8 = some 1 := by kernel_rfl
theorem b_uint8 : T.byt Y_uint8 = some 1 := by kernel_rfl
theorem zr_uint8 : T.zer Y_uint8 = some (.int .u8 0) := by kernel_rfl
theorem ag_uint8 : T.agg Y_uint8 = some false := by kernel_rfl
theorem u_abi_BoundsErrorCode : T.und Y_abi_BoundsErrorCode = some (.int .u8) := by kernel_rfl
theorem z_abi_BoundsErrorCode : T.siz Y_abi_BoundsErrorCode = some 1 := by kernel_rfl
theorem b_abi_BoundsErrorCode : T.byt Y_abi_BoundsErrorCode = some 1 := by kernel_rfl
theorem zr_abi_BoundsErrorCode : T.zer Y_abi_BoundsErrorCode = some (.int .u8 0) := by kernel_rfl
theorem ag_abi_BoundsErrorCode : T.agg Y_abi_BoundsErrorCode = some false := by kernel_rfl
theorem z_struct__x_int64i_y_int__signed_bool__code_abi_BoundsErrorCod : T.siz Y_struct__x_int64i_y_int__signed_bool__code_abi_BoundsErrorCod = some 4 := by kernel_rfl
theorem b_struct__x_int64i_y_int__signed_bool__code_abi_BoundsErrorCod : T.byt Y_struct__x_int64i_y_int__signed_bool__code_abi_BoundsErrorCod = some 24 := by kernel_rfl
theorem zr_struct__x_int64i_y_int__signed_bool__code_abi_BoundsErrorCod : T.zer Y_struct__x_int64i_y_int__signed_bool__code_abi_BoundsErrorCod = some (.agg [.int .i64 0, .int .i64 0, .bool false, .int .u8 0]) := by kernel_rfl
theorem ag_struct__x_int64i_y_int__signed_bool__code_abi_BoundsErrorCod : T.agg Y_struct__x_int64i_y_int__signed_bool__code_abi_BoundsErrorCod = some true := by kernel_rfl
theorem eg_struct__x_int64i_y_int__signed_bool__code_abi_BoundsErrorCod : T.eqg Y_struct__x_int64i_y_int__signed_bool__code_abi_BoundsErrorCod = T.eqg Y_struct__x_int64i_y_int__signed_bool__code_abi_BoundsErrorCod := rfl
theorem z_runtime_boundsError : T.siz Y_runtime_boundsError = some 4 := by kernel_rfl
theorem b_runtime_boundsError : T.byt Y_runtime_boundsError = some 24 := by kernel_rfl
theorem zr_runtime_boundsError : T.zer Y_runtime_boundsError = some (.agg [.int .i64 0, .int .i64 0, .bool false, .int .u8 0]) := by kernel_rfl
theorem ag_runtime_boundsError : T.agg Y_runtime_boundsError = some true := by kernel_rfl
theorem eg_runtime_boundsError : T.eqg Y_runtime_boundsError = T.eqg Y_runtime_boundsError := rfl
theorem u_string : T.und Y_string = some (.string) := by kernel_rfl
theorem z_string : T.siz Y_string = some 1 := by kernel_rfl
theorem b_string : T.byt Y_string = some 16 := by kernel_rfl
theorem zr_string : T.zer Y_string = some (.str []) := by kernel_rfl
theorem ag_string : T.agg Y_string = some false := by kernel_rfl
theorem u_runtime_errorString : T.und Y_runtime_errorString = some (.string) := by kernel_rfl
theorem z_runtime_errorString : T.siz Y_runtime_errorString = some 1 := by kernel_rfl
theorem b_runtime_errorString : T.byt Y_runtime_errorString = some 16 := by kernel_rfl
theorem zr_runtime_errorString : T.zer Y_runtime_errorString = some (.str []) := by kernel_rfl
theorem ag_runtime_errorString : T.agg Y_runtime_errorString = some false := by kernel_rfl
theorem u_runtime_plainError : T.und Y_runtime_plainError = some (.string) := by kernel_rfl
theorem z_runtime_plainError : T.siz Y_runtime_plainError = some 1 := by kernel_rfl
theorem b_runtime_plainError : T.byt Y_runtime_plainError = some 16 := by kernel_rfl
theorem zr_runtime_plainError : T.zer Y_runtime_plainError = some (.str []) := by kernel_rfl
theorem ag_runtime_plainError : T.agg Y_runtime_plainError = some false := by kernel_rfl
theorem u_uintptr : T.und Y_uintptr = some (.int .u64) := by kernel_rfl
theorem z_uintptr : T.siz Y_uintptr = some 1 := by kernel_rfl
theorem b_uintptr : T.byt Y_uintptr = some 8 := by kernel_rfl
theorem zr_uintptr : T.zer Y_uintptr = some (.int .u64 0) := by kernel_rfl
theorem ag_uintptr : T.agg Y_uintptr = some false := by kernel_rfl
theorem z_struct__msg_string__addr_uintptr__ : T.siz Y_struct__msg_string__addr_uintptr__ = some 2 := by kernel_rfl
theorem b_struct__msg_string__addr_uintptr__ : T.byt Y_struct__msg_string__addr_uintptr__ = some 24 := by kernel_rfl
theorem zr_struct__msg_string__addr_uintptr__ : T.zer Y_struct__msg_string__addr_uintptr__ = some (.agg [.str [], .int .u64 0]) := by kernel_rfl
theorem ag_struct__msg_string__addr_uintptr__ : T.agg Y_struct__msg_string__addr_uintptr__ = some true := by kernel_rfl
theorem eg_struct__msg_string__addr_uintptr__ : T.eqg Y_struct__msg_string__addr_uintptr__ = T.eqg Y_struct__msg_string__addr_uintptr__ := rfl
theorem z_runtime_errorAddressString : T.siz Y_runtime_errorAddressString = some 2 := by kernel_rfl
theorem b_runtime_errorAddressString : T.byt Y_runtime_errorAddressString = some 24 := by kernel_rfl
theorem zr_runtime_errorAddressString : T.zer Y_runtime_errorAddressString = some (.agg [.str [], .int .u64 0]) := by kernel_rfl
theorem ag_runtime_errorAddressString : T.agg Y_runtime_errorAddressString = some true := by kernel_rfl
theorem eg_runtime_errorAddressString : T.eqg Y_runtime_errorAddressString = T.eqg Y_runtime_errorAddressString := rfl
theorem u_p_runtime_TypeAssertionError : T.und Y_p_runtime_TypeAssertionError = some (.pointer Y_runtime_TypeAssertionError) := by kernel_rfl
theorem z_p_runtime_TypeAssertionError : T.siz Y_p_runtime_TypeAssertionError = some 1 := by kernel_rfl
theorem b_p_runtime_TypeAssertionError : T.byt Y_p_runtime_TypeAssertionError = some 8 := by kernel_rfl
theorem zr_p_runtime_TypeAssertionError : T.zer Y_p_runtime_TypeAssertionError = some (.ptr none) := by kernel_rfl
theorem ag_p_runtime_TypeAssertionError : T.agg Y_p_runtime_TypeAssertionError = some false := by kernel_rfl
theorem u_p_runtime_PanicNilError : T.und Y_p_runtime_PanicNilError = some (.pointer Y_runtime_PanicNilError) := by kernel_rfl
theorem z_p_runtime_PanicNilError : T.siz Y_p_runtime_PanicNilError = some 1 := by kernel_rfl
theorem b_p_runtime_PanicNilError : T.byt Y_p_runtime_PanicNilError = some 8 := by kernel_rfl
theorem zr_p_runtime_PanicNilError : T.zer Y_p_runtime_PanicNilError = some (.ptr none) := by kernel_rfl
theorem ag_p_runtime_PanicNilError : T.agg Y_p_runtime_PanicNilError = some false := by kernel_rfl
theorem u_p_abi_Type : T.und Y_p_abi_Type = some (.pointer Y_abi_Type) := by kernel_rfl
theorem z_p_abi_Type : T.siz Y_p_abi_Type = some 1 := by kernel_rfl
theorem b_p_abi_Type : T.byt Y_p_abi_Type = some 8 := by kernel_rfl
theorem zr_p_abi_Type : T.zer Y_p_abi_Type = some (.ptr none) := by kernel_rfl
theorem ag_p_abi_Type : T.agg Y_p_abi_Type = some false := by kernel_rfl
theorem z_struct__typ_p_abi_Type__ : T.siz Y_struct__typ_p_abi_Type__ = some 1 := by kernel_rfl
theorem b_struct__typ_p_abi_Type__ : T.byt Y_struct__typ_p_abi_Type__ = some 8 := by kernel_rfl
theorem zr_struct__typ_p_abi_Type__ : T.zer Y_struct__typ_p_abi_Type__ = some (.agg [.ptr none]) := by kernel_rfl
theorem ag_struct__typ_p_abi_Type__ : T.agg Y_struct__typ_p_abi_Type__ = some true := by kernel_rfl
theorem eg_struct__typ_p_abi_Type__ : T.eqg Y_struct__typ_p_abi_Type__ = T.eqg Y_struct__typ_p_abi_Type__ := rfl
theorem z_maps_unhashableTypeError : T.siz Y_maps_unhashableTypeError = some 1 := by kernel_rfl
theorem b_maps_unhashableTypeError : T.byt Y_maps_unhashableTypeError = some 8 := by kernel_rfl
theorem zr_maps_unhashableTypeError : T.zer Y_maps_unhashableTypeError = some (.agg [.ptr none]) := by kernel_rfl
theorem ag_maps_unhashableTypeError : T.agg Y_maps_unhashableTypeError = some true := by kernel_rfl
theorem eg_maps_unhashableTypeError : T.eqg Y_maps_unhashableTypeError = T.eqg Y_maps_unhashableTypeError := rfl
theorem u_int32 : T.und Y_int32 = some (.int .i32) := by kernel_rfl
theorem z_int32 : T.siz Y_int32 = some 1 := by kernel_rfl
theorem b_int32 : T.byt Y_int32 = some 4 := by kernel_rfl
theorem zr_int32 : T.zer Y_int32 = some (.int .i32 0) := by kernel_rfl
theorem ag_int32 : T.agg Y_int32 = some false := by kernel_rfl
theorem u_s_Dot : T.und Y_s_Dot = some (.slice Y_Dot) := by kernel_rfl
theorem z_s_Dot : T.siz Y_s_Dot = some 1 := by kernel_rfl
theorem b_s_Dot : T.byt Y_s_Dot = some 24 := by kernel_rfl
theorem zr_s_Dot : T.zer Y_s_Dot = some (.slc none 0 0 true) := by kernel_rfl
theorem ag_s_Dot : T.agg Y_s_Dot = some false := by kernel_rfl
theorem u_p_ctx_Ctx : T.und Y_p_ctx_Ctx = some (.pointer Y_ctx_Ctx) := by kernel_rfl
theorem z_p_ctx_Ctx : T.siz Y_p_ctx_Ctx = some 1 := by kernel_rfl
theorem b_p_ctx_Ctx : T.byt Y_p_ctx_Ctx = some 8 := by kernel_rfl
theorem zr_p_ctx_Ctx : T.zer Y_p_ctx_Ctx = some (.ptr none) := by kernel_rfl
theorem ag_p_ctx_Ctx : T.agg Y_p_ctx_Ctx = some false := by kernel_rfl
theorem u_p_minsterref04iSet : T.und Y_p_minsterref04iSet = some (.pointer Y_minsterref04iSet) := by kernel_rfl
theorem z_p_minsterref04iSet : T.siz Y_p_minsterref04iSet = some 1 := by kernel_rfl
theorem b_p_minsterref04iSet : T.byt Y_p_minsterref04iSet = some 8 := by kernel_rfl
theorem zr_p_minsterref04iSet : T.zer Y_p_minsterref04iSet = some (.ptr none) := by kernel_rfl
theorem ag_p_minsterref04iSet : T.agg Y_p_minsterref04iSet = some false := by kernel_rfl
theorem u_uint64 : T.und Y_uint64 = some (.int .u64) := by kernel_rfl
theorem z_uint64 : T.siz Y_uint64 = some 1 := by kernel_rfl
theorem b_uint64 : T.byt Y_uint64 = some 8 := by kernel_rfl
theorem zr_uint64 : T.zer Y_uint64 = some (.int .u64 0) := by kernel_rfl
theorem ag_uint64 : T.agg Y_uint64 = some false := by kernel_rfl
theorem u_a16iuint64 : T.und Y_a16iuint64 = some (.array 16 Y_uint64) := by kernel_rfl
theorem z_a16iuint64 : T.siz Y_a16iuint64 = some 16 := by kernel_rfl
theorem b_a16iuint64 : T.byt Y_a16iuint64 = some 128 := by kernel_rfl
theorem zr_a16iuint64 : T.zer Y_a16iuint64 = some (.agg [.int .u64 0, .int .u64 0, .int .u64 0, .int .u64 0, .int .u64 0, .int .u64 0, .int .u64 0, .int .u64 0, .int .u64 0, .int .u64 0, .int .u64 0, .int .u64 0, .int .u64 0, .int .u64 0, .int .u64 0, .int .u64 0]) := by kernel_rfl
theorem ag_a16iuint64 : T.agg Y_a16iuint64 = some true := by kernel_rfl
theorem eg_a16iuint64 : T.eqg Y_a16iuint64 = T.eqg Y_a16iuint64 := rfl
theorem z_struct__V__16iuint64i_Extra__Dot__ : T.siz Y_struct__V__16iuint64i_Extra__Dot__ = some 17 := by kernel_rfl
theorem b_struct__V__16iuint64i_Extra__Dot__ : T.byt Y_struct__V__16iuint64i_Extra__Dot__ = some 152 := by kernel_rfl
theorem zr_struct__V__16iuint64i_Extra__Dot__ : T.zer Y_struct__V__16iuint64i_Extra__Dot__ = some (.agg [.int .u64 0, .int .u64 0, .int .u64 0, .int .u64 0, .int .u64 0, .int .u64 0, .int .u64 0, .int .u64 0, .int .u64 0, .int .u64 0, .int .u64 0, .int .u64 0, .int .u64 0, .int .u64 0, .int .u64 0, .int .u64 0, .slc none 0 0 true]) := by kernel_rfl
theorem ag_struct__V__16iuint64i_Extra__Dot__ : T.agg Y_struct__V__16iuint64i_Extra__Dot__ = some true := by kernel_rfl
theorem eg_struct__V__16iuint64i_Extra__Dot__ : T.eqg Y_struct__V__16iuint64i_Extra__Dot__ = T.eqg Y_struct__V__16iuint64i_Extra__Dot__ := rfl
theorem z_minsterref04iSet : T.siz Y_minsterref04iSet = some 17 := by kernel_rfl
theorem b_minsterref04iSet : T.byt Y_minsterref04iSet = some 152 := by kernel_rfl
theorem zr_minsterref04iSet : T.zer Y_minsterref04iSet = some (.agg [.int .u64 0, .int .u64 0, .int .u64 0, .int .u64 0, .int .u64 0, .int .u64 0, .int .u64 0, .int .u64 0, .int .u64 0, .int .u64 0, .int .u64 0, .int .u64 0, .int .u64 0, .int .u64 0, .int .u64 0, .int .u64 0, .slc none 0 0 true]) := by kernel_rfl
theorem ag_minsterref04iSet : T.agg Y_minsterref04iSet = some true := by kernel_rfl
theorem eg_minsterref04iSet : T.eqg Y_minsterref04iSet = T.eqg Y_minsterref04iSet := rfl
theorem u_Errno : T.und Y_Errno = some (.int .i64) := by kernel_rfl
theorem z_Errno : T.siz Y_Errno = some 1 := by kernel_rfl
theorem b_Errno : T.byt Y_Errno = some 8 := by kernel_rfl
theorem zr_Errno : T.zer Y_Errno = some (.int .i64 0) := by kernel_rfl
theorem ag_Errno : T.agg Y_Errno = some false := by kernel_rfl
theorem z_struct__Region_int__Count_uint64i_ : T.siz Y_struct__Region_int__Count_uint64i_ = some 2 := by kernel_rfl
theorem b_struct__Region_int__Count_uint64i_ : T.byt Y_struct__Region_int__Count_uint64i_ = some 16 := by kernel_rfl
theorem zr_struct__Region_int__Count_uint64i_ : T.zer Y_struct__Region_int__Count_uint64i_ = some (.agg [.int .i64 0, .int .u64 0]) := by kernel_rfl
theorem ag_struct__Region_int__Count_uint64i_ : T.agg Y_struct__Region_int__Count_uint64i_ = some true := by kernel_rfl
theorem eg_struct__Region_int__Count_uint64i_ : T.eqg Y_struct__Region_int__Count_uint64i_ = T.eqg Y_struct__Region_int__Count_uint64i_ := rfl
theorem z_Dot : T.siz Y_Dot = some 2 := by kernel_rfl
theorem b_Dot : T.byt Y_Dot = some 16 := by kernel_rfl
theorem zr_Dot : T.zer Y_Dot = some (.agg [.int .i64 0, .int .u64 0]) := by kernel_rfl
theorem ag_Dot : T.agg Y_Dot = some true := by kernel_rfl
theorem eg_Dot : T.eqg Y_Dot = T.eqg Y_Dot := rfl
theorem u_Vector : T.und Y_Vector = some (.array 16 Y_uint64) := by kernel_rfl
theorem z_Vector : T.siz Y_Vector = some 16 := by kernel_rfl
theorem b_Vector : T.byt Y_Vector = some 128 := by kernel_rfl
theorem zr_Vector : T.zer Y_Vector = some (.agg [.int .u64 0, .int .u64 0, .int .u64 0, .int .u64 0, .int .u64 0, .int .u64 0, .int .u64 0, .int .u64 0, .int .u64 0, .int .u64 0, .int .u64 0, .int .u64 0, .int .u64 0, .int .u64 0, .int .u64 0, .int .u64 0]) := by kernel_rfl
theorem ag_Vector : T.agg Y_Vector = some true := by kernel_rfl
theorem eg_Vector : T.eqg Y_Vector = T.eqg Y_Vector := rfl
theorem z_struct__v_Vector__extra__Dot__made_bool__ : T.siz Y_struct__v_Vector__extra__Dot__made_bool__ = some 18 := by kernel_rfl
theorem b_struct__v_Vector__extra__Dot__made_bool__ : T.byt Y_struct__v_Vector__extra__Dot__made_bool__ = some 160 := by kernel_rfl
theorem zr_struct__v_Vector__extra__Dot__made_bool__ : T.zer Y_struct__v_Vector__extra__Dot__made_bool__ = some (.agg [.int .u64 0, .int .u64 0, .int .u64 0, .int .u64 0, .int .u64 0, .int .u64 0, .int .u64 0, .int .u64 0, .int .u64 0, .int .u64 0, .int .u64 0, .int .u64 0, .int .u64 0, .int .u64 0, .int .u64 0, .int .u64 0, .slc none 0 0 true, .bool false]) := by kernel_rfl
theorem ag_struct__v_Vector__extra__Dot__made_bool__ : T.agg Y_struct__v_Vector__extra__Dot__made_bool__ = some true := by kernel_rfl
theorem eg_struct__v_Vector__extra__Dot__made_bool__ : T.eqg Y_struct__v_Vector__extra__Dot__made_bool__ = T.eqg Y_struct__v_Vector__extra__Dot__made_bool__ := rfl
theorem z_ctx_Ctx : T.siz Y_ctx_Ctx = some 18 := by kernel_rfl
theorem b_ctx_Ctx : T.byt Y_ctx_Ctx = some 160 := by kernel_rfl
theorem zr_ctx_Ctx : T.zer Y_ctx_Ctx = some (.agg [.int .u64 0, .int .u64 0, .int .u64 0, .int .u64 0, .int .u64 0, .int .u64 0, .int .u64 0, .int .u64 0, .int .u64 0, .int .u64 0, .int .u64 0, .int .u64 0, .int .u64 0, .int .u64 0, .int .u64 0, .int .u64 0, .slc none 0 0 true, .bool false]) := by kernel_rfl
theorem ag_ctx_Ctx : T.agg Y_ctx_Ctx = some true := by kernel_rfl
theorem eg_ctx_Ctx : T.eqg Y_ctx_Ctx = T.eqg Y_ctx_Ctx := rfl
theorem u_s_p_ctx_Ctx : T.und Y_s_p_ctx_Ctx = some (.slice Y_p_ctx_Ctx) := by kernel_rfl
theorem z_s_p_ctx_Ctx : T.siz Y_s_p_ctx_Ctx = some 1 := by kernel_rfl
theorem b_s_p_ctx_Ctx : T.byt Y_s_p_ctx_Ctx = some 24 := by kernel_rfl
theorem zr_s_p_ctx_Ctx : T.zer Y_s_p_ctx_Ctx = some (.slc none 0 0 true) := by kernel_rfl
theorem ag_s_p_ctx_Ctx : T.agg Y_s_p_ctx_Ctx = some false := by kernel_rfl
theorem u_s_int : T.und Y_s_int = some (.slice Y_int) := by kernel_rfl
theorem z_s_int : T.siz Y_s_int = some 1 := by kernel_rfl
theorem b_s_int : T.byt Y_s_int = some 24 := by kernel_rfl
theorem zr_s_int : T.zer Y_s_int = some (.slc none 0 0 true) := by kernel_rfl
theorem ag_s_int : T.agg Y_s_int = some false := by kernel_rfl
theorem u_p_stable_Matrix : T.und Y_p_stable_Matrix = some (.pointer Y_stable_Matrix) := by kernel_rfl
theorem z_p_stable_Matrix : T.siz Y_p_stable_Matrix = some 1 := by kernel_rfl
theorem b_p_stable_Matrix : T.byt Y_p_stable_Matrix = some 8 := by kernel_rfl
theorem zr_p_stable_Matrix : T.zer Y_p_stable_Matrix = some (.ptr none) := by kernel_rfl
theorem ag_p_stable_Matrix : T.agg Y_p_stable_Matrix = some false := by kernel_rfl
theorem u_m_int_int : T.und Y_m_int_int = some (.map Y_int Y_int) := by kernel_rfl
theorem z_m_int_int : T.siz Y_m_int_int = some 1 := by kernel_rfl
theorem b_m_int_int : T.byt Y_m_int_int = some 8 := by kernel_rfl
theorem zr_m_int_int : T.zer Y_m_int_int = some (.map none) := by kernel_rfl
theorem ag_m_int_int : T.agg Y_m_int_int = some false := by kernel_rfl
theorem u_s_minsterlaw14iAct : T.und Y_s_minsterlaw14iAct = some (.slice Y_minsterlaw14iAct) := by kernel_rfl
theorem z_s_minsterlaw14iAct : T.siz Y_s_minsterlaw14iAct = some 1 := by kernel_rfl
theorem b_s_minsterlaw14iAct : T.byt Y_s_minsterlaw14iAct = some 24 := by kernel_rfl
theorem zr_s_minsterlaw14iAct : T.zer Y_s_minsterlaw14iAct = some (.slc none 0 0 true) := by kernel_rfl
theorem ag_s_minsterlaw14iAct : T.agg Y_s_minsterlaw14iAct = some false := by kernel_rfl
theorem u_a17iVector : T.und Y_a17iVector = some (.array 17 Y_Vector) := by kernel_rfl
theorem z_a17iVector : T.siz Y_a17iVector = some 272 := by kernel_rfl
theorem b_a17iVector : T.byt Y_a17iVector = some 2176 := by kernel_rfl
theorem zr_a17iVector : T.zer Y_a17iVector = some (.agg [.int .u64 0, .int .u64 0, .int .u64 0, .int .u64 0, .int .u64 0, .int .u64 0, .int .u64 0, .int .u64 0, .int .u64 0, .int .u64 0, .int .u64 0, .int .u64 0, .int .u64 0, .int .u64 0, .int .u64 0, .int .u64 0, .int .u64 0, .int .u64 0, .int .u64 0, .int .u64 0, .int .u64 0, .int .u64 0, .int .u64 0, .int .u64 0, .int .u64 0, .int .u64 0, .int .u64 0, .int .u64 0, .int .u64 0, .int .u64 0, .int .u64 0, .int .u64 0, .int .u64 0, .int .u64 0, .int .u64 0, .int .u64 0, .int .u64 0, .int .u64 0, .int .u64 0, .int .u64 0, .int .u64 0, .int .u64 0, .int .u64 0, .int .u64 0, .int .u64 0, .int .u64 0, .int .u64 0, .int .u64 0, .int .u64 0, .int .u64 0, .int .u64 0, .int .u64 0, .int .u64 0, .int .u64 0, .int .u64 0, .int .u64 0, .int .u64 0, .int .u64 0, .int .u64 0, .int .u64 0, .int .u64 0, .int .u64 0, .int .u64 0, .int .u64 0, .int .u64 0, .int .u64 0, .int .u64 0, .int .u64 0, .int .u64 0, .int .u64 0, .int .u64 0, .int .u64 0, .int .u64 0, .int .u64 0, .int .u64 0, .int .u64 0, .int .u64 0, .int .u64 0, .int .u64 0, .int .u64 0, .int .u64 0, .int .u64 0, .int .u64 0, .int .u64 0, .int .u64 0, .int .u64 0, .int .u64 0, .int .u64 0, .int .u64 0, .int .u64 0, .int .u64 0, .int .u64 0, .int .u64 0, .int .u64 0, .int .u64 0, .int .u64 0, .int .u64 0, .int .u64 0, .int .u64 0, .int .u64 0, .int .u64 0, .int .u64 0, .int .u64 0, .int .u64 0, .int .u64 0, .int .u64 0, .int .u64 0, .int .u64 0, .int .u64 0, .int .u64 0, .int .u64 0, .int .u64 0, .int .u64 0, .int .u64 0, .int .u64 0, .int .u64 0, .int .u64 0, .int .u64 0, .int .u64 0, .int .u64 0, .int .u64 0, .int .u64 0, .int .u64 0, .int .u64 0, .int .u64 0, .int .u64 0, .int .u64 0, .int .u64 0, .int .u64 0, .int .u64 0, .int .u64 0, .int .u64 0, .int .u64 0, .int .u64 0, .int .u64 0, .int .u64 0, .int .u64 0, .int .u64 0, .int .u64 0, .int .u64 0, .int .u64 0, .int .u64 0, .int .u64 0, .int .u64 0, .int .u64 0, .int .u64 0, .int .u64 0, .int .u64 0, .int .u64 0, .int .u64 0, .int .u64 0, .int .u64 0, .int .u64 0, .int .u64 0, .int .u64 0, .int .u64 0, .int .u64 0, .int .u64 0, .int .u64 0, .int .u64 0, .int .u64 0, .int .u64 0, .int .u64 0, .int .u64 0, .int .u64 0, .int .u64 0, .int .u64 0, .int .u64 0, .int .u64 0, .int .u64 0, .int .u64 0, .int .u64 0, .int .u64 0, .int .u64 0, .int .u64 0, .int .u64 0, .int .u64 0, .int .u64 0, .int .u64 0, .int .u64 0, .int .u64 0, .int .u64 0, .int .u64 0, .int .u64 0, .int .u64 0, .int .u64 0, .int .u64 0, .int .u64 0, .int .u64 0, .int .u64 0, .int .u64 0, .int .u64 0, .int .u64 0, .int .u64 0, .int .u64 0, .int .u64 0, .int .u64 0, .int .u64 0, .int .u64 0, .int .u64 0, .int .u64 0, .int .u64 0, .int .u64 0, .int .u64 0, .int .u64 0, .int .u64 0, .int .u64 0, .int .u64 0, .int .u64 0, .int .u64 0, .int .u64 0, .int .u64 0, .int .u64 0, .int .u64 0, .int .u64 0, .int .u64 0, .int .u64 0, .int .u64 0, .int .u64 0, .int .u64 0, .int .u64 0, .int .u64 0, .int .u64 0, .int .u64 0, .int .u64 0, .int .u64 0, .int .u64 0, .int .u64 0, .int .u64 0, .int .u64 0, .int .u64 0, .int .u64 0, .int .u64 0, .int .u64 0, .int .u64 0, .int .u64 0, .int .u64 0, .int .u64 0, .int .u64 0, .int .u64 0, .int .u64 0, .int .u64 0, .int .u64 0, .int .u64 0, .int .u64 0, .int .u64 0, .int .u64 0, .int .u64 0, .int .u64 0, .int .u64 0, .int .u64 0, .int .u64 0, .int .u64 0, .int .u64 0, .int .u64 0, .int .u64 0, .int .u64 0, .int .u64 0, .int .u64 0, .int .u64 0, .int .u64 0, .int .u64 0, .int .u64 0, .int .u64 0, .int .u64 0, .int .u64 0, .int .u64 0, .int .u64 0, .int .u64 0, .int .u64 0, .int .u64 0, .int .u64 0]) := by kernel_rfl
theorem ag_a17iVector : T.agg Y_a17iVector = some true := by kernel_rfl
theorem eg_a17iVector : T.eqg Y_a17iVector = T.eqg Y_a17iVector := rfl
theorem z_struct__Kind_int__Region_int__Dots__Dot__Live__Dot__V_Vector : T.siz Y_struct__Kind_int__Region_int__Dots__Dot__Live__Dot__V_Vector = some 20 := by kernel_rfl
theorem b_struct__Kind_int__Region_int__Dots__Dot__Live__Dot__V_Vector : T.byt Y_struct__Kind_int__Region_int__Dots__Dot__Live__Dot__V_Vector = some 192 := by kernel_rfl
theorem zr_struct__Kind_int__Region_int__Dots__Dot__Live__Dot__V_Vector : T.zer Y_struct__Kind_int__Region_int__Dots__Dot__Live__Dot__V_Vector = some (.agg [.int .i64 0, .int .i64 0, .slc none 0 0 true, .slc none 0 0 true, .int .u64 0, .int .u64 0, .int .u64 0, .int .u64 0, .int .u64 0, .int .u64 0, .int .u64 0, .int .u64 0, .int .u64 0, .int .u64 0, .int .u64 0, .int .u64 0, .int .u64 0, .int .u64 0, .int .u64 0, .int .u64 0]) := by kernel_rfl
theorem ag_struct__Kind_int__Region_int__Dots__Dot__Live__Dot__V_Vector : T.agg Y_struct__Kind_int__Region_int__Dots__Dot__Live__Dot__V_Vector = some true := by kernel_rfl
theorem eg_struct__Kind_int__Region_int__Dots__Dot__Live__Dot__V_Vector : T.eqg Y_struct__Kind_int__Region_int__Dots__Dot__Live__Dot__V_Vector = T.eqg Y_struct__Kind_int__Region_int__Dots__Dot__Live__Dot__V_Vector := rfl
theorem z_minsterlaw14iAct : T.siz Y_minsterlaw14iAct = some 20 := by kernel_rfl
theorem b_minsterlaw14iAct : T.byt Y_minsterlaw14iAct = some 192 := by kernel_rfl
theorem zr_minsterlaw14iAct : T.zer Y_minsterlaw14iAct = some (.agg [.int .i64 0, .int .i64 0, .slc none 0 0 true, .slc none 0 0 true, .int .u64 0, .int .u64 0, .int .u64 0, .int .u64 0, .int .u64 0, .int .u64 0, .int .u64 0, .int .u64 0, .int .u64 0, .int .u64 0, .int .u64 0, .int .u64 0, .int .u64 0, .int .u64 0, .int .u64 0, .int .u64 0]) := by kernel_rfl
theorem ag_minsterlaw14iAct : T.agg Y_minsterlaw14iAct = some true := by kernel_rfl
theorem eg_minsterlaw14iAct : T.eqg Y_minsterlaw14iAct = T.eqg Y_minsterlaw14iAct := rfl
theorem u_m_int_p_stable_view : T.und Y_m_int_p_stable_view = some (.map Y_int Y_p_stable_view) := by kernel_rfl
theorem z_m_int_p_stable_view : T.siz Y_m_int_p_stable_view = some 1 := by kernel_rfl
theorem b_m_int_p_stable_view : T.byt Y_m_int_p_stable_view = some 8 := by kernel_rfl
theorem zr_m_int_p_stable_view : T.zer Y_m_int_p_stable_view = some (.map none) := by kernel_rfl
theorem ag_m_int_p_stable_view : T.agg Y_m_int_p_stable_view = some false := by kernel_rfl
theorem u_a16iVector : T.und Y_a16iVector = some (.array 16 Y_Vector) := by kernel_rfl
theorem z_a16iVector : T.siz Y_a16iVector = some 256 := by kernel_rfl
theorem b_a16iVector : T.byt Y_a16iVector = some 2048 := by kernel_rfl
theorem zr_a16iVector : T.zer Y_a16iVector = some (.agg [.int .u64 0, .int .u64 0, .int .u64 0, .int .u64 0, .int .u64 0, .int .u64 0, .int .u64 0, .int .u64 0, .int .u64 0, .int .u64 0, .int .u64 0, .int .u64 0, .int .u64 0, .int .u64 0, .int .u64 0, .int .u64 0, .int .u64 0, .int .u64 0, .int .u64 0, .int .u64 0, .int .u64 0, .int .u64 0, .int .u64 0, .int .u64 0, .int .u64 0, .int .u64 0, .int .u64 0, .int .u64 0, .int .u64 0, .int .u64 0, .int .u64 0, .int .u64 0, .int .u64 0, .int .u64 0, .int .u64 0, .int .u64 0, .int .u64 0, .int .u64 0, .int .u64 0, .int .u64 0, .int .u64 0, .int .u64 0, .int .u64 0, .int .u64 0, .int .u64 0, .int .u64 0, .int .u64 0, .int .u64 0, .int .u64 0, .int .u64 0, .int .u64 0, .int .u64 0, .int .u64 0, .int .u64 0, .int .u64 0, .int .u64 0, .int .u64 0, .int .u64 0, .int .u64 0, .int .u64 0, .int .u64 0, .int .u64 0, .int .u64 0, .int .u64 0, .int .u64 0, .int .u64 0, .int .u64 0, .int .u64 0, .int .u64 0, .int .u64 0, .int .u64 0, .int .u64 0, .int .u64 0, .int .u64 0, .int .u64 0, .int .u64 0, .int .u64 0, .int .u64 0, .int .u64 0, .int .u64 0, .int .u64 0, .int .u64 0, .int .u64 0, .int .u64 0, .int .u64 0, .int .u64 0, .int .u64 0, .int .u64 0, .int .u64 0, .int .u64 0, .int .u64 0, .int .u64 0, .int .u64 0, .int .u64 0, .int .u64 0, .int .u64 0, .int .u64 0, .int .u64 0, .int .u64 0, .int .u64 0, .int .u64 0, .int .u64 0, .int .u64 0, .int .u64 0, .int .u64 0, .int .u64 0, .int .u64 0, .int .u64 0, .int .u64 0, .int .u64 0, .int .u64 0, .int .u64 0, .int .u64 0, .int .u64 0, .int .u64 0, .int .u64 0, .int .u64 0, .int .u64 0, .int .u64 0, .int .u64 0, .int .u64 0, .int .u64 0, .int .u64 0, .int .u64 0, .int .u64 0, .int .u64 0, .int .u64 0, .int .u64 0, .int .u64 0, .int .u64 0, .int .u64 0, .int .u64 0, .int .u64 0, .int .u64 0, .int .u64 0, .int .u64 0, .int .u64 0, .int .u64 0, .int .u64 0, .int .u64 0, .int .u64 0, .int .u64 0, .int .u64 0, .int .u64 0, .int .u64 0, .int .u64 0, .int .u64 0, .int .u64 0, .int .u64 0, .int .u64 0, .int .u64 0, .int .u64 0, .int .u64 0, .int .u64 0, .int .u64 0, .int .u64 0, .int .u64 0, .int .u64 0, .int .u64 0, .int .u64 0, .int .u64 0, .int .u64 0, .int .u64 0, .int .u64 0, .int .u64 0, .int .u64 0, .int .u64 0, .int .u64 0, .int .u64 0, .int .u64 0, .int .u64 0, .int .u64 0, .int .u64 0, .int .u64 0, .int .u64 0, .int .u64 0, .int .u64 0, .int .u64 0, .int .u64 0, .int .u64 0, .int .u64 0, .int .u64 0, .int .u64 0, .int .u64 0, .int .u64 0, .int .u64 0, .int .u64 0, .int .u64 0, .int .u64 0, .int .u64 0, .int .u64 0, .int .u64 0, .int .u64 0, .int .u64 0, .int .u64 0, .int .u64 0, .int .u64 0, .int .u64 0, .int .u64 0, .int .u64 0, .int .u64 0, .int .u64 0, .int .u64 0, .int .u64 0, .int .u64 0, .int .u64 0, .int .u64 0, .int .u64 0, .int .u64 0, .int .u64 0, .int .u64 0, .int .u64 0, .int .u64 0, .int .u64 0, .int .u64 0, .int .u64 0, .int .u64 0, .int .u64 0, .int .u64 0, .int .u64 0, .int .u64 0, .int .u64 0, .int .u64 0, .int .u64 0, .int .u64 0, .int .u64 0, .int .u64 0, .int .u64 0, .int .u64 0, .int .u64 0, .int .u64 0, .int .u64 0, .int .u64 0, .int .u64 0, .int .u64 0, .int .u64 0, .int .u64 0, .int .u64 0, .int .u64 0, .int .u64 0, .int .u64 0, .int .u64 0, .int .u64 0, .int .u64 0, .int .u64 0, .int .u64 0, .int .u64 0, .int .u64 0, .int .u64 0, .int .u64 0, .int .u64 0, .int .u64 0, .int .u64 0, .int .u64 0, .int .u64 0, .int .u64 0]) := by kernel_rfl
theorem ag_a16iVector : T.agg Y_a16iVector = some true := by kernel_rfl
theorem eg_a16iVector : T.eqg Y_a16iVector = T.eqg Y_a16iVector := rfl
theorem z_struct__regions_int__own_int__told_m_int_p_stable_view__has_ : T.siz Y_struct__regions_int__own_int__told_m_int_p_stable_view__has_ = some 259 := by kernel_rfl
theorem b_struct__regions_int__own_int__told_m_int_p_stable_view__has_ : T.byt Y_struct__regions_int__own_int__told_m_int_p_stable_view__has_ = some 2072 := by kernel_rfl
theorem zr_struct__regions_int__own_int__told_m_int_p_stable_view__has_ : T.zer Y_struct__regions_int__own_int__told_m_int_p_stable_view__has_ = some (.agg [.int .i64 0, .int .i64 0, .map none, .int .u64 0, .int .u64 0, .int .u64 0, .int .u64 0, .int .u64 0, .int .u64 0, .int .u64 0, .int .u64 0, .int .u64 0, .int .u64 0, .int .u64 0, .int .u64 0, .int .u64 0, .int .u64 0, .int .u64 0, .int .u64 0, .int .u64 0, .int .u64 0, .int .u64 0, .int .u64 0, .int .u64 0, .int .u64 0, .int .u64 0, .int .u64 0, .int .u64 0, .int .u64 0, .int .u64 0, .int .u64 0, .int .u64 0, .int .u64 0, .int .u64 0, .int .u64 0, .int .u64 0, .int .u64 0, .int .u64 0, .int .u64 0, .int .u64 0, .int .u64 0, .int .u64 0, .int .u64 0, .int .u64 0, .int .u64 0, .int .u64 0, .int .u64 0, .int .u64 0, .int .u64 0, .int .u64 0, .int .u64 0, .int .u64 0, .int .u64 0, .int .u64 0, .int .u64 0, .int .u64 0, .int .u64 0, .int .u64 0, .int .u64 0, .int .u64 0, .int .u64 0, .int .u64 0, .int .u64 0, .int .u64 0, .int .u64 0, .int .u64 0, .int .u64 0, .int .u64 0, .int .u64 0, .int .u64 0, .int .u64 0, .int .u64 0, .int .u64 0, .int .u64 0, .int .u64 0, .int .u64 0, .int .u64 0, .int .u64 0, .int .u64 0, .int .u64 0, .int .u64 0, .int .u64 0, .int .u64 0, .int .u64 0, .int .u64 0, .int .u64 0, .int .u64 0, .int .u64 0, .int .u64 0, .int .u64 0, .int .u64 0, .int .u64 0, .int .u64 0, .int .u64 0, .int .u64 0, .int .u64 0, .int .u64 0, .int .u64 0, .int .u64 0, .int .u64 0, .int .u64 0, .int .u64 0, .int .u64 0, .int .u64 0, .int .u64 0, .int .u64 0, .int .u64 0, .int .u64 0, .int .u64 0, .int .u64 0, .int .u64 0, .int .u64 0, .int .u64 0, .int .u64 0, .int .u64 0, .int .u64 0, .int .u64 0, .int .u64 0, .int .u64 0, .int .u64 0, .int .u64 0, .int .u64 0, .int .u64 0, .int .u64 0, .int .u64 0, .int .u64 0, .int .u64 0, .int .u64 0, .int .u64 0, .int .u64 0, .int .u64 0, .int .u64 0, .int .u64 0, .int .u64 0, .int .u64 0, .int .u64 0, .int .u64 0, .int .u64 0, .int .u64 0, .int .u64 0, .int .u64 0, .int .u64 0, .int .u64 0, .int .u64 0, .int .u64 0, .int .u64 0, .int .u64 0, .int .u64 0, .int .u64 0, .int .u64 0, .int .u64 0, .int .u64 0, .int .u64 0, .int .u64 0, .int .u64 0, .int .u64 0, .int .u64 0, .int .u64 0, .int .u64 0, .int .u64 0, .int .u64 0, .int .u64 0, .int .u64 0, .int .u64 0, .int .u64 0, .int .u64 0, .int .u64 0, .int .u64 0, .int .u64 0, .int .u64 0, .int .u64 0, .int .u64 0, .int .u64 0, .int .u64 0, .int .u64 0, .int .u64 0, .int .u64 0, .int .u64 0, .int .u64 0, .int .u64 0, .int .u64 0, .int .u64 0, .int .u64 0, .int .u64 0, .int .u64 0, .int .u64 0, .int .u64 0, .int .u64 0, .int .u64 0, .int .u64 0, .int .u64 0, .int .u64 0, .int .u64 0, .int .u64 0, .int .u64 0, .int .u64 0, .int .u64 0, .int .u64 0, .int .u64 0, .int .u64 0, .int .u64 0, .int .u64 0, .int .u64 0, .int .u64 0, .int .u64 0, .int .u64 0, .int .u64 0, .int .u64 0, .int .u64 0, .int .u64 0, .int .u64 0, .int .u64 0, .int .u64 0, .int .u64 0, .int .u64 0, .int .u64 0, .int .u64 0, .int .u64 0, .int .u64 0, .int .u64 0, .int .u64 0, .int .u64 0, .int .u64 0, .int .u64 0, .int .u64 0, .int .u64 0, .int .u64 0, .int .u64 0, .int .u64 0, .int .u64 0, .int .u64 0, .int .u64 0, .int .u64 0, .int .u64 0, .int .u64 0, .int .u64 0, .int .u64 0, .int .u64 0, .int .u64 0, .int .u64 0, .int .u64 0, .int .u64 0, .int .u64 0, .int .u64 0, .int .u64 0, .int .u64 0, .int .u64 0, .int .u64 0, .int .u64 0, .int .u64 0, .int .u64 0, .int .u64 0, .int .u64 0, .int .u64 0, .int .u64 0, .int .u64 0, .int .u64 0, .int .u64 0, .int .u64 0]) := by kernel_rfl
theorem ag_struct__regions_int__own_int__told_m_int_p_stable_view__has_ : T.agg Y_struct__regions_int__own_int__told_m_int_p_stable_view__has_ = some true := by kernel_rfl
theorem eg_struct__regions_int__own_int__told_m_int_p_stable_view__has_ : T.eqg Y_struct__regions_int__own_int__told_m_int_p_stable_view__has_ = T.eqg Y_struct__regions_int__own_int__told_m_int_p_stable_view__has_ := rfl
theorem z_stable_Matrix : T.siz Y_stable_Matrix = some 259 := by kernel_rfl
theorem b_stable_Matrix : T.byt Y_stable_Matrix = some 2072 := by kernel_rfl
theorem zr_stable_Matrix : T.zer Y_stable_Matrix = some (.agg [.int .i64 0, .int .i64 0, .map none, .int .u64 0, .int .u64 0, .int .u64 0, .int .u64 0, .int .u64 0, .int .u64 0, .int .u64 0, .int .u64 0, .int .u64 0, .int .u64 0, .int .u64 0, .int .u64 0, .int .u64 0, .int .u64 0, .int .u64 0, .int .u64 0, .int .u64 0, .int .u64 0, .int .u64 0, .int .u64 0, .int .u64 0, .int .u64 0, .int .u64 0, .int .u64 0, .int .u64 0, .int .u64 0, .int .u64 0, .int .u64 0, .int .u64 0, .int .u64 0, .int .u64 0, .int .u64 0, .int .u64 0, .int .u64 0, .int .u64 0, .int .u64 0, .int .u64 0, .int .u64 0, .int .u64 0, .int .u64 0, .int .u64 0, .int .u64 0, .int .u64 0, .int .u64 0, .int .u64 0, .int .u64 0, .int .u64 0, .int .u64 0, .int .u64 0, .int .u64 0, .int .u64 0, .int .u64 0, .int .u64 0, .int .u64 0, .int .u64 0, .int .u64 0, .int .u64 0, .int .u64 0, .int .u64 0, .int .u64 0, .int .u64 0, .int .u64 0, .int .u64 0, .int .u64 0, .int .u64 0, .int .u64 0, .int .u64 0, .int .u64 0, .int .u64 0, .int .u64 0, .int .u64 0, .int .u64 0, .int .u64 0, .int .u64 0, .int .u64 0, .int .u64 0, .int .u64 0, .int .u64 0, .int .u64 0, .int .u64 0, .int .u64 0, .int .u64 0, .int .u64 0, .int .u64 0, .int .u64 0, .int .u64 0, .int .u64 0, .int .u64 0, .int .u64 0, .int .u64 0, .int .u64 0, .int .u64 0, .int .u64 0, .int .u64 0, .int .u64 0, .int .u64 0, .int .u64 0, .int .u64 0, .int .u64 0, .int .u64 0, .int .u64 0, .int .u64 0, .int .u64 0, .int .u64 0, .int .u64 0, .int .u64 0, .int .u64 0, .int .u64 0, .int .u64 0, .int .u64 0, .int .u64 0, .int .u64 0, .int .u64 0, .int .u64 0, .int .u64 0, .int .u64 0, .int .u64 0, .int .u64 0, .int .u64 0, .int .u64 0, .int .u64 0, .int .u64 0, .int .u64 0, .int .u64 0, .int .u64 0, .int .u64 0, .int .u64 0, .int .u64 0, .int .u64 0, .int .u64 0, .int .u64 0, .int .u64 0, .int .u64 0, .int .u64 0, .int .u64 0, .int .u64 0, .int .u64 0, .int .u64 0, .int .u64 0, .int .u64 0, .int .u64 0, .int .u64 0, .int .u64 0, .int .u64 0, .int .u64 0, .int .u64 0, .int .u64 0, .int .u64 0, .int .u64 0, .int .u64 0, .int .u64 0, .int .u64 0, .int .u64 0, .int .u64 0, .int .u64 0, .int .u64 0, .int .u64 0, .int .u64 0, .int .u64 0, .int .u64 0, .int .u64 0, .int .u64 0, .int .u64 0, .int .u64 0, .int .u64 0, .int .u64 0, .int .u64 0, .int .u64 0, .int .u64 0, .int .u64 0, .int .u64 0, .int .u64 0, .int .u64 0, .int .u64 0, .int .u64 0, .int .u64 0, .int .u64 0, .int .u64 0, .int .u64 0, .int .u64 0, .int .u64 0, .int .u64 0, .int .u64 0, .int .u64 0, .int .u64 0, .int .u64 0, .int .u64 0, .int .u64 0, .int .u64 0, .int .u64 0, .int .u64 0, .int .u64 0, .int .u64 0, .int .u64 0, .int .u64 0, .int .u64 0, .int .u64 0, .int .u64 0, .int .u64 0, .int .u64 0, .int .u64 0, .int .u64 0, .int .u64 0, .int .u64 0, .int .u64 0, .int .u64 0, .int .u64 0, .int .u64 0, .int .u64 0, .int .u64 0, .int .u64 0, .int .u64 0, .int .u64 0, .int .u64 0, .int .u64 0, .int .u64 0, .int .u64 0, .int .u64 0, .int .u64 0, .int .u64 0, .int .u64 0, .int .u64 0, .int .u64 0, .int .u64 0, .int .u64 0, .int .u64 0, .int .u64 0, .int .u64 0, .int .u64 0, .int .u64 0, .int .u64 0, .int .u64 0, .int .u64 0, .int .u64 0, .int .u64 0, .int .u64 0, .int .u64 0, .int .u64 0, .int .u64 0, .int .u64 0, .int .u64 0, .int .u64 0, .int .u64 0, .int .u64 0, .int .u64 0, .int .u64 0, .int .u64 0, .int .u64 0, .int .u64 0, .int .u64 0, .int .u64 0, .int .u64 0, .int .u64 0, .int .u64 0, .int .u64 0, .int .u64 0]) := by kernel_rfl
theorem ag_stable_Matrix : T.agg Y_stable_Matrix = some true := by kernel_rfl
theorem eg_stable_Matrix : T.eqg Y_stable_Matrix = T.eqg Y_stable_Matrix := rfl
theorem u_s_p_stable_Matrix : T.und Y_s_p_stable_Matrix = some (.slice Y_p_stable_Matrix) := by kernel_rfl
theorem z_s_p_stable_Matrix : T.siz Y_s_p_stable_Matrix = some 1 := by kernel_rfl
theorem b_s_p_stable_Matrix : T.byt Y_s_p_stable_Matrix = some 24 := by kernel_rfl
theorem zr_s_p_stable_Matrix : T.zer Y_s_p_stable_Matrix = some (.slc none 0 0 true) := by kernel_rfl
theorem ag_s_p_stable_Matrix : T.agg Y_s_p_stable_Matrix = some false := by kernel_rfl
theorem u_m_Dot_struct__is_bool__ : T.und Y_m_Dot_struct__is_bool__ = some (.map Y_Dot Y_struct__is_bool__) := by kernel_rfl
theorem z_m_Dot_struct__is_bool__ : T.siz Y_m_Dot_struct__is_bool__ = some 1 := by kernel_rfl
theorem b_m_Dot_struct__is_bool__ : T.byt Y_m_Dot_struct__is_bool__ = some 8 := by kernel_rfl
theorem zr_m_Dot_struct__is_bool__ : T.zer Y_m_Dot_struct__is_bool__ = some (.map none) := by kernel_rfl
theorem ag_m_Dot_struct__is_bool__ : T.agg Y_m_Dot_struct__is_bool__ = some false := by kernel_rfl
theorem z_struct__is_bool__ : T.siz Y_struct__is_bool__ = some 1 := by kernel_rfl
theorem b_struct__is_bool__ : T.byt Y_struct__is_bool__ = some 1 := by kernel_rfl
theorem zr_struct__is_bool__ : T.zer Y_struct__is_bool__ = some (.agg [.bool false]) := by kernel_rfl
theorem ag_struct__is_bool__ : T.agg Y_struct__is_bool__ = some true := by kernel_rfl
theorem eg_struct__is_bool__ : T.eqg Y_struct__is_bool__ = T.eqg Y_struct__is_bool__ := rfl
theorem u_p_stable_view : T.und Y_p_stable_view = some (.pointer Y_stable_view) := by kernel_rfl
theorem z_p_stable_view : T.siz Y_p_stable_view = some 1 := by kernel_rfl
theorem b_p_stable_view : T.byt Y_p_stable_view = some 8 := by kernel_rfl
theorem zr_p_stable_view : T.zer Y_p_stable_view = some (.ptr none) := by kernel_rfl
theorem ag_p_stable_view : T.agg Y_p_stable_view = some false := by kernel_rfl
theorem z_struct__seen_p_ctx_Ctx__live_m_Dot_struct__is_bool__ : T.siz Y_struct__seen_p_ctx_Ctx__live_m_Dot_struct__is_bool__ = some 2 := by kernel_rfl
theorem b_struct__seen_p_ctx_Ctx__live_m_Dot_struct__is_bool__ : T.byt Y_struct__seen_p_ctx_Ctx__live_m_Dot_struct__is_bool__ = some 16 := by kernel_rfl
theorem zr_struct__seen_p_ctx_Ctx__live_m_Dot_struct__is_bool__ : T.zer Y_struct__seen_p_ctx_Ctx__live_m_Dot_struct__is_bool__ = some (.agg [.ptr none, .map none]) := by kernel_rfl
theorem ag_struct__seen_p_ctx_Ctx__live_m_Dot_struct__is_bool__ : T.agg Y_struct__seen_p_ctx_Ctx__live_m_Dot_struct__is_bool__ = some true := by kernel_rfl
theorem eg_struct__seen_p_ctx_Ctx__live_m_Dot_struct__is_bool__ : T.eqg Y_struct__seen_p_ctx_Ctx__live_m_Dot_struct__is_bool__ = T.eqg Y_struct__seen_p_ctx_Ctx__live_m_Dot_struct__is_bool__ := rfl
theorem z_stable_view : T.siz Y_stable_view = some 2 := by kernel_rfl
theorem b_stable_view : T.byt Y_stable_view = some 16 := by kernel_rfl
theorem zr_stable_view : T.zer Y_stable_view = some (.agg [.ptr none, .map none]) := by kernel_rfl
theorem ag_stable_view : T.agg Y_stable_view = some true := by kernel_rfl
theorem eg_stable_view : T.eqg Y_stable_view = T.eqg Y_stable_view := rfl
theorem u_s_uint64 : T.und Y_s_uint64 = some (.slice Y_uint64) := by kernel_rfl
theorem z_s_uint64 : T.siz Y_s_uint64 = some 1 := by kernel_rfl
theorem b_s_uint64 : T.byt Y_s_uint64 = some 24 := by kernel_rfl
theorem zr_s_uint64 : T.zer Y_s_uint64 = some (.slc none 0 0 true) := by kernel_rfl
theorem ag_s_uint64 : T.agg Y_s_uint64 = some false := by kernel_rfl
theorem u_uint : T.und Y_uint = some (.int .u64) := by kernel_rfl
theorem z_uint : T.siz Y_uint = some 1 := by kernel_rfl
theorem b_uint : T.byt Y_uint = some 8 := by kernel_rfl
theorem zr_uint : T.zer Y_uint = some (.int .u64 0) := by kernel_rfl
theorem ag_uint : T.agg Y_uint = some false := by kernel_rfl
theorem u_p_uint64 : T.und Y_p_uint64 = some (.pointer Y_uint64) := by kernel_rfl
theorem z_p_uint64 : T.siz Y_p_uint64 = some 1 := by kernel_rfl
theorem b_p_uint64 : T.byt Y_p_uint64 = some 8 := by kernel_rfl
theorem zr_p_uint64 : T.zer Y_p_uint64 = some (.ptr none) := by kernel_rfl
theorem ag_p_uint64 : T.agg Y_p_uint64 = some false := by kernel_rfl
theorem u_s__Dot : T.und Y_s__Dot = some (.slice Y_s_Dot) := by kernel_rfl
theorem z_s__Dot : T.siz Y_s__Dot = some 1 := by kernel_rfl
theorem b_s__Dot : T.byt Y_s__Dot = some 24 := by kernel_rfl
theorem zr_s__Dot : T.zer Y_s__Dot = some (.slc none 0 0 true) := by kernel_rfl
theorem ag_s__Dot : T.agg Y_s__Dot = some false := by kernel_rfl
theorem u_slices_sortedHint : T.und Y_slices_sortedHint = some (.int .i64) := by kernel_rfl
theorem z_slices_sortedHint : T.siz Y_slices_sortedHint = some 1 := by kernel_rfl
theorem b_slices_sortedHint : T.byt Y_slices_sortedHint = some 8 := by kernel_rfl
theorem zr_slices_sortedHint : T.zer Y_slices_sortedHint = some (.int .i64 0) := by kernel_rfl
theorem ag_slices_sortedHint : T.agg Y_slices_sortedHint = some false := by kernel_rfl
theorem u_uint32 : T.und Y_uint32 = some (.int .u32) := by kernel_rfl
theorem z_uint32 : T.siz Y_uint32 = some 1 := by kernel_rfl
theorem b_uint32 : T.byt Y_uint32 = some 4 := by kernel_rfl
theorem zr_uint32 : T.zer Y_uint32 = some (.int .u32 0) := by kernel_rfl
theorem ag_uint32 : T.agg Y_uint32 = some false := by kernel_rfl
theorem u_slices_xorshift : T.und Y_slices_xorshift = some (.int .u64) := by kernel_rfl
theorem z_slices_xorshift : T.siz Y_slices_xorshift = some 1 := by kernel_rfl
theorem b_slices_xorshift : T.byt Y_slices_xorshift = some 8 := by kernel_rfl
theorem zr_slices_xorshift : T.zer Y_slices_xorshift = some (.int .u64 0) := by kernel_rfl
theorem ag_slices_xorshift : T.agg Y_slices_xorshift = some false := by kernel_rfl
theorem u_p_int : T.und Y_p_int = some (.pointer Y_int) := by kernel_rfl
theorem z_p_int : T.siz Y_p_int = some 1 := by kernel_rfl
theorem b_p_int : T.byt Y_p_int = some 8 := by kernel_rfl
theorem zr_p_int : T.zer Y_p_int = some (.ptr none) := by kernel_rfl
theorem ag_p_int : T.agg Y_p_int = some false := by kernel_rfl
theorem u_p_slices_xorshift : T.und Y_p_slices_xorshift = some (.pointer Y_slices_xorshift) := by kernel_rfl
theorem z_p_slices_xorshift : T.siz Y_p_slices_xorshift = some 1 := by kernel_rfl
theorem b_p_slices_xorshift : T.byt Y_p_slices_xorshift = some 8 := by kernel_rfl
theorem zr_p_slices_xorshift : T.zer Y_p_slices_xorshift = some (.ptr none) := by kernel_rfl
theorem ag_p_slices_xorshift : T.agg Y_p_slices_xorshift = some false := by kernel_rfl
theorem z_struct__interface_p_abi_Type__concrete_p_abi_Type__asserted_ : T.siz Y_struct__interface_p_abi_Type__concrete_p_abi_Type__asserted_ = some 4 := by kernel_rfl
theorem b_struct__interface_p_abi_Type__concrete_p_abi_Type__asserted_ : T.byt Y_struct__interface_p_abi_Type__concrete_p_abi_Type__asserted_ = some 40 := by kernel_rfl
theorem zr_struct__interface_p_abi_Type__concrete_p_abi_Type__asserted_ : T.zer Y_struct__interface_p_abi_Type__concrete_p_abi_Type__asserted_ = some (.agg [.ptr none, .ptr none, .ptr none, .str []]) := by kernel_rfl
theorem ag_struct__interface_p_abi_Type__concrete_p_abi_Type__asserted_ : T.agg Y_struct__interface_p_abi_Type__concrete_p_abi_Type__asserted_ = some true := by kernel_rfl
theorem eg_struct__interface_p_abi_Type__concrete_p_abi_Type__asserted_ : T.eqg Y_struct__interface_p_abi_Type__concrete_p_abi_Type__asserted_ = T.eqg Y_struct__interface_p_abi_Type__concrete_p_abi_Type__asserted_ := rfl
theorem z_runtime_TypeAssertionError : T.siz Y_runtime_TypeAssertionError = some 4 := by kernel_rfl
theorem b_runtime_TypeAssertionError : T.byt Y_runtime_TypeAssertionError = some 40 := by kernel_rfl
theorem zr_runtime_TypeAssertionError : T.zer Y_runtime_TypeAssertionError = some (.agg [.ptr none, .ptr none, .ptr none, .str []]) := by kernel_rfl
theorem ag_runtime_TypeAssertionError : T.agg Y_runtime_TypeAssertionError = some true := by kernel_rfl
theorem eg_runtime_TypeAssertionError : T.eqg Y_runtime_TypeAssertionError = T.eqg Y_runtime_TypeAssertionError := rfl
theorem u_a0ip_runtime_PanicNilError : T.und Y_a0ip_runtime_PanicNilError = some (.array 0 Y_p_runtime_PanicNilError) := by kernel_rfl
theorem z_a0ip_runtime_PanicNilError : T.siz Y_a0ip_runtime_PanicNilError = some 0 := by kernel_rfl
theorem b_a0ip_runtime_PanicNilError : T.byt Y_a0ip_runtime_PanicNilError = some 0 := by kernel_rfl
theorem zr_a0ip_runtime_PanicNilError : T.zer Y_a0ip_runtime_PanicNilError = some (.agg []) := by kernel_rfl
theorem ag_a0ip_runtime_PanicNilError : T.agg Y_a0ip_runtime_PanicNilError = some true := by kernel_rfl
theorem eg_a0ip_runtime_PanicNilError : T.eqg Y_a0ip_runtime_PanicNilError = T.eqg Y_a0ip_runtime_PanicNilError := rfl
theorem z_struct__0ip_runtime_PanicNilError__ : T.siz Y_struct__0ip_runtime_PanicNilError__ = some 0 := by kernel_rfl
theorem b_struct__0ip_runtime_PanicNilError__ : T.byt Y_struct__0ip_runtime_PanicNilError__ = some 0 := by kernel_rfl
theorem zr_struct__0ip_runtime_PanicNilError__ : T.zer Y_struct__0ip_runtime_PanicNilError__ = some (.agg []) := by kernel_rfl
theorem ag_struct__0ip_runtime_PanicNilError__ : T.agg Y_struct__0ip_runtime_PanicNilError__ = some true := by kernel_rfl
theorem eg_struct__0ip_runtime_PanicNilError__ : T.eqg Y_struct__0ip_runtime_PanicNilError__ = T.eqg Y_struct__0ip_runtime_PanicNilError__ := rfl
theorem z_runtime_PanicNilError : T.siz Y_runtime_PanicNilError = some 0 := by kernel_rfl
theorem b_runtime_PanicNilError : T.byt Y_runtime_PanicNilError = some 0 := by kernel_rfl
theorem zr_runtime_PanicNilError : T.zer Y_runtime_PanicNilError = some (.agg []) := by kernel_rfl
theorem ag_runtime_PanicNilError : T.agg Y_runtime_PanicNilError = some true := by kernel_rfl
theorem eg_runtime_PanicNilError : T.eqg Y_runtime_PanicNilError = T.eqg Y_runtime_PanicNilError := rfl
theorem u_abi_TFlag : T.und Y_abi_TFlag = some (.int .u8) := by kernel_rfl
theorem z_abi_TFlag : T.siz Y_abi_TFlag = some 1 := by kernel_rfl
theorem b_abi_TFlag : T.byt Y_abi_TFlag = some 1 := by kernel_rfl
theorem zr_abi_TFlag : T.zer Y_abi_TFlag = some (.int .u8 0) := by kernel_rfl
theorem ag_abi_TFlag : T.agg Y_abi_TFlag = some false := by kernel_rfl
theorem u_abi_Kind : T.und Y_abi_Kind = some (.int .u8) := by kernel_rfl
theorem z_abi_Kind : T.siz Y_abi_Kind = some 1 := by kernel_rfl
theorem b_abi_Kind : T.byt Y_abi_Kind = some 1 := by kernel_rfl
theorem zr_abi_Kind : T.zer Y_abi_Kind = some (.int .u8 0) := by kernel_rfl
theorem ag_abi_Kind : T.agg Y_abi_Kind = some false := by kernel_rfl
theorem u_p_uint8 : T.und Y_p_uint8 = some (.pointer Y_uint8) := by kernel_rfl
theorem z_p_uint8 : T.siz Y_p_uint8 = some 1 := by kernel_rfl
theorem b_p_uint8 : T.byt Y_p_uint8 = some 8 := by kernel_rfl
theorem zr_p_uint8 : T.zer Y_p_uint8 = some (.ptr none) := by kernel_rfl
theorem ag_p_uint8 : T.agg Y_p_uint8 = some false := by kernel_rfl
theorem u_abi_NameOff : T.und Y_abi_NameOff = some (.int .i32) := by kernel_rfl
theorem z_abi_NameOff : T.siz Y_abi_NameOff = some 1 := by kernel_rfl
theorem b_abi_NameOff : T.byt Y_abi_NameOff = some 4 := by kernel_rfl
theorem zr_abi_NameOff : T.zer Y_abi_NameOff = some (.int .i32 0) := by kernel_rfl
theorem ag_abi_NameOff : T.agg Y_abi_NameOff = some false := by kernel_rfl
theorem u_abi_TypeOff : T.und Y_abi_TypeOff = some (.int .i32) := by kernel_rfl
theorem z_abi_TypeOff : T.siz Y_abi_TypeOff = some 1 := by kernel_rfl
theorem b_abi_TypeOff : T.byt Y_abi_TypeOff = some 4 := by kernel_rfl
theorem zr_abi_TypeOff : T.zer Y_abi_TypeOff = some (.int .i32 0) := by kernel_rfl
theorem ag_abi_TypeOff : T.agg Y_abi_TypeOff = some false := by kernel_rfl
theorem z_struct__Size__uintptr__PtrBytes_uintptr__Hash_uint32i_TFlag_ : T.siz Y_struct__Size__uintptr__PtrBytes_uintptr__Hash_uint32i_TFlag_ = some 11 := by kernel_rfl
theorem b_struct__Size__uintptr__PtrBytes_uintptr__Hash_uint32i_TFlag_ : T.byt Y_struct__Size__uintptr__PtrBytes_uintptr__Hash_uint32i_TFlag_ = some 48 := by kernel_rfl
theorem zr_struct__Size__uintptr__PtrBytes_uintptr__Hash_uint32i_TFlag_ : T.zer Y_struct__Size__uintptr__PtrBytes_uintptr__Hash_uint32i_TFlag_ = some (.agg [.int .u64 0, .int .u64 0, .int .u32 0, .int .u8 0, .int .u8 0, .int .u8 0, .int .u8 0, .nilFunc, .ptr none, .int .i32 0, .int .i32 0]) := by kernel_rfl
theorem ag_struct__Size__uintptr__PtrBytes_uintptr__Hash_uint32i_TFlag_ : T.agg Y_struct__Size__uintptr__PtrBytes_uintptr__Hash_uint32i_TFlag_ = some true := by kernel_rfl
theorem eg_struct__Size__uintptr__PtrBytes_uintptr__Hash_uint32i_TFlag_ : T.eqg Y_struct__Size__uintptr__PtrBytes_uintptr__Hash_uint32i_TFlag_ = T.eqg Y_struct__Size__uintptr__PtrBytes_uintptr__Hash_uint32i_TFlag_ := rfl
theorem z_abi_Type : T.siz Y_abi_Type = some 11 := by kernel_rfl
theorem b_abi_Type : T.byt Y_abi_Type = some 48 := by kernel_rfl
theorem zr_abi_Type : T.zer Y_abi_Type = some (.agg [.int .u64 0, .int .u64 0, .int .u32 0, .int .u8 0, .int .u8 0, .int .u8 0, .int .u8 0, .nilFunc, .ptr none, .int .i32 0, .int .i32 0]) := by kernel_rfl
theorem ag_abi_Type : T.agg Y_abi_Type = some true := by kernel_rfl
theorem eg_abi_Type : T.eqg Y_abi_Type = T.eqg Y_abi_Type := rfl
theorem z_unsafe_Pointer : T.siz Y_unsafe_Pointer = some 1 := by kernel_rfl
theorem b_unsafe_Pointer : T.byt Y_unsafe_Pointer = some 8 := by kernel_rfl
theorem zr_unsafe_Pointer : T.zer Y_unsafe_Pointer = some (.ptr none) := by kernel_rfl
theorem ag_unsafe_Pointer : T.agg Y_unsafe_Pointer = some false := by kernel_rfl
end Go.Proofs.Ytbfchlimonimkaa
