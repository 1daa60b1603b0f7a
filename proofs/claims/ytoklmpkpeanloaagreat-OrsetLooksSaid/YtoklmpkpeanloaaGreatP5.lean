/-
  A part of the proof: an abstract machine over the model, and contracts of functions of this program over it.
-/
import Derived.KernelRfl
import Derived.Test.YtoklmpkpeanloaaGreatP4
set_option linter.unusedVariables false
set_option linter.unusedSimpArgs false
set_option linter.unusedSectionVars false
section
set_option maxRecDepth 100000
set_option maxHeartbeats 4000000
namespace Go.Proofs.YtoklmpkpeanloaaGreat
open Go.Am
def Q_orset_New  (s : AS) (R : AV → AS → Prop) : Prop :=
 ACalls Tryz.prog F_ctx_New [] s fun v1 s2 => ∃ p3 : Option (Nat × Nat), v1 = .ptr p3 ∧ (NewQ (.map [] 0 false) s2 fun l4 s5 => NewQ (.map [] 0 false) s5 fun l6 s7 => RdG (abuild T Y_orset_Set [(0, (.ptr p3)), (1, (.map (some l4))), (2, (.map (some l6)))]) fun g8 => One1 g8 (NewQ (.cells g8 0 false) s7 fun l9 s10 => R (.ptr (some (l9, 0))) s10))
def A_orset_New : QA := (.seq .leaf (.seq .leaf .leaf))
theorem q_orset_New  (s : AS) (R : AV → AS → Prop) (h : Q_orset_New  s R) : ACalls Tryz.prog F_orset_New [] s R :=
 ACalls.q (n := 6) (rs := [.tmp 0]) (A := A_orset_New) hT hmx Tryz.func15 (by kernel_rfl) rfl rfl rfl (by kernel_rfl) (by kernel_rfl) h
def Q_orset_Set_Add (a0 : Option (Nat × Nat)) (a1 : List AV) (a2 : List AV) (s : AS) (R : AV → AS → Prop) : Prop :=
 One1 a1 (NewQ (.cells a1 0 false) s fun l1 s2 => One1 a2 (NewQ (.cells a2 0 false) s2 fun l3 s4 => ACalls Tryz.prog F_orset_Set_there [(.ptr a0)] s4 fun v5 s6 => ∃ b7 : Bool, v5 = .bool b7 ∧ (bsplit (!b7)
 (R (.tup [(.slc none 0 0 true), (.int .i64 1)]) s6)
 (JoinQ fun J8 =>
 (∀ b9 : Bool, ∀ s10 : AS, J8 [(.bool b9)] s10 →
 bsplit b9
 (R (.tup [(.slc none 0 0 true), (.int .i64 2)]) s10)
 (ACalls Tryz.prog F_orset_Set_dots [(.ptr a0), (.func F_orset_Set_Add_1 [(.ptr (some (l1, 0)))])] s10 fun v11 s12 => DrawQ fun S V => RdL (rdc s12 l3 0 2) fun g13 => RdL (rdc s12 l1 0 2) fun g14 => RdG (abuild T Y_Item [(0, (.agg g13)), (1, (.agg g14))]) fun g15 => (∀ s16 : AS, Ext s12 s16 → WFs s16 → (True) → RdL (absl T Y_s_Item 1 [(0, (.agg g15))]) fun g17 => NewQ (.cells g17 0 false) s16 fun l18 s19 => (Ext s16 s19 ∧ S 3 [(.agg g15)] (.slc (some (l18, 0)) 1 1 true) s19 ∧ V 3 [(.agg g15)] (.slc (some (l18, 0)) 1 1 true))) ∧ (∃ v, V 3 [(.agg g15)] v) ∧ ∀ v20 : AV, V 3 [(.agg g15)] v20 → (∀ s21 : AS, Ext s12 s21 → WFs s21 → (True) → ACalls Tryz.prog F_orset_gone [v11] s21 fun v22 s23 => (Ext s21 s23 ∧ S 5 [(.func F_orset_gone []), v11] v22 s23 ∧ V 5 [(.func F_orset_gone []), v11] v22)) ∧ (∃ v, V 5 [(.func F_orset_gone []), v11] v) ∧ ∀ v24 : AV, V 5 [(.func F_orset_gone []), v11] v24 → ∀ s25 : AS, Ext s12 s25 → WFs s25 → (S 3 [(.agg g15)] v20 s25 ∧ (S 5 [(.func F_orset_gone []), v11] v24 s25 ∧ True)) → Bd2 (aappend T Y_s_Item Y_s_Item v20 v24 s25) fun v27 s28 => ACalls Tryz.prog F_orset_Set_See [(.ptr a0), v27] s28 fun v29 s30 => ∃ b31 : Bool, ∃ n32 : Int, v29 = .tup [(.bool b31), (.int .i64 n32)] ∧ (bsplit ((n32 : Int) != 0)
 (R (.tup [(.slc none 0 0 true), (.int .i64 n32)]) s30)
 (R (.tup [v27, (.int .i64 0)]) s30)))) ∧
 (RdL (rdc s6 l1 0 2) fun g33 => ACalls Tryz.prog F_orset_MayKey [(.agg g33)] s6 fun v34 s35 => ∃ b36 : Bool, v34 = .bool b36 ∧ (bsplit (!b36) (J8 [(.bool true)] s35) (RdL (rdc s35 l3 0 2) fun g37 => ACalls Tryz.prog F_ctx_May [(.agg g37)] s35 fun v38 s39 => ∃ b40 : Bool, v38 = .bool b40 ∧ (bsplit (!b40) (J8 [(.bool true)] s39) (AsSome a0 fun l41 o42 => RdP (rd1 s39 l41 o42) fun p43 => RdL (rdc s39 l3 0 2) fun g44 => ACalls Tryz.prog F_ctx_Ctx_Has [(.ptr p43), (.agg g44)] s39 fun v45 s46 => ∃ b47 : Bool, v45 = .bool b47 ∧ (J8 [(.bool b47)] s46))))))))))
def A_orset_Set_Add : QA := (.seq .leaf (.seq (.wrap (.seq .leaf (.cond (.seq .leaf .leaf) (.join [(16, .bool)] [(16, 32)] .calm (.cond (.seq .leaf .leaf) .leaf))))) (.seq .leaf (.seq (.drawH 6 [[], [], [], [], [], []] [3, 5]) (.seq (.seq .leaf (.seq .leaf (.cond (.seq .leaf .leaf) .leaf))) (.seq .leaf .leaf))))))
theorem q_orset_Set_Add (a0 : Option (Nat × Nat)) (a1 : List AV) (a2 : List AV) (s : AS) (R : AV → AS → Prop) (h : Q_orset_Set_Add a0 a1 a2 s R) : ACalls Tryz.prog F_orset_Set_Add [(.ptr a0), (.agg a1), (.agg a2)] s R :=
 ACalls.q (n := 53) (rs := [.tmp 6, .tmp 7]) (A := A_orset_Set_Add) hT hmx Tryz.func58 (by kernel_rfl) rfl rfl rfl (by kernel_rfl) (by kernel_rfl) h
def Q_orset_Set_See (a0 : Option (Nat × Nat)) (a1 : AV) (s : AS) (R : AV → AS → Prop) : Prop :=
 ACalls Tryz.prog F_orset_Set_there [(.ptr a0)] s fun v1 s2 => ∃ b3 : Bool, v1 = .bool b3 ∧ (bsplit (!b3)
 (R (.tup [(.bool false), (.int .i64 1)]) s2)
 (ACalls Tryz.prog F_slices_ContainsFunc__s_Item_Item [a1, (.func F_orset_Set_See_1 [])] s2 fun v4 s5 => ∃ b6 : Bool, v4 = .bool b6 ∧ (bsplit b6
 (R (.tup [(.bool false), (.int .i64 2)]) s5)
 (ACalls Tryz.prog F_orset_Set_Copy [(.ptr a0)] s5 fun v7 s8 => ∃ p9 : Option (Nat × Nat), v7 = .ptr p9 ∧ (JoinQ fun J10 =>
 (∀ b11 : Bool, ∀ s12 : AS, J10 [(.bool b11)] s12 →
 JoinQ fun J13 =>
 (∀ b14 : Bool, ∀ s15 : AS, J13 [(.bool b14)] s15 →
 bsplit b14
 (R (.tup [(.bool false), (.int .i64 5)]) s15)
 (AsSome p9 fun l16 o17 => RdL (rdc s15 l16 o17 3) fun g18 => AsSome a0 fun l19 o20 => OkC (some 3) g18 (StQ (awr s15 l19 o20 g18) fun s21 => R (.tup [(.bool b11), (.int .i64 0)]) s21))) ∧
 (AsSome p9 fun l22 o23 => RdM (rd1 s12 l22 (o23 + 1)) fun r24 => RdI .i64 (alenB T Y_m_Dot_Key (.map r24) s12) fun n25 => bsplit (decide ((n25 : Int) > 1024)) (J13 [(.bool true)] s12) (AsSome p9 fun l26 o27 => RdM (rd1 s12 l26 (o27 + 1)) fun r28 => RdI .i64 (alenB T Y_m_Dot_Key (.map r28) s12) fun n29 => AsSome p9 fun l30 o31 => RdM (rd1 s12 l30 (o31 + 2)) fun r32 => RdI .i64 (alenB T Y_m_Dot_struct__is_bool__ (.map r32) s12) fun n33 => J13 [(.bool (decide ((IntKind.wrap .i64 (n29 + n33) : Int) > 4096)))] s12))) ∧
 (RdI .i64 (alenB T Y_s_Item a1 s8) fun n34 => LoopQ fun I35 m36 => I35 m36 [(.bool false), (.int .i64 0)] s8 ∧
 ∀ m37 : Nat, ∀ b38 : Bool, ∀ n39 : Int, ∀ s40 : AS, I35 m37 [(.bool b38), (.int .i64 n39)] s40 →
 bsplit (decide ((n39 : Int) < n34))
 (IxQ (aindexAddr T Y_s_Item a1 (.int .i64 n39)) fun l41 o42 => RdL (rdc s40 l41 o42 5) fun g43 => NewQ (.cells [.int .i64 0, .int .u64 0, .str [], .str [], .bool false] 0 false) s40 fun l44 s45 => OkC (some 5) g43 (StQ (awr s45 l44 0 g43) fun s46 => RdL (rdc s46 l44 0 5) fun g47 => ACalls Tryz.prog F_orset_Set_see [(.ptr p9), (.agg g47)] s46 fun v48 s49 => ∃ b50 : Bool, ∃ n51 : Int, v48 = .tup [(.bool b50), (.int .i64 n51)] ∧ (bsplit ((n51 : Int) != 0)
 (R (.tup [(.bool false), (.int .i64 n51)]) s49)
 (bsplit b38 (∃ m', m' < m37 ∧ I35 m' [(.bool true), (.int .i64 (IntKind.wrap .i64 (n39 + 1)))] s49) (∃ m', m' < m37 ∧ I35 m' [(.bool b50), (.int .i64 (IntKind.wrap .i64 (n39 + 1)))] s49)))))
 (J10 [(.bool b38)] s40)))))))
def A_orset_Set_See : QA := (.seq .leaf (.seq (.seq .leaf (.cond (.seq .leaf .leaf) .leaf)) (.seq (.seq .leaf (.cond (.seq .leaf .leaf) .leaf)) (.seq .leaf (.seq .leaf (.join [(7, .bool)] [(4, 5), (7, 7), (9, 11), (19, 38)] (.seq .leaf (.wrap (.loop [(7, .bool), (21, .int .i64)] [(4, 5), (7, 7), (9, 11), (21, 38)] (.seq .leaf (.seq (.cond .leaf .leaf) (.seq (.wrap (.seq .leaf (.seq .leaf (.seq (.seq .leaf (.cond (.seq .leaf .leaf) .leaf)) .leaf)))) .leaf)))))) (.seq (.join [(58, .bool)] [(39, 58)] (.draw 16) (.cond (.seq .leaf .leaf) .leaf)) (.seq .leaf (.seq .leaf .leaf)))))))))
theorem q_orset_Set_See (a0 : Option (Nat × Nat)) (a1 : AV) (s : AS) (R : AV → AS → Prop) (h : Q_orset_Set_See a0 a1 s R) : ACalls Tryz.prog F_orset_Set_See [(.ptr a0), a1] s R :=
 ACalls.q (n := 65) (rs := [.tmp 4, .tmp 5]) (A := A_orset_Set_See) hT hmx Tryz.func16 (by kernel_rfl) rfl rfl rfl (by kernel_rfl) (by kernel_rfl) h
def Q_orset_Set_Remove (a0 : Option (Nat × Nat)) (a1 : List AV) (s : AS) (R : AV → AS → Prop) : Prop :=
 One1 a1 (NewQ (.cells a1 0 false) s fun l1 s2 => ACalls Tryz.prog F_orset_Set_there [(.ptr a0)] s2 fun v3 s4 => ∃ b5 : Bool, v3 = .bool b5 ∧ (bsplit (!b5)
 (R (.tup [(.slc none 0 0 true), (.int .i64 1)]) s4)
 (RdL (rdc s4 l1 0 2) fun g6 => ACalls Tryz.prog F_orset_MayKey [(.agg g6)] s4 fun v7 s8 => ∃ b9 : Bool, v7 = .bool b9 ∧ (bsplit (!b9)
 (R (.tup [(.slc none 0 0 true), (.int .i64 2)]) s8)
 (ACalls Tryz.prog F_orset_Set_dots [(.ptr a0), (.func F_orset_Set_Remove_1 [(.ptr (some (l1, 0)))])] s8 fun v10 s11 => ACalls Tryz.prog F_orset_gone [v10] s11 fun v12 s13 => ACalls Tryz.prog F_orset_Set_See [(.ptr a0), v12] s13 fun v14 s15 => ∃ b16 : Bool, ∃ n17 : Int, v14 = .tup [(.bool b16), (.int .i64 n17)] ∧ (R (.tup [v12, (.int .i64 n17)]) s15))))))
def A_orset_Set_Remove : QA := (.seq .leaf (.seq (.wrap (.seq .leaf (.cond (.seq .leaf .leaf) (.seq .leaf (.cond (.seq .leaf .leaf) .leaf))))) (.seq .leaf (.seq .leaf (.seq .leaf .leaf)))))
theorem q_orset_Set_Remove (a0 : Option (Nat × Nat)) (a1 : List AV) (s : AS) (R : AV → AS → Prop) (h : Q_orset_Set_Remove a0 a1 s R) : ACalls Tryz.prog F_orset_Set_Remove [(.ptr a0), (.agg a1)] s R :=
 ACalls.q (n := 29) (rs := [.tmp 4, .tmp 5]) (A := A_orset_Set_Remove) hT hmx Tryz.func59 (by kernel_rfl) rfl rfl rfl (by kernel_rfl) (by kernel_rfl) h
def Q_orset_Set_Has (a0 : Option (Nat × Nat)) (a1 : List AV) (s : AS) (R : AV → AS → Prop) : Prop :=
 One1 a1 (NewQ (.cells a1 0 false) s fun l1 s2 => ACalls Tryz.prog F_orset_Set_there [(.ptr a0)] s2 fun v3 s4 => ∃ b5 : Bool, v3 = .bool b5 ∧ (bsplit b5 (ACalls Tryz.prog F_orset_Set_dots [(.ptr a0), (.func F_orset_Set_Has_1 [(.ptr (some (l1, 0)))])] s4 fun v6 s7 => RdI .i64 (alenB T Y_s_Dot v6 s7) fun n8 => R (.bool (decide ((n8 : Int) > 0))) s7) (R (.bool false) s4)))
def A_orset_Set_Has : QA := (.seq .leaf (.seq .leaf .leaf))
theorem q_orset_Set_Has (a0 : Option (Nat × Nat)) (a1 : List AV) (s : AS) (R : AV → AS → Prop) (h : Q_orset_Set_Has a0 a1 s R) : ACalls Tryz.prog F_orset_Set_Has [(.ptr a0), (.agg a1)] s R :=
 ACalls.q (n := 14) (rs := [.tmp 4]) (A := A_orset_Set_Has) hT hmx Tryz.func27 (by kernel_rfl) rfl rfl rfl (by kernel_rfl) (by kernel_rfl) h
def Q_orset_Set_Items (a0 : Option (Nat × Nat)) (s : AS) (R : AV → AS → Prop) : Prop :=
 ACalls Tryz.prog F_orset_Set_there [(.ptr a0)] s fun v1 s2 => ∃ b3 : Bool, v1 = .bool b3 ∧ (bsplit (!b3)
 (R (.slc none 0 0 true) s2)
 (JoinQ fun J4 =>
 (∀ v5 : AV, ∀ s6 : AS, J4 [v5] s6 →
 ACalls Tryz.prog F_orset_Set_Tombs [(.ptr a0)] s6 fun v7 s8 => ACalls Tryz.prog F_orset_gone [v7] s8 fun v9 s10 => Bd2 (aappend T Y_s_Item Y_s_Item v5 v9 s10) fun v11 s12 => ACalls Tryz.prog F_slices_SortFunc__s_Item_Item [v11, (.func F_orset_Set_Items_1 [])] s12 fun v13 s14 => v13 = .tup [] ∧ (R v11 s14)) ∧
 (AsSome a0 fun l15 o16 => RdM (rd1 s2 l15 (o16 + 1)) fun r17 => Bd2 (arange T Y_m_Dot_Key (.map r17) s2) fun v18 s19 => LoopQ fun I20 m21 => I20 m21 [(.slc none 0 0 true)] s19 ∧
 ∀ m22 : Nat, ∀ v23 : AV, ∀ s24 : AS, I20 m22 [v23] s24 →
 JoinQ fun J25 =>
 (∀ b26 : Bool, ∀ s27 : AS, J25 [(.bool b26)] s27 →
 bsplit b26
 (RdE (aentry v18 s27) fun v28 v29 => ∃ g30 : List AV, v28 = .agg g30 ∧ (∃ g31 : List AV, v29 = .agg g31 ∧ (NewQ (.cells [.int .i64 0, .int .u64 0] 0 false) s27 fun l32 s33 => NewQ (.cells [.str [], .str []] 0 false) s33 fun l34 s35 => OkC (some 2) g30 (StQ (awr s35 l32 0 g30) fun s36 => OkC (some 2) g31 (StQ (awr s36 l34 0 g31) fun s37 => RdL (rdc s37 l32 0 2) fun g38 => RdL (rdc s37 l34 0 2) fun g39 => RdG (abuild T Y_Item [(0, (.agg g38)), (1, (.agg g39))]) fun g40 => RdL (absl T Y_s_Item 1 [(0, (.agg g40))]) fun g41 => NewQ (.cells g41 0 false) s37 fun l42 s43 => Bd2 (aappend T Y_s_Item Y_s_Item v23 (.slc (some (l42, 0)) 1 1 true) s43) fun v44 s45 => ∃ m', m' < m22 ∧ I20 m' [v44] s45)))))
 (J4 [v23] s27)) ∧
 (NextP (acandM v18 s24)
 (J25 [(.bool false)] s24)
 fun v46 v47 s48 => J25 [(.bool true)] s48))))
def A_orset_Set_Items : QA := (.seq .leaf (.seq (.seq .leaf (.cond (.seq .leaf .leaf) .leaf)) (.seq .leaf (.join [(3, .any)] [(3, 5), (9, 24)] (.seq .leaf (.wrap (.loop [(3, .any)] [(3, 5), (14, 24)] (.join [(15, .bool)] [(14, 15)] .leaf (.seq (.cond .leaf .leaf) (.wrap (.seq .leaf .leaf))))))) (.seq .leaf (.seq .leaf (.seq .leaf .leaf)))))))
theorem q_orset_Set_Items (a0 : Option (Nat × Nat)) (s : AS) (R : AV → AS → Prop) (h : Q_orset_Set_Items a0 s R) : ACalls Tryz.prog F_orset_Set_Items [(.ptr a0)] s R :=
 ACalls.q (n := 33) (rs := [.tmp 2]) (A := A_orset_Set_Items) hT hmx Tryz.func41 (by kernel_rfl) rfl rfl rfl (by kernel_rfl) (by kernel_rfl) h
def Q_orset_Set_there (a0 : Option (Nat × Nat)) (s : AS) (R : AV → AS → Prop) : Prop :=
 RdO (aeq T 100 Y_p_orset_Set (.ptr a0) (.ptr none)) fun b1 => bsplit (!b1) (AsSome a0 fun l2 o3 => RdP (rd1 s l2 o3) fun p4 => RdO (aeq T 100 Y_p_ctx_Ctx (.ptr p4) (.ptr none)) fun b5 => R (.bool (!b5)) s) (R (.bool false) s)
def A_orset_Set_there : QA := (.seq .leaf (.seq .leaf .leaf))
theorem q_orset_Set_there (a0 : Option (Nat × Nat)) (s : AS) (R : AV → AS → Prop) (h : Q_orset_Set_there a0 s R) : ACalls Tryz.prog F_orset_Set_there [(.ptr a0)] s R :=
 ACalls.q (n := 12) (rs := [.tmp 2]) (A := A_orset_Set_there) hT hmx Tryz.func61 (by kernel_rfl) rfl rfl rfl (by kernel_rfl) (by kernel_rfl) h
def Q_slices_SortedFunc__Dot (a0 : AV) (a1 : AV) (s : AS) (R : AV → AS → Prop) : Prop :=
 ACalls Tryz.prog F_slices_Collect__Dot [a0] s fun v1 s2 => ACalls Tryz.prog F_slices_SortFunc__s_Dot_Dot [v1, a1] s2 fun v3 s4 => v3 = .tup [] ∧ (R v1 s4)
def A_slices_SortedFunc__Dot : QA := (.seq .leaf (.seq .leaf (.seq .leaf (.seq .leaf .leaf))))
theorem q_slices_SortedFunc__Dot (a0 : AV) (a1 : AV) (s : AS) (R : AV → AS → Prop) (h : Q_slices_SortedFunc__Dot a0 a1 s R) : ACalls Tryz.prog F_slices_SortedFunc__Dot [a0, a1] s R :=
 ACalls.q (n := 12) (rs := [.tmp 4]) (A := A_slices_SortedFunc__Dot) hT hmx Tryz.func85 (by kernel_rfl) rfl rfl rfl (by kernel_rfl) (by kernel_rfl) h
def Q_maps_Keys__m_Dot_struct_is_bool__Dot_struct_is_bool (a0 : Option Nat) (s : AS) (R : AV → AS → Prop) : Prop :=
 NewQ (.cells [(.map a0)] 0 false) s fun l1 s2 => R (.func F_maps_Keys__m_Dot_struct_is_bool__Dot_struct_is_bool__1 [(.ptr (some (l1, 0)))]) s2
def A_maps_Keys__m_Dot_struct_is_bool__Dot_struct_is_bool : QA := (.seq .leaf (.seq .leaf .leaf))
theorem q_maps_Keys__m_Dot_struct_is_bool__Dot_struct_is_bool (a0 : Option Nat) (s : AS) (R : AV → AS → Prop) (h : Q_maps_Keys__m_Dot_struct_is_bool__Dot_struct_is_bool a0 s R) : ACalls Tryz.prog F_maps_Keys__m_Dot_struct_is_bool__Dot_struct_is_bool [(.map a0)] s R :=
 ACalls.q (n := 4) (rs := [.tmp 2]) (A := A_maps_Keys__m_Dot_struct_is_bool__Dot_struct_is_bool) hT hmx Tryz.func86 (by kernel_rfl) rfl rfl rfl (by kernel_rfl) (by kernel_rfl) h
def Q_orset_Set_Live (a0 : Option (Nat × Nat)) (a1 : List AV) (s : AS) (R : AV → AS → Prop) : Prop :=
 One1 a1 (NewQ (.cells a1 0 false) s fun l1 s2 => NewQ (.cells [.str [], .str []] 0 false) s2 fun l3 s4 => ACalls Tryz.prog F_orset_Set_there [(.ptr a0)] s4 fun v5 s6 => ∃ b7 : Bool, v5 = .bool b7 ∧ (bsplit (!b7)
 (RdG (abuild T Y_Key []) fun g8 => OkC (some 2) g8 (StQ (awr s6 l3 0 g8) fun s9 => RdL (rdc s9 l3 0 2) fun g10 => R (.tup [(.agg g10), (.bool false)]) s9))
 (AsSome a0 fun l11 o12 => RdM (rd1 s6 l11 (o12 + 1)) fun r13 => RdL (rdc s6 l1 0 2) fun g14 => ∃ g15 : List AV, ∃ b16 : Bool, alookup T Y_m_Dot_Key (.map r13) (.agg g14) true s6 = some (.tup [(.agg g15), (.bool b16)]) ∧ (NewQ (.cells [.str [], .str []] 0 false) s6 fun l17 s18 => OkC (some 2) g15 (StQ (awr s18 l17 0 g15) fun s19 => RdL (rdc s19 l17 0 2) fun g20 => OkC (some 2) g20 (StQ (awr s19 l3 0 g20) fun s21 => RdL (rdc s21 l3 0 2) fun g22 => R (.tup [(.agg g22), (.bool b16)]) s21))))))
def A_orset_Set_Live : QA := (.seq .leaf (.seq (.seq .leaf (.cond (.seq .leaf .leaf) .leaf)) (.seq .calm (.seq .leaf .leaf))))
theorem q_orset_Set_Live (a0 : Option (Nat × Nat)) (a1 : List AV) (s : AS) (R : AV → AS → Prop) (h : Q_orset_Set_Live a0 a1 s R) : ACalls Tryz.prog F_orset_Set_Live [(.ptr a0), (.agg a1)] s R :=
 ACalls.q (n := 23) (rs := [.cell 4 31, .tmp 5]) (A := A_orset_Set_Live) hT hmx Tryz.func20 (by kernel_rfl) rfl rfl rfl (by kernel_rfl) (by kernel_rfl) h
def Q_orset_Set_Gone (a0 : Option (Nat × Nat)) (a1 : List AV) (s : AS) (R : AV → AS → Prop) : Prop :=
 One1 a1 (NewQ (.cells a1 0 false) s fun l1 s2 => RdL (rdc s2 l1 0 2) fun g3 => ACalls Tryz.prog F_orset_Set_Live [(.ptr a0), (.agg g3)] s2 fun v4 s5 => ∃ g6 : List AV, ∃ b7 : Bool, v4 = .tup [(.agg g6), (.bool b7)] ∧ (NewQ (.cells [.str [], .str []] 0 false) s5 fun l8 s9 => OkC (some 2) g6 (StQ (awr s9 l8 0 g6) fun s10 => ACalls Tryz.prog F_orset_Set_there [(.ptr a0)] s10 fun v11 s12 => ∃ b13 : Bool, v11 = .bool b13 ∧ (bsplit b13 (bsplit (!b7) (AsSome a0 fun l14 o15 => RdP (rd1 s12 l14 o15) fun p16 => RdL (rdc s12 l1 0 2) fun g17 => ACalls Tryz.prog F_ctx_Ctx_Has [(.ptr p16), (.agg g17)] s12 fun v18 s19 => ∃ b20 : Bool, v18 = .bool b20 ∧ (R (.bool b20) s19)) (R (.bool false) s12)) (R (.bool false) s12)))))
def A_orset_Set_Gone : QA := (.seq .leaf (.seq .leaf (.seq .calm .leaf)))
theorem q_orset_Set_Gone (a0 : Option (Nat × Nat)) (a1 : List AV) (s : AS) (R : AV → AS → Prop) (h : Q_orset_Set_Gone a0 a1 s R) : ACalls Tryz.prog F_orset_Set_Gone [(.ptr a0), (.agg a1)] s R :=
 ACalls.q (n := 27) (rs := [.tmp 4]) (A := A_orset_Set_Gone) hT hmx Tryz.func21 (by kernel_rfl) rfl rfl rfl (by kernel_rfl) (by kernel_rfl) h
def Q_orset_MayKey (a0 : List AV) (s : AS) (R : AV → AS → Prop) : Prop :=
 One1 a0 (NewQ (.cells a0 0 false) s fun l1 s2 => RdS (rd1 s2 l1 0) fun x3 => ACalls Tryz.prog F_orset_name [(.str x3)] s2 fun v4 s5 => ∃ b6 : Bool, v4 = .bool b6 ∧ (bsplit b6 (RdS (rd1 s5 l1 1) fun x7 => ACalls Tryz.prog F_orset_name [(.str x7)] s5 fun v8 s9 => ∃ b10 : Bool, v8 = .bool b10 ∧ (R (.bool b10) s9)) (R (.bool false) s5)))
def A_orset_MayKey : QA := (.seq .leaf (.seq .leaf .leaf))
theorem q_orset_MayKey (a0 : List AV) (s : AS) (R : AV → AS → Prop) (h : Q_orset_MayKey a0 s R) : ACalls Tryz.prog F_orset_MayKey [(.agg a0)] s R :=
 ACalls.q (n := 11) (rs := [.tmp 2]) (A := A_orset_MayKey) hT hmx Tryz.func28 (by kernel_rfl) rfl rfl rfl (by kernel_rfl) (by kernel_rfl) h
def Q_orset_Set_dots (a0 : Option (Nat × Nat)) (a1 : AV) (s : AS) (R : AV → AS → Prop) : Prop :=
 AsSome a0 fun l1 o2 => RdM (rd1 s l1 (o2 + 1)) fun r3 => ACalls Tryz.prog F_maps_Keys__m_Dot_Key_Dot_Key [(.map r3)] s fun v4 s5 => ACalls Tryz.prog F_slices_SortedFunc__Dot [v4, (.func F_orset_order [])] s5 fun v6 s7 => RdI .i64 (alenB T Y_s_Dot v6 s7) fun n8 => LoopQ fun I9 m10 => I9 m10 [(.slc none 0 0 true), (.int .i64 0)] s7 ∧
 ∀ m11 : Nat, ∀ v12 : AV, ∀ n13 : Int, ∀ s14 : AS, I9 m11 [v12, (.int .i64 n13)] s14 →
 bsplit (decide ((n13 : Int) < n8))
 (IxQ (aindexAddr T Y_s_Dot v6 (.int .i64 n13)) fun l15 o16 => RdL (rdc s14 l15 o16 2) fun g17 => NewQ (.cells [.int .i64 0, .int .u64 0] 0 false) s14 fun l18 s19 => OkC (some 2) g17 (StQ (awr s19 l18 0 g17) fun s20 => RdL (rdc s20 l18 0 2) fun g21 => AsSome a0 fun l22 o23 => RdM (rd1 s20 l22 (o23 + 1)) fun r24 => RdL (rdc s20 l18 0 2) fun g25 => RdG (alookup T Y_m_Dot_Key (.map r24) (.agg g25) false s20) fun g26 => ACallV Tryz.prog a1 [(.agg g21), (.agg g26)] s20 fun v27 s28 => ∃ b29 : Bool, v27 = .bool b29 ∧ (bsplit b29
 (RdL (rdc s28 l18 0 2) fun g30 => RdL (absl T Y_s_Dot 1 [(0, (.agg g30))]) fun g31 => NewQ (.cells g31 0 false) s28 fun l32 s33 => Bd2 (aappend T Y_s_Dot Y_s_Dot v12 (.slc (some (l32, 0)) 1 1 true) s33) fun v34 s35 => ∃ m', m' < m11 ∧ I9 m' [v34, (.int .i64 (IntKind.wrap .i64 (n13 + 1)))] s35)
 (∃ m', m' < m11 ∧ I9 m' [v12, (.int .i64 (IntKind.wrap .i64 (n13 + 1)))] s28))))
 (R v12 s14)
def A_orset_Set_dots : QA := (.seq .leaf (.seq .leaf (.seq (.seq .leaf (.wrap (.loop [(5, .any), (15, .int .i64)] [(5, 5), (7, 7), (15, 32)] (.seq .leaf (.seq (.cond .leaf .leaf) (.seq (.wrap (.seq .leaf (.seq (.draw 8) (.cond .leaf .leaf)))) .leaf)))))) (.seq .leaf .leaf))))
theorem q_orset_Set_dots (a0 : Option (Nat × Nat)) (a1 : AV) (s : AS) (R : AV → AS → Prop) (h : Q_orset_Set_dots a0 a1 s R) : ACalls Tryz.prog F_orset_Set_dots [(.ptr a0), a1] s R :=
 ACalls.q (n := 34) (rs := [.tmp 4]) (A := A_orset_Set_dots) hT hmx Tryz.func80 (by kernel_rfl) rfl rfl rfl (by kernel_rfl) (by kernel_rfl) h
def Q_orset_Set_Add_1 (a0 : List AV) (a1 : List AV) (c0 : Option (Nat × Nat)) (s : AS) (R : AV → AS → Prop) : Prop :=
 One1 a0 (NewQ (.cells a0 0 false) s fun l1 s2 => One1 a1 (NewQ (.cells a1 0 false) s2 fun l3 s4 => RdL (rdc s4 l3 0 2) fun g5 => AsSome c0 fun l6 o7 => RdL (rdc s4 l6 o7 2) fun g8 => RdO (aeq T 100 Y_Key (.agg g5) (.agg g8)) fun b9 => R (.bool b9) s4))
def A_orset_Set_Add_1 : QA := (.seq .leaf (.seq .leaf .leaf))
theorem q_orset_Set_Add_1 (a0 : List AV) (a1 : List AV) (c0 : Option (Nat × Nat)) (s : AS) (R : AV → AS → Prop) (h : Q_orset_Set_Add_1 a0 a1 c0 s R) : ACalls Tryz.prog F_orset_Set_Add_1 [(.agg a0), (.agg a1), (.ptr c0)] s R :=
 ACalls.q (n := 9) (rs := [.tmp 5]) (A := A_orset_Set_Add_1) hT hmx Tryz.func129 (by kernel_rfl) rfl rfl rfl (by kernel_rfl) (by kernel_rfl) h
def Q_orset_gone (a0 : AV) (s : AS) (R : AV → AS → Prop) : Prop :=
 RdI .i64 (alenB T Y_s_Dot a0 s) fun n1 => LoopQ fun I2 m3 => I2 m3 [(.slc none 0 0 true), (.int .i64 0)] s ∧
 ∀ m4 : Nat, ∀ v5 : AV, ∀ n6 : Int, ∀ s7 : AS, I2 m4 [v5, (.int .i64 n6)] s7 →
 bsplit (decide ((n6 : Int) < n1))
 (IxQ (aindexAddr T Y_s_Dot a0 (.int .i64 n6)) fun l8 o9 => RdL (rdc s7 l8 o9 2) fun g10 => NewQ (.cells [.int .i64 0, .int .u64 0] 0 false) s7 fun l11 s12 => OkC (some 2) g10 (StQ (awr s12 l11 0 g10) fun s13 => RdL (rdc s13 l11 0 2) fun g14 => RdG (abuild T Y_Item [(0, (.agg g14)), (2, (.bool true))]) fun g15 => RdL (absl T Y_s_Item 1 [(0, (.agg g15))]) fun g16 => NewQ (.cells g16 0 false) s13 fun l17 s18 => Bd2 (aappend T Y_s_Item Y_s_Item v5 (.slc (some (l17, 0)) 1 1 true) s18) fun v19 s20 => ∃ m', m' < m4 ∧ I2 m' [v19, (.int .i64 (IntKind.wrap .i64 (n6 + 1)))] s20))
 (R v5 s7)
def A_orset_gone : QA := (.seq .leaf (.seq .leaf (.seq (.seq .leaf (.wrap (.loop [(3, .any), (8, .int .i64)] [(3, 3), (5, 5), (8, 17)] (.seq .leaf (.seq (.cond .leaf .leaf) (.seq (.wrap (.seq .leaf .leaf)) .leaf)))))) (.seq .leaf .leaf))))
theorem q_orset_gone (a0 : AV) (s : AS) (R : AV → AS → Prop) (h : Q_orset_gone a0 s R) : ACalls Tryz.prog F_orset_gone [a0] s R :=
 ACalls.q (n := 19) (rs := [.tmp 2]) (A := A_orset_gone) hT hmx Tryz.func92 (by kernel_rfl) rfl rfl rfl (by kernel_rfl) (by kernel_rfl) h
def Q_slices_ContainsFunc__s_Item_Item (a0 : AV) (a1 : AV) (s : AS) (R : AV → AS → Prop) : Prop :=
 ACalls Tryz.prog F_slices_IndexFunc__s_Item_Item [a0, a1] s fun v1 s2 => ∃ n3 : Int, v1 = .int .i64 n3 ∧ (R (.bool (decide ((n3 : Int) ≥ 0))) s2)
def A_slices_ContainsFunc__s_Item_Item : QA := (.seq .leaf (.seq .leaf .leaf))
theorem q_slices_ContainsFunc__s_Item_Item (a0 : AV) (a1 : AV) (s : AS) (R : AV → AS → Prop) (h : Q_slices_ContainsFunc__s_Item_Item a0 a1 s R) : ACalls Tryz.prog F_slices_ContainsFunc__s_Item_Item [a0, a1] s R :=
 ACalls.q (n := 9) (rs := [.tmp 4]) (A := A_slices_ContainsFunc__s_Item_Item) hT hmx Tryz.func62 (by kernel_rfl) rfl rfl rfl (by kernel_rfl) (by kernel_rfl) h
def Q_orset_Set_See_1 (a0 : List AV) (s : AS) (R : AV → AS → Prop) : Prop :=
 One1 a0 (NewQ (.cells a0 0 false) s fun l1 s2 => RdL (rdc s2 l1 0 5) fun g3 => ACalls Tryz.prog F_orset_May [(.agg g3)] s2 fun v4 s5 => ∃ b6 : Bool, v4 = .bool b6 ∧ (R (.bool (!b6)) s5))
def A_orset_Set_See_1 : QA := (.seq .leaf (.seq .leaf .leaf))
theorem q_orset_Set_See_1 (a0 : List AV) (s : AS) (R : AV → AS → Prop) (h : Q_orset_Set_See_1 a0 s R) : ACalls Tryz.prog F_orset_Set_See_1 [(.agg a0)] s R :=
 ACalls.q (n := 6) (rs := [.tmp 2]) (A := A_orset_Set_See_1) hT hmx Tryz.func63 (by kernel_rfl) rfl rfl rfl (by kernel_rfl) (by kernel_rfl) h
def Q_orset_May (a0 : List AV) (s : AS) (R : AV → AS → Prop) : Prop :=
 One1 a0 (NewQ (.cells a0 0 false) s fun l1 s2 => RdB (rd1 s2 l1 4) fun b3 => bsplit b3
 (RdL (rdc s2 l1 0 2) fun g4 => ACalls Tryz.prog F_ctx_May [(.agg g4)] s2 fun v5 s6 => ∃ b7 : Bool, v5 = .bool b7 ∧ (bsplit b7 (RdL (rdc s6 l1 2 2) fun g8 => RdG (abuild T Y_Key []) fun g9 => RdO (aeq T 100 Y_Key (.agg g8) (.agg g9)) fun b10 => R (.bool b10) s6) (R (.bool false) s6)))
 (RdL (rdc s2 l1 0 2) fun g11 => ACalls Tryz.prog F_ctx_May [(.agg g11)] s2 fun v12 s13 => ∃ b14 : Bool, v12 = .bool b14 ∧ (bsplit b14 (RdL (rdc s13 l1 2 2) fun g15 => ACalls Tryz.prog F_orset_MayKey [(.agg g15)] s13 fun v16 s17 => ∃ b18 : Bool, v16 = .bool b18 ∧ (R (.bool b18) s17)) (R (.bool false) s13))))
def A_orset_May : QA := (.seq .leaf (.seq (.seq .leaf (.cond (.seq .leaf .leaf) .leaf)) (.seq .leaf .leaf)))
theorem q_orset_May (a0 : List AV) (s : AS) (R : AV → AS → Prop) (h : Q_orset_May a0 s R) : ACalls Tryz.prog F_orset_May [(.agg a0)] s R :=
 ACalls.q (n := 22) (rs := [.tmp 2]) (A := A_orset_May) hT hmx Tryz.func64 (by kernel_rfl) rfl rfl rfl (by kernel_rfl) (by kernel_rfl) h
def Q_orset_Set_Copy (a0 : Option (Nat × Nat)) (s : AS) (R : AV → AS → Prop) : Prop :=
 ACalls Tryz.prog F_orset_Set_there [(.ptr a0)] s fun v1 s2 => ∃ b3 : Bool, v1 = .bool b3 ∧ (bsplit (!b3)
 (R (.ptr none) s2)
 (DrawQ fun S V => AsSome a0 fun l4 o5 => RdP (rd1 s2 l4 o5) fun p6 => (∀ s7 : AS, Ext s2 s7 → WFs s7 → (True) → ACalls Tryz.prog F_ctx_Ctx_Copy [(.ptr p6)] s7 fun v8 s9 => ∃ p10 : Option (Nat × Nat), v8 = .ptr p10 ∧ ((Ext s7 s9 ∧ S 4 [(.func F_ctx_Ctx_Copy []), (.ptr p6)] (.ptr p10) s9 ∧ V 4 [(.func F_ctx_Ctx_Copy []), (.ptr p6)] (.ptr p10)))) ∧ (∃ v, V 4 [(.func F_ctx_Ctx_Copy []), (.ptr p6)] v) ∧ ∀ v11 : AV, V 4 [(.func F_ctx_Ctx_Copy []), (.ptr p6)] v11 → ∃ p12 : Option (Nat × Nat), v11 = .ptr p12 ∧ (AsSome a0 fun l13 o14 => RdM (rd1 s2 l13 (o14 + 1)) fun r15 => (∀ s16 : AS, Ext s2 s16 → WFs s16 → (S 4 [(.func F_ctx_Ctx_Copy []), (.ptr p6)] (.ptr p12) s16 ∧ True) → ACalls Tryz.prog F_maps_Clone__m_Dot_Key_Dot_Key [(.map r15)] s16 fun v17 s18 => ∃ r19 : Option Nat, v17 = .map r19 ∧ ((Ext s16 s18 ∧ S 9 [(.func F_maps_Clone__m_Dot_Key_Dot_Key []), (.map r15)] (.map r19) s18 ∧ V 9 [(.func F_maps_Clone__m_Dot_Key_Dot_Key []), (.map r15)] (.map r19)))) ∧ (∃ v, V 9 [(.func F_maps_Clone__m_Dot_Key_Dot_Key []), (.map r15)] v) ∧ ∀ v20 : AV, V 9 [(.func F_maps_Clone__m_Dot_Key_Dot_Key []), (.map r15)] v20 → ∃ r21 : Option Nat, v20 = .map r21 ∧ (AsSome a0 fun l22 o23 => RdM (rd1 s2 l22 (o23 + 2)) fun r24 => ∀ s25 : AS, Ext s2 s25 → WFs s25 → (S 4 [(.func F_ctx_Ctx_Copy []), (.ptr p6)] (.ptr p12) s25 ∧ (S 9 [(.func F_maps_Clone__m_Dot_Key_Dot_Key []), (.map r15)] (.map r21) s25 ∧ True)) → ACalls Tryz.prog F_maps_Clone__m_Dot_struct_is_bool__Dot_struct_is_bool [(.map r24)] s25 fun v27 s28 => ∃ r29 : Option Nat, v27 = .map r29 ∧ (RdG (abuild T Y_orset_Set [(0, (.ptr p12)), (1, (.map r21)), (2, (.map r29))]) fun g30 => One1 g30 (NewQ (.cells g30 0 false) s28 fun l31 s32 => R (.ptr (some (l31, 0))) s32))))))
def A_orset_Set_Copy : QA := (.seq .leaf (.seq (.seq .leaf (.cond (.seq .leaf .leaf) .leaf)) (.seq (.drawH 14 [[], [], [], [], [], [], [], [], [], [4], [], [], [], []] [4, 9]) .leaf)))
theorem q_orset_Set_Copy (a0 : Option (Nat × Nat)) (s : AS) (R : AV → AS → Prop) (h : Q_orset_Set_Copy a0 s R) : ACalls Tryz.prog F_orset_Set_Copy [(.ptr a0)] s R :=
 ACalls.q (n := 23) (rs := [.tmp 2]) (A := A_orset_Set_Copy) hT hmx Tryz.func40 (by kernel_rfl) rfl rfl rfl (by kernel_rfl) (by kernel_rfl) h
def Q_orset_Set_see (a0 : Option (Nat × Nat)) (a1 : List AV) (s : AS) (R : AV → AS → Prop) : Prop :=
 One1 a1 (NewQ (.cells a1 0 false) s fun l1 s2 => AsSome a0 fun l3 o4 => RdM (rd1 s2 l3 (o4 + 1)) fun r5 => RdL (rdc s2 l1 0 2) fun g6 => ∃ g7 : List AV, ∃ b8 : Bool, alookup T Y_m_Dot_Key (.map r5) (.agg g6) true s2 = some (.tup [(.agg g7), (.bool b8)]) ∧ (NewQ (.cells [.str [], .str []] 0 false) s2 fun l9 s10 => OkC (some 2) g7 (StQ (awr s10 l9 0 g7) fun s11 => JoinQ fun J12 =>
 (∀ b13 : Bool, ∀ s14 : AS, J12 [(.bool b13)] s14 →
 bsplit b13
 (AsSome a0 fun l15 o16 => RdM (rd1 s14 l15 (o16 + 1)) fun r17 => RdL (rdc s14 l1 0 2) fun g18 => StQ (adelete T Y_m_Dot_Key (.map r17) (.agg g18) s14) fun s19 => AsSome a0 fun l20 o21 => RdM (rd1 s19 l20 (o21 + 2)) fun r22 => RdL (rdc s19 l1 0 2) fun g23 => RdG (abuild T Y_struct__is_bool__ [(0, (.bool true))]) fun g24 => StQ (amapUpdate T Y_m_Dot_struct__is_bool__ (.map r22) (.agg g23) (.agg g24) s19) fun s25 => R (.tup [(.bool true), (.int .i64 0)]) s25)
 (AsSome a0 fun l26 o27 => RdP (rd1 s14 l26 o27) fun p28 => RdL (rdc s14 l1 0 2) fun g29 => ACalls Tryz.prog F_ctx_Ctx_Add [(.ptr p28), (.agg g29)] s14 fun v30 s31 => ∃ b32 : Bool, ∃ n33 : Int, v30 = .tup [(.bool b32), (.int .i64 n33)] ∧ (JoinQ fun J34 =>
 (∀ b35 : Bool, ∀ s36 : AS, J34 [(.bool b35)] s36 →
 bsplit b35
 (R (.tup [(.bool false), (.int .i64 n33)]) s36)
 (RdB (rd1 s36 l1 4) fun b37 => bsplit b37
 (AsSome a0 fun l38 o39 => RdM (rd1 s36 l38 (o39 + 2)) fun r40 => RdL (rdc s36 l1 0 2) fun g41 => RdG (abuild T Y_struct__is_bool__ [(0, (.bool true))]) fun g42 => StQ (amapUpdate T Y_m_Dot_struct__is_bool__ (.map r40) (.agg g41) (.agg g42) s36) fun s43 => R (.tup [(.bool true), (.int .i64 0)]) s43)
 (AsSome a0 fun l44 o45 => RdM (rd1 s36 l44 (o45 + 1)) fun r46 => RdL (rdc s36 l1 0 2) fun g47 => RdL (rdc s36 l1 2 2) fun g48 => StQ (amapUpdate T Y_m_Dot_Key (.map r46) (.agg g47) (.agg g48) s36) fun s49 => R (.tup [(.bool true), (.int .i64 0)]) s49))) ∧
 (bsplit ((n33 : Int) != 0) (J34 [(.bool true)] s31) (J34 [(.bool (!b32))] s31))))) ∧
 (bsplit b8 (RdB (rd1 s11 l1 4) fun b50 => J12 [(.bool b50)] s11) (J12 [(.bool false)] s11)))))
def A_orset_Set_see : QA := (.seq .leaf (.seq .calm (.seq (.join [(24, .bool)] [(20, 24)] .leaf (.cond (.seq (.draw 6) (.seq (.draw 7) (.seq .leaf .leaf))) .leaf)) (.seq .calm (.seq (.wrap (.join [(56, .bool)] [(56, 62)] .leaf (.cond (.seq .leaf .leaf) (.seq .leaf (.cond (.draw 7) (.draw 8)))))) (.seq .leaf .leaf))))))
theorem q_orset_Set_see (a0 : Option (Nat × Nat)) (a1 : List AV) (s : AS) (R : AV → AS → Prop) (h : Q_orset_Set_see a0 a1 s R) : ACalls Tryz.prog F_orset_Set_see [(.ptr a0), (.agg a1)] s R :=
 ACalls.q (n := 74) (rs := [.tmp 4, .tmp 5]) (A := A_orset_Set_see) hT hmx Tryz.func65 (by kernel_rfl) rfl rfl rfl (by kernel_rfl) (by kernel_rfl) h
def Q_orset_Set_Remove_1 (a0 : List AV) (a1 : List AV) (c0 : Option (Nat × Nat)) (s : AS) (R : AV → AS → Prop) : Prop :=
 One1 a0 (NewQ (.cells a0 0 false) s fun l1 s2 => One1 a1 (NewQ (.cells a1 0 false) s2 fun l3 s4 => RdL (rdc s4 l3 0 2) fun g5 => AsSome c0 fun l6 o7 => RdL (rdc s4 l6 o7 2) fun g8 => RdO (aeq T 100 Y_Key (.agg g5) (.agg g8)) fun b9 => R (.bool b9) s4))
def A_orset_Set_Remove_1 : QA := (.seq .leaf (.seq .leaf .leaf))
theorem q_orset_Set_Remove_1 (a0 : List AV) (a1 : List AV) (c0 : Option (Nat × Nat)) (s : AS) (R : AV → AS → Prop) (h : Q_orset_Set_Remove_1 a0 a1 c0 s R) : ACalls Tryz.prog F_orset_Set_Remove_1 [(.agg a0), (.agg a1), (.ptr c0)] s R :=
 ACalls.q (n := 9) (rs := [.tmp 5]) (A := A_orset_Set_Remove_1) hT hmx Tryz.func130 (by kernel_rfl) rfl rfl rfl (by kernel_rfl) (by kernel_rfl) h
def Q_orset_Set_Has_1 (a0 : List AV) (a1 : List AV) (c0 : Option (Nat × Nat)) (s : AS) (R : AV → AS → Prop) : Prop :=
 One1 a0 (NewQ (.cells a0 0 false) s fun l1 s2 => One1 a1 (NewQ (.cells a1 0 false) s2 fun l3 s4 => RdL (rdc s4 l3 0 2) fun g5 => AsSome c0 fun l6 o7 => RdL (rdc s4 l6 o7 2) fun g8 => RdO (aeq T 100 Y_Key (.agg g5) (.agg g8)) fun b9 => R (.bool b9) s4))
def A_orset_Set_Has_1 : QA := (.seq .leaf (.seq .leaf .leaf))
theorem q_orset_Set_Has_1 (a0 : List AV) (a1 : List AV) (c0 : Option (Nat × Nat)) (s : AS) (R : AV → AS → Prop) (h : Q_orset_Set_Has_1 a0 a1 c0 s R) : ACalls Tryz.prog F_orset_Set_Has_1 [(.agg a0), (.agg a1), (.ptr c0)] s R :=
 ACalls.q (n := 9) (rs := [.tmp 5]) (A := A_orset_Set_Has_1) hT hmx Tryz.func81 (by kernel_rfl) rfl rfl rfl (by kernel_rfl) (by kernel_rfl) h
def Q_orset_Set_Keys_1 (a0 : List AV) (a1 : List AV) (s : AS) (R : AV → AS → Prop) : Prop :=
 One1 a0 (NewQ (.cells a0 0 false) s fun l1 s2 => One1 a1 (NewQ (.cells a1 0 false) s2 fun l3 s4 => DrawQ fun S V => RdS (rd1 s4 l1 0) fun x5 => RdS (rd1 s4 l3 0) fun x6 => (∀ s7 : AS, Ext s4 s7 → WFs s7 → (True) → ACalls Tryz.prog F_cmp_Compare__string [(.str x5), (.str x6)] s7 fun v8 s9 => ∃ n10 : Int, v8 = .int .i64 n10 ∧ ((Ext s7 s9 ∧ S 4 [(.func F_cmp_Compare__string []), (.str x5), (.str x6)] (.int .i64 n10) s9 ∧ V 4 [(.func F_cmp_Compare__string []), (.str x5), (.str x6)] (.int .i64 n10)))) ∧ (∃ v, V 4 [(.func F_cmp_Compare__string []), (.str x5), (.str x6)] v) ∧ ∀ v11 : AV, V 4 [(.func F_cmp_Compare__string []), (.str x5), (.str x6)] v11 → ∃ n12 : Int, v11 = .int .i64 n12 ∧ (RdS (rd1 s4 l1 1) fun x13 => RdS (rd1 s4 l3 1) fun x14 => ∀ s15 : AS, Ext s4 s15 → WFs s15 → (S 4 [(.func F_cmp_Compare__string []), (.str x5), (.str x6)] (.int .i64 n12) s15 ∧ True) → ACalls Tryz.prog F_cmp_Compare__string [(.str x13), (.str x14)] s15 fun v17 s18 => ∃ n19 : Int, v17 = .int .i64 n19 ∧ (RdL (absl T Y_s_int 2 [(0, (.int .i64 n12)), (1, (.int .i64 n19))]) fun g20 => NewQ (.cells g20 0 false) s18 fun l21 s22 => ACalls Tryz.prog F_cmp_Or__int [(.slc (some (l21, 0)) 2 2 true)] s22 fun v23 s24 => ∃ n25 : Int, v23 = .int .i64 n25 ∧ (R (.int .i64 n25) s24)))))
def A_orset_Set_Keys_1 : QA := (.seq .leaf (.seq (.drawH 9 [[], [], [], [], [], [], [], [], []] [4]) .leaf))
theorem q_orset_Set_Keys_1 (a0 : List AV) (a1 : List AV) (s : AS) (R : AV → AS → Prop) (h : Q_orset_Set_Keys_1 a0 a1 s R) : ACalls Tryz.prog F_orset_Set_Keys_1 [(.agg a0), (.agg a1)] s R :=
 ACalls.q (n := 17) (rs := [.tmp 4]) (A := A_orset_Set_Keys_1) hT hmx Tryz.func72 (by kernel_rfl) rfl rfl rfl (by kernel_rfl) (by kernel_rfl) h
def Q_cmp_Compare__string (a0 : List UInt8) (a1 : List UInt8) (s : AS) (R : AV → AS → Prop) : Prop :=
 ACalls Tryz.prog F_cmp_isNaN__string [(.str a0)] s fun v1 s2 => ∃ b3 : Bool, v1 = .bool b3 ∧ (ACalls Tryz.prog F_cmp_isNaN__string [(.str a1)] s2 fun v4 s5 => ∃ b6 : Bool, v4 = .bool b6 ∧ (bsplit b3
 (bsplit b6
 (R (.int .i64 0) s5)
 (R (.int .i64 (-1)) s5))
 (bsplit b6
 (R (.int .i64 1) s5)
 (bsplit (bytesLt a0 a1)
 (R (.int .i64 (-1)) s5)
 (bsplit (!(bytesLt a0 a1 || (a0 : List UInt8) == a1))
 (R (.int .i64 1) s5)
 (R (.int .i64 0) s5))))))
def A_cmp_Compare__string : QA := (.seq .leaf (.seq .leaf (.seq .leaf (.seq (.seq .leaf (.cond (.seq (.seq .leaf (.cond (.seq .leaf .leaf) .leaf)) (.seq .leaf .leaf)) .leaf)) (.seq (.seq .leaf (.cond (.seq .leaf .leaf) .leaf)) (.seq (.seq .leaf (.cond (.seq .leaf .leaf) .leaf)) (.seq (.seq .leaf (.cond (.seq .leaf .leaf) .leaf)) (.seq .leaf .leaf))))))))
theorem q_cmp_Compare__string (a0 : List UInt8) (a1 : List UInt8) (s : AS) (R : AV → AS → Prop) (h : Q_cmp_Compare__string a0 a1 s R) : ACalls Tryz.prog F_cmp_Compare__string [(.str a0), (.str a1)] s R :=
 ACalls.q (n := 20) (rs := [.tmp 4]) (A := A_cmp_Compare__string) hT hmx Tryz.func74 (by kernel_rfl) rfl rfl rfl (by kernel_rfl) (by kernel_rfl) h
def Q_slices_IndexFunc__s_Item_Item (a0 : AV) (a1 : AV) (s : AS) (R : AV → AS → Prop) : Prop :=
 RdI .i64 (alenB T Y_s_Item a0 s) fun n1 => LoopQ fun I2 m3 => I2 m3 [(.int .i64 0)] s ∧
 ∀ m4 : Nat, ∀ n5 : Int, ∀ s6 : AS, I2 m4 [(.int .i64 n5)] s6 →
 bsplit (decide ((n5 : Int) < n1))
 (IxQ (aindexAddr T Y_s_Item a0 (.int .i64 n5)) fun l7 o8 => RdL (rdc s6 l7 o8 5) fun g9 => ACallV Tryz.prog a1 [(.agg g9)] s6 fun v10 s11 => ∃ b12 : Bool, v10 = .bool b12 ∧ (bsplit b12
 (R (.int .i64 n5) s11)
 (∃ m', m' < m4 ∧ I2 m' [(.int .i64 (IntKind.wrap .i64 (n5 + 1)))] s11)))
 (R (.int .i64 (-1)) s6)
def A_slices_IndexFunc__s_Item_Item : QA := (.seq .leaf (.seq (.seq .leaf (.wrap (.loop [(8, .int .i64)] [(4, 5), (8, 18)] (.seq .leaf (.seq (.cond .leaf .leaf) (.seq (.wrap (.seq .leaf (.seq .leaf (.cond (.seq .leaf .leaf) .leaf)))) .leaf)))))) (.seq .leaf .leaf)))
theorem q_slices_IndexFunc__s_Item_Item (a0 : AV) (a1 : AV) (s : AS) (R : AV → AS → Prop) (h : Q_slices_IndexFunc__s_Item_Item a0 a1 s R) : ACalls Tryz.prog F_slices_IndexFunc__s_Item_Item [a0, a1] s R :=
 ACalls.q (n := 19) (rs := [.tmp 4]) (A := A_slices_IndexFunc__s_Item_Item) hT hmx Tryz.func134 (by kernel_rfl) rfl rfl rfl (by kernel_rfl) (by kernel_rfl) h
def Q_orset_Set_Items_1 (a0 : List AV) (a1 : List AV) (s : AS) (R : AV → AS → Prop) : Prop :=
 One1 a0 (NewQ (.cells a0 0 false) s fun l1 s2 => One1 a1 (NewQ (.cells a1 0 false) s2 fun l3 s4 => RdL (rdc s4 l1 0 2) fun g5 => RdL (rdc s4 l3 0 2) fun g6 => ACalls Tryz.prog F_orset_order [(.agg g5), (.agg g6)] s4 fun v7 s8 => ∃ n9 : Int, v7 = .int .i64 n9 ∧ (R (.int .i64 n9) s8)))
def A_orset_Set_Items_1 : QA := (.seq .leaf (.seq .leaf .leaf))
theorem q_orset_Set_Items_1 (a0 : List AV) (a1 : List AV) (s : AS) (R : AV → AS → Prop) (h : Q_orset_Set_Items_1 a0 a1 s R) : ACalls Tryz.prog F_orset_Set_Items_1 [(.agg a0), (.agg a1)] s R :=
 ACalls.q (n := 10) (rs := [.tmp 4]) (A := A_orset_Set_Items_1) hT hmx Tryz.func94 (by kernel_rfl) rfl rfl rfl (by kernel_rfl) (by kernel_rfl) h
def Q_slices_Collect__Dot (a0 : AV) (s : AS) (R : AV → AS → Prop) : Prop :=
 ACalls Tryz.prog F_slices_AppendSeq__s_Dot_Dot [(.slc none 0 0 true), a0] s fun v1 s2 => R v1 s2
def A_slices_Collect__Dot : QA := (.seq .leaf (.seq .leaf .leaf))
theorem q_slices_Collect__Dot (a0 : AV) (s : AS) (R : AV → AS → Prop) (h : Q_slices_Collect__Dot a0 s R) : ACalls Tryz.prog F_slices_Collect__Dot [a0] s R :=
 ACalls.q (n := 5) (rs := [.tmp 2]) (A := A_slices_Collect__Dot) hT hmx Tryz.func141 (by kernel_rfl) rfl rfl rfl (by kernel_rfl) (by kernel_rfl) h
def Q_orset_name (a0 : List UInt8) (s : AS) (R : AV → AS → Prop) : Prop :=
 RdI .i64 (alenB T Y_string (.str a0) s) fun n1 => bsplit (decide ((n1 : Int) ≥ 1)) (RdI .i64 (alenB T Y_string (.str a0) s) fun n2 => R (.bool (decide ((n2 : Int) ≤ 32))) s) (R (.bool false) s)
def A_orset_name : QA := (.seq .leaf (.seq .leaf .leaf))
theorem q_orset_name (a0 : List UInt8) (s : AS) (R : AV → AS → Prop) (h : Q_orset_name a0 s R) : ACalls Tryz.prog F_orset_name [(.str a0)] s R :=
 ACalls.q (n := 11) (rs := [.tmp 2]) (A := A_orset_name) hT hmx Tryz.func82 (by kernel_rfl) rfl rfl rfl (by kernel_rfl) (by kernel_rfl) h
def Q_maps_Keys__m_Dot_Key_Dot_Key (a0 : Option Nat) (s : AS) (R : AV → AS → Prop) : Prop :=
 NewQ (.cells [(.map a0)] 0 false) s fun l1 s2 => R (.func F_maps_Keys__m_Dot_Key_Dot_Key_1 [(.ptr (some (l1, 0)))]) s2
def A_maps_Keys__m_Dot_Key_Dot_Key : QA := (.seq .leaf (.seq .leaf .leaf))
theorem q_maps_Keys__m_Dot_Key_Dot_Key (a0 : Option Nat) (s : AS) (R : AV → AS → Prop) (h : Q_maps_Keys__m_Dot_Key_Dot_Key a0 s R) : ACalls Tryz.prog F_maps_Keys__m_Dot_Key_Dot_Key [(.map a0)] s R :=
 ACalls.q (n := 4) (rs := [.tmp 2]) (A := A_maps_Keys__m_Dot_Key_Dot_Key) hT hmx Tryz.func140 (by kernel_rfl) rfl rfl rfl (by kernel_rfl) (by kernel_rfl) h
def Q_cmp_isNaN__string (a0 : List UInt8) (s : AS) (R : AV → AS → Prop) : Prop :=
 R (.bool (!((a0 : List UInt8) == a0))) s
def A_cmp_isNaN__string : QA := (.seq .leaf (.seq .leaf .leaf))
theorem q_cmp_isNaN__string (a0 : List UInt8) (s : AS) (R : AV → AS → Prop) (h : Q_cmp_isNaN__string a0 s R) : ACalls Tryz.prog F_cmp_isNaN__string [(.str a0)] s R :=
 ACalls.q (n := 6) (rs := [.tmp 2]) (A := A_cmp_isNaN__string) hT hmx Tryz.func138 (by kernel_rfl) rfl rfl rfl (by kernel_rfl) (by kernel_rfl) h
def Q_orset_order (a0 : List AV) (a1 : List AV) (s : AS) (R : AV → AS → Prop) : Prop :=
 One1 a0 (NewQ (.cells a0 0 false) s fun l1 s2 => One1 a1 (NewQ (.cells a1 0 false) s2 fun l3 s4 => DrawQ fun S V => RdI .i64 (rd1 s4 l1 0) fun n5 => RdI .i64 (rd1 s4 l3 0) fun n6 => (∀ s7 : AS, Ext s4 s7 → WFs s7 → (True) → ACalls Tryz.prog F_cmp_Compare__int [(.int .i64 n5), (.int .i64 n6)] s7 fun v8 s9 => ∃ n10 : Int, v8 = .int .i64 n10 ∧ ((Ext s7 s9 ∧ S 4 [(.func F_cmp_Compare__int []), (.int .i64 n5), (.int .i64 n6)] (.int .i64 n10) s9 ∧ V 4 [(.func F_cmp_Compare__int []), (.int .i64 n5), (.int .i64 n6)] (.int .i64 n10)))) ∧ (∃ v, V 4 [(.func F_cmp_Compare__int []), (.int .i64 n5), (.int .i64 n6)] v) ∧ ∀ v11 : AV, V 4 [(.func F_cmp_Compare__int []), (.int .i64 n5), (.int .i64 n6)] v11 → ∃ n12 : Int, v11 = .int .i64 n12 ∧ (RdI .u64 (rd1 s4 l1 1) fun n13 => RdI .u64 (rd1 s4 l3 1) fun n14 => ∀ s15 : AS, Ext s4 s15 → WFs s15 → (S 4 [(.func F_cmp_Compare__int []), (.int .i64 n5), (.int .i64 n6)] (.int .i64 n12) s15 ∧ True) → ACalls Tryz.prog F_cmp_Compare__uint64 [(.int .u64 n13), (.int .u64 n14)] s15 fun v17 s18 => ∃ n19 : Int, v17 = .int .i64 n19 ∧ (RdL (absl T Y_s_int 2 [(0, (.int .i64 n12)), (1, (.int .i64 n19))]) fun g20 => NewQ (.cells g20 0 false) s18 fun l21 s22 => ACalls Tryz.prog F_cmp_Or__int [(.slc (some (l21, 0)) 2 2 true)] s22 fun v23 s24 => ∃ n25 : Int, v23 = .int .i64 n25 ∧ (R (.int .i64 n25) s24)))))
def A_orset_order : QA := (.seq .leaf (.seq (.drawH 9 [[], [], [], [], [], [], [], [], []] [4]) .leaf))
theorem q_orset_order (a0 : List AV) (a1 : List AV) (s : AS) (R : AV → AS → Prop) (h : Q_orset_order a0 a1 s R) : ACalls Tryz.prog F_orset_order [(.agg a0), (.agg a1)] s R :=
 ACalls.q (n := 17) (rs := [.tmp 4]) (A := A_orset_order) hT hmx Tryz.func87 (by kernel_rfl) rfl rfl rfl (by kernel_rfl) (by kernel_rfl) h
def Q_orset_Set_Tombs (a0 : Option (Nat × Nat)) (s : AS) (R : AV → AS → Prop) : Prop :=
 ACalls Tryz.prog F_orset_Set_there [(.ptr a0)] s fun v1 s2 => ∃ b3 : Bool, v1 = .bool b3 ∧ (bsplit (!b3)
 (R (.slc none 0 0 true) s2)
 (AsSome a0 fun l4 o5 => RdM (rd1 s2 l4 (o5 + 2)) fun r6 => ACalls Tryz.prog F_maps_Keys__m_Dot_struct_is_bool__Dot_struct_is_bool [(.map r6)] s2 fun v7 s8 => ACalls Tryz.prog F_slices_SortedFunc__Dot [v7, (.func F_orset_order [])] s8 fun v9 s10 => R v9 s10))
def A_orset_Set_Tombs : QA := (.seq .leaf (.seq (.seq .leaf (.cond (.seq .leaf .leaf) .leaf)) (.seq .leaf .leaf)))
theorem q_orset_Set_Tombs (a0 : Option (Nat × Nat)) (s : AS) (R : AV → AS → Prop) (h : Q_orset_Set_Tombs a0 s R) : ACalls Tryz.prog F_orset_Set_Tombs [(.ptr a0)] s R :=
 ACalls.q (n := 12) (rs := [.tmp 2]) (A := A_orset_Set_Tombs) hT hmx Tryz.func37 (by kernel_rfl) rfl rfl rfl (by kernel_rfl) (by kernel_rfl) h
def Q_slices_DeleteFunc__s_Item_Item (a0 : AV) (a1 : AV) (s : AS) (R : AV → AS → Prop) : Prop :=
 ACalls Tryz.prog F_slices_IndexFunc__s_Item_Item [a0, a1] s fun v1 s2 => ∃ n3 : Int, v1 = .int .i64 n3 ∧ (bsplit ((n3 : Int) == (-1))
 (R a0 s2)
 (JoinQ fun J4 =>
 (∀ n5 : Int, ∀ s6 : AS, J4 [(.int .i64 n5)] s6 →
 RdA (aslice T Y_s_Item a0 (some (.int .i64 n5)) none none) fun v7 => StQ (aclear T Y_s_Item v7 s6) fun s8 => RdA (aslice T Y_s_Item a0 none (some (.int .i64 n5)) none) fun v9 => R v9 s8) ∧
 (LoopQ fun I10 m11 => I10 m11 [(.int .i64 n3), (.int .i64 (IntKind.wrap .i64 (n3 + 1)))] s2 ∧
 ∀ m12 : Nat, ∀ n13 : Int, ∀ n14 : Int, ∀ s15 : AS, I10 m12 [(.int .i64 n13), (.int .i64 n14)] s15 →
 RdI .i64 (alenB T Y_s_Item a0 s15) fun n16 => bsplit (decide ((n14 : Int) < n16))
 (IxQ (aindexAddr T Y_s_Item a0 (.int .i64 n14)) fun l17 o18 => RdL (rdc s15 l17 o18 5) fun g19 => NewQ (.cells [.int .i64 0, .int .u64 0, .str [], .str [], .bool false] 0 false) s15 fun l20 s21 => OkC (some 5) g19 (StQ (awr s21 l20 0 g19) fun s22 => RdL (rdc s22 l20 0 5) fun g23 => ACallV Tryz.prog a1 [(.agg g23)] s22 fun v24 s25 => ∃ b26 : Bool, v24 = .bool b26 ∧ (bsplit (!b26)
 (RdL (rdc s25 l20 0 5) fun g27 => IxQ (aindexAddr T Y_s_Item a0 (.int .i64 n13)) fun l28 o29 => OkC (some 5) g27 (StQ (awr s25 l28 o29 g27) fun s30 => ∃ m', m' < m12 ∧ I10 m' [(.int .i64 (IntKind.wrap .i64 (n13 + 1))), (.int .i64 (IntKind.wrap .i64 (n14 + 1)))] s30))
 (∃ m', m' < m12 ∧ I10 m' [(.int .i64 n13), (.int .i64 (IntKind.wrap .i64 (n14 + 1)))] s25))))
 (J4 [(.int .i64 n13)] s15))))
def A_slices_DeleteFunc__s_Item_Item : QA := (.seq .leaf (.seq .leaf (.seq (.seq .leaf (.cond (.seq .leaf .leaf) .leaf)) (.join [(5, .int .i64)] [(5, 7), (14, 35)] (.seq .leaf (.wrap (.loop [(5, .int .i64), (6, .int .i64)] [(5, 7), (16, 35)] (.seq (.seq .leaf (.cond .leaf .leaf)) (.seq (.wrap (.seq .leaf (.seq .leaf (.cond (.seq .leaf .leaf) .leaf)))) .leaf))))) (.seq .leaf (.seq .leaf .leaf))))))
theorem q_slices_DeleteFunc__s_Item_Item (a0 : AV) (a1 : AV) (s : AS) (R : AV → AS → Prop) (h : Q_slices_DeleteFunc__s_Item_Item a0 a1 s R) : ACalls Tryz.prog F_slices_DeleteFunc__s_Item_Item [a0, a1] s R :=
 ACalls.q (n := 42) (rs := [.tmp 4]) (A := A_slices_DeleteFunc__s_Item_Item) hT hmx Tryz.func88 (by kernel_rfl) rfl rfl rfl (by kernel_rfl) (by kernel_rfl) h
def Q_ref07iName (a0 : List UInt8) (s : AS) (R : AV → AS → Prop) : Prop :=
 RdI .i64 (alenB T Y_string (.str a0) s) fun n1 => bsplit (decide ((n1 : Int) ≥ 1)) (RdI .i64 (alenB T Y_string (.str a0) s) fun n2 => R (.bool (decide ((n2 : Int) ≤ 32))) s) (R (.bool false) s)
def A_ref07iName : QA := (.seq .leaf (.seq .leaf .leaf))
theorem q_ref07iName (a0 : List UInt8) (s : AS) (R : AV → AS → Prop) (h : Q_ref07iName a0 s R) : ACalls Tryz.prog F_ref07iName [(.str a0)] s R :=
 ACalls.q (n := 11) (rs := [.tmp 2]) (A := A_ref07iName) hT hmx Tryz.func29 (by kernel_rfl) rfl rfl rfl (by kernel_rfl) (by kernel_rfl) h
end Go.Proofs.YtoklmpkpeanloaaGreat
end

section
namespace Go.Proofs.YtoklmpkpeanloaaGreat
open Go.Am Go.Minster2
def keyC (k : Key) : List AV := [.str k.t, .str k.d]
theorem keyC_len (k : Key) : (keyC k).length = 2 := rfl
def itemC (i : Itm) : List AV := [.int .i64 i.dot.r, .int .u64 i.dot.c, .str i.key.t, .str i.key.d, .bool i.gone]
theorem itemC_len (i : Itm) : (itemC i).length = 5 := rfl
theorem itemC_one (i : Itm) : (itemC i).all AV.one = true := rfl
end Go.Proofs.YtoklmpkpeanloaaGreat
end

section
set_option maxRecDepth 100000
set_option maxHeartbeats 4000000
namespace Go.Proofs.YtoklmpkpeanloaaGreat.SI
open Go.Am Go.Minster2 Go.Minster.SI
def oe : Go.Minster.SG.OE := ⟨Itm, Itm.zero, Itm.lt, Itm.cmp, fun a b => Itm.cmp_lt, fun a b c h h' => Itm.le_trans (a := a) (b := b) (c := c) h h', fun a => Itm.le_refl a, fun a b h => Itm.lt_le h⟩
def se : SG.SE := ⟨oe, itemC, 5, itemC_len, fun x => rfl, Y_s_Item, Y_Item, u_s_Item, z_Item, F_slices_SortFunc__s_Item_Item, F_slices_pdqsortCmpFunc__Item, F_slices_insertionSortCmpFunc__Item, F_slices_heapSortCmpFunc__Item, F_slices_choosePivotCmpFunc__Item, F_slices_reverseRangeCmpFunc__Item, F_slices_partialInsertionSortCmpFunc__Item, F_slices_partitionEqualCmpFunc__Item, F_slices_partitionCmpFunc__Item, F_slices_siftDownCmpFunc__Item, F_slices_medianAdjacentCmpFunc__Item, F_slices_medianCmpFunc__Item, F_slices_order2CmpFunc__Item, F_slices_breakPatternsCmpFunc__Item⟩
instance : SG.SQ se where
 q_SortFunc := fun a0 a1 s R h =>
  ACalls.q (n := 14) (rs := []) (A := SG.A_SortFunc) hT hmx Tryz.func93 (by kernel_rfl) rfl rfl rfl (by kernel_rfl) (by kernel_rfl) h
 q_pdqsortCmpFunc := fun a0 a1 a2 a3 a4 s R h =>
  ACalls.q (n := 148) (rs := []) (A := SG.A_pdqsortCmpFunc) hT hmx Tryz.func147 (by kernel_rfl) rfl rfl rfl (by kernel_rfl) (by kernel_rfl) h
 q_insertionSortCmpFunc := fun a0 a1 a2 a3 s R h =>
  ACalls.q (n := 53) (rs := []) (A := SG.A_insertionSortCmpFunc) hT hmx Tryz.func169 (by kernel_rfl) rfl rfl rfl (by kernel_rfl) (by kernel_rfl) h
 q_heapSortCmpFunc := fun a0 a1 a2 a3 s R h =>
  ACalls.q (n := 60) (rs := []) (A := SG.A_heapSortCmpFunc) hT hmx Tryz.func170 (by kernel_rfl) rfl rfl rfl (by kernel_rfl) (by kernel_rfl) h
 q_choosePivotCmpFunc := fun a0 a1 a2 a3 s R h =>
  ACalls.q (n := 63) (rs := [.tmp 8, .tmp 9]) (A := SG.A_choosePivotCmpFunc) hT hmx Tryz.func172 (by kernel_rfl) rfl rfl rfl (by kernel_rfl) (by kernel_rfl) h
 q_reverseRangeCmpFunc := fun a0 a1 a2 a3 s R h =>
  ACalls.q (n := 34) (rs := []) (A := SG.A_reverseRangeCmpFunc) hT hmx Tryz.func173 (by kernel_rfl) rfl rfl rfl (by kernel_rfl) (by kernel_rfl) h
 q_partialInsertionSortCmpFunc := fun a0 a1 a2 a3 s R h =>
  ACalls.q (n := 141) (rs := [.tmp 8]) (A := SG.A_partialInsertionSortCmpFunc) hT hmx Tryz.func174 (by kernel_rfl) rfl rfl rfl (by kernel_rfl) (by kernel_rfl) h
 q_partitionEqualCmpFunc := fun a0 a1 a2 a3 a4 s R h =>
  ACalls.q (n := 90) (rs := [.tmp 10]) (A := SG.A_partitionEqualCmpFunc) hT hmx Tryz.func175 (by kernel_rfl) rfl rfl rfl (by kernel_rfl) (by kernel_rfl) h
 q_partitionCmpFunc := fun a0 a1 a2 a3 a4 s R h =>
  ACalls.q (n := 178) (rs := [.tmp 10, .tmp 11]) (A := SG.A_partitionCmpFunc) hT hmx Tryz.func176 (by kernel_rfl) rfl rfl rfl (by kernel_rfl) (by kernel_rfl) h
 q_siftDownCmpFunc := fun a0 a1 a2 a3 a4 s R h =>
  ACalls.q (n := 82) (rs := []) (A := SG.A_siftDownCmpFunc) hT hmx Tryz.func197 (by kernel_rfl) rfl rfl rfl (by kernel_rfl) (by kernel_rfl) h
 q_medianAdjacentCmpFunc := fun a0 a1 a2 a3 s R h =>
  ACalls.q (n := 18) (rs := [.tmp 8]) (A := SG.A_medianAdjacentCmpFunc) hT hmx Tryz.func200 (by kernel_rfl) rfl rfl rfl (by kernel_rfl) (by kernel_rfl) h
 q_medianCmpFunc := fun a0 a1 a2 a3 a4 a5 s R h =>
  ACalls.q (n := 41) (rs := [.tmp 12]) (A := SG.A_medianCmpFunc) hT hmx Tryz.func201 (by kernel_rfl) rfl rfl rfl (by kernel_rfl) (by kernel_rfl) h
 q_order2CmpFunc := fun a0 a1 a2 a3 a4 s R h =>
  ACalls.q (n := 32) (rs := [.tmp 10, .tmp 11]) (A := SG.A_order2CmpFunc) hT hmx Tryz.func209 (by kernel_rfl) rfl rfl rfl (by kernel_rfl) (by kernel_rfl) h
 q_breakPatternsCmpFunc := fun a0 a1 a2 a3 s R h =>
  ACalls.q (n := 67) (rs := []) (A := SG.A_breakPatternsCmpFunc) hT hmx Tryz.func171 (by kernel_rfl) rfl rfl rfl (by kernel_rfl) (by kernel_rfl) h
class CmpOk (cf : FuncId) : Prop where
 ok : ∀ (a b : Itm) (s : AS), ACalls Tryz.prog cf [.agg (itemC a), .agg (itemC b)] s fun v s' => v = .int .i64 (a.cmp b) ∧ Ext s s'
structure Arr (s : AS) (a : AV) (lo : Nat) (l : List Itm) (rest : List AV) : Prop where
 val : ∃ c e, a = .slc (some (lo, 0)) l.length c e
 obj : ∃ g, s.h lo = some (.cells (l.flatMap itemC ++ rest) g false)
section
variable {s : AS} {a : AV} {lo : Nat} {l : List Itm} {rest : List AV}
theorem dots_len (l : List Itm) : (l.flatMap itemC).length = l.length * 5 := by
 induction l with
 | nil => rfl
 | cons x l ih => simp only [List.flatMap_cons, List.length_append, ih, itemC_len, List.length_cons]; omega
theorem Arr.mut {L : List Nat} {s' : AS} (h : Arr s a lo l rest) (m : Mut L s s') (hL : lo ∉ L) : Arr s' a lo l rest := by
 obtain ⟨h1, g, h2⟩ := h
 exact ⟨h1, g, m.1 _ _ hL h2⟩
theorem Arr.ext {s' : AS} (h : Arr s a lo l rest) (e : Ext s s') : Arr s' a lo l rest := h.mut (L := []) e.mut (by simp)
theorem Arr.ix (h : Arr s a lo l rest) {i : Nat} (hi : i < l.length) : aindexAddr T Y_s_Item a (.int .i64 (i : Nat)) = some (.ptr (some (lo, i * 5))) := by
 obtain ⟨⟨c, e, rfl⟩, _⟩ := h
 have : (0 : Int) ≤ (i : Int) ∧ (i : Int) < (l.length : Int) := by omega
 simp only [aindexAddr, u_s_Item, z_Item, Option.bind_some]
 rw [if_pos this]
 simp
theorem Arr.rd (h : Arr s a lo l rest) {i : Nat} (hi : i < l.length) : rdc s lo (i * 5) 5 = some (itemC (el l i)) := by
 obtain ⟨_, g, h2⟩ := h
 have hat : At s lo (l.flatMap itemC ++ rest) := ⟨_, _, h2⟩
 rw [hat.rdc (by rw [List.length_append, dots_len]; omega)]
 rw [List.drop_append_of_le_length (by rw [dots_len]; omega), List.take_append_of_le_length (by rw [List.length_drop, dots_len]; omega), flat_elem itemC_len (el_get hi)]
theorem flat_set : ∀ (l : List Itm) (i : Nat) (x : Itm) (rest : List AV), i < l.length → wrs (l.flatMap itemC ++ rest) (i * 5) (itemC x) = (l.set i x).flatMap itemC ++ rest
 | [], i, x, rest, h => by simp at h
 | d :: l, 0, x, rest, h => by simp [wrs, itemC]
 | d :: l, i + 1, x, rest, h => by
  have ih := flat_set l i x rest (by simpa using h)
  simp only [List.flatMap_cons, List.set_cons_succ, List.append_assoc, ← ih]
  simp only [wrs, itemC, Nat.add_mul, Nat.one_mul]
  simp
theorem Arr.wr (h : Arr s a lo l rest) (hw : WFs s) {i : Nat} (hi : i < l.length) (x : Itm) {K : AS → Prop} (hk : ∀ s', Arr s' a lo (l.set i x) rest → WFs s' → Mut [lo] s s' → K s') : OkC (some 5) (itemC x) (StQ (awr s lo (i * 5) (itemC x)) K) := by
 obtain ⟨h1, g, h2⟩ := h
 refine ⟨⟨rfl, rfl⟩, StQ.awr hw h2 (by rw [List.length_append, dots_len, itemC_len]; omega) fun s' P => hk s' ⟨?_, g, ?_⟩ P.wf P.mut⟩
 ·rw [List.length_set]; exact h1
 ·rw [P.at, flat_set l i x rest hi]
end
instance instCmp {cf : FuncId} [h : CmpOk cf] : SG.CmpOk se cf := ⟨h.ok⟩
theorem Arr.of {s : AS} {a : AV} {lo : Nat} {l : List Itm} {rest : List AV} (h : SG.Arr (E := se) s a lo l rest) : Arr s a lo l rest := ⟨h.val, h.obj⟩
def ArrN (s0 s : AS) (v : AV) (l : List Itm) : Prop := Ext s0 s ∧ ((l = [] ∧ ∃ a, v = .slc a 0 0 true) ∨ ∃ la, v = .slc (some (la, 0)) l.length l.length false ∧ Arr s v la l [] ∧ s0.h la = none)
theorem sortGro_ok {cf : FuncId} [CmpOk cf] {s0 s : AS} {v : AV} {l : List Itm} {sz : Nat} (g : GroN itemC sz [] s0 s v l) (hl : l.length < 65536) :
  ACalls Tryz.prog F_slices_SortFunc__s_Item_Item [v, .func cf []] s fun r s' => r = .tup [] ∧ ∃ l', l'.Perm l ∧ Srt l' 0 l'.length ∧ ArrN s0 s' v l' := by
 refine (SG.sortGro_ok (E := se) (cf := cf) g hl).mono ?_
 rintro r s' ⟨h1, l', h2, h3, h4, h5⟩
 refine ⟨h1, l', h2, h3, h4, ?_⟩
 rcases h5 with h5 | ⟨la, h6, h7, h8⟩
 ·exact .inl h5
 ·exact .inr ⟨la, h6, Arr.of h7, h8⟩
theorem ArrN.dots {s0 s : AS} {v : AV} {l : List Itm} (h : ArrN s0 s v l) : Sl itemC 5 s v l := by
 rcases h.2 with ⟨rfl, a, rfl⟩ | ⟨la, rfl, ⟨_, g, ho⟩, _⟩
 ·exact Sl.nil
 ·refine SlAt.mk ⟨_, _, ho⟩ (dots_len l) ?_ (Nat.le_refl _)
  rw [List.drop_zero]
  show (l.flatMap itemC ++ []).take _ = _
  rw [List.append_nil]
  exact List.take_of_length_le (Nat.le_of_eq (dots_len l))
end Go.Proofs.YtoklmpkpeanloaaGreat.SI
end

section

end

section
set_option maxRecDepth 100000
set_option maxHeartbeats 4000000
namespace Go.Proofs.YtoklmpkpeanloaaGreat.SK
open Go.Am Go.Minster2 Go.Minster.SK
def oe : Go.Minster.SG.OE := ⟨Key, ⟨[], []⟩, Key.lt, Key.cmp, fun a b => Key.cmp_lt, fun a b c h h' => Key.le_trans (a := a) (b := b) (c := c) h h', fun a => Key.le_refl a, fun a b h => Key.lt_le h⟩
def se : SG.SE := ⟨oe, keyC, 2, keyC_len, fun x => rfl, Y_s_Key, Y_Key, u_s_Key, z_Key, F_slices_SortFunc__s_Key_Key, F_slices_pdqsortCmpFunc__Key, F_slices_insertionSortCmpFunc__Key, F_slices_heapSortCmpFunc__Key, F_slices_choosePivotCmpFunc__Key, F_slices_reverseRangeCmpFunc__Key, F_slices_partialInsertionSortCmpFunc__Key, F_slices_partitionEqualCmpFunc__Key, F_slices_partitionCmpFunc__Key, F_slices_siftDownCmpFunc__Key, F_slices_medianAdjacentCmpFunc__Key, F_slices_medianCmpFunc__Key, F_slices_order2CmpFunc__Key, F_slices_breakPatternsCmpFunc__Key⟩
instance : SG.SQ se where
 q_SortFunc := fun a0 a1 s R h =>
  ACalls.q (n := 14) (rs := []) (A := SG.A_SortFunc) hT hmx Tryz.func136 (by kernel_rfl) rfl rfl rfl (by kernel_rfl) (by kernel_rfl) h
 q_pdqsortCmpFunc := fun a0 a1 a2 a3 a4 s R h =>
  ACalls.q (n := 148) (rs := []) (A := SG.A_pdqsortCmpFunc) hT hmx Tryz.func163 (by kernel_rfl) rfl rfl rfl (by kernel_rfl) (by kernel_rfl) h
 q_insertionSortCmpFunc := fun a0 a1 a2 a3 s R h =>
  ACalls.q (n := 53) (rs := []) (A := SG.A_insertionSortCmpFunc) hT hmx Tryz.func181 (by kernel_rfl) rfl rfl rfl (by kernel_rfl) (by kernel_rfl) h
 q_heapSortCmpFunc := fun a0 a1 a2 a3 s R h =>
  ACalls.q (n := 60) (rs := []) (A := SG.A_heapSortCmpFunc) hT hmx Tryz.func182 (by kernel_rfl) rfl rfl rfl (by kernel_rfl) (by kernel_rfl) h
 q_choosePivotCmpFunc := fun a0 a1 a2 a3 s R h =>
  ACalls.q (n := 63) (rs := [.tmp 8, .tmp 9]) (A := SG.A_choosePivotCmpFunc) hT hmx Tryz.func184 (by kernel_rfl) rfl rfl rfl (by kernel_rfl) (by kernel_rfl) h
 q_reverseRangeCmpFunc := fun a0 a1 a2 a3 s R h =>
  ACalls.q (n := 34) (rs := []) (A := SG.A_reverseRangeCmpFunc) hT hmx Tryz.func185 (by kernel_rfl) rfl rfl rfl (by kernel_rfl) (by kernel_rfl) h
 q_partialInsertionSortCmpFunc := fun a0 a1 a2 a3 s R h =>
  ACalls.q (n := 141) (rs := [.tmp 8]) (A := SG.A_partialInsertionSortCmpFunc) hT hmx Tryz.func186 (by kernel_rfl) rfl rfl rfl (by kernel_rfl) (by kernel_rfl) h
 q_partitionEqualCmpFunc := fun a0 a1 a2 a3 a4 s R h =>
  ACalls.q (n := 90) (rs := [.tmp 10]) (A := SG.A_partitionEqualCmpFunc) hT hmx Tryz.func187 (by kernel_rfl) rfl rfl rfl (by kernel_rfl) (by kernel_rfl) h
 q_partitionCmpFunc := fun a0 a1 a2 a3 a4 s R h =>
  ACalls.q (n := 178) (rs := [.tmp 10, .tmp 11]) (A := SG.A_partitionCmpFunc) hT hmx Tryz.func188 (by kernel_rfl) rfl rfl rfl (by kernel_rfl) (by kernel_rfl) h
 q_siftDownCmpFunc := fun a0 a1 a2 a3 a4 s R h =>
  ACalls.q (n := 82) (rs := []) (A := SG.A_siftDownCmpFunc) hT hmx Tryz.func203 (by kernel_rfl) rfl rfl rfl (by kernel_rfl) (by kernel_rfl) h
 q_medianAdjacentCmpFunc := fun a0 a1 a2 a3 s R h =>
  ACalls.q (n := 18) (rs := [.tmp 8]) (A := SG.A_medianAdjacentCmpFunc) hT hmx Tryz.func204 (by kernel_rfl) rfl rfl rfl (by kernel_rfl) (by kernel_rfl) h
 q_medianCmpFunc := fun a0 a1 a2 a3 a4 a5 s R h =>
  ACalls.q (n := 41) (rs := [.tmp 12]) (A := SG.A_medianCmpFunc) hT hmx Tryz.func205 (by kernel_rfl) rfl rfl rfl (by kernel_rfl) (by kernel_rfl) h
 q_order2CmpFunc := fun a0 a1 a2 a3 a4 s R h =>
  ACalls.q (n := 32) (rs := [.tmp 10, .tmp 11]) (A := SG.A_order2CmpFunc) hT hmx Tryz.func210 (by kernel_rfl) rfl rfl rfl (by kernel_rfl) (by kernel_rfl) h
 q_breakPatternsCmpFunc := fun a0 a1 a2 a3 s R h =>
  ACalls.q (n := 67) (rs := []) (A := SG.A_breakPatternsCmpFunc) hT hmx Tryz.func183 (by kernel_rfl) rfl rfl rfl (by kernel_rfl) (by kernel_rfl) h
class CmpOk (cf : FuncId) : Prop where
 ok : ∀ (a b : Key) (s : AS), ACalls Tryz.prog cf [.agg (keyC a), .agg (keyC b)] s fun v s' => v = .int .i64 (a.cmp b) ∧ Ext s s'
structure Arr (s : AS) (a : AV) (lo : Nat) (l : List Key) (rest : List AV) : Prop where
 val : ∃ c e, a = .slc (some (lo, 0)) l.length c e
 obj : ∃ g, s.h lo = some (.cells (l.flatMap keyC ++ rest) g false)
section
variable {s : AS} {a : AV} {lo : Nat} {l : List Key} {rest : List AV}
theorem dots_len (l : List Key) : (l.flatMap keyC).length = l.length * 2 := by
 induction l with
 | nil => rfl
 | cons x l ih => simp only [List.flatMap_cons, List.length_append, ih, keyC_len, List.length_cons]; omega
end
instance instCmp {cf : FuncId} [h : CmpOk cf] : SG.CmpOk se cf := ⟨h.ok⟩
theorem Arr.of {s : AS} {a : AV} {lo : Nat} {l : List Key} {rest : List AV} (h : SG.Arr (E := se) s a lo l rest) : Arr s a lo l rest := ⟨h.val, h.obj⟩
def ArrN (s0 s : AS) (v : AV) (l : List Key) : Prop := Ext s0 s ∧ ((l = [] ∧ ∃ a, v = .slc a 0 0 true) ∨ ∃ la, v = .slc (some (la, 0)) l.length l.length false ∧ Arr s v la l [] ∧ s0.h la = none)
theorem sortGro_ok {cf : FuncId} [CmpOk cf] {s0 s : AS} {v : AV} {l : List Key} {sz : Nat} (g : GroN keyC sz [] s0 s v l) (hl : l.length < 65536) :
  ACalls Tryz.prog F_slices_SortFunc__s_Key_Key [v, .func cf []] s fun r s' => r = .tup [] ∧ ∃ l', l'.Perm l ∧ Srt l' 0 l'.length ∧ ArrN s0 s' v l' := by
 refine (SG.sortGro_ok (E := se) (cf := cf) g hl).mono ?_
 rintro r s' ⟨h1, l', h2, h3, h4, h5⟩
 refine ⟨h1, l', h2, h3, h4, ?_⟩
 rcases h5 with h5 | ⟨la, h6, h7, h8⟩
 ·exact .inl h5
 ·exact .inr ⟨la, h6, Arr.of h7, h8⟩
end Go.Proofs.YtoklmpkpeanloaaGreat.SK
end

section
namespace Go.Proofs.YtoklmpkpeanloaaGreat
open Go.Am Go.Minster Go.Minster2
theorem isNaN_str (a : List UInt8) (s : AS) : ACalls Tryz.prog F_cmp_isNaN__string [.str a] s fun v s' => v = .bool false ∧ s' = s :=
 q_cmp_isNaN__string _ _ _ ⟨by simp, rfl⟩
theorem cmp_str (a b : List UInt8) (s : AS) : ACalls Tryz.prog F_cmp_Compare__string [.str a, .str b] s fun v s' => v = .int .i64 (cmpS a b) ∧ s' = s := by
 refine q_cmp_Compare__string _ _ _ _ ?_
 refine ACalls.use (isNaN_str a s) ?_
 rintro v s' ⟨rfl, rfl⟩ _
 refine ⟨_, rfl, ?_⟩
 refine ACalls.use (isNaN_str b s') ?_
 rintro v s ⟨rfl, rfl⟩ _
 refine ⟨_, rfl, bsplit.no rfl (bsplit.no rfl (bsplit.mk (fun h => ⟨?_, rfl⟩) (fun h => bsplit.mk (fun h2 => ⟨?_, rfl⟩) (fun h2 => ⟨?_, rfl⟩))))⟩
 ·simp [cmpS, h]
 ·have : a ≠ b := by rintro rfl; simp at h2
  simp [cmpS, h, this]
 ·have : a = b := by simpa [h] using h2
  subst this
  simp [cmpS, bytesLt_irrefl]
theorem orset_order_ok (a b : Dot) (s : AS) : ACalls Tryz.prog F_orset_order [.agg (dotC a), .agg (dotC b)] s fun v s' => v = .int .i64 (a.cmp b) ∧ Ext s s' := by
 refine ACalls.pre fun hw => q_orset_order _ _ _ _ ⟨rfl, NewQ.intro hw rfl fun l s1 F => ⟨rfl, NewQ.intro F.wf rfl fun l2 s2 F2 => ?_⟩⟩
 have e := F.ext.trans F2.ext
 refine ⟨fun _ _ _ _ => True, fun _ _ v => v = .int .i64 (cmpI a.r b.r), fun _ _ _ _ _ _ _ => trivial, ?_⟩
 simp only [(F.own.ext F2.ext).at.rd1, F2.own.at.rd1, dotC, List.getElem?_cons_zero, List.getElem?_cons_succ, go_sem]
 refine ⟨fun s7 _ _ _ => ?_, ⟨_, rfl⟩, ?_⟩
 ·refine (cmp_Compare__int_ok _ _ _).mono ?_
  rintro v s' ⟨rfl, rfl⟩
  exact ⟨_, rfl, Ext.refl _, trivial, rfl⟩
 ·rintro v rfl
  refine ⟨_, rfl, fun s15 e15 _ _ => ?_⟩
  refine ACalls.use (cmp_Compare__uint64_ok _ _ _) ?_
  rintro v s' ⟨rfl, rfl⟩ hw'
  refine ⟨_, rfl, ?_⟩
  have habs : absl T Y_s_int 2 [(0, .int .i64 (cmpI a.r b.r)), (1, .int .i64 (cmpI a.c b.c))] = some [.int .i64 (cmpI a.r b.r), .int .i64 (cmpI a.c b.c)] := by
   simp only [absl, u_s_int, z_int, zr_int, Option.bind_some, acells_int]; rfl
  rw [habs]
  simp only [go_sem]
  refine NewQ.intro hw' rfl fun l3 s3 F3 => ?_
  refine (cmp_Or__int_ok2 _ _ F3.own.at).mono ?_
  rintro v s' ⟨rfl, rfl⟩
  refine ⟨_, rfl, ?_, e.trans (e15.trans F3.ext)⟩
  simp only [Dot.cmp]
instance : CmpOk F_orset_order := ⟨orset_order_ok⟩
theorem items1_ok (a b : Itm) (s : AS) : ACalls Tryz.prog F_orset_Set_Items_1 [.agg (itemC a), .agg (itemC b)] s fun v s' => v = .int .i64 (a.cmp b) ∧ Ext s s' := by
 refine ACalls.pre fun hw => q_orset_Set_Items_1 _ _ _ _ ⟨rfl, NewQ.intro hw rfl fun l s1 F => ⟨rfl, NewQ.intro F.wf rfl fun l2 s2 F2 => ?_⟩⟩
 refine ⟨dotC a.dot, (F.own.ext F2.ext).at.rdc (by simp [itemC]), dotC b.dot, F2.own.at.rdc (by simp [itemC]), ?_⟩
 refine ACalls.use (orset_order_ok _ _ _) ?_
 rintro v s' ⟨rfl, e⟩ _
 exact ⟨_, rfl, rfl, (F.ext.trans F2.ext).trans e⟩
instance : SI.CmpOk F_orset_Set_Items_1 := ⟨items1_ok⟩
theorem keys1_ok (a b : Key) (s : AS) : ACalls Tryz.prog F_orset_Set_Keys_1 [.agg (keyC a), .agg (keyC b)] s fun v s' => v = .int .i64 (a.cmp b) ∧ Ext s s' := by
 refine ACalls.pre fun hw => q_orset_Set_Keys_1 _ _ _ _ ⟨rfl, NewQ.intro hw rfl fun l s1 F => ⟨rfl, NewQ.intro F.wf rfl fun l2 s2 F2 => ?_⟩⟩
 have e := F.ext.trans F2.ext
 refine ⟨fun _ _ _ _ => True, fun _ _ v => v = .int .i64 (cmpS a.t b.t), fun _ _ _ _ _ _ _ => trivial, ?_⟩
 simp only [(F.own.ext F2.ext).at.rd1, F2.own.at.rd1, keyC, List.getElem?_cons_zero, List.getElem?_cons_succ, go_sem]
 refine ⟨fun s7 _ _ _ => ?_, ⟨_, rfl⟩, ?_⟩
 ·refine (cmp_str _ _ _).mono ?_
  rintro v s' ⟨rfl, rfl⟩
  exact ⟨_, rfl, Ext.refl _, trivial, rfl⟩
 ·rintro v rfl
  refine ⟨_, rfl, fun s15 e15 _ _ => ?_⟩
  refine ACalls.use (cmp_str _ _ _) ?_
  rintro v s' ⟨rfl, rfl⟩ hw'
  refine ⟨_, rfl, ?_⟩
  have habs : absl T Y_s_int 2 [(0, .int .i64 (cmpS a.t b.t)), (1, .int .i64 (cmpS a.d b.d))] = some [.int .i64 (cmpS a.t b.t), .int .i64 (cmpS a.d b.d)] := by
   simp only [absl, u_s_int, z_int, zr_int, Option.bind_some, acells_int]; rfl
  rw [habs]
  simp only [go_sem]
  refine NewQ.intro hw' rfl fun l3 s3 F3 => ?_
  refine (cmp_Or__int_ok2 _ _ F3.own.at).mono ?_
  rintro v s' ⟨rfl, rfl⟩
  refine ⟨_, rfl, ?_, e.trans (e15.trans F3.ext)⟩
  simp only [Key.cmp]
instance : SK.CmpOk F_orset_Set_Keys_1 := ⟨keys1_ok⟩
def nameOk (t : List UInt8) : Bool := decide (1 ≤ t.length ∧ t.length ≤ 32)
theorem alen_str (t : List UInt8) (s : AS) : alenB T Y_string (.str t) s = some (.int .i64 (t.length : Nat)) := by simp [alenB, u_string]
theorem name_ok (t : List UInt8) (s : AS) : ACalls Tryz.prog F_orset_name [.str t] s fun v s' => v = .bool (nameOk t) ∧ s' = s := by
 refine q_orset_name _ _ _ ⟨_, alen_str t s, bsplit.dec (fun h => ⟨_, alen_str t s, ?_, rfl⟩) (fun h => ⟨?_, rfl⟩)⟩
 ·congr 1
  rw [nameOk, decide_eq_decide]; omega
 ·congr 1
  symm
  rw [nameOk, decide_eq_false_iff_not]; omega
def _root_.Go.Minster2.Key.may (k : Key) : Bool := nameOk k.t && nameOk k.d
def _root_.Go.Minster2.Itm.may (i : Itm) : Bool := i.dot.may && (if i.gone then decide (i.key = ⟨[], []⟩) else i.key.may)
theorem MayKey_ok (k : Key) (s : AS) : ACalls Tryz.prog F_orset_MayKey [.agg (keyC k)] s fun v s' => v = .bool k.may ∧ Ext s s' := by
 refine ACalls.pre fun hw => q_orset_MayKey _ _ _ ⟨rfl, NewQ.intro hw rfl fun l s1 F => ⟨k.t, by rw [F.own.at.rd1]; rfl, ?_⟩⟩
 refine ACalls.use (name_ok _ _) ?_
 rintro v s2 ⟨rfl, rfl⟩ _
 refine ⟨_, rfl, bsplit.mk (fun h => ⟨k.d, by rw [F.own.at.rd1]; rfl, ?_⟩) (fun h => ⟨by rw [Key.may, h]; rfl, F.ext⟩)⟩
 refine ACalls.use (name_ok _ _) ?_
 rintro v s3 ⟨rfl, rfl⟩ _
 exact ⟨_, rfl, by rw [Key.may, h]; rfl, F.ext⟩
theorem tri_Key : triples (T.und Y_Key) = some [(false, Y_string, 0), (false, Y_string, 1)] := by kernel_rfl
theorem et_Key : T.eqt Y_Key = true := by kernel_rfl
theorem key_eq (a b : Key) : aeq T 100 Y_Key (.agg (keyC a)) (.agg (keyC b)) = some (decide (a = b)) := by
 rw [aeq_tri tri_Key et_Key]
 simp only [eqTri, cond_false, part_s ag_string, keyC, List.getElem?_cons_zero, List.getElem?_cons_succ, Option.bind_some, aeqStr u_string]
 cases a; cases b
 simp only [Key.mk.injEq]
 rename_i r c r' c'
 by_cases h1 : r = r' <;> by_cases h2 : c = c' <;> simp [h1, h2]
theorem key0_build : abuild T Y_Key [] = some (.agg (keyC ⟨[], []⟩)) := by kernel_rfl
theorem May_ok (i : Itm) (s : AS) : ACalls Tryz.prog F_orset_May [.agg (itemC i)] s fun v s' => v = .bool i.may ∧ Ext s s' := by
 refine ACalls.pre fun hw => q_orset_May _ _ _ ⟨rfl, NewQ.intro hw rfl fun l s1 F => ⟨i.gone, by rw [F.own.at.rd1]; rfl, ?_⟩⟩
 have gd : ∀ s', Ext s1 s' → rdc s' l 0 2 = some (dotC i.dot) := fun s' e => (F.own.ext e).at.rdc (by simp [itemC])
 have gk : ∀ s', Ext s1 s' → rdc s' l 2 2 = some (keyC i.key) := fun s' e => (F.own.ext e).at.rdc (by simp [itemC])
 refine bsplit.mk (fun h => ?_) (fun h => ?_)
 ·refine ⟨_, gd _ (Ext.refl _), ?_⟩
  refine ACalls.use (ctx_May_ok _ _) ?_
  rintro v s2 ⟨rfl, e2⟩ _
  refine ⟨_, rfl, bsplit.mk (fun h2 => ⟨_, gk _ e2, _, key0_build, _, key_eq _ _, ?_, F.ext.trans e2⟩) (fun h2 => ⟨by simp [Itm.may, h2], F.ext.trans e2⟩)⟩
  simp [Itm.may, h, h2]
 ·refine ⟨_, gd _ (Ext.refl _), ?_⟩
  refine ACalls.use (ctx_May_ok _ _) ?_
  rintro v s2 ⟨rfl, e2⟩ _
  refine ⟨_, rfl, bsplit.mk (fun h2 => ⟨_, gk _ e2, ?_⟩) (fun h2 => ⟨by simp [Itm.may, h2], F.ext.trans e2⟩)⟩
  refine ACalls.use (MayKey_ok _ _) ?_
  rintro v s3 ⟨rfl, e3⟩ _
  exact ⟨_, rfl, by simp [Itm.may, h, h2], F.ext.trans (e2.trans e3)⟩
end Go.Proofs.YtoklmpkpeanloaaGreat
end

section
namespace Go.Proofs.YtoklmpkpeanloaaGreat
open Go.Am Go.Minster Go.ChangeShapes Go.WideShapes Go.ChangeAt Go.RowKit
theorem has_zero (x : Dot) : hasD zeros [] x = false := by
 cases hq : hasD zeros [] x with
 | false => rfl
 | true =>
  obtain ⟨hm, h⟩ := hasD_iff.1 hq
  have := Dot.may_iff.1 hm
  rcases h with h | h
  ·cases h
  ·have e : zeros.getD (x.r - 1).toNat 0 = 0 := by
    simp only [zeros, List.getD_eq_getElem?_getD, List.getElem?_replicate]
    split <;> rfl
   omega
theorem addD_any {v : List Int} {ex : List Dot} (ok : COk v ex) (gap : Gap v ex) (hn : ex.length < 4096) (d : Dot) : COk (addD v ex d).2.2.1 (addD v ex d).2.2.2 ∧ Gap (addD v ex d).2.2.1 (addD v ex d).2.2.2 ∧ (addD v ex d).2.2.2.length ≤ ex.length + 1 ∧ ∀ x, hasD (addD v ex d).2.2.1 (addD v ex d).2.2.2 x = true ↔ hasD v ex x = true ∨ (x = d ∧ d.may = true) := by
 cases hm : d.may with
 | false =>
  have : addD v ex d = (false, 2, v, ex) := by simp [addD, hm]
  rw [this]
  exact ⟨ok, gap, by simp, fun x => by simp⟩
 | true =>
  rw [addD_few hm hn]
  exact ⟨ok.add hm, Gap.add ok gap hm, addR_len, fun x => by rw [addR_has ok hm]; simp⟩
end Go.Proofs.YtoklmpkpeanloaaGreat
end

section
namespace Go.Proofs.YtoklmpkpeanloaaGreat
open Go.Am Go.Minster
/-! ### maps of dots -/
abbrev dK (d : Dot) : AV := .agg (dotC d)
abbrev bV (b : Bool) : AV := .agg [.bool b]
theorem tri_ok_Dot : ∀ r c : Int, akeyOk T 100 Y_Dot (.agg [.int .i64 r, .int .u64 c]) = true := by
 intro r c; kernel_rfl
theorem is_build : abuild T Y_struct__is_bool__ [(0, .bool true)] = some (.agg [.bool true]) := by kernel_rfl
/-! ### views -/
structure Vw where
 v : List Int
 ex : List Dot
 live : Dot → Bool
structure CtxF (F : List Nat) (s : AS) (p : Nat) (v : List Int) (ex : List Dot) : Prop where
 len : v.length = 16
 lab : p ∈ F
 mem : ∃ w, Am.Own s p (v.map (.int .u64) ++ [w, .bool true]) ∧ w.one = true ∧ Gro dotC 2 s w ex ∧ ∀ la ∈ labOf w, la ∈ F
theorem CtxF.at {F : List Nat} {s : AS} {p : Nat} {v : List Int} {ex : List Dot} (h : CtxF F s p v ex) : CtxAt s p v ex := by
 obtain ⟨h1, _, w, h2, h3, h4, h5⟩ := h
 exact ⟨h1, w, h2, h3, h4.sl dotC_len⟩
theorem CtxF.mut {F : List Nat} {s s' : AS} {L : List Nat} {p : Nat} {v : List Int} {ex : List Dot} (h : CtxF F s p v ex) (m : Mut L s s') (hL : ∀ x ∈ L, x ∉ F) : CtxF F s' p v ex := by
 obtain ⟨h1, h0, w, h2, h3, h4, h5⟩ := h
 exact ⟨h1, h0, w, h2.mut m (fun hx => hL p hx h0), h3, h4.mut m fun x hx hm => hL x hm (h5 x hx), h5⟩
theorem CtxF.sub {F F' : List Nat} {s : AS} {p : Nat} {v : List Int} {ex : List Dot} (h : CtxF F s p v ex) (hF : ∀ x ∈ F, x ∈ F') : CtxF F' s p v ex := by
 obtain ⟨h1, h0, w, h2, h3, h4, h5⟩ := h
 exact ⟨h1, hF _ h0, w, h2, h3, h4, fun x hx => hF x (h5 x hx)⟩
theorem CtxG.toF {s0 s : AS} {p : Nat} {v : List Int} {ex : List Dot} (h : CtxG s0 s p v ex) (hp : s0.h p = none) : ∃ F, CtxF F s p v ex ∧ (∀ x ∈ F, s0.h x = none) ∧ ∀ x ∈ F, s.h x ≠ none := by
 obtain ⟨h1, w, h2, h3, h4, h5⟩ := h
 refine ⟨p :: labOf w, ⟨h1, by simp, w, h2, h3, h4, fun x hx => by simp [hx]⟩, fun x hx => ?_, fun x hx => ?_⟩
 ·rcases List.mem_cons.1 hx with rfl | hx
  ·exact hp
  ·exact h5 x hx
 ·rcases List.mem_cons.1 hx with rfl | hx
  ·rw [h2]; simp
  ·rcases h4 with ⟨_, a, rfl⟩ | ⟨la, rfl, ho⟩
   ·simp [labOf] at hx
   ·obtain rfl : x = la := by simpa [labOf] using hx
    rw [ho]; simp
theorem CtxG.toF2 {s0 s : AS} {p : Nat} {v : List Int} {ex : List Dot} (h : CtxG s0 s p v ex) : ∃ F, CtxF F s p v ex ∧ (∀ x ∈ F, x = p ∨ s0.h x = none) ∧ ∀ x ∈ F, s.h x ≠ none := by
 obtain ⟨h1, w, h2, h3, h4, h5⟩ := h
 refine ⟨p :: labOf w, ⟨h1, by simp, w, h2, h3, h4, fun x hx => by simp [hx]⟩, fun x hx => ?_, fun x hx => ?_⟩
 ·rcases List.mem_cons.1 hx with rfl | hx
  ·exact .inl rfl
  ·exact .inr (h5 x hx)
 ·rcases List.mem_cons.1 hx with rfl | hx
  ·rw [h2]; simp
  ·rcases h4 with ⟨_, a, rfl⟩ | ⟨la, rfl, ho⟩
   ·simp [labOf] at hx
   ·obtain rfl : x = la := by simpa [labOf] using hx
    rw [ho]; simp
/-! ### matrices -/
section
variable {F : List Nat} {s s' : AS} {p m : Nat} {n o : Int} {told : Int → Option Vw} {has : List Int}
end
end Go.Proofs.YtoklmpkpeanloaaGreat
end

section
namespace Go.Proofs.YtoklmpkpeanloaaGreat
open Go.Am Go.Minster Go.Minster2
/-! ### maps of dots -/
abbrev kV (k : Key) : AV := .agg (keyC k)
theorem mp_tombs : MpTy (K := Dot) T Y_m_Dot_struct__is_bool__ Y_Dot Y_struct__is_bool__ dK (bV false) :=
 ⟨u_m_Dot_struct__is_bool__, fun a b => dot_eq a b, fun a => tri_ok_Dot a.r a.c, fun a => by simp [abits, bitsL, dotC], zr_struct__is_bool__⟩
theorem mp_live : MpTy (K := Dot) T Y_m_Dot_Key Y_Dot Y_Key dK (kV ⟨[], []⟩) :=
 ⟨u_m_Dot_Key, fun a b => dot_eq a b, fun a => tri_ok_Dot a.r a.c, fun a => by simp [abits, bitsL, dotC], zr_Key⟩
theorem st_Dot : StTy T Y_Dot 2 := ⟨ag_Dot, z_Dot, _, _, zr_Dot, rfl, rfl⟩
theorem sty_s_Dot : STy T Y_s_Dot := ⟨ag_s_Dot, z_s_Dot⟩
theorem _root_.Go.Am.GroN.map {α β : Type} {f : α → List AV} {g : β → List AV} {h : α → β} (hg : ∀ x, g (h x) = f x) {sz : Nat} {M : List Nat} {s0 s : AS} {v : AV} {l : List α} (G : GroN f sz M s0 s v l) : GroN g sz M s0 s v (l.map h) := by
 refine ⟨?_, G.chg, G.new⟩
 have e : (l.map h).flatMap g = l.flatMap f := by
  rw [List.flatMap_map]; congr 1; funext x; exact hg x
 rcases G.gro with ⟨rfl, a, rfl⟩ | ⟨la, rfl, ho⟩
 ·exact .inl ⟨rfl, a, rfl⟩
 ·exact .inr ⟨la, by rw [List.length_map], by rw [e]; exact ho⟩
section
variable {V : Type} {vf : V → AV} {m : Nat} {es : List (Dot × V × Nat)} {c : Nat} {ro : Bool} {s : AS}
theorem collect_keys {gf : FuncId} {lb : Nat} (hgf : callable Tryz.prog gf = true) (hes : es.length ≤ 2 ^ 30) (hm : MpAt dK vf s m es c ro)
  (hrun : ∀ s1, Ext s s1 → WFs s1 → ItRun Tryz.prog dK vf m es c ro (fun e => dotC e.1) gf [.ptr (some (lb, 0))] s1) :
  ACalls Tryz.prog F_slices_Collect__Dot [.func gf [.ptr (some (lb, 0))]] s fun v s' => ∃ done : List (Dot × V × Nat), (∀ e ∈ es, e ∈ done) ∧ (∀ e ∈ done, e ∈ es) ∧ done.Nodup ∧ GroN dotC 2 [] s s' v (done.map fun e => e.1) := by
 refine q_slices_Collect__Dot _ _ _ ?_
 refine (appendSeq_calls hT Tryz.func165 (by kernel_rfl) (ts := Y_s_Dot) (te := Y_Dot) (tq := Y_iter_Seq_Dot_) (by kernel_rfl) (by kernel_rfl) (by kernel_rfl) sty_s_Dot sl_s_Dot st_Dot (el := fun e => dotC e.1) (fun e => rfl) (fun e => rfl) hgf hes hm hrun).mono ?_
 rintro v s' ⟨done, h1, h2, h3, g⟩
 exact ⟨done, h1, h2, h3, GroN.map (h := fun e : Dot × V × Nat => e.1) (fun x => rfl) g⟩
theorem sorted_keys {gf : FuncId} {lb : Nat} (hgf : callable Tryz.prog gf = true) (hes : es.length < 65536) (hm : MpAt dK vf s m es c ro)
  (hrun : ∀ s1, Ext s s1 → WFs s1 → ItRun Tryz.prog dK vf m es c ro (fun e => dotC e.1) gf [.ptr (some (lb, 0))] s1) :
  ACalls Tryz.prog F_slices_SortedFunc__Dot [.func gf [.ptr (some (lb, 0))], .func F_orset_order []] s fun v s' => ∃ l : List Dot, Rising l ∧ (∀ d, d ∈ l ↔ ∃ e ∈ es, e.1 = d) ∧ l.length = es.length ∧ ArrN s s' v l := by
 refine q_slices_SortedFunc__Dot _ _ _ _ ?_
 refine ACalls.use (collect_keys hgf (by omega) hm hrun) ?_
 rintro v s2 ⟨done, h1, h2, h3, g⟩ w2
 have hnd : (done.map fun e => e.1).Nodup := by
  refine List.pairwise_map.2 (List.Pairwise.imp_of_mem ?_ h3)
  intro a b ha hb hab he
  have ha' := h2 a ha
  have hb' := h2 b hb
  refine hab ?_
  have hp := hm.nd
  have key : ∀ (l : List (Dot × V × Nat)), l.Pairwise (fun a b => a.1 ≠ b.1) → a ∈ l → b ∈ l → a = b := by
   intro l
   induction l with
   | nil => intro _ h; cases h
   | cons x l ih =>
    intro hp h4 h5
    obtain ⟨p1, p2⟩ := List.pairwise_cons.1 hp
    rcases List.mem_cons.1 h4 with r4 | h4 <;> rcases List.mem_cons.1 h5 with r5 | h5
    ·rw [r4, r5]
    ·exact absurd (by rw [← r4]; exact he) (p1 b h5)
    ·exact absurd (by rw [← r5]; exact he.symm) (p1 a h4)
    ·exact ih p2 h4 h5
  exact key es hp ha' hb'
 have hlen : (done.map fun e => e.1).length = es.length := by
  rw [List.length_map]
  have hes2 : es.Nodup := hm.nd.imp fun {a b} h e => h (by rw [e])
  exact ((List.perm_ext_iff_of_nodup h3 hes2).2 fun a => ⟨h2 a, h1 a⟩).length_eq
 refine ACalls.use (sortGro_ok g (by omega)) ?_
 rintro r s4 ⟨rfl, l, hp, hs, ha⟩ w4
 refine ⟨rfl, l, ?_, fun d => ?_, by rw [hp.length_eq, hlen], ha⟩
 ·have hn : l.Nodup := hp.nodup_iff.2 hnd
  refine List.pairwise_iff_getElem.2 fun i j hi hj hij => ?_
  have hle : (el l i).le (el l j) := hs i j (by omega) hij hj
  have ei : el l i = l[i] := by have := el_get hi; rw [List.getElem?_eq_getElem hi] at this; exact (Option.some.inj this).symm
  have ej : el l j = l[j] := by have := el_get hj; rw [List.getElem?_eq_getElem hj] at this; exact (Option.some.inj this).symm
  rw [ei, ej] at hle
  cases hlt : l[i].lt l[j] with
  | true => rfl
  | false =>
   exfalso
   rcases Dot.le_iff.1 hle with h | ⟨h5, h6⟩
   ·have := (Dot.lt_iff (a := l[i]) (b := l[j])).2 (.inl h); rw [hlt] at this; cases this
   ·have h7 : ¬ l[i].c < l[j].c := fun h => by
     have := (Dot.lt_iff (a := l[i]) (b := l[j])).2 (.inr ⟨h5, h⟩); rw [hlt] at this; cases this
    have : l[i] = l[j] := by
     cases hx : l[i]; cases hy : l[j]
     rw [hx, hy] at h5 h6 h7
     simp only at h5 h6 h7
     rw [h5, show _ = _ from Int.le_antisymm h6 (by omega)]
    exact absurd this ((List.pairwise_iff_getElem.1 hn) i j hi hj hij)
 ·rw [hp.mem_iff, List.mem_map]
  constructor
  ·rintro ⟨e, he, rfl⟩; exact ⟨e, h2 e he, rfl⟩
  ·rintro ⟨e, he, rfl⟩; exact ⟨e, h1 e he, rfl⟩
end
end Go.Proofs.YtoklmpkpeanloaaGreat
end

section
namespace Go.Proofs.YtoklmpkpeanloaaGreat
open Go.Am Go.Minster Go.Minster2
section
variable {m : Nat} {c : Nat} {ro : Bool} {s : AS}
theorem live_run {es : List (Dot × Key × Nat)} {lb : Nat} (hb : At s lb [.map (some m)]) (hm : MpAt dK kV s m es c ro) : ∀ s1, Ext s s1 → WFs s1 → ItRun Tryz.prog dK kV m es c ro (fun e => dotC e.1) F_maps_Keys__m_Dot_Key_Dot_Key_1 [.ptr (some (lb, 0))] s1 :=
 fun s1 e _ => keys_run hT Tryz.func164 (tm := Y_m_Dot_Key) (tk := Y_Dot) (tf := Y_func_Dot__bool) (tb := Y_bool) (by kernel_rfl) (by kernel_rfl) (by kernel_rfl) ag_m_Dot_Key u_m_Dot_Key st_Dot (kc := dotC) (fun k => ⟨rfl, rfl⟩) (hb.ext e) (hm.ext e)
theorem tombs_run {es : List (Dot × Bool × Nat)} {lb : Nat} (hb : At s lb [.map (some m)]) (hm : MpAt dK bV s m es c ro) : ∀ s1, Ext s s1 → WFs s1 → ItRun Tryz.prog dK bV m es c ro (fun e => dotC e.1) F_maps_Keys__m_Dot_struct_is_bool__Dot_struct_is_bool__1 [.ptr (some (lb, 0))] s1 :=
 fun s1 e _ => keys_run hT Tryz.func143 (tm := Y_m_Dot_struct__is_bool__) (tk := Y_Dot) (tf := Y_func_Dot__bool) (tb := Y_bool) (by kernel_rfl) (by kernel_rfl) (by kernel_rfl) ag_m_Dot_struct__is_bool__ u_m_Dot_struct__is_bool__ st_Dot (kc := dotC) (fun k => ⟨rfl, rfl⟩) (hb.ext e) (hm.ext e)
theorem live_sorted {es : List (Dot × Key × Nat)} (hes : es.length < 65536) (hm : MpAt dK kV s m es c ro) {R : AV → AS → Prop} (hR : ∀ v s' (l : List Dot), Rising l → (∀ d, d ∈ l ↔ ∃ e ∈ es, e.1 = d) → l.length = es.length → ArrN s s' v l → WFs s' → R v s') :
  ACalls Tryz.prog F_maps_Keys__m_Dot_Key_Dot_Key [.map (some m)] s fun v4 s5 => ACalls Tryz.prog F_slices_SortedFunc__Dot [v4, .func F_orset_order []] s5 R := by
 refine ACalls.pre fun hw => q_maps_Keys__m_Dot_Key_Dot_Key _ _ _ (NewQ.intro hw rfl fun lb s1 F => ?_)
 have h1 := hm.ext F.ext
 refine ACalls.use (sorted_keys (by kernel_rfl) hes h1 (live_run F.own.at h1)) ?_
 rintro v s2 ⟨l, a, b, d, e⟩ w2
 refine hR v s2 l a b d ⟨F.ext.trans e.1, e.2.imp id fun ⟨la, h1, h2, h3⟩ => ⟨la, h1, h2, F.ext.none h3⟩⟩ w2
theorem tombs_sorted {es : List (Dot × Bool × Nat)} (hes : es.length < 65536) (hm : MpAt dK bV s m es c ro) {R : AV → AS → Prop} (hR : ∀ v s' (l : List Dot), Rising l → (∀ d, d ∈ l ↔ ∃ e ∈ es, e.1 = d) → l.length = es.length → ArrN s s' v l → WFs s' → R v s') :
  ACalls Tryz.prog F_maps_Keys__m_Dot_struct_is_bool__Dot_struct_is_bool [.map (some m)] s fun v4 s5 => ACalls Tryz.prog F_slices_SortedFunc__Dot [v4, .func F_orset_order []] s5 R := by
 refine ACalls.pre fun hw => q_maps_Keys__m_Dot_struct_is_bool__Dot_struct_is_bool _ _ _ (NewQ.intro hw rfl fun lb s1 F => ?_)
 have h1 := hm.ext F.ext
 refine ACalls.use (sorted_keys (by kernel_rfl) hes h1 (tombs_run F.own.at h1)) ?_
 rintro v s2 ⟨l, a, b, d, e⟩ w2
 refine hR v s2 l a b d ⟨F.ext.trans e.1, e.2.imp id fun ⟨la, h1, h2, h3⟩ => ⟨la, h1, h2, F.ext.none h3⟩⟩ w2
/-! ### maps.Clone -/
theorem find112 : Extern.find Tryz.f146 = some Extern.MapsClone.clone := by kernel_rfl
theorem next112 : Extern.findNext Tryz.f146 = none := by kernel_rfl
theorem name112 : (Tryz.f146.name == "runtime.NumGoroutine") = false := by kernel_rfl
theorem body112 : Tryz.f146.body.isNone = true := by kernel_rfl
theorem MpAt.copy {K V : Type} [DecidableEq K] {kf : K → AV} {vf : V → AV} {es : List (K × V × Nat)} {s s' : AS} {m' : Nat} (h : MpAt kf vf s m es c ro) (F : Fresh s s' m' (.map (ents kf vf es) c false)) : MpAt kf vf s' m' es c false := ⟨F.at, h.st, h.lt, h.nd⟩
theorem live_clone {es : List (Dot × Key × Nat)} (hm : MpAt dK kV s m es c ro) : ACalls Tryz.prog F_maps_Clone__m_Dot_Key_Dot_Key [.map (some m)] s fun v s' => ∃ m', v = .map (some m') ∧ Ext s s' ∧ s.h m' = none ∧ MpAt dK kV s' m' es c false := by
 refine (clone_calls hT Tryz.func90 (tm := Y_m_Dot_Key) (ti := Y_interface__) (tb := Y_bool) (cl := F_maps_clone) (by kernel_rfl) (by kernel_rfl) (by kernel_rfl) (by kernel_rfl) u_m_Dot_Key Tryz.func146 name112 body112 next112 find112 hm.obj).mono ?_
 rintro v s' ⟨m', rfl, F⟩
 exact ⟨m', rfl, F.ext, F.no, MpAt.copy hm F⟩
theorem tombs_clone {es : List (Dot × Bool × Nat)} (hm : MpAt dK bV s m es c ro) : ACalls Tryz.prog F_maps_Clone__m_Dot_struct_is_bool__Dot_struct_is_bool [.map (some m)] s fun v s' => ∃ m', v = .map (some m') ∧ Ext s s' ∧ s.h m' = none ∧ MpAt dK bV s' m' es c false := by
 refine (clone_calls hT Tryz.func91 (tm := Y_m_Dot_struct__is_bool__) (ti := Y_interface__) (tb := Y_bool) (cl := F_maps_clone) (by kernel_rfl) (by kernel_rfl) (by kernel_rfl) (by kernel_rfl) u_m_Dot_struct__is_bool__ Tryz.func146 name112 body112 next112 find112 hm.obj).mono ?_
 rintro v s' ⟨m', rfl, F⟩
 exact ⟨m', rfl, F.ext, F.no, MpAt.copy hm F⟩
end
end Go.Proofs.YtoklmpkpeanloaaGreat
end

section
namespace Go.Proofs.YtoklmpkpeanloaaGreat
open Go.Am Go.Minster Go.Minster2
def LiveAt (s : AS) (l : Nat) (f : Dot → Option Key) (n : Nat) : Prop := ∃ es c, MpAt dK kV s l es c false ∧ (∀ d, mget es d = f d) ∧ es.length = n
theorem LiveAt.mut {s s' : AS} {l n : Nat} {f : Dot → Option Key} {L : List Nat} (h : LiveAt s l f n) (e : Mut L s s') (hl : l ∉ L) : LiveAt s' l f n := by
 obtain ⟨es, c, h1, h2, h3⟩ := h; exact ⟨es, c, h1.mut e hl, h2, h3⟩
theorem LiveAt.ext {s s' : AS} {l n : Nat} {f : Dot → Option Key} (h : LiveAt s l f n) (e : Ext s s') : LiveAt s' l f n := h.mut (L := []) e.mut (by simp)
def TombAt (s : AS) (l : Nat) (f : Dot → Bool) (n : Nat) : Prop := ∃ es c, MpAt dK bV s l es c false ∧ (∀ d, mget es d = if f d then some true else none) ∧ es.length = n
theorem TombAt.mut {s s' : AS} {l n : Nat} {f : Dot → Bool} {L : List Nat} (h : TombAt s l f n) (e : Mut L s s') (hl : l ∉ L) : TombAt s' l f n := by
 obtain ⟨es, c, h1, h2, h3⟩ := h; exact ⟨es, c, h1.mut e hl, h2, h3⟩
theorem TombAt.ext {s s' : AS} {l n : Nat} {f : Dot → Bool} (h : TombAt s l f n) (e : Ext s s') : TombAt s' l f n := h.mut (L := []) e.mut (by simp)
structure OSet where
 v : List Int
 ex : List Dot
 live : Dot → Option Key
 tomb : Dot → Bool
 nl : Nat
 nt : Nat
structure SetF (F : List Nat) (s : AS) (p : Nat) (x : OSet) : Prop where
 ok : COk x.v x.ex
 gap : Gap x.v x.ex
 len : x.ex.length ≤ 4096
 mem : ∃ pc lm tm, Am.Own s p [.ptr (some (pc, 0)), .map (some lm), .map (some tm)] ∧ p ∈ F ∧ CtxF F s pc x.v x.ex ∧ lm ∈ F ∧ tm ∈ F ∧ lm ≠ tm ∧ LiveAt s lm x.live x.nl ∧ TombAt s tm x.tomb x.nt
theorem SetF.mut {F : List Nat} {s s' : AS} {L : List Nat} {p : Nat} {x : OSet} (h : SetF F s p x) (m : Mut L s s') (hL : ∀ y ∈ L, y ∉ F) : SetF F s' p x := by
 obtain ⟨h1, h2, h3, pc, lm, tm, a, b, c, d, e, f, g, i⟩ := h
 exact ⟨h1, h2, h3, pc, lm, tm, a.mut m (fun hx => hL p hx b), b, c.mut m hL, d, e, f, g.mut m (fun hx => hL lm hx d), i.mut m (fun hx => hL tm hx e)⟩
theorem SetF.ext {F : List Nat} {s s' : AS} {p : Nat} {x : OSet} (h : SetF F s p x) (e : Ext s s') : SetF F s' p x := h.mut (L := []) e.mut (by simp)
section
variable {F : List Nat} {s : AS} {p : Nat} {x : OSet}
theorem there_ok (h : SetF F s p x) : ACalls Tryz.prog F_orset_Set_there [.ptr (some (p, 0))] s fun r s' => r = .bool true ∧ s' = s := by
 obtain ⟨_, _, _, pc, lm, tm, a, _⟩ := h
 exact q_orset_Set_there _ _ _ ⟨_, aeqPtrNil u_p_orset_Set _, bsplit.yes rfl ⟨_, by rw [a.at.rd1]; rfl, _, aeqPtrNil u_p_ctx_Ctx _, rfl, rfl⟩⟩
theorem Tombs_ok (h : SetF F s p x) (hn : x.nt < 65536) : ACalls Tryz.prog F_orset_Set_Tombs [.ptr (some (p, 0))] s fun r s' => ∃ l, ArrN s s' r l ∧ Rising l ∧ (∀ d, d ∈ l ↔ x.tomb d = true) ∧ l.length = x.nt := by
 refine q_orset_Set_Tombs _ _ _ ?_
 refine ACalls.use (there_ok h) ?_
 rintro v s2 ⟨rfl, rfl⟩ w2
 obtain ⟨_, _, _, pc, lm, tm, a, _, _, _, _, _, _, es, c, hm, hg, hl⟩ := h
 refine ⟨_, rfl, bsplit.no rfl ⟨_, by rw [a.at.rd1]; rfl, tombs_sorted (by omega) hm fun v s' l h1 h2 h3 h4 _ => ⟨l, h4, h1, fun d => ?_, by omega⟩⟩⟩
 rw [h2]
 have := hg d
 constructor
 ·rintro ⟨e, he, rfl⟩
  have h5 := mget_mem hm.nd he
  rw [hg] at h5
  cases hq : x.tomb e.1 with
  | true => rfl
  | false => rw [hq] at h5; cases h5
 ·intro hq
  rw [hq] at this
  obtain ⟨j, k, hj⟩ := mget_some (show mget es d = some true from this)
  exact ⟨_, List.mem_of_getElem? hj, rfl⟩
theorem Live_ok (h : SetF F s p x) (d : Dot) : ACalls Tryz.prog F_orset_Set_Live [.ptr (some (p, 0)), .agg (dotC d)] s fun r s' => r = .tup [.agg (keyC ((x.live d).getD ⟨[], []⟩)), .bool (x.live d).isSome] ∧ Ext s s' := by
 refine ACalls.pre fun hw => q_orset_Set_Live _ _ _ _ ⟨rfl, NewQ.intro hw rfl fun l1 s2 F2 => NewQ.intro F2.wf rfl fun l3 s4 F4 => ?_⟩
 have e4 := F2.ext.trans F4.ext
 have o1 := F2.own.ext F4.ext
 refine ACalls.use (there_ok (h.ext e4)) ?_
 rintro v s6 ⟨rfl, rfl⟩ w6
 obtain ⟨_, _, _, pc, lm, tm, a, _, _, _, _, _, ⟨es, c, hm, hg, hl⟩, _⟩ := h.ext e4
 have hf := hm.find mp_live d true
 rw [hg] at hf
 refine ⟨_, rfl, bsplit.no rfl ⟨_, by rw [a.at.rd1]; rfl, _, o1.at.rdc (by simp [dotC]), keyC ((x.live d).getD ⟨[], []⟩), (x.live d).isSome, ?_, ?_⟩⟩
 ·refine Eq.trans (show _ = _ from hf) ?_
  cases x.live d <;> rfl
 ·refine NewSt w6 rfl rfl rfl fun l17 s19 F19 => ?_
  refine ⟨keyC ((x.live d).getD ⟨[], []⟩), ?_, ⟨rfl, rfl⟩, StQ.own F19.wf (F4.own.ext F19.ext) (by simp [keyC]) fun s21 P21 => ?_⟩
  ·have a19 : At s19 l17 (keyC ((x.live d).getD ⟨[], []⟩)) := ⟨_, _, F19.at⟩
   exact a19.rdc (by simp [keyC])
  ·have a21 : At s21 l3 (keyC ((x.live d).getD ⟨[], []⟩)) := ⟨_, _, by rw [P21.at, wrs_all0 (by simp [keyC])]⟩
   exact ⟨_, a21.rdc (by simp [keyC]), rfl, Ext.wr (e4.trans F19.ext) (F2.ext.none F4.no) P21.mut⟩
theorem Gone_ok (h : SetF F s p x) (d : Dot) : ACalls Tryz.prog F_orset_Set_Gone [.ptr (some (p, 0)), .agg (dotC d)] s fun r s' => r = .bool (!(x.live d).isSome && hasD x.v x.ex d) ∧ Ext s s' := by
 refine ACalls.pre fun hw => q_orset_Set_Gone _ _ _ _ ⟨rfl, NewQ.intro hw rfl fun l1 s2 F2 => ⟨_, F2.own.at.rdc (by simp [dotC]), ?_⟩⟩
 refine ACalls.use (Live_ok (h.ext F2.ext) d) ?_
 rintro v s5 ⟨rfl, e5⟩ w5
 refine ⟨_, _, rfl, NewSt w5 rfl rfl rfl fun l8 s10 F10 => ?_⟩
 have e10 := F2.ext.trans (e5.trans F10.ext)
 refine ACalls.use (there_ok (h.ext e10)) ?_
 rintro v s12 ⟨rfl, rfl⟩ w12
 refine ⟨_, rfl, bsplit.yes rfl (bsplit.mk (fun hl => ?_) (fun hl => ⟨?_, e10⟩))⟩
 ·obtain ⟨ok, _, hlen, pc, lm, tm, a, _, hc, _⟩ := h.ext e10
  refine ⟨_, by rw [a.at.rd1]; rfl, _, (F2.own.ext (e5.trans F10.ext)).at.rdc (by simp [dotC]), ?_⟩
  refine ACalls.use (ctx_Has_ok hc.at ok.r (by omega) d) ?_
  rintro v s19 ⟨rfl, e19⟩ _
  exact ⟨_, rfl, by rw [hl]; simp, e10.trans e19⟩
 ·rw [hl]; simp
theorem set_build (pc : Nat) (lm tm : Nat) : abuild T Y_orset_Set [(0, .ptr (some (pc, 0))), (1, .map (some lm)), (2, .map (some tm))] = some (.agg [.ptr (some (pc, 0)), .map (some lm), .map (some tm)]) := by
 rw [abuild_pl (pl := [(0, 1), (1, 1), (2, 1)]) (by kernel_rfl) zr_orset_Set rfl]
 rfl
theorem Copy_ok (h : SetF F s p x) : ACalls Tryz.prog F_orset_Set_Copy [.ptr (some (p, 0))] s fun r s' => ∃ p' F', r = .ptr (some (p', 0)) ∧ SetF F' s' p' x ∧ (∀ y ∈ F', s.h y = none) ∧ (∀ y ∈ F', s'.h y ≠ none) ∧ Ext s s' := by
 refine q_orset_Set_Copy _ _ _ ?_
 refine ACalls.use (there_ok h) ?_
 rintro v s2 ⟨rfl, rfl⟩ w2
 have hlx := h.len
 obtain ⟨ok, gap, len, pc, lm, tm, a, hpF, hc, hlF, htF, hlt, hl, ht⟩ := id h
 have g : ∀ (i : Nat) s', Ext s2 s' → rd1 s' p i = [AV.ptr (some (pc, 0)), .map (some lm), .map (some tm)][i]? := fun i s' e => (a.ext e).at.rd1 i
 refine ⟨_, rfl, bsplit.no rfl ⟨fun q _ v s' => (q = 4 → ∃ pc, v = .ptr (some (pc, 0)) ∧ s2.h pc = none ∧ CtxG s2 s' pc x.v x.ex) ∧ (q = 9 → ∃ lm, v = .map (some lm) ∧ s2.h lm = none ∧ LiveAt s' lm x.live x.nl), fun q _ v => (q = 4 → ∃ pc, v = .ptr (some (pc, 0))) ∧ (q = 9 → ∃ lm, v = .map (some lm)), ?_, _, g 0 _ (Ext.refl _), fun s7 e7 w7 _ => ?_, ⟨.ptr (some (0, 0)), (fun _ => ⟨0, rfl⟩), (fun h => by cases h)⟩, fun v11 hv11 => ?_⟩⟩
 ·rintro q ks v s' s'' e ⟨h1, h2⟩
  refine ⟨fun hq => ?_, fun hq => ?_⟩
  ·obtain ⟨a, b, c, d⟩ := h1 hq; exact ⟨a, b, c, d.ext e⟩
  ·obtain ⟨a, b, c, d⟩ := h2 hq; exact ⟨a, b, c, d.ext e⟩
 ·refine (ctx_Copy_G (hc.at.ext e7) (by omega)).mono ?_
  rintro v s9 ⟨q, rfl, hq, g9, e9⟩
  exact ⟨_, rfl, e9, ⟨(fun _ => ⟨q, rfl, e7.none hq, g9.back e7⟩), (fun h => by cases h)⟩, (fun _ => ⟨q, rfl⟩), (fun h => by cases h)⟩
 obtain ⟨pc', rfl⟩ := hv11.1 rfl
 refine ⟨_, rfl, _, g 1 _ (Ext.refl _), fun s16 e16 w16 _ => ?_, ⟨.map (some 0), (fun h => by cases h), (fun _ => ⟨0, rfl⟩)⟩, fun v20 hv20 => ?_⟩
 ·obtain ⟨es, c, h1, h2, h3⟩ := hl.ext e16
  refine (live_clone h1).mono ?_
  rintro v s18 ⟨m', rfl, e18, hm', hM⟩
  exact ⟨_, rfl, e18, ⟨(fun h => by cases h), (fun _ => ⟨m', rfl, e16.none hm', es, c, hM, h2, h3⟩)⟩, (fun h => by cases h), (fun _ => ⟨m', rfl⟩)⟩
 obtain ⟨lm', rfl⟩ := hv20.2 rfl
 refine ⟨_, rfl, _, g 2 _ (Ext.refl _), fun s25 e25 w25 hS => ?_⟩
 obtain ⟨pc2, hpc, hpc0, hG⟩ := hS.1.1 rfl
 obtain ⟨lm2, hlm, hlm0, hL⟩ := hS.2.1.2 rfl
 simp only [AV.ptr.injEq, AV.map.injEq, Option.some.injEq, Prod.mk.injEq, and_true] at hpc hlm
 subst hpc; subst hlm
 obtain ⟨es, c, h1, h2, h3⟩ := ht.ext e25
 refine ACalls.use (tombs_clone h1) ?_
 rintro v s28 ⟨tm', rfl, e28, htm, hM⟩ w28
 refine ⟨_, rfl, _, set_build _ _ _, rfl, NewQ.intro w28 rfl fun p' s30 F30 => ?_⟩
 obtain ⟨Fc, hcF, hFn, hFt⟩ := hG.toF hpc0
 have e30 := e28.trans F30.ext
 have E30 := e25.trans e30
 have hlt' : lm' ≠ tm' := by
  rintro rfl
  obtain ⟨es', c', h4, _⟩ := hL
  rw [h4.obj] at htm; cases htm
 refine ⟨p', p' :: lm' :: tm' :: Fc, rfl, ⟨ok, gap, len, pc', lm', tm', F30.own, by simp, (hcF.mut (L := []) e30.mut (by simp)).sub (fun y hy => by simp [hy]), by simp, by simp, hlt', hL.ext e30, es, c, hM.ext F30.ext, h2, h3⟩, ?_, ?_, E30⟩
 ·intro y hy
  simp only [List.mem_cons] at hy
  rcases hy with rfl | rfl | rfl | hy
  ·exact (e25.trans e28).none F30.no
  ·exact hlm0
  ·exact e25.none htm
  ·exact hFn y hy
 ·intro y hy
  simp only [List.mem_cons] at hy
  rcases hy with rfl | rfl | rfl | hy
  ·rw [F30.at]; simp
  ·obtain ⟨es', c', h4, _⟩ := hL.ext e30
   rw [h4.obj]; simp
  ·rw [(hM.ext F30.ext).obj]; simp
  ·cases hq : s25.h y with
   | none => exact absurd hq (hFt y hy)
   | some ob => rw [e30.1 y ob hq]; simp
end
end Go.Proofs.YtoklmpkpeanloaaGreat
end

section
namespace Go.Proofs.YtoklmpkpeanloaaGreat
open Go.Am Go.Minster Go.Minster2
theorem Ext.wrL {s s1 s2 : AS} {L : List Nat} (e : Ext s s1) (hp : ∀ x ∈ L, s.h x = none) (m : Mut L s1 s2) : Ext s s2 :=
 ⟨fun x o hx => m.1 x o (fun hm => by rw [hp x hm] at hx; cases hx) (e.1 x o hx), Nat.le_trans e.2 m.2⟩
section
variable {s : AS} {l n : Nat}
theorem LiveAt.obj {f : Dot → Option Key} (h : LiveAt s l f n) : ∃ es c, s.h l = some (.map es c false) := by
 obtain ⟨es, c, h1, _⟩ := h; exact ⟨_, _, h1.obj⟩
theorem TombAt.obj {f : Dot → Bool} (h : TombAt s l f n) : ∃ es c, s.h l = some (.map es c false) := by
 obtain ⟨es, c, h1, _⟩ := h; exact ⟨_, _, h1.obj⟩
theorem LiveAt.del (hw : WFs s) {f : Dot → Option Key} (h : LiveAt s l f n) {d : Dot} {k : Key} (hd : f d = some k) {Q : AS → Prop}
  (hq : ∀ s', LiveAt s' l (fun x => if x = d then none else f x) (n - 1) → WFs s' → Mut [l] s s' → Q s') : StQ (adelete T Y_m_Dot_Key (.map (some l)) (.agg (dotC d)) s) Q := by
 obtain ⟨es, c, h1, h2, h3⟩ := h
 refine MpAt.del mp_live hw h1 d (by rw [h2]; exact hd) fun s' es' h1' h2' hl w m => hq s' ⟨es', c, h1', fun x => ?_, by omega⟩ w m
 rw [h2', h2]
theorem LiveAt.upd (hw : WFs s) {f : Dot → Option Key} (h : LiveAt s l f n) (d : Dot) (k : Key) {Q : AS → Prop}
  (hq : ∀ s', LiveAt s' l (fun x => if x = d then some k else f x) (if (f d).isSome then n else n + 1) → WFs s' → Mut [l] s s' → Q s') : StQ (amapUpdate T Y_m_Dot_Key (.map (some l)) (.agg (dotC d)) (.agg (keyC k)) s) Q := by
 obtain ⟨es, c, h1, h2, h3⟩ := h
 refine MpAt.upd mp_live hw h1 d k fun s' es' c' h1' h2' w m => hq s' ⟨es', c', h1', fun x => ?_, ?_⟩ w m
 ·rw [h2', h2]
 ·rw [upd_len h1.nd h1'.nd h2', h2, h3]
theorem TombAt.upd (hw : WFs s) {f : Dot → Bool} (h : TombAt s l f n) (d : Dot) {Q : AS → Prop}
  (hq : ∀ s', TombAt s' l (fun x => f x || decide (x = d)) (if f d then n else n + 1) → WFs s' → Mut [l] s s' → Q s') : StQ (amapUpdate T Y_m_Dot_struct__is_bool__ (.map (some l)) (.agg (dotC d)) (.agg [.bool true]) s) Q := by
 obtain ⟨es, c, h1, h2, h3⟩ := h
 refine MpAt.upd mp_tombs hw h1 d true fun s' es' c' h1' h2' w m => hq s' ⟨es', c', h1', fun x => ?_, ?_⟩ w m
 ·rw [h2', h2]
  by_cases e : x = d
  ·simp [e]
  ·simp [e]
 ·rw [upd_len h1.nd h1'.nd h2', h2, h3]
  cases f d <;> simp
theorem TombAt.del (hw : WFs s) {f : Dot → Bool} (h : TombAt s l f n) {d : Dot} (hd : f d = true) {Q : AS → Prop}
  (hq : ∀ s', TombAt s' l (fun x => f x && !decide (x = d)) (n - 1) → WFs s' → Mut [l] s s' → Q s') : StQ (adelete T Y_m_Dot_struct__is_bool__ (.map (some l)) (.agg (dotC d)) s) Q := by
 obtain ⟨es, c, h1, h2, h3⟩ := h
 refine MpAt.del mp_tombs hw h1 d (v := true) (by rw [h2, hd]; rfl) fun s' es' h1' h2' hl w m => hq s' ⟨es', c, h1', fun x => ?_, by omega⟩ w m
 rw [h2', h2]
 by_cases e : x = d
 ·simp [e]
 ·simp [e]
end
theorem compact_len (v : List Int) (ex : List Dot) : (compact v ex).2.length ≤ ex.length := by
 have := fold_len ex (v, [])
 simpa [compact] using this
def OSet.see (x : OSet) (i : Itm) : Bool × OSet :=
 if (x.live i.dot).isSome && i.gone then (true, { x with live := fun d => if d = i.dot then none else x.live d, tomb := fun d => x.tomb d || decide (d = i.dot), nl := x.nl - 1, nt := if x.tomb i.dot then x.nt else x.nt + 1 })
 else if hasD x.v x.ex i.dot then (false, x)
 else if i.gone then (true, { x with v := (compact x.v (ins x.ex i.dot)).1, ex := (compact x.v (ins x.ex i.dot)).2, tomb := fun d => x.tomb d || decide (d = i.dot), nt := if x.tomb i.dot then x.nt else x.nt + 1 })
 else (true, { x with v := (compact x.v (ins x.ex i.dot)).1, ex := (compact x.v (ins x.ex i.dot)).2, live := fun d => if d = i.dot then some i.key else x.live d, nl := if (x.live i.dot).isSome then x.nl else x.nl + 1 })
theorem see_len (x : OSet) (i : Itm) (ok : COk x.v x.ex) (hi : i.dot.may = true) (hroom : x.ex.length < 4096) : (x.see i).2.ex.length ≤ x.ex.length + 1 ∧ (x.see i).2.nl ≤ x.nl + 1 ∧ (x.see i).2.nl + (x.see i).2.nt ≤ x.nl + x.nt + 1 := by
 have hc : (compact x.v (ins x.ex i.dot)).2.length ≤ x.ex.length + 1 := by
  have := compact_len x.v (ins x.ex i.dot)
  rw [ins_len] at this; exact this
 unfold OSet.see
 split
 ·refine ⟨by simp, by simp; omega, ?_⟩
  simp only
  split <;> omega
 ·split
  ·refine ⟨by simp, by simp, by simp⟩
  ·split
   ·refine ⟨hc, by simp, ?_⟩
    simp only; split <;> omega
   ·refine ⟨hc, ?_, ?_⟩ <;> simp only <;> split <;> omega
section
variable {F : List Nat} {s : AS} {p : Nat} {x : OSet}
theorem addD_no {v : List Int} {ex : List Dot} {d : Dot} (hh : hasD v ex d = true) (hd : d.may = true) : addD v ex d = (false, 0, v, ex) := by simp [addD, hd, hh]
theorem addD_yes {v : List Int} {ex : List Dot} {d : Dot} (hh : hasD v ex d = false) (hd : d.may = true) (hn : ex.length < 4096) : addD v ex d = (true, 0, compact v (ins ex d)) := by
 have hc := compact_len v (ins ex d)
 rw [ins_len] at hc
 simp only [addD, hd, hh, Bool.true_eq_false, Bool.false_eq_true, if_false]
 rw [if_neg (by omega)]
theorem see_ok (h : SetF F s p x) (hth : ∀ y ∈ F, s.h y ≠ none) (i : Itm) (hi : i.dot.may = true) (hroom : x.ex.length < 4096) :
  ACalls Tryz.prog F_orset_Set_see [.ptr (some (p, 0)), .agg (itemC i)] s fun r s' => r = .tup [.bool (x.see i).1, .int .i64 0] ∧ ∃ F', SetF F' s' p (x.see i).2 ∧ (∀ y ∈ F', y ∈ F ∨ s.h y = none) ∧ (∀ y ∈ F', s'.h y ≠ none) ∧ Mut F s s' := by
 refine ACalls.pre fun hw => q_orset_Set_see _ _ _ _ ⟨rfl, NewQ.intro hw rfl fun l1 s2 F2 => ?_⟩
 have h2 := h.ext F2.ext
 obtain ⟨ok, gap, hlen, pc, lm, tm, a, hpF, hc, hlF, htF, hlt, hl, ht⟩ := id h2
 have hf : alookup T Y_m_Dot_Key (.map (some lm)) (.agg (dotC i.dot)) true s2 = some (.tup [.agg (keyC ((x.live i.dot).getD ⟨[], []⟩)), .bool (x.live i.dot).isSome]) := by
  obtain ⟨es, c, hm, hg, _⟩ := hl
  have hf := hm.find mp_live i.dot true
  rw [hg] at hf
  refine Eq.trans (show _ = _ from hf) ?_
  cases x.live i.dot <;> rfl
 refine ⟨_, by rw [a.at.rd1]; rfl, _, F2.own.at.rdc (by simp [itemC]), keyC ((x.live i.dot).getD ⟨[], []⟩), (x.live i.dot).isSome, hf, ?_⟩
 refine NewSt F2.wf rfl rfl rfl fun l9 s11 F11 => ?_
 have E11 := F2.ext.trans F11.ext
 have o1 : Am.Own s11 l1 (itemC i) := F2.own.ext F11.ext
 have hpl : p ≠ lm := by rintro rfl; obtain ⟨es, c, h⟩ := hl.obj; rw [a] at h; cases h
 have hpt : p ≠ tm := by rintro rfl; obtain ⟨es, c, h⟩ := ht.obj; rw [a] at h; cases h
 have hF1 : l1 ∉ F := fun hm => hth l1 hm F2.no
 refine ⟨fun vs s' => vs = [.bool ((x.live i.dot).isSome && i.gone)] ∧ s' = s11, ?_, bsplit.mk (fun hs => ⟨i.gone, by rw [o1.at.rd1]; rfl, by rw [hs]; rfl, rfl⟩) (fun hs => ⟨by rw [hs]; rfl, rfl⟩)⟩
 rintro b s14 ⟨hb, rfl⟩
 simp only [List.cons.injEq, AV.bool.injEq, and_true] at hb
 subst hb
 have h14 := h2.ext F11.ext
 replace a := a.ext F11.ext
 replace hc := hc.mut (L := []) F11.ext.mut (by simp)
 replace hl := hl.ext F11.ext
 replace ht := ht.ext F11.ext
 have hth14 : ∀ y ∈ F, s14.h y ≠ none := fun y hy hn => hth y hy (E11.none hn)
 refine bsplit.mk (fun hb => ?_) (fun hb => ?_)
 ·simp only [Bool.and_eq_true] at hb
  obtain ⟨k, hk⟩ := Option.isSome_iff_exists.1 hb.1
  have hsee : x.see i = (true, { x with live := fun d => if d = i.dot then none else x.live d, tomb := fun d => x.tomb d || decide (d = i.dot), nl := x.nl - 1, nt := if x.tomb i.dot then x.nt else x.nt + 1 }) := by
   unfold OSet.see
   rw [if_pos (by simp [hb])]
  refine ⟨_, by rw [a.at.rd1]; rfl, _, o1.at.rdc (by simp [itemC]), hl.del F11.wf hk fun s19 hl19 w19 m19 => ?_⟩
  have ht19 := ht.mut m19 (by simpa using hlt.symm)
  have a19 := a.mut m19 (by simpa using hpl)
  have o19 := o1.mut m19 (by simp only [List.mem_singleton]; rintro rfl; exact hF1 hlF)
  refine ⟨_, by rw [a19.at.rd1]; rfl, _, o19.at.rdc (by simp [itemC]), _, is_build, ht19.upd w19 i.dot fun s25 ht25 w25 m25 => ?_⟩
  have hml : ∀ y ∈ [lm], y ∈ F := by simpa using hlF
  have hmt : ∀ y ∈ [tm], y ∈ F := by simpa using htF
  have M : Mut F s s25 := E11.mut.trans ((m19.mono hml).trans (m25.mono hmt))
  have hcl : pc ∉ [lm] := by
   simp only [List.mem_singleton]
   rintro rfl
   obtain ⟨_, _, w, hw2, _⟩ := hc
   obtain ⟨es, c, h⟩ := hl.obj
   rw [hw2] at h; cases h
  have hct : pc ∉ [tm] := by
   simp only [List.mem_singleton]
   rintro rfl
   obtain ⟨_, _, w, hw2, _⟩ := hc
   obtain ⟨es, c, h⟩ := ht.obj
   rw [hw2] at h; cases h
  have hc25 : CtxF F s25 pc x.v x.ex := by
   obtain ⟨q1, q2, w, q3, q4, q5, q6⟩ := hc
   have keep : ∀ (m : Nat) (es : List (AV × AV × Nat)) (c : Nat), s14.h m = some (.map es c false) → ∀ y ∈ labOf w, y ≠ m := by
    rintro m es c hm y hy rfl
    rcases q5 with ⟨_, b, rfl⟩ | ⟨la, rfl, ho⟩
    ·simp [labOf] at hy
    ·obtain rfl : y = la := by simpa [labOf] using hy
     rw [ho] at hm; cases hm
   obtain ⟨es1, c1, e1⟩ := hl.obj
   obtain ⟨es2, c2, e2⟩ := ht.obj
   have q5' := q5.mut m19 fun y hy hm => keep _ _ _ e1 y hy (by simpa using hm)
   exact ⟨q1, q2, w, (q3.mut m19 hcl).mut m25 hct, q4, q5'.mut m25 fun y hy hm => keep _ _ _ e2 y hy (by simpa using hm), q6⟩
  rw [hsee]
  refine ⟨rfl, F, ⟨ok, gap, hlen, pc, lm, tm, a19.mut m25 (by simpa using hpt), hpF, hc25, hlF, htF, hlt, hl19.mut m25 (by simpa using hlt), ht25⟩, fun y hy => .inl hy, fun y hy => ?_, M⟩
  have keepN : ∀ {m : Nat} {u u' : AS}, Mut [m] u u' → u'.h m ≠ none → u.h y ≠ none → u'.h y ≠ none := by
   intro m u u' mm hm hn
   by_cases e : y = m
   ·rw [e]; exact hm
   ·cases hq : u.h y with
    | none => exact absurd hq hn
    | some o => rw [mm.1 y o (by simpa using e) hq]; simp
  refine keepN m25 ?_ (keepN m19 ?_ (hth14 y hy))
  ·obtain ⟨es, c, h⟩ := ht25.obj; rw [h]; simp
  ·obtain ⟨es, c, h⟩ := hl19.obj; rw [h]; simp
 refine ⟨_, by rw [a.at.rd1]; rfl, _, o1.at.rdc (by simp [itemC]), ?_⟩
 refine ACalls.use (ctx_Add_ok3 hc.at ok.v ok.r ok.m (by omega) i.dot) ?_
 rintro r s31 ⟨rfl, c31, m31, hno, hyes⟩ w31
 have hb' : ¬ ((x.live i.dot).isSome && i.gone) = true := by rw [hb]; simp
 cases hh : hasD x.v x.ex i.dot with
 | true =>
  rw [addD_no hh hi] at c31 hno hyes ⊢
  have e31 := hno rfl
  have hsee : x.see i = (false, x) := by
   unfold OSet.see
   rw [if_neg hb', if_pos hh]
  rw [hsee]
  refine ⟨_, _, rfl, fun vs s' => vs = [.bool true] ∧ s' = s31, ?_, bsplit.no rfl ⟨rfl, rfl⟩⟩
  rintro b s36 ⟨hb, rfl⟩
  simp only [List.cons.injEq, AV.bool.injEq, and_true] at hb
  subst hb
  exact bsplit.yes rfl ⟨rfl, F, h14.ext e31, fun y hy => .inl hy, fun y hy hn => hth14 y hy (e31.none hn), (E11.trans e31).mut⟩
 | false =>
  have hadd := addD_yes hh hi hroom
  have haa := addD_any ok gap hroom i.dot
  rw [hadd] at c31 hno hyes haa ⊢
  obtain ⟨ok', gap', hlen0, _⟩ := haa
  have hlen' : (compact x.v (ins x.ex i.dot)).2.length ≤ x.ex.length + 1 := hlen0
  have hG := hyes rfl
  obtain ⟨Fc, hcF, hFn, hFt⟩ := hG.toF2
  have hpcF : pc ∈ F := hc.lab
  have m31F : Mut F s14 s31 := m31.mono (by simpa using hpcF)
  have hpc : p ≠ pc := by
   rintro rfl
   have hvl := ok.v.len
   obtain ⟨_, _, w, hw2, _⟩ := hc
   have h1 := congrArg List.length (a.at.inj hw2.at)
   simp [hvl] at h1
  have hlp : lm ≠ pc := by
   rintro rfl
   obtain ⟨_, _, w, hw2, _⟩ := hc
   obtain ⟨es, c, h⟩ := hl.obj
   rw [hw2] at h; cases h
  have htp : tm ≠ pc := by
   rintro rfl
   obtain ⟨_, _, w, hw2, _⟩ := hc
   obtain ⟨es, c, h⟩ := ht.obj
   rw [hw2] at h; cases h
  have a31 := a.mut m31 (by simpa using hpc)
  have hl31 := hl.mut m31 (by simpa using hlp)
  have ht31 := ht.mut m31 (by simpa using htp)
  have o31 := o1.mut m31 (by simp only [List.mem_singleton]; rintro rfl; exact hF1 hpcF)
  have hFs : ∀ y ∈ Fc, y ∈ F ∨ s.h y = none := by
   intro y hy
   rcases hFn y hy with rfl | h
   ·exact .inl hpcF
   ·exact .inr (E11.none h)
  have hFm : ∀ {m : Nat}, m ≠ pc → s14.h m ≠ none → ∀ y ∈ [m], y ∉ Fc := by
   intro m hm hn y hy hf
   obtain rfl := List.mem_singleton.1 hy
   rcases hFn y hf with h | h
   ·exact hm h
   ·exact hn h
  have fin : ∀ {m : Nat} {s' : AS}, m ∈ F → Mut [m] s31 s' → s'.h m ≠ none → ∀ y ∈ Fc ++ F, s'.h y ≠ none := by
   intro m s' hm mm hn y hy
   by_cases e : y = m
   ·rw [e]; exact hn
   ·have h31 : s31.h y ≠ none := by
     rcases List.mem_append.1 hy with hy | hy
     ·exact hFt y hy
     ·by_cases e2 : y = pc
      ·rw [e2]; obtain ⟨_, w, h, _⟩ := c31; rw [h]; simp
      ·cases hq : s14.h y with
       | none => exact absurd hq (hth14 y hy)
       | some o => rw [m31.1 y o (by simpa using e2) hq]; simp
    cases hq : s31.h y with
    | none => exact absurd hq h31
    | some o => rw [mm.1 y o (by simpa using e) hq]; simp
  have hFall : ∀ y ∈ Fc ++ F, y ∈ F ∨ s.h y = none := by
   intro y hy
   rcases List.mem_append.1 hy with hy | hy
   ·exact hFs y hy
   ·exact .inl hy
  refine ⟨_, _, rfl, fun vs s' => vs = [.bool false] ∧ s' = s31, ?_, bsplit.no rfl ⟨rfl, rfl⟩⟩
  rintro b s36 ⟨hb2, rfl⟩
  simp only [List.cons.injEq, AV.bool.injEq, and_true] at hb2
  subst hb2
  refine bsplit.no rfl ⟨i.gone, by rw [o31.at.rd1]; rfl, bsplit.mk (fun hg => ?_) (fun hg => ?_)⟩
  ·have hsee : x.see i = (true, { x with v := (compact x.v (ins x.ex i.dot)).1, ex := (compact x.v (ins x.ex i.dot)).2, tomb := fun d => x.tomb d || decide (d = i.dot), nt := if x.tomb i.dot then x.nt else x.nt + 1 }) := by
    unfold OSet.see
    rw [if_neg hb', if_neg (by rw [hh]; simp), if_pos hg]
   rw [hsee]
   refine ⟨_, by rw [a31.at.rd1]; rfl, _, o31.at.rdc (by simp [itemC]), _, is_build, ht31.upd w31 i.dot fun s43 ht43 w43 m43 => ?_⟩
   obtain ⟨es, c, hto⟩ := ht.obj
   have hc43 := hcF.mut m43 (hFm htp (by rw [hto]; simp))
   refine ⟨rfl, Fc ++ F, ⟨ok', gap', by simp only; omega, pc, lm, tm, a31.mut m43 (by simpa using hpt), by simp [hpF], hc43.sub (fun y hy => by simp [hy]), by simp [hlF], by simp [htF], hlt, hl31.mut m43 (by simpa using hlt), ht43⟩, hFall, fin htF m43 ?_, E11.mut.trans (m31F.trans (m43.mono (by simpa using htF)))⟩
   obtain ⟨es, c, h⟩ := ht43.obj; rw [h]; simp
  ·have hsee : x.see i = (true, { x with v := (compact x.v (ins x.ex i.dot)).1, ex := (compact x.v (ins x.ex i.dot)).2, live := fun d => if d = i.dot then some i.key else x.live d, nl := if (x.live i.dot).isSome then x.nl else x.nl + 1 }) := by
    unfold OSet.see
    rw [if_neg hb', if_neg (by rw [hh]; simp), if_neg (by rw [hg]; simp)]
   rw [hsee]
   refine ⟨_, by rw [a31.at.rd1]; rfl, _, o31.at.rdc (by simp [itemC]), _, o31.at.rdc (by simp [itemC]), hl31.upd w31 i.dot i.key fun s49 hl49 w49 m49 => ?_⟩
   obtain ⟨es, c, hlo⟩ := hl.obj
   have hc49 := hcF.mut m49 (hFm hlp (by rw [hlo]; simp))
   refine ⟨rfl, Fc ++ F, ⟨ok', gap', by simp only; omega, pc, lm, tm, a31.mut m49 (by simpa using hpl), by simp [hpF], hc49.sub (fun y hy => by simp [hy]), by simp [hlF], by simp [htF], hlt, hl49, ht31.mut m49 (by simpa using hlt.symm)⟩, hFall, fin hlF m49 ?_, E11.mut.trans (m31F.trans (m49.mono (by simpa using hlF)))⟩
   obtain ⟨es, c, h⟩ := hl49.obj; rw [h]; simp
end
end Go.Proofs.YtoklmpkpeanloaaGreat
end

section
namespace Go.Proofs.YtoklmpkpeanloaaGreat
open Go.Am Go.Minster Go.Minster2
theorem sl_s_Item : SlTy T Y_s_Item Y_Item 5 56 := ⟨u_s_Item, z_Item, b_Item, ⟨_, _, zr_Item, rfl, rfl⟩, by decide, by decide⟩
section
variable {s : AS} {a : AV} {l : List Itm} {g : FuncId} {cap : List AV} {P : Itm → Bool}
theorem IndexFunc_ok (hl : Sl itemC 5 s a l) (hn : l.length ≤ 2 ^ 40) (hf : ∀ i s', Ext s s' → WFs s' → ACalls Tryz.prog g ([.agg (itemC i)] ++ cap) s' fun v s'' => v = .bool (P i) ∧ Ext s' s'') :
  ACalls Tryz.prog F_slices_IndexFunc__s_Item_Item [a, .func g cap] s fun v s' => Ext s s' ∧ ∃ n : Int, v = .int .i64 n ∧ ((n = -1 ∧ l.any P = false) ∨ ∃ k : Nat, n = k ∧ k < l.length ∧ (∃ x, l[k]? = some x ∧ P x = true) ∧ ∀ j x, j < k → l[j]? = some x → P x = false) := by
 refine ACalls.pre fun hw => q_slices_IndexFunc__s_Item_Item _ _ _ _ ⟨_, hl.lenB u_s_Item _, fun m vs s' => ∃ i : Nat, vs = [.int .i64 (i : Nat)] ∧ i ≤ l.length ∧ m = l.length - i ∧ Ext s s' ∧ WFs s' ∧ (∀ j x, j < i → l[j]? = some x → P x = false), l.length, ⟨0, rfl, by omega, rfl, Ext.refl _, hw, by omega⟩, ?_⟩
 rintro m n s6 ⟨i, hi, h6, rfl, e6, w6, hall⟩
 simp only [List.cons.injEq, AV.int.injEq, true_and, and_true] at hi
 subst hi
 refine bsplit.dec (fun hlt => ?_) (fun hge => ⟨e6, -1, rfl, .inl ⟨rfl, ?_⟩⟩)
 ·obtain ⟨x, hx⟩ := get_lt (l := l) (i := i) (by omega)
  obtain ⟨la, o, h8, h9⟩ := hl.ix (by decide) itemC_len u_s_Item z_Item hx
  refine ⟨la, o, h8 _, _, (h9 _ e6).2, ?_⟩
  refine ACalls.use (hf x s6 e6 w6) ?_
  rintro v s11 ⟨rfl, e11⟩ w11
  refine ⟨_, rfl, bsplit.mk (fun hb => ⟨e6.trans e11, _, rfl, .inr ⟨i, rfl, by omega, ⟨x, hx, hb⟩, hall⟩⟩) (fun hb => ⟨l.length - (i + 1), by omega, i + 1, by rw [wrap_i (by omega)]; rfl, by omega, rfl, e6.trans e11, w11, fun j y hj hy => ?_⟩)⟩
  rcases Nat.lt_or_ge j i with h | h
  ·exact hall j y h hy
  ·obtain rfl : j = i := by omega
   rw [hx] at hy; obtain rfl := Option.some.inj hy; exact hb
 ·rw [List.any_eq_false]
  intro x hx
  obtain ⟨j, hj⟩ := List.mem_iff_getElem?.1 hx
  have : j < l.length := by
   rcases Nat.lt_or_ge j l.length with h | h
   ·exact h
   ·rw [List.getElem?_eq_none h] at hj; cases hj
  rw [hall j x (by omega) hj]; simp
theorem ContainsFunc_ok (hl : Sl itemC 5 s a l) (hn : l.length ≤ 2 ^ 40) (hf : ∀ i s', Ext s s' → WFs s' → ACalls Tryz.prog g ([.agg (itemC i)] ++ cap) s' fun v s'' => v = .bool (P i) ∧ Ext s' s'') :
  ACalls Tryz.prog F_slices_ContainsFunc__s_Item_Item [a, .func g cap] s fun v s' => v = .bool (l.any P) ∧ Ext s s' := by
 refine q_slices_ContainsFunc__s_Item_Item _ _ _ _ ?_
 refine ACalls.use (IndexFunc_ok hl hn hf) ?_
 rintro v s2 ⟨e, n, rfl, h⟩ _
 refine ⟨_, rfl, ?_, e⟩
 congr 1
 rcases h with ⟨rfl, h⟩ | ⟨k, rfl, hk, ⟨x, hx, hp⟩, _⟩
 ·rw [h]; decide
 ·rw [List.any_eq_true.2 ⟨x, List.mem_of_getElem? hx, hp⟩, decide_eq_true_eq]; omega
theorem See1_ok (i : Itm) (s : AS) : ACalls Tryz.prog F_orset_Set_See_1 [.agg (itemC i)] s fun v s' => v = .bool (!i.may) ∧ Ext s s' := by
 refine ACalls.pre fun hw => q_orset_Set_See_1 _ _ _ ⟨rfl, NewQ.intro hw rfl fun l s1 F => ⟨_, F.own.at.rdc (by simp [itemC]), ?_⟩⟩
 refine ACalls.use (May_ok i _) ?_
 rintro v s2 ⟨rfl, e⟩ _
 exact ⟨_, rfl, rfl, F.ext.trans e⟩
end
def OSet.sees (x : OSet) (l : List Itm) : Bool × OSet := l.foldl (fun a i => (a.1 || (a.2.see i).1, (a.2.see i).2)) (false, x)
section
variable {F : List Nat} {s : AS} {p : Nat} {x : OSet}
theorem LiveAt.lenB {l n : Nat} {f : Dot → Option Key} (h : LiveAt s l f n) : alenB T Y_m_Dot_Key (.map (some l)) s = some (.int .i64 (n : Nat)) := by
 obtain ⟨es, c, h1, _, h3⟩ := h
 rw [h1.lenB mp_live, h3]
theorem TombAt.lenB {l n : Nat} {f : Dot → Bool} (h : TombAt s l f n) : alenB T Y_m_Dot_struct__is_bool__ (.map (some l)) s = some (.int .i64 (n : Nat)) := by
 obtain ⟨es, c, h1, _, h3⟩ := h
 rw [h1.lenB mp_tombs, h3]
theorem See_bad (h : SetF F s p x) {a : AV} {l : List Itm} (hl : Sl itemC 5 s a l) (hn : l.length ≤ 2 ^ 40) (hall : ¬ ∀ i ∈ l, i.may = true) :
  ACalls Tryz.prog F_orset_Set_See [.ptr (some (p, 0)), a] s fun r s' => r = .tup [.bool false, .int .i64 2] ∧ Ext s s' := by
 refine q_orset_Set_See _ _ _ _ ?_
 refine ACalls.use (there_ok h) ?_
 rintro v s2 ⟨rfl, rfl⟩ w2
 refine ⟨_, rfl, bsplit.no rfl ?_⟩
 refine ACalls.use (ContainsFunc_ok (P := fun i => !i.may) hl hn fun i s' _ _ => See1_ok i s') ?_
 rintro v s5 ⟨rfl, e5⟩ w5
 have : l.any (fun i => !i.may) = true := by
  rw [List.any_eq_true]
  apply Decidable.byContradiction
  intro h
  refine hall fun i hi => ?_
  cases hq : i.may with
  | true => rfl
  | false => exact absurd ⟨i, hi, by simp [hq]⟩ h
 rw [this]
 exact ⟨_, rfl, bsplit.yes rfl ⟨rfl, e5⟩⟩
theorem See_ok (h : SetF F s p x) {a : AV} {l : List Itm} (hl : Sl itemC 5 s a l) (hall : ∀ i ∈ l, i.may = true) (hr1 : x.ex.length + l.length ≤ 4096) (hr2 : x.nl + l.length ≤ 1024) (hr3 : x.nl + x.nt + l.length ≤ 4096) :
  ACalls Tryz.prog F_orset_Set_See [.ptr (some (p, 0)), a] s fun r s' => r = .tup [.bool (x.sees l).1, .int .i64 0] ∧ ∃ F', SetF F' s' p (x.sees l).2 ∧ (∀ y ∈ F', y = p ∨ s.h y = none) ∧ (∀ y ∈ F', s'.h y ≠ none) ∧ Mut [p] s s' := by
 refine q_orset_Set_See _ _ _ _ ?_
 refine ACalls.use (there_ok h) ?_
 rintro v s2 ⟨rfl, rfl⟩ w2
 refine ⟨_, rfl, bsplit.no rfl ?_⟩
 refine ACalls.use (ContainsFunc_ok (P := fun i => !i.may) hl (by omega) fun i s' _ _ => See1_ok i s') ?_
 rintro v s5 ⟨rfl, e5⟩ w5
 have : l.any (fun i => !i.may) = false := by
  rw [List.any_eq_false]
  intro i hi
  simp [hall i hi]
 rw [this]
 refine ⟨_, rfl, bsplit.no rfl ?_⟩
 refine ACalls.use (Copy_ok (h.ext e5)) ?_
 rintro v s8 ⟨po, F0, rfl, hS, hn0, ht0, e8⟩ w8
 have E8 := e5.trans e8
 have hp : ∃ cs, Am.Own s2 p cs ∧ cs.length = 3 := by
  obtain ⟨_, _, _, pc, lm, tm, a, _⟩ := h
  exact ⟨_, a, rfl⟩
 obtain ⟨cs, hp, hcs⟩ := hp
 have hstep : ∀ (i : Nat) y, l[i]? = some y → x.sees (l.take (i + 1)) = ((x.sees (l.take i)).1 || ((x.sees (l.take i)).2.see y).1, ((x.sees (l.take i)).2.see y).2) := by
  intro i y hy
  unfold OSet.sees
  rw [List.take_add_one, hy, Option.toList_some, List.foldl_append]
  rfl
 refine ⟨_, rfl, fun vs s' => vs = [.bool (x.sees l).1] ∧ WFs s' ∧ Ext s2 s' ∧ ∃ F', SetF F' s' po (x.sees l).2 ∧ (∀ y ∈ F', s2.h y = none) ∧ (∀ y ∈ F', s'.h y ≠ none) ∧ (x.sees l).2.nl ≤ 1024 ∧ (x.sees l).2.nl + (x.sees l).2.nt ≤ 4096, ?_, ?_⟩
 ·rintro b s12 ⟨hb, w12, e12, F', hS', hn', ht', hl1, hl2⟩
  simp only [List.cons.injEq, AV.bool.injEq, and_true] at hb
  subst hb
  obtain ⟨ok, gap, hlen, pc, lm, tm, a', hpF, hc, hlF, htF, hlt, hlv, htb⟩ := hS'
  refine ⟨fun vs s' => vs = [.bool false] ∧ s' = s12, ?_, _, by rw [a'.at.rd1]; rfl, _, hlv.lenB, bsplit.no (by rw [decide_eq_false_iff_not]; omega) ⟨_, by rw [a'.at.rd1]; rfl, _, hlv.lenB, _, by rw [a'.at.rd1]; rfl, _, htb.lenB, ?_, rfl⟩⟩
  ·rintro b s15 ⟨hb, rfl⟩
   simp only [List.cons.injEq, AV.bool.injEq, and_true] at hb
   subst hb
   have ho := hp.ext e12
   refine bsplit.no rfl ⟨_, a'.at.rdc (by simp), ⟨by simp, rfl⟩, StQ.own w12 ho (by simp [hcs]) fun s21 P => ⟨rfl, p :: F', ⟨ok, gap, hlen, pc, lm, tm, ?_, by simp, ?_, by simp [hlF], by simp [htF], hlt, hlv.mut P.mut ?_, htb.mut P.mut ?_⟩, fun y hy => ?_, fun y hy => ?_, e12.mut.trans P.mut⟩⟩
   ·have := P.at
    rw [wrs_all0 (by simp [hcs])] at this
    exact this
   ·refine (hc.mut P.mut fun y hy hm => ?_).sub fun y hy => by simp [hy]
    obtain rfl := List.mem_singleton.1 hy
    have := hn' _ hm
    rw [hp] at this; cases this
   ·intro hm
    obtain rfl := List.mem_singleton.1 hm
    have := hn' _ hlF
    rw [hp] at this; cases this
   ·intro hm
    obtain rfl := List.mem_singleton.1 hm
    have := hn' _ htF
    rw [hp] at this; cases this
   ·rcases List.mem_cons.1 hy with rfl | hy
    ·exact .inl rfl
    ·exact .inr (hn' y hy)
   ·by_cases e : y = p
    ·rw [e, P.at]; simp
    ·rw [P.eq y e]
     rcases List.mem_cons.1 hy with rfl | hy
     ·exact absurd rfl e
     ·exact ht' y hy
  ·rw [wrap_i (by omega), show decide (((x.sees l).2.nl : Int) + ((x.sees l).2.nt : Int) > 4096) = false from by rw [decide_eq_false_iff_not]; omega]
 ·refine ⟨_, hl.lenB u_s_Item _, fun m vs s' => ∃ i : Nat, vs = [.bool (x.sees (l.take i)).1, .int .i64 (i : Nat)] ∧ i ≤ l.length ∧ m = l.length - i ∧ WFs s' ∧ Ext s2 s' ∧ (∃ F', SetF F' s' po (x.sees (l.take i)).2 ∧ (∀ y ∈ F', s2.h y = none) ∧ (∀ y ∈ F', s'.h y ≠ none)) ∧ (x.sees (l.take i)).2.ex.length ≤ x.ex.length + i ∧ (x.sees (l.take i)).2.nl ≤ x.nl + i ∧ (x.sees (l.take i)).2.nl + (x.sees (l.take i)).2.nt ≤ x.nl + x.nt + i, l.length, ⟨0, rfl, by omega, rfl, w8, E8, ⟨F0, hS, fun y hy => e5.none (hn0 y hy), ht0⟩, by simp [OSet.sees], by simp [OSet.sees], by simp [OSet.sees]⟩, ?_⟩
  rintro m b n s40 ⟨i, hi, h6, rfl, w40, e40, ⟨F', hS', hn', ht'⟩, r1, r2, r3⟩
  simp only [List.cons.injEq, AV.int.injEq, AV.bool.injEq, true_and, and_true] at hi
  obtain ⟨rfl, rfl⟩ := hi
  refine bsplit.dec (fun hlt => ?_) (fun hge => ?_)
  ·obtain ⟨y, hy⟩ := get_lt (l := l) (i := i) (by omega)
   obtain ⟨la, o, h8, h9⟩ := hl.ix (by decide) itemC_len u_s_Item z_Item hy
   have hmay : y.dot.may = true := by
    have := hall y (List.mem_of_getElem? hy)
    simp only [Itm.may, Bool.and_eq_true] at this
    exact this.1
   refine ⟨la, o, h8 _, _, (h9 _ e40).2, NewSt w40 rfl rfl rfl fun l44 s46 F46 => ?_⟩
   refine ⟨_, F46.own.at.rdc (by simp [itemC]), ?_⟩
   have ht46 : ∀ z ∈ F', s46.h z ≠ none := fun z hz hq => ht' z hz (F46.ext.none hq)
   have hsl := see_len (x.sees (l.take i)).2 y hS'.ok hmay (by omega)
   refine ACalls.use (see_ok (hS'.ext F46.ext) ht46 y hmay (by omega)) ?_
   rintro v s49 ⟨rfl, F2, hS2, hn2, ht2, m2⟩ w49
   have hs1 := hstep i y hy
   have E49 : Ext s2 s49 := Ext.wrL (e40.trans F46.ext) hn' m2
   refine ⟨_, _, rfl, bsplit.no (by decide) ?_⟩
   have hn2' : ∀ z ∈ F2, s2.h z = none := fun z hz => by
    rcases hn2 z hz with h | h
    ·exact hn' z h
    ·exact (e40.trans F46.ext).none h
   have rest : SetF F2 s49 po (x.sees (l.take (i + 1))).2 ∧ (x.sees (l.take (i + 1))).2.ex.length ≤ x.ex.length + (i + 1) ∧ (x.sees (l.take (i + 1))).2.nl ≤ x.nl + (i + 1) ∧ (x.sees (l.take (i + 1))).2.nl + (x.sees (l.take (i + 1))).2.nt ≤ x.nl + x.nt + (i + 1) := by
    rw [hs1]
    exact ⟨hS2, by simp only; omega, by simp only; omega, by simp only; omega⟩
   refine bsplit.mk (fun hb => ?_) (fun hb => ?_)
   ·exact ⟨l.length - (i + 1), by omega, i + 1, by rw [wrap_i (by omega), hs1, hb]; rfl, by omega, rfl, w49, E49, ⟨F2, rest.1, hn2', ht2⟩, rest.2⟩
   ·exact ⟨l.length - (i + 1), by omega, i + 1, by rw [wrap_i (by omega), hs1, hb]; rfl, by omega, rfl, w49, E49, ⟨F2, rest.1, hn2', ht2⟩, rest.2⟩
  ·obtain rfl : i = l.length := by omega
   rw [List.take_length] at *
   exact ⟨rfl, w40, e40, F', hS', hn', ht', by omega, by omega⟩
end
/-! ### the live dots that something holds of -/
def OSet.held (x : OSet) (P : Dot → Key → Bool) (d : Dot) : Bool := match x.live d with
 | some k => P d k
 | none => false
section
variable {F : List Nat} {s : AS} {p : Nat} {x : OSet} {g : FuncId} {cap : List AV} {P : Dot → Key → Bool}
theorem dots_ok (h : SetF F s p x) (hn : x.nl < 65536) (hf : ∀ d k s', Ext s s' → WFs s' → ACalls Tryz.prog g ([.agg (dotC d), .agg (keyC k)] ++ cap) s' fun v s'' => v = .bool (P d k) ∧ Ext s' s'') :
  ACalls Tryz.prog F_orset_Set_dots [.ptr (some (p, 0)), .func g cap] s fun v s' => ∃ l, GroN dotC 2 [] s s' v l ∧ Rising l ∧ (∀ d, d ∈ l ↔ x.held P d = true) ∧ l.length ≤ x.nl := by
 refine ACalls.pre fun hw => q_orset_Set_dots _ _ _ _ ?_
 obtain ⟨_, _, _, pc, lm, tm, a, _, _, _, _, _, hlv, _⟩ := id h
 obtain ⟨es, c, hm, hg, hl⟩ := id hlv
 refine ⟨_, by rw [a.at.rd1]; rfl, live_sorted (by omega) hm fun v6 s7 l h1 h2 h3 h4 w7 => ?_⟩
 have E7 : Ext s s7 := h4.1
 have hd := h4.dots
 refine ⟨_, hd.lenB u_s_Dot _, fun m vs s' => ∃ (i : Nat) (v : AV), vs = [v, .int .i64 (i : Nat)] ∧ i ≤ l.length ∧ m = l.length - i ∧ WFs s' ∧ GroN dotC 2 [] s7 s' v ((l.take i).filter (x.held P)), l.length, ⟨0, _, rfl, by omega, rfl, w7, by simpa using GroN.nil⟩, ?_⟩
 rintro m v12 n s14 ⟨i, v', hi, h6, rfl, w14, g14⟩
 simp only [List.cons.injEq, AV.int.injEq, true_and, and_true] at hi
 obtain ⟨rfl, rfl⟩ := hi
 refine bsplit.dec (fun hlt => ?_) (fun hge => ?_)
 ·obtain ⟨d, hx⟩ := get_lt (l := l) (i := i) (by omega)
  obtain ⟨la, o, h8, h9⟩ := hd.ix (by decide) dotC_len u_s_Dot z_Dot hx
  have ht : (l.take (i + 1)).filter (x.held P) = (l.take i).filter (x.held P) ++ if x.held P d = true then [d] else [] := by
   rw [List.take_add_one, hx, List.filter_append, Option.toList_some]
   congr 1
   cases hq : x.held P d <;> simp [List.filter_cons, hq]
  refine ⟨la, o, h8 _, _, (h9 _ g14.chg.ext).2, NewSt w14 rfl rfl rfl fun l18 s20 F20 => ?_⟩
  have E20 := E7.trans (g14.chg.ext.trans F20.ext)
  have a20 := a.ext E20
  obtain ⟨e, he, hed⟩ := (h2 d).1 (List.mem_of_getElem? hx)
  have hlk : x.live d = some e.2.1 := by rw [← hg, ← hed]; exact mget_mem hm.nd he
  have hlook : alookup T Y_m_Dot_Key (.map (some lm)) (.agg (dotC d)) false s20 = some (.agg (keyC e.2.1)) := by
   have := (hm.ext E20).find mp_live d false
   rw [hg, hlk] at this
   exact this
  refine ⟨_, F20.own.at.rdc (by simp [dotC]), _, by rw [a20.at.rd1]; rfl, _, F20.own.at.rdc (by simp [dotC]), _, hlook, ?_⟩
  refine ACalls.use (hf d e.2.1 s20 E20 F20.wf) ?_
  rintro v s28 ⟨rfl, e28⟩ w28
  have hheld : x.held P d = P d e.2.1 := by simp [OSet.held, hlk]
  have g28 := g14.step (F20.ext.trans e28)
  have hfl := List.length_filter_le (x.held P) (l.take i)
  have htl := List.length_take_le i l
  refine ⟨_, rfl, bsplit.mk (fun hb => ?_) (fun hb => ?_)⟩
  ·refine ⟨_, (F20.own.ext e28).at.rdc (by simp [dotC]), GroN.append1 sl_s_Dot dotC_len dotC_one w28 g28 (by simp) d (by omega) fun v' s' g' w' _ => ?_⟩
   exact ⟨l.length - (i + 1), by omega, i + 1, v', by rw [wrap_i (by omega)]; rfl, by omega, rfl, w', by rw [ht, hheld, if_pos hb]; exact g'⟩
  ·exact ⟨l.length - (i + 1), by omega, i + 1, v12, by rw [wrap_i (by omega)]; rfl, by omega, rfl, w28, by rw [ht, hheld, if_neg (by rw [hb]; simp), List.append_nil]; exact g28⟩
 ·rw [List.take_of_length_le (by omega)] at g14
  refine ⟨l.filter (x.held P), ⟨g14.gro, E7.mut.trans g14.chg, fun la hla => E7.none (g14.new la hla)⟩, h1.filter _, fun d => ?_, ?_⟩
  ·rw [List.mem_filter, h2]
   constructor
   ·exact fun h => h.2
   ·intro hd
    refine ⟨?_, hd⟩
    unfold OSet.held at hd
    cases hq : x.live d with
    | none => rw [hq] at hd; cases hd
    | some k =>
     rw [← hg] at hq
     obtain ⟨j, n, hj⟩ := mget_some hq
     exact ⟨_, List.mem_of_getElem? hj, rfl⟩
  ·have := List.length_filter_le (x.held P) l
   omega
end
/-! ### items that are gone -/
def goneI (d : Dot) : Itm := ⟨d, ⟨[], []⟩, true⟩
theorem build_gone (d : Dot) : abuild T Y_Item [(0, .agg (dotC d)), (2, .bool true)] = some (.agg (itemC (goneI d))) := by kernel_rfl
theorem gone_ok {s : AS} {a : AV} {l : List Dot} (hl : Dots s a l) (hn : l.length ≤ 2 ^ 29) :
  ACalls Tryz.prog F_orset_gone [a] s fun v s' => GroN itemC 5 [] s s' v (l.map goneI) := by
 refine ACalls.pre fun hw => q_orset_gone _ _ _ ⟨_, hl.lenB u_s_Dot _, fun m vs s' => ∃ (i : Nat) (v : AV), vs = [v, .int .i64 (i : Nat)] ∧ i ≤ l.length ∧ m = l.length - i ∧ WFs s' ∧ GroN itemC 5 [] s s' v ((l.take i).map goneI), l.length, ⟨0, _, rfl, by omega, rfl, hw, by simpa using GroN.nil⟩, ?_⟩
 rintro m v5 n s7 ⟨i, v', hi, h6, rfl, w7, g7⟩
 simp only [List.cons.injEq, AV.int.injEq, true_and, and_true] at hi
 obtain ⟨rfl, rfl⟩ := hi
 refine bsplit.dec (fun hlt => ?_) (fun hge => ?_)
 ·obtain ⟨d, hx⟩ := get_lt (l := l) (i := i) (by omega)
  obtain ⟨la, o, h8, h9⟩ := hl.ix (by decide) dotC_len u_s_Dot z_Dot hx
  have ht : (l.take (i + 1)).map goneI = (l.take i).map goneI ++ [goneI d] := by
   rw [List.take_add_one, hx, List.map_append]; rfl
  refine ⟨la, o, h8 _, _, (h9 _ g7.chg.ext).2, NewSt w7 rfl rfl rfl fun l11 s13 F13 => ?_⟩
  refine ⟨_, F13.own.at.rdc (by simp [dotC]), _, build_gone d, GroN.append1 sl_s_Item itemC_len itemC_one F13.wf (g7.step F13.ext) (by simp) (goneI d) (by simp; omega) fun v' s' g' w' _ => ?_⟩
  exact ⟨l.length - (i + 1), by omega, i + 1, v', by rw [wrap_i (by omega)]; rfl, by omega, rfl, w', by rw [ht]; exact g'⟩
 ·rw [List.take_of_length_le (by omega)] at g7
  exact g7
end Go.Proofs.YtoklmpkpeanloaaGreat
end

section
namespace Go.Proofs.YtoklmpkpeanloaaGreat
open Go.Am Go.Minster Go.Minster2
def OSet.zero : OSet := ⟨zeros, [], fun _ => none, fun _ => false, 0, 0⟩
theorem ctx_New_G (s : AS) : ACalls Tryz.prog F_ctx_New [] s fun r s' => ∃ p, r = .ptr (some (p, 0)) ∧ s.h p = none ∧ CtxG s s' p zeros [] ∧ Ext s s' := by
 refine ACalls.pre fun hw => q_ctx_New _ _ ?_
 have hb : abuild T Y_ctx_Ctx [(2, .bool true)] = some (.agg (zeros.map (.int .u64) ++ [.slc none 0 0 true, .bool true])) := by kernel_rfl
 exact ⟨_, hb, rfl, NewQ.intro hw rfl fun p s1 F => ⟨p, rfl, F.no, ⟨rfl, _, F.own, rfl, Gro.nil, by simp [labOf]⟩, F.ext⟩⟩
theorem New_ok (s : AS) : ACalls Tryz.prog F_orset_New [] s fun r s' => ∃ p F, r = .ptr (some (p, 0)) ∧ SetF F s' p OSet.zero ∧ (∀ y ∈ F, s.h y = none) ∧ (∀ y ∈ F, s'.h y ≠ none) ∧ Ext s s' := by
 refine ACalls.pre fun hw => q_orset_New _ _ ?_
 refine ACalls.use (ctx_New_G s) ?_
 rintro v s2 ⟨pc, rfl, hpc, hG, e2⟩ w2
 refine ⟨_, rfl, NewQ.intro w2 rfl fun lm s5 F5 => NewQ.intro F5.wf rfl fun tm s7 F7 => ⟨_, set_build _ _ _, rfl, NewQ.intro F7.wf rfl fun p s10 F10 => ?_⟩⟩
 obtain ⟨Fc, hcF, hFn, hFt⟩ := hG.toF hpc
 have e10 := F5.ext.trans (F7.ext.trans F10.ext)
 have e57 := F7.ext.trans F10.ext
 have hlm : s10.h lm = some (.map [] 0 false) := e57.1 _ _ F5.at
 have htm : s10.h tm = some (.map [] 0 false) := F10.ext.1 _ _ F7.at
 have hne : lm ≠ tm := by
  rintro rfl
  have := F7.no
  rw [F5.at] at this; cases this
 refine ⟨p, p :: lm :: tm :: Fc, rfl, ⟨COk.zero, (fun y hy => by cases hy), by simp [OSet.zero], pc, lm, tm, F10.own, by simp, (hcF.mut (L := []) e10.mut (by simp)).sub (fun y hy => by simp [hy]), by simp, by simp, hne, ⟨[], 0, MpAt.new hlm, fun d => rfl, rfl⟩, ⟨[], 0, MpAt.new htm, fun d => rfl, rfl⟩⟩, ?_, ?_, e2.trans e10⟩
 ·intro y hy
  simp only [List.mem_cons] at hy
  rcases hy with rfl | rfl | rfl | hy
  ·exact e2.none (F5.ext.none (F7.ext.none F10.no))
  ·exact e2.none F5.no
  ·exact e2.none (F5.ext.none F7.no)
  ·exact hFn y hy
 ·intro y hy
  simp only [List.mem_cons] at hy
  rcases hy with rfl | rfl | rfl | hy
  ·rw [F10.at]; simp
  ·rw [hlm]; simp
  ·rw [htm]; simp
  ·cases hq : s2.h y with
   | none => exact absurd hq (hFt y hy)
   | some ob => rw [e10.1 y ob hq]; simp
theorem items_keep {s s' : AS} {p : Nat} {cs : List AV} {v : AV} {l : List Itm} (hp : s.h p = some (.cells cs 0 false)) (hcs : ∀ c ∈ cs, ∀ n, c ≠ .int .i64 n) (hs : Sl itemC 5 s v l) (m : Mut [p] s s') : Sl itemC 5 s' v l := by
 refine Sl.mut hs m itemC_len (by decide) fun q hq C hC x hx i c hc he => ?_
 obtain rfl := List.mem_singleton.1 hq
 obtain ⟨g, ro, hC⟩ := hC
 rw [hp] at hC
 simp only [Option.some.injEq, AO.cells.injEq] at hC
 obtain ⟨rfl, _⟩ := hC
 simp only [itemC, List.getElem?_cons_zero, Option.some.injEq] at hc
 exact hcs c (List.mem_of_getElem? he) _ hc.symm
section
variable {F : List Nat} {s s' : AS} {p : Nat} {x : OSet} {k : Key}
theorem SetF.keepI {v : AV} {l : List Itm} (h : SetF F s p x) (hs : Sl itemC 5 s v l) (m : Mut [p] s s') : Sl itemC 5 s' v l := by
 obtain ⟨_, _, _, pc, lm, tm, a, _⟩ := h
 refine items_keep a (fun c hc n => ?_) hs m
 simp only [List.mem_cons, List.not_mem_nil, or_false] at hc
 rcases hc with rfl | rfl | rfl <;> simp
theorem held_key (d : Dot) : x.held (fun _ y => decide (y = k)) d = true ↔ x.live d = some k := by
 unfold OSet.held
 cases x.live d with
 | none => simp
 | some y => simp
theorem Add1_ok {lc : Nat} (d : Dot) (y : Key) (hc : At s lc (keyC k)) : ACalls Tryz.prog F_orset_Set_Add_1 ([.agg (dotC d), .agg (keyC y)] ++ [.ptr (some (lc, 0))]) s fun v s' => v = .bool (decide (y = k)) ∧ Ext s s' := by
 refine ACalls.pre fun hw => q_orset_Set_Add_1 _ _ _ _ _ ⟨rfl, NewQ.intro hw rfl fun l1 s2 F2 => ⟨rfl, NewQ.intro F2.wf rfl fun l3 s4 F4 => ?_⟩⟩
 have e4 := F2.ext.trans F4.ext
 exact ⟨_, F4.own.at.rdc (by simp [keyC]), _, (hc.ext e4).rdc (by simp [keyC]), _, key_eq _ _, rfl, e4⟩
theorem Remove1_ok {lc : Nat} (d : Dot) (y : Key) (hc : At s lc (keyC k)) : ACalls Tryz.prog F_orset_Set_Remove_1 ([.agg (dotC d), .agg (keyC y)] ++ [.ptr (some (lc, 0))]) s fun v s' => v = .bool (decide (y = k)) ∧ Ext s s' := by
 refine ACalls.pre fun hw => q_orset_Set_Remove_1 _ _ _ _ _ ⟨rfl, NewQ.intro hw rfl fun l1 s2 F2 => ⟨rfl, NewQ.intro F2.wf rfl fun l3 s4 F4 => ?_⟩⟩
 have e4 := F2.ext.trans F4.ext
 exact ⟨_, F4.own.at.rdc (by simp [keyC]), _, (hc.ext e4).rdc (by simp [keyC]), _, key_eq _ _, rfl, e4⟩
theorem Has1_ok {lc : Nat} (d : Dot) (y : Key) (hc : At s lc (keyC k)) : ACalls Tryz.prog F_orset_Set_Has_1 ([.agg (dotC d), .agg (keyC y)] ++ [.ptr (some (lc, 0))]) s fun v s' => v = .bool (decide (y = k)) ∧ Ext s s' := by
 refine ACalls.pre fun hw => q_orset_Set_Has_1 _ _ _ _ _ ⟨rfl, NewQ.intro hw rfl fun l1 s2 F2 => ⟨rfl, NewQ.intro F2.wf rfl fun l3 s4 F4 => ?_⟩⟩
 have e4 := F2.ext.trans F4.ext
 exact ⟨_, F4.own.at.rdc (by simp [keyC]), _, (hc.ext e4).rdc (by simp [keyC]), _, key_eq _ _, rfl, e4⟩
theorem Has_ok (h : SetF F s p x) (hn : x.nl < 65536) (k : Key) : ACalls Tryz.prog F_orset_Set_Has [.ptr (some (p, 0)), .agg (keyC k)] s fun r s' => (∃ b, r = .bool b ∧ (b = true ↔ ∃ d, x.live d = some k)) ∧ Ext s s' := by
 refine ACalls.pre fun hw => q_orset_Set_Has _ _ _ _ ⟨rfl, NewQ.intro hw rfl fun l1 s2 F2 => ?_⟩
 refine ACalls.use (there_ok (h.ext F2.ext)) ?_
 rintro v s4 ⟨rfl, rfl⟩ w4
 refine ⟨_, rfl, bsplit.yes rfl ?_⟩
 refine ACalls.use (dots_ok (P := fun _ y => decide (y = k)) (h.ext F2.ext) hn fun d y s' e _ => Has1_ok d y (F2.own.at.ext e)) ?_
 rintro v s7 ⟨l, g, _, hm, _⟩ w7
 refine ⟨_, (g.sl dotC_len).lenB u_s_Dot _, ⟨_, rfl, ?_⟩, F2.ext.trans g.chg.ext⟩
 rw [decide_eq_true_eq]
 constructor
 ·intro hl
  obtain ⟨d, hd⟩ := List.exists_mem_of_length_pos (l := l) (by omega)
  exact ⟨d, (held_key d).1 ((hm d).1 hd)⟩
 ·rintro ⟨d, hd⟩
  have := List.length_pos_of_mem ((hm d).2 ((held_key d).2 hd))
  omega
structure KeyDots (x : OSet) (k : Key) (l : List Dot) : Prop where
 ris : Rising l
 mem : ∀ d, d ∈ l ↔ x.live d = some k
 len : l.length ≤ x.nl
theorem goneI_may {d : Dot} (h : d.may = true) : (goneI d).may = true := by simp [Itm.may, goneI, h]
theorem Remove_ok (h : SetF F s p x) (k : Key) (hmay : ∀ d, (x.live d).isSome = true → d.may = true) (hr1 : x.ex.length + x.nl ≤ 4096) (hr2 : x.nl + x.nl ≤ 1024) (hr3 : x.nl + x.nt + x.nl ≤ 4096) :
  ACalls Tryz.prog F_orset_Set_Remove [.ptr (some (p, 0)), .agg (keyC k)] s fun r s' => (k.may = false ∧ r = .tup [.slc none 0 0 true, .int .i64 2] ∧ Ext s s') ∨
   (k.may = true ∧ ∃ v l, KeyDots x k l ∧ r = .tup [v, .int .i64 0] ∧ Sl itemC 5 s' v (l.map goneI) ∧ ∃ F', SetF F' s' p (x.sees (l.map goneI)).2 ∧ (∀ y ∈ F', y = p ∨ s.h y = none) ∧ (∀ y ∈ F', s'.h y ≠ none) ∧ Mut [p] s s') := by
 refine ACalls.pre fun hw => q_orset_Set_Remove _ _ _ _ ⟨rfl, NewQ.intro hw rfl fun l1 s2 F2 => ?_⟩
 have h2 := h.ext F2.ext
 refine ACalls.use (there_ok h2) ?_
 rintro v s4 ⟨rfl, rfl⟩ w4
 refine ⟨_, rfl, bsplit.no rfl ⟨_, F2.own.at.rdc (by simp [keyC]), ?_⟩⟩
 refine ACalls.use (MayKey_ok k _) ?_
 rintro v s8 ⟨rfl, e8⟩ w8
 have E8 := F2.ext.trans e8
 refine ⟨_, rfl, bsplit.mk (fun hb => .inl ⟨by simpa using hb, rfl, E8⟩) (fun hb => ?_)⟩
 have o8 := F2.own.at.ext e8
 have h8 := h.ext E8
 refine ACalls.use (dots_ok (P := fun _ y => decide (y = k)) h8 (by omega) fun d y s' e _ => Remove1_ok d y (o8.ext e)) ?_
 rintro v s11 ⟨l, g, hris, hm, hln⟩ w11
 have kd : KeyDots x k l := ⟨hris, fun d => by rw [hm, held_key], hln⟩
 refine ACalls.use (gone_ok (g.sl dotC_len) (by omega)) ?_
 rintro v13 s13 g13 w13
 have E13 := E8.trans (g.chg.ext.trans g13.chg.ext)
 have h13 := h.ext E13
 have hs13 := g13.sl itemC_len
 refine ACalls.use (See_ok h13 hs13 (fun i hi => ?_) (by simp; omega) (by simp; omega) (by simp; omega)) ?_
 ·obtain ⟨d, hd, rfl⟩ := List.mem_map.1 hi
  exact goneI_may (hmay d (by rw [(kd.mem d).1 hd]; rfl))
 rintro v s15 ⟨rfl, F', hS, hn', ht', m15⟩ w15
 refine ⟨_, _, rfl, .inr ⟨by simpa using hb, v13, l, kd, rfl, h13.keepI hs13 m15, F', hS, fun y hy => ?_, ht', E13.mut.trans m15⟩⟩
 rcases hn' y hy with h | h
 ·exact .inl h
 ·exact .inr (E13.none h)
theorem lit_append {s : AS} (hw : WFs s) {l0 : Nat} {i : Itm} (h0 : At s l0 (itemC i)) {v : AV} {l : List Itm} (hl : Sl itemC 5 s v l) (hb : l.length ≤ 2 ^ 29) {K : AV → AS → Prop} (hK : ∀ v' s', Sl itemC 5 s' v' (i :: l) → WFs s' → Ext s s' → K v' s') : Bd2 (aappend T Y_s_Item Y_s_Item (.slc (some (l0, 0)) 1 1 true) v s) K := by
 obtain ⟨hsrc, hlen⟩ := SlAt.src sl_s_Item hl
 have e := aappend_core sl_s_Item (base := some (l0, 0)) (len := 1) (cap := 1) (ex := true) u_s_Item hlen hsrc (by rw [flat_len itemC_len]) (by omega)
 have h1 : Sl itemC 5 s (.slc (some (l0, 0)) 1 1 true) [i] := SlAt.mk h0 (by simp [itemC]) (by simp [itemC])
 by_cases hz : l = []
 ·subst hz
  rw [if_pos (by simp)] at e
  simp only [List.flatMap_nil, if_true, List.length_nil, Nat.add_zero] at e
  exact ⟨_, _, e, hK _ _ h1 hw (Ext.refl _)⟩
 ·have hpos : 0 < l.length := List.length_pos_iff.2 hz
  rw [if_neg (by omega)] at e
  have hs1 := (SlAt.src sl_s_Item h1).1
  simp only [List.length_cons, List.length_nil, Nat.zero_add] at hs1
  rw [hs1] at e
  simp only [Option.bind_some, if_true] at e
  rw [show 1 + l.length = (i :: l).length by simp; omega] at e
  have Fr := hw.new (o := .cells ([i].flatMap itemC ++ l.flatMap itemC) 5 false) rfl
  refine ⟨_, _, e, hK _ _ ?_ Fr.wf Fr.ext⟩
  refine SlAt.mk ⟨_, _, Fr.at⟩ ?_ ?_ ?_
  ·exact flat_len itemC_len _
  ·rw [List.drop_zero, List.take_of_length_le]
   ·simp
   ·simp [flat_len itemC_len, itemC]; omega
  ·exact Nat.le_refl _
theorem build_item (d : Dot) (k : Key) : abuild T Y_Item [(0, .agg (dotC d)), (1, .agg (keyC k))] = some (.agg (itemC ⟨d, k, false⟩)) := by kernel_rfl
theorem Add_ok (h : SetF F s p x) (k : Key) (d : Dot) (hmay : ∀ d, (x.live d).isSome = true → d.may = true) (hr1 : x.ex.length + x.nl < 4096) (hr2 : x.nl + x.nl < 1024) (hr3 : x.nl + x.nt + x.nl < 4096) :
  ACalls Tryz.prog F_orset_Set_Add [.ptr (some (p, 0)), .agg (keyC k), .agg (dotC d)] s fun r s' => (¬ (k.may = true ∧ d.may = true ∧ hasD x.v x.ex d = false) ∧ r = .tup [.slc none 0 0 true, .int .i64 2] ∧ Ext s s') ∨
   ((k.may = true ∧ d.may = true ∧ hasD x.v x.ex d = false) ∧ ∃ v l, KeyDots x k l ∧ r = .tup [v, .int .i64 0] ∧ Sl itemC 5 s' v (⟨d, k, false⟩ :: l.map goneI) ∧ ∃ F', SetF F' s' p (x.sees (⟨d, k, false⟩ :: l.map goneI)).2 ∧ (∀ y ∈ F', y = p ∨ s.h y = none) ∧ (∀ y ∈ F', s'.h y ≠ none) ∧ Mut [p] s s') := by
 refine ACalls.pre fun hw => q_orset_Set_Add _ _ _ _ _ ⟨rfl, NewQ.intro hw rfl fun l1 s2 F2 => ⟨rfl, NewQ.intro F2.wf rfl fun l3 s4 F4 => ?_⟩⟩
 have E4 := F2.ext.trans F4.ext
 have h4 := h.ext E4
 have k4 : At s4 l1 (keyC k) := (F2.own.ext F4.ext).at
 have d4 : At s4 l3 (dotC d) := F4.own.at
 refine ACalls.use (there_ok h4) ?_
 rintro v s6 ⟨rfl, rfl⟩ w6
 refine ⟨_, rfl, bsplit.no rfl ⟨fun vs s' => vs = [.bool !(k.may && d.may && !hasD x.v x.ex d)] ∧ Ext s6 s' ∧ WFs s', ?_, ?_⟩⟩
 ·rintro b s10 ⟨hb, e10, w10⟩
  simp only [List.cons.injEq, AV.bool.injEq, and_true] at hb
  subst hb
  have E10 := E4.trans e10
  refine bsplit.mk (fun hb => .inl ⟨?_, rfl, E10⟩) (fun hb => ?_)
  ·rintro ⟨a, b, c⟩
   rw [a, b, c] at hb; cases hb
  have hok : k.may = true ∧ d.may = true ∧ hasD x.v x.ex d = false := by
   simpa [Bool.and_eq_true, and_assoc] using hb
  have h10 := h.ext E10
  refine ACalls.use (dots_ok (P := fun _ y => decide (y = k)) h10 (by omega) fun d y s' e _ => Add1_ok d y ((k4.ext e10).ext e)) ?_
  rintro v11 s12 ⟨l, g, hris, hm, hln⟩ w12
  have kd : KeyDots x k l := ⟨hris, fun d => by rw [hm, held_key], hln⟩
  have e12 := e10.trans g.chg.ext
  have hd11 := g.sl dotC_len
  refine ⟨fun q _ v s' => (q = 3 → ∃ l, v = .slc (some (l, 0)) 1 1 true ∧ At s' l (itemC ⟨d, k, false⟩)) ∧ (q = 5 → Sl itemC 5 s' v (l.map goneI)), fun q _ v => q = 3 → ∃ l, v = .slc (some (l, 0)) 1 1 true, ?_, _, (d4.ext e12).rdc (by simp [dotC]), _, (k4.ext e12).rdc (by simp [keyC]), _, build_item d k, fun s16 e16 w16 _ => ?_, ⟨.slc (some (0, 0)) 1 1 true, fun _ => ⟨0, rfl⟩⟩, fun v20 hv20 => ⟨fun s21 e21 w21 _ => ?_, ⟨.undef, (fun h => by cases h)⟩, fun v24 _ s25 e25 w25 hS => ?_⟩⟩
  ·rintro q ks v s s' e ⟨h1, h2⟩
   refine ⟨fun hq => ?_, fun hq => (h2 hq).ext e⟩
   obtain ⟨l, a, b⟩ := h1 hq
   exact ⟨l, a, b.ext e⟩
  ·exact ⟨_, absl_agg sl_s_Item (itemC_len _) (itemC_one _), NewQ.intro w16 rfl fun l18 s19 F19 => ⟨F19.ext, ⟨(fun _ => ⟨l18, rfl, F19.own.at⟩), (fun h => by cases h)⟩, fun _ => ⟨l18, rfl⟩⟩⟩
  ·refine (gone_ok (hd11.ext e21) (by omega)).mono ?_
   rintro v22 s23 g23
   exact ⟨g23.chg.ext, ⟨(fun h => by cases h), fun _ => g23.sl itemC_len⟩, (fun h => by cases h)⟩
  ·obtain ⟨l18, rfl, hi⟩ := hS.1.1 rfl
   have hg := hS.2.1.2 rfl
   refine lit_append w25 hi hg (by simp; omega) fun v27 s28 hs28 w28 e28 => ?_
   have E28 := E10.trans (g.chg.ext.trans (e25.trans e28))
   have h28 := h.ext E28
   refine ACalls.use (See_ok h28 hs28 (fun i hi => ?_) (by simp; omega) (by simp; omega) (by simp; omega)) ?_
   ·rcases List.mem_cons.1 hi with rfl | hi
    ·simp [Itm.may, hok]
    ·obtain ⟨d, hd, rfl⟩ := List.mem_map.1 hi
     exact goneI_may (hmay d (by rw [(kd.mem d).1 hd]; rfl))
   rintro v s30 ⟨rfl, F', hS', hn', ht', m30⟩ w30
   refine ⟨_, _, rfl, bsplit.no (by decide) (.inr ⟨hok, v27, l, kd, rfl, h28.keepI hs28 m30, F', hS', fun y hy => ?_, ht', E28.mut.trans m30⟩)⟩
   rcases hn' y hy with h | h
   ·exact .inl h
   ·exact .inr (E28.none h)
 ·refine ⟨_, k4.rdc (by simp [keyC]), ?_⟩
  refine ACalls.use (MayKey_ok k _) ?_
  rintro v s35 ⟨rfl, e35⟩ w35
  refine ⟨_, rfl, bsplit.mk (fun hb => ⟨by simp only [Bool.not_eq_true'] at hb; rw [hb]; rfl, e35, w35⟩) (fun hb => ⟨_, (d4.ext e35).rdc (by simp [dotC]), ?_⟩)⟩
  simp only [Bool.not_eq_false'] at hb
  refine ACalls.use (ctx_May_ok d _) ?_
  rintro v s39 ⟨rfl, e39⟩ w39
  have e39' := e35.trans e39
  refine ⟨_, rfl, bsplit.mk (fun hb2 => ⟨by simp only [Bool.not_eq_true'] at hb2; rw [hb, hb2]; rfl, e39', w39⟩) (fun hb2 => ?_)⟩
  simp only [Bool.not_eq_false'] at hb2
  obtain ⟨ok, gap, hlen, pc, lm, tm, a, _, hc, _⟩ := h4.ext e39'
  refine ⟨_, by rw [a.at.rd1]; rfl, _, (d4.ext e39').rdc (by simp [dotC]), ?_⟩
  refine ACalls.use (ctx_Has_ok hc.at ok.r (by omega) d) ?_
  rintro v s46 ⟨rfl, e46⟩ w46
  exact ⟨_, rfl, by rw [hb, hb2]; simp, e39'.trans e46, w46⟩
end
end Go.Proofs.YtoklmpkpeanloaaGreat
end

section
set_option maxRecDepth 100000
set_option maxHeartbeats 4000000
namespace Go.Proofs.YtoklmpkpeanloaaGreat
open Go.Am
end Go.Proofs.YtoklmpkpeanloaaGreat
end

section
namespace Go.Minster.SK
open Go.Minster2
end Go.Minster.SK
namespace Go.Proofs.YtoklmpkpeanloaaGreat.SK
open Go.Am Go.Minster2 Go.Minster.SK
theorem ab1 {y i : Nat} (h : i ≤ y) : abound1 y (.int .i64 (i : Nat)) = some i := by
 have : (0 : Int) ≤ (i : Int) ∧ (i : Int) ≤ ((y : Nat) : Int) := by omega
 simp only [abound1, if_pos this, Int.toNat_natCast]
theorem asl_from {a o n c i : Nat} {e : Bool} (h1 : i < n) (h2 : n ≤ c) : aslice T Y_s_Key (.slc (some (a, o)) n c e) (some (.int .i64 (i : Nat))) none none = some (.slc (some (a, o + i * 2)) (n - i) (c - i) e) := by
 have h3 : ¬ c = i := by omega
 cases e <;> simp [aslice, u_s_Key, z_Key, abounds, aopt, ahigh, ab1 (show i ≤ n by omega), h2, h3]
theorem asl_to {a o n c i : Nat} {e : Bool} (h1 : i ≤ c) (h0 : 0 < c) : aslice T Y_s_Key (.slc (some (a, o)) n c e) none (some (.int .i64 (i : Nat))) none = some (.slc (some (a, o)) i c e) := by
 have : ¬ c = 0 := by omega
 cases e <;> simp [aslice, u_s_Key, z_Key, abounds, aopt, ahigh, ab1 h1, this]
theorem clear_ok {s : AS} {lo n c i m : Nat} {e : Bool} {l : List Key} {rest : List AV} {g : Nat} (hw : WFs s) (hobj : s.h lo = some (.cells (l.flatMap keyC ++ rest) g false)) (hi : i < l.length) (hn : n = l.length - i) (ho : m = i * 2) {K : AS → Prop}
  (hk : ∀ s', (∃ rest', s'.h lo = some (.cells ((l.take i).flatMap keyC ++ rest') g false)) → WFs s' → Mut [lo] s s' → K s') : StQ (aclear T Y_s_Key (.slc (some (lo, m)) n c e) s) K := by
 subst hn; subst ho
 have hne : ¬ l.length - i = 0 := by omega
 have hrl : (rep (l.length - i) [AV.str [], AV.str []]).length = (l.length - i) * 2 := by simp [rep]
 have e1 : aclear T Y_s_Key (.slc (some (lo, i * 2)) (l.length - i) c e) s = awr s lo (i * 2) (rep (l.length - i) [AV.str [], AV.str []]) := by
  simp only [aclear, u_s_Key, if_neg hne, zr_Key, Option.bind_some, acells_agg]
  rfl
 rw [e1]
 refine StQ.awr hw hobj (by rw [hrl, List.length_append, dots_len]; omega) fun s' P => hk s' ⟨rep (l.length - i) [AV.str [], AV.str []] ++ ((l.drop i).flatMap keyC ++ rest).drop (rep (l.length - i) [AV.str [], AV.str []]).length, ?_⟩ P.wf P.mut
 have hsp : l.flatMap keyC ++ rest = (l.take i).flatMap keyC ++ ((l.drop i).flatMap keyC ++ rest) := by
  rw [← List.append_assoc, ← List.flatMap_append, List.take_append_drop]
 rw [P.at, hsp]
 have hl : ((l.take i).flatMap keyC).length = i * 2 := by rw [dots_len, List.length_take]; omega
 rw [← hl, wrs_app _ _ _ (by rw [hrl, List.length_append, dots_len, List.length_drop]; omega), List.append_assoc]
end Go.Proofs.YtoklmpkpeanloaaGreat.SK
end

section
namespace Go.Proofs.YtoklmpkpeanloaaGreat
open Go.Am Go.Minster Go.Minster2
section
variable {m : Nat} {es : List (Dot × Key × Nat)} {c : Nat} {ro : Bool} {s : AS}
end
section
variable {F : List Nat} {s s' : AS} {p : Nat} {x : OSet}
end
end Go.Proofs.YtoklmpkpeanloaaGreat
end

section
namespace Go.Proofs.YtoklmpkpeanloaaGreat
open Go.Am Go.Minster Go.Minster2
def OSet.has (x : OSet) (d : Dot) : Bool := hasD x.v x.ex d
theorem OSet.has_may {x : OSet} {d : Dot} (h : x.has d = true) : d.may = true := by
 simp only [OSet.has, hasD, Bool.and_eq_true] at h; exact h.1
structure OOk (x : OSet) (B : Nat) : Prop where
 ok : COk x.v x.ex
 gap : Gap x.v x.ex
 lv : ∀ d k, x.live d = some k → x.has d = true ∧ k.may = true
 tb : ∀ d, x.tomb d = true → x.has d = true ∧ x.live d = none
 sz : ∃ U : List Dot, U.length ≤ B ∧ ∀ d, x.has d = true → d ∈ U
theorem OOk.zero : OOk OSet.zero 0 := ⟨COk.zero, (fun y hy => by cases hy), (fun d k h => by cases h), (fun d h => by cases h), [], by simp, fun d h => by rw [OSet.has, show OSet.zero.v = zeros from rfl, show OSet.zero.ex = [] from rfl, has_zero] at h; cases h⟩
theorem OOk.mono {x : OSet} {B B' : Nat} (h : OOk x B) (hb : B ≤ B') : OOk x B' := by
 obtain ⟨a, b, c, d, U, e, f⟩ := h; exact ⟨a, b, c, d, U, by omega, f⟩
section
variable {x : OSet} {B : Nat} {i : Itm}
theorem addR_no {v : List Int} {ex : List Dot} {d : Dot} (h : hasD v ex d = false) : addR v ex d = compact v (ins ex d) := by simp [addR, h]
theorem see_has (h : OOk x B) (hi : i.dot.may = true) (d : Dot) : (x.see i).2.has d = (x.has d || decide (d = i.dot)) := by
 unfold OSet.see
 split
 ·rename_i hc
  simp only [Bool.and_eq_true] at hc
  obtain ⟨k, hk⟩ := Option.isSome_iff_exists.1 hc.1
  have := (h.lv _ _ hk).1
  by_cases e : d = i.dot
  ·subst e; simp only [OSet.has] at this ⊢; simp [this]
  ·simp [OSet.has, e]
 ·split
  ·rename_i hh
   by_cases e : d = i.dot
   ·subst e; simp [OSet.has, hh]
   ·simp [OSet.has, e]
  ·rename_i hh
   have hh' : hasD x.v x.ex i.dot = false := by simpa using hh
   have key : hasD (compact x.v (ins x.ex i.dot)).1 (compact x.v (ins x.ex i.dot)).2 d = (hasD x.v x.ex d || decide (d = i.dot)) := by
    have := addR_has h.ok hi d
    rw [addR_no hh'] at this
    cases hq : hasD (compact x.v (ins x.ex i.dot)).1 (compact x.v (ins x.ex i.dot)).2 d with
    | true => rcases this.1 hq with h | h <;> simp [h]
    | false =>
     cases hq2 : (hasD x.v x.ex d || decide (d = i.dot)) with
     | false => rfl
     | true =>
      simp only [Bool.or_eq_true, decide_eq_true_eq] at hq2
      rw [this.2 hq2] at hq; cases hq
   split
   ·exact key
   ·exact key
theorem see_live (h : OOk x B) (d : Dot) : (x.see i).2.live d = if d = i.dot then (if i.gone then none else if x.has d then x.live d else some i.key) else x.live d := by
 unfold OSet.see
 split
 ·rename_i hc
  simp only [Bool.and_eq_true] at hc
  simp [hc.2]
 ·rename_i hc
  split
  ·rename_i hh
   by_cases e : d = i.dot
   ·subst e
    cases hg : i.gone with
    | true =>
     rw [hg, Bool.and_true] at hc
     simp only [if_true]
     simpa using hc
    | false => simp [OSet.has, hh]
   ·simp [e]
  ·rename_i hh
   have hnone : x.live i.dot = none := by
    cases hq : x.live i.dot with
    | none => rfl
    | some k => exact absurd (h.lv _ _ hq).1 hh
   split
   ·rename_i hg
    by_cases e : d = i.dot
    ·subst e; simp [hg, hnone]
    ·simp [e]
   ·rename_i hg
    by_cases e : d = i.dot
    ·subst e; simp [hg, OSet.has, hh]
    ·simp [e]
theorem see_tomb (h : OOk x B) (d : Dot) : (x.see i).2.tomb d = (x.tomb d || (decide (d = i.dot) && i.gone && ((x.live d).isSome || !x.has d))) := by
 unfold OSet.see
 split
 ·rename_i hc
  simp only [Bool.and_eq_true] at hc
  by_cases e : d = i.dot
  ·subst e; simp [hc.1, hc.2]
  ·simp [e]
 ·rename_i hc
  split
  ·rename_i hh
   by_cases e : d = i.dot
   ·subst e
    have : ((x.live i.dot).isSome || !x.has i.dot) = (x.live i.dot).isSome := by simp [OSet.has, hh]
    rw [this]
    cases hg : i.gone with
    | true => rw [hg, Bool.and_true] at hc; simp [hc]
    | false => simp
   ·simp [e]
  ·rename_i hh
   have hh' : x.has i.dot = false := by simpa [OSet.has] using hh
   split
   ·rename_i hg
    by_cases e : d = i.dot
    ·subst e; simp [hg, hh']
    ·simp [e]
   ·rename_i hg
    simp [hg]
theorem see_chg (h : OOk x B) : (x.see i).1 = (((x.live i.dot).isSome && i.gone) || !x.has i.dot) := by
 unfold OSet.see
 split
 ·rename_i hc; simp [hc]
 ·rename_i hc
  have hc' : ((x.live i.dot).isSome && i.gone) = false := by simpa using hc
  rw [hc']
  split
  ·rename_i hh; simp [OSet.has, hh]
  ·rename_i hh
   split <;> simp [OSet.has, hh]
theorem see_OOk (h : OOk x B) (hi : i.may = true) : OOk (x.see i).2 (if x.has i.dot then B else B + 1) := by
 have him : i.dot.may = true := by simp only [Itm.may, Bool.and_eq_true] at hi; exact hi.1
 have hok : COk (x.see i).2.v (x.see i).2.ex ∧ Gap (x.see i).2.v (x.see i).2.ex := by
  unfold OSet.see
  split
  ·exact ⟨h.ok, h.gap⟩
  ·split
   ·exact ⟨h.ok, h.gap⟩
   ·rename_i hh
    have hh' : hasD x.v x.ex i.dot = false := by simpa using hh
    have h1 := h.ok.add him
    have h2 := Gap.add h.ok h.gap him
    rw [addR_no hh'] at h1 h2
    split <;> exact ⟨h1, h2⟩
 refine ⟨hok.1, hok.2, fun d k hd => ?_, fun d hd => ?_, ?_⟩
 ·rw [see_live h] at hd
  rw [see_has h him]
  by_cases e : d = i.dot
  ·subst e
   rw [if_pos rfl] at hd
   refine ⟨by simp, ?_⟩
   split at hd
   ·cases hd
   ·split at hd
    ·exact (h.lv _ _ hd).2
    ·rename_i hg _
     simp only [Option.some.injEq] at hd
     subst hd
     simp only [Itm.may, Bool.and_eq_true] at hi
     have := hi.2
     rw [if_neg hg] at this; exact this
  ·rw [if_neg e] at hd
   have := h.lv _ _ hd
   exact ⟨by simp [this.1], this.2⟩
 ·rw [see_tomb h] at hd
  rw [see_has h him, see_live h]
  simp only [Bool.or_eq_true, Bool.and_eq_true, decide_eq_true_eq] at hd
  rcases hd with hd | ⟨⟨rfl, hg⟩, _⟩
  ·have := h.tb _ hd
   refine ⟨by simp [this.1], ?_⟩
   by_cases e : d = i.dot
   ·subst e; simp [this.1, this.2]
   ·rw [if_neg e]; exact this.2
  ·refine ⟨by simp, by simp [hg]⟩
 ·obtain ⟨U, hU, hm⟩ := h.sz
  by_cases hh : x.has i.dot = true
  ·rw [if_pos hh]
   refine ⟨U, hU, fun d hd => ?_⟩
   rw [see_has h him] at hd
   simp only [Bool.or_eq_true, decide_eq_true_eq] at hd
   rcases hd with hd | rfl
   ·exact hm _ hd
   ·exact hm _ hh
  ·rw [if_neg hh]
   refine ⟨i.dot :: U, by simp; omega, fun d hd => ?_⟩
   rw [see_has h him] at hd
   simp only [Bool.or_eq_true, decide_eq_true_eq] at hd
   rcases hd with hd | rfl
   ·simp [hm _ hd]
   ·simp
end
theorem sees_nil (x : OSet) : x.sees [] = (false, x) := rfl
theorem sees_aux : ∀ (l : List Itm) (b : Bool) (x : OSet), l.foldl (fun a i => (a.1 || (a.2.see i).1, (a.2.see i).2)) (b, x) = (b || (x.sees l).1, (x.sees l).2)
 | [], b, x => by simp [OSet.sees]
 | i :: l, b, x => by
  unfold OSet.sees
  simp only [List.foldl_cons]
  rw [sees_aux l, sees_aux l (false || _)]
  simp [Bool.or_assoc]
theorem sees_cons (x : OSet) (i : Itm) (l : List Itm) : x.sees (i :: l) = ((x.see i).1 || ((x.see i).2.sees l).1, ((x.see i).2.sees l).2) := by
 conv => lhs; unfold OSet.sees
 rw [List.foldl_cons, sees_aux]
 simp
theorem sees_one (x : OSet) (i : Itm) : x.sees [i] = x.see i := by rw [sees_cons, sees_nil]; simp
theorem OOk.sees : ∀ (l : List Itm) {x : OSet} {B : Nat}, OOk x B → (∀ i ∈ l, i.may = true) → OOk (x.sees l).2 (B + l.length)
 | [], x, B, h, _ => h
 | i :: l, x, B, h, hl => by
  rw [sees_cons]
  have h1 := (see_OOk h (hl i (by simp))).mono (B' := B + 1) (by split <;> omega)
  have := OOk.sees l h1 fun j hj => hl j (by simp [hj])
  exact this.mono (by simp; omega)
theorem OOk.sees_old : ∀ (l : List Itm) {x : OSet} {B : Nat}, OOk x B → (∀ i ∈ l, i.may = true) → (∀ i ∈ l, x.has i.dot = true) → OOk (x.sees l).2 B
 | [], x, B, h, _, _ => h
 | i :: l, x, B, h, hl, ho => by
  rw [sees_cons]
  have h1 := see_OOk h (hl i (by simp))
  rw [if_pos (ho i (by simp))] at h1
  have him : i.dot.may = true := OSet.has_may (ho i (by simp))
  exact OOk.sees_old l h1 (fun j hj => hl j (by simp [hj])) fun j hj => by rw [see_has h him, ho j (by simp [hj])]; rfl
/-! ### how great -/
theorem rising_nodup {l : List Dot} (h : Rising l) : l.Nodup := h.imp fun {a b} hab e => by subst e; exact Dot.lt_irrefl _ hab
theorem SetF.bnd {F : List Nat} {s : AS} {p : Nat} {x : OSet} {B : Nat} (h : SetF F s p x) (o : OOk x B) : x.nl + x.nt ≤ B ∧ x.ex.length ≤ B := by
 obtain ⟨ok, gap, hlen, pc, lm, tm, a, hpF, hc, hlF, htF, hlt, ⟨es, c, h1, h2, h3⟩, ⟨es', c', h1', h2', h3'⟩⟩ := h
 obtain ⟨U, hU, hm⟩ := o.sz
 have n1 : (es.map fun e => e.1).Nodup := List.pairwise_map.2 h1.nd
 have n2 : (es'.map fun e => e.1).Nodup := List.pairwise_map.2 h1'.nd
 constructor
 ·have hnd : ((es.map fun e => e.1) ++ (es'.map fun e => e.1)).Nodup := by
   refine List.nodup_append.2 ⟨n1, n2, fun a ha b hb => ?_⟩
   rintro rfl
   rw [keys_iff, h2] at ha
   rw [keys_iff, h2'] at hb
   cases hq : x.tomb a with
   | false => rw [hq] at hb; cases hb
   | true => rw [(o.tb _ hq).2] at ha; cases ha
  have := nodup_len hnd fun d hd => hm d ?_
  ·simp only [List.length_append, List.length_map] at this; omega
  ·rcases List.mem_append.1 hd with hd | hd
   ·rw [keys_iff, h2] at hd
    obtain ⟨k, hk⟩ := Option.isSome_iff_exists.1 hd
    exact (o.lv _ _ hk).1
   ·rw [keys_iff, h2'] at hd
    cases hq : x.tomb d with
    | false => rw [hq] at hd; cases hd
    | true => exact (o.tb _ hq).1
 ·have := nodup_len (rising_nodup ok.r) fun d hd => hm d ?_
  ·omega
  ·simp [OSet.has, hasD, ok.m d hd, hd]
/-! ### rows in order -/
theorem pw_uniq {α : Type} {r : α → α → Prop} (irr : ∀ a, ¬ r a a) (asy : ∀ a b, r a b → ¬ r b a) : ∀ {l l' : List α}, l.Pairwise r → l'.Pairwise r → (∀ x, x ∈ l ↔ x ∈ l') → l = l'
 | [], [], _, _, _ => rfl
 | [], b :: l', _, _, h => by have := (h b).2 (by simp); cases this
 | a :: l, [], _, _, h => by have := (h a).1 (by simp); cases this
 | a :: l, b :: l', h1, h2, h => by
  obtain ⟨p1, p2⟩ := List.pairwise_cons.1 h1
  obtain ⟨q1, q2⟩ := List.pairwise_cons.1 h2
  have hab : a = b := by
   rcases List.mem_cons.1 ((h a).1 (by simp)) with e | ha
   ·exact e
   ·rcases List.mem_cons.1 ((h b).2 (by simp)) with e | hb
    ·exact e.symm
    ·exact absurd (p1 b hb) (asy _ _ (q1 a ha))
  subst hab
  have := pw_uniq irr asy p2 q2 fun x => by
   constructor
   ·intro hx
    rcases List.mem_cons.1 ((h x).1 (by simp [hx])) with e | hx'
    ·subst e; exact absurd (p1 x hx) (irr x)
    ·exact hx'
   ·intro hx
    rcases List.mem_cons.1 ((h x).2 (by simp [hx])) with e | hx'
    ·subst e; exact absurd (q1 x hx) (irr x)
    ·exact hx'
  rw [this]
theorem Dot.lt_asym {a b : Dot} (h : a.lt b = true) : ¬ b.lt a = true := by
 rw [Dot.lt_iff] at *; omega
theorem rising_uniq {l l' : List Dot} (h : Rising l) (h' : Rising l') (hm : ∀ d, d ∈ l ↔ d ∈ l') : l = l' :=
 pw_uniq (fun a h => Dot.lt_irrefl _ h) (fun a b => Dot.lt_asym) h h' hm
theorem KeyDots.none {x : OSet} {k : Key} {l : List Dot} (h : KeyDots x k l) (hn : ∀ d, x.live d ≠ some k) : l = [] := by
 cases l with
 | nil => rfl
 | cons d l => exact absurd ((h.mem d).1 (by simp)) (hn d)
theorem KeyDots.one {x : OSet} {k : Key} {l : List Dot} (h : KeyDots x k l) (d0 : Dot) (hn : ∀ d, x.live d = some k ↔ d = d0) : l = [d0] :=
 rising_uniq h.ris (List.pairwise_singleton _ _) fun d => by rw [h.mem, hn]; simp
theorem KeyDots.has {x : OSet} {B : Nat} (o : OOk x B) {k : Key} {l : List Dot} (h : KeyDots x k l) {d : Dot} (hd : d ∈ l) : x.has d = true := (o.lv d k ((h.mem d).1 hd)).1
/-! ### a law's own sets -/
structure SetO (s0 s : AS) (F : List Nat) (p : Nat) (x : OSet) (B : Nat) : Prop where
 set : SetF F s p x
 ok : OOk x B
 new : ∀ y ∈ F, s0.h y = none
 there : ∀ y ∈ F, s.h y ≠ none
def Dj (F G : List Nat) : Prop := ∀ y ∈ F, y ∉ G
theorem Dj.symm {F G : List Nat} (h : Dj F G) : Dj G F := fun y hy hf => h y hf hy
section
variable {s0 s s' : AS} {F F' G : List Nat} {p q : Nat} {x y : OSet} {B C : Nat}
theorem SetF.pF (h : SetF F s p x) : p ∈ F := by obtain ⟨_, _, _, pc, lm, tm, _, h, _⟩ := h; exact h
theorem there_mut {L : List Nat} (h : ∀ y ∈ F, s.h y ≠ none) (m : Mut L s s') (d : Dj L F) : ∀ y ∈ F, s'.h y ≠ none := by
 intro y hy
 cases hq : s.h y with
 | none => exact absurd hq (h y hy)
 | some o => rw [m.1 y o (fun hl => d y hl hy) hq]; simp
theorem SetO.keep {L : List Nat} (h : SetO s0 s F p x B) (m : Mut L s s') (d : Dj L F) : SetO s0 s' F p x B :=
 ⟨h.set.mut m d, h.ok, h.new, there_mut h.there m d⟩
theorem SetO.ext (h : SetO s0 s F p x B) (e : Ext s s') : SetO s0 s' F p x B := h.keep (L := []) e.mut (fun y hy => by cases hy)
theorem SetO.bnd (h : SetO s0 s F p x B) : x.nl + x.nt ≤ B ∧ x.ex.length ≤ B := h.set.bnd h.ok
theorem Dj.step (d : Dj F G) (ht : ∀ y ∈ G, s.h y ≠ none) (hF : ∀ y ∈ F', y ∈ F ∨ s.h y = none) : Dj F' G := by
 intro y hy hg
 rcases hF y hy with h | h
 ·exact d y h hg
 ·exact ht y hg h
theorem Dj.sub {L : List Nat} (d : Dj F G) (hL : ∀ y ∈ L, y ∈ F) : Dj L G := fun y hy => d y (hL y hy)
theorem SetO.mut (h : SetO s0 s F p x B) (e : Ext s0 s) {x' : OSet} {B' : Nat} (h' : SetF F' s' p x') (ok : OOk x' B') (hn : ∀ y ∈ F', y ∈ F ∨ s.h y = none) (ht : ∀ y ∈ F', s'.h y ≠ none) : SetO s0 s' F' p x' B' :=
 ⟨h', ok, fun y hy => by
  rcases hn y hy with h2 | h2
  ·exact h.new y h2
  ·exact e.none h2, ht⟩
theorem new_or (hp : p ∈ F) (hn : ∀ y ∈ F', y = p ∨ s.h y = none) : ∀ y ∈ F', y ∈ F ∨ s.h y = none := fun y hy => by
 rcases hn y hy with rfl | h
 ·exact .inl hp
 ·exact .inr h
end
end Go.Proofs.YtoklmpkpeanloaaGreat
end

section
namespace Go.Proofs.YtoklmpkpeanloaaGreat
open Go.Am Go.Minster Go.Minster2
theorem tri_Item : triples (T.und Y_Item) = some [(false, Y_Dot, 0), (false, Y_Key, 2), (false, Y_bool, 4)] := by kernel_rfl
theorem et_Item : T.eqt Y_Item = true := by kernel_rfl
theorem dot_eqd (n : Nat) (a b : Dot) : aeq T (n + 2) Y_Dot (.agg (dotC a)) (.agg (dotC b)) = some (decide (a = b)) := by
 rw [aeq_tri tri_Dot et_Dot]
 simp only [eqTri, cond_false, part_s ag_int, part_s ag_uint64, dotC, List.getElem?_cons_zero, List.getElem?_cons_succ, Option.bind_some, aeqInt u_int, aeqInt u_uint64]
 cases a; cases b
 simp only [Dot.mk.injEq]
 rename_i r c r' c'
 by_cases h1 : r = r' <;> by_cases h2 : c = c' <;> simp [h1, h2]
theorem key_eqd (n : Nat) (a b : Key) : aeq T (n + 2) Y_Key (.agg (keyC a)) (.agg (keyC b)) = some (decide (a = b)) := by
 rw [aeq_tri tri_Key et_Key]
 simp only [eqTri, cond_false, part_s ag_string, keyC, List.getElem?_cons_zero, List.getElem?_cons_succ, Option.bind_some, aeqStr u_string]
 cases a; cases b
 simp only [Key.mk.injEq]
 rename_i r c r' c'
 by_cases h1 : r = r' <;> by_cases h2 : c = c' <;> simp [h1, h2]
theorem item_eq (a b : Itm) : aeq T 100 Y_Item (.agg (itemC a)) (.agg (itemC b)) = some (decide (a = b)) := by
 rw [aeq_tri tri_Item et_Item]
 have e1 : Am.part T Y_Dot (itemC a) 0 = some (.agg (dotC a.dot)) := by rw [part_a ag_Dot z_Dot]; rfl
 have e2 : Am.part T Y_Dot (itemC b) 0 = some (.agg (dotC b.dot)) := by rw [part_a ag_Dot z_Dot]; rfl
 have e3 : Am.part T Y_Key (itemC a) 2 = some (.agg (keyC a.key)) := by rw [part_a ag_Key z_Key]; rfl
 have e4 : Am.part T Y_Key (itemC b) 2 = some (.agg (keyC b.key)) := by rw [part_a ag_Key z_Key]; rfl
 have e5 : Am.part T Y_bool (itemC a) 4 = some (.bool a.gone) := by rw [part_s ag_bool]; rfl
 have e6 : Am.part T Y_bool (itemC b) 4 = some (.bool b.gone) := by rw [part_s ag_bool]; rfl
 simp only [eqTri, cond_false, e1, e2, e3, e4, e5, e6, Option.bind_some, dot_eqd 97, key_eqd 97, aeqBool u_bool]
 cases a; cases b
 simp only [Itm.mk.injEq]
 rename_i d k g d' k' g'
 by_cases h1 : d = d' <;> by_cases h2 : k = k' <;> by_cases h3 : g = g' <;> simp [h1, h2, h3]
section
variable {s0 s : AS} {F : List Nat} {p : Nat} {x : OSet} {B : Nat}
theorem OOk.lmay (h : OOk x B) : ∀ d, (x.live d).isSome = true → d.may = true := fun d hd => by
 obtain ⟨k, hk⟩ := Option.isSome_iff_exists.1 hd
 exact OSet.has_may (h.lv _ _ hk).1
theorem goneL_may {l : List Dot} (h : ∀ d ∈ l, d.may = true) : ∀ i ∈ l.map goneI, i.may = true := fun i hi => by
 obtain ⟨d, hd, rfl⟩ := List.mem_map.1 hi
 exact goneI_may (h d hd)
theorem OOk.sees_gone (o : OOk x B) {l : List Dot} (h : ∀ d ∈ l, x.has d = true) : OOk (x.sees (l.map goneI)).2 B :=
 o.sees_old _ (goneL_may fun d hd => OSet.has_may (h d hd)) fun i hi => by
  obtain ⟨d, hd, rfl⟩ := List.mem_map.1 hi
  exact h d hd
theorem OOk.add (o : OOk x B) {k : Key} {d : Dot} {l : List Dot} (hk : k.may = true) (hd : d.may = true) (hl : KeyDots x k l) : OOk (x.sees (⟨d, k, false⟩ :: l.map goneI)).2 (B + 1) := by
 rw [sees_cons]
 have hi : (⟨d, k, false⟩ : Itm).may = true := by simp [Itm.may, hk, hd]
 have o1 := (see_OOk o hi).mono (B' := B + 1) (by split <;> omega)
 exact o1.sees_gone fun y hy => by rw [see_has o hd, hl.has o hy]; rfl
theorem SetO.Add (h : SetO s0 s F p x B) (e : Ext s0 s) (hB : B ≤ 500) (k : Key) (d : Dot) (hk : k.may = true) (hd : d.may = true) (hn : x.has d = false) :
  ACalls Tryz.prog F_orset_Set_Add [.ptr (some (p, 0)), .agg (keyC k), .agg (dotC d)] s fun r s' => ∃ v l, KeyDots x k l ∧ r = .tup [v, .int .i64 0] ∧ Sl itemC 5 s' v (⟨d, k, false⟩ :: l.map goneI) ∧ Mut [p] s s' ∧ Ext s0 s' ∧ ∃ F' x', x' = (x.sees (⟨d, k, false⟩ :: l.map goneI)).2 ∧ SetO s0 s' F' p x' (B + 1) ∧ ∀ y ∈ F', y ∈ F ∨ s.h y = none := by
 obtain ⟨b1, b2⟩ := h.bnd
 refine (Add_ok h.set k d h.ok.lmay (by omega) (by omega) (by omega)).mono ?_
 rintro r s' (⟨hc, _⟩ | ⟨_, v, l, kd, rfl, hs, F', hS, hn', ht', m⟩)
 ·exact absurd ⟨hk, hd, hn⟩ hc
 ·have hF := new_or h.set.pF hn'
  exact ⟨v, l, kd, rfl, hs, m, Ext.wr e (h.new _ h.set.pF) m, F', _, rfl, h.mut e hS (h.ok.add hk hd kd) hF ht', hF⟩
theorem SetO.Remove (h : SetO s0 s F p x B) (e : Ext s0 s) (hB : B ≤ 500) (k : Key) (hk : k.may = true) :
  ACalls Tryz.prog F_orset_Set_Remove [.ptr (some (p, 0)), .agg (keyC k)] s fun r s' => ∃ v l, KeyDots x k l ∧ r = .tup [v, .int .i64 0] ∧ Sl itemC 5 s' v (l.map goneI) ∧ Mut [p] s s' ∧ Ext s0 s' ∧ ∃ F' x', x' = (x.sees (l.map goneI)).2 ∧ SetO s0 s' F' p x' B ∧ ∀ y ∈ F', y ∈ F ∨ s.h y = none := by
 obtain ⟨b1, b2⟩ := h.bnd
 refine (Remove_ok h.set k h.ok.lmay (by omega) (by omega) (by omega)).mono ?_
 rintro r s' (⟨hc, _⟩ | ⟨_, v, l, kd, rfl, hs, F', hS, hn', ht', m⟩)
 ·rw [hk] at hc; cases hc
 ·have hF := new_or h.set.pF hn'
  exact ⟨v, l, kd, rfl, hs, m, Ext.wr e (h.new _ h.set.pF) m, F', _, rfl, h.mut e hS (h.ok.sees_gone fun d hd => kd.has h.ok hd) hF ht', hF⟩
theorem SetO.See (h : SetO s0 s F p x B) (e : Ext s0 s) {a : AV} {l : List Itm} (hl : Sl itemC 5 s a l) (hB : B + l.length ≤ 1000) (hm : ∀ i ∈ l, i.may = true) :
  ACalls Tryz.prog F_orset_Set_See [.ptr (some (p, 0)), a] s fun r s' => r = .tup [.bool (x.sees l).1, .int .i64 0] ∧ Mut [p] s s' ∧ Ext s0 s' ∧ ∃ F' x', x' = (x.sees l).2 ∧ SetO s0 s' F' p x' (B + l.length) ∧ ∀ y ∈ F', y ∈ F ∨ s.h y = none := by
 obtain ⟨b1, b2⟩ := h.bnd
 refine (See_ok h.set hl hm (by omega) (by omega) (by omega)).mono ?_
 rintro r s' ⟨rfl, F', hS, hn', ht', m⟩
 have hF := new_or h.set.pF hn'
 exact ⟨rfl, m, Ext.wr e (h.new _ h.set.pF) m, F', _, rfl, h.mut e hS (h.ok.sees l hm) hF ht', hF⟩
end
/-! ### what is seen and live, by cases -/
structure Is (x : OSet) (S : List Dot) (V : Dot → Option Key) : Prop where
 has : ∀ d, x.has d = decide (d ∈ S)
 live : ∀ d, x.live d = V d
theorem Is.zero : Is OSet.zero [] fun _ => none := ⟨fun d => by rw [OSet.has, show OSet.zero.v = zeros from rfl, show OSet.zero.ex = [] from rfl, has_zero]; simp, fun d => rfl⟩
def seeV (S : List Dot) (V : Dot → Option Key) (i : Itm) : Dot → Option Key := fun d => if d = i.dot then (if i.gone then none else if d ∈ S then V d else some i.key) else V d
theorem Is.see {x : OSet} {S : List Dot} {V : Dot → Option Key} {B : Nat} (h : Is x S V) (o : OOk x B) {i : Itm} (hi : i.dot.may = true) : Is (x.see i).2 (i.dot :: S) (seeV S V i) := by
 refine ⟨fun d => ?_, fun d => ?_⟩
 ·rw [see_has o hi, h.has]
  by_cases h1 : d = i.dot <;> by_cases h2 : d ∈ S <;> simp [h1, h2]
 ·rw [see_live o, h.live, h.has, seeV]
  simp only [decide_eq_true_eq]
theorem Is.sees1 {x x' : OSet} {S : List Dot} {V : Dot → Option Key} {B : Nat} (h : Is x S V) (o : OOk x B) {i : Itm} (hx : x' = (x.sees [i]).2) (hi : i.dot.may = true) : Is x' (i.dot :: S) (seeV S V i) := by
 subst hx; rw [sees_one]; exact h.see o hi
theorem Is.sees2 {x x' : OSet} {S : List Dot} {V : Dot → Option Key} {B : Nat} (h : Is x S V) (o : OOk x B) {i j : Itm} (hx : x' = (x.sees [i, j]).2) (hi : i.may = true) (hj : j.dot.may = true) : Is x' (j.dot :: i.dot :: S) (seeV (i.dot :: S) (seeV S V i) j) := by
 subst hx
 have him : i.dot.may = true := by simp only [Itm.may, Bool.and_eq_true] at hi; exact hi.1
 rw [sees_cons, sees_one]
 exact (h.see o him).see (see_OOk o hi) hj
end Go.Proofs.YtoklmpkpeanloaaGreat
end

section
set_option maxRecDepth 100000
set_option maxHeartbeats 4000000
namespace Go.Proofs.YtoklmpkpeanloaaGreat
open Go.Am
def Q_law07iknown  (s : AS) (R : AV → AS → Prop) : Prop :=
 ACalls Tryz.prog F_orset_New [] s fun v1 s2 => ∃ p3 : Option (Nat × Nat), v1 = .ptr p3 ∧ (RdG (abuild T Y_Key [(0, (.str ([110, 101, 119, 115]))), (1, (.str ([97])))]) fun g4 => NewQ (.cells [.str [], .str []] 0 false) s2 fun l5 s6 => OkC (some 2) g4 (StQ (awr s6 l5 0 g4) fun s7 => RdG (abuild T Y_Dot [(0, (.int .i64 1)), (1, (.int .u64 1))]) fun g8 => RdG (abuild T Y_Dot [(0, (.int .i64 2)), (1, (.int .u64 1))]) fun g9 => NewQ (.cells [.int .i64 0, .int .u64 0] 0 false) s7 fun l10 s11 => NewQ (.cells [.int .i64 0, .int .u64 0] 0 false) s11 fun l12 s13 => OkC (some 2) g8 (StQ (awr s13 l10 0 g8) fun s14 => OkC (some 2) g9 (StQ (awr s14 l12 0 g9) fun s15 => RdL (rdc s15 l5 0 2) fun g16 => RdL (rdc s15 l10 0 2) fun g17 => ACalls Tryz.prog F_orset_Set_Add [(.ptr p3), (.agg g16), (.agg g17)] s15 fun v18 s19 => ∃ v20 : AV, ∃ n21 : Int, v18 = .tup [v20, (.int .i64 n21)] ∧ (RdL (rdc s19 l5 0 2) fun g22 => RdL (rdc s19 l12 0 2) fun g23 => ACalls Tryz.prog F_orset_Set_Add [(.ptr p3), (.agg g22), (.agg g23)] s19 fun v24 s25 => ∃ v26 : AV, ∃ n27 : Int, v24 = .tup [v26, (.int .i64 n27)] ∧ (RdL (rdc s25 l12 0 2) fun g28 => ACalls Tryz.prog F_orset_Set_Live [(.ptr p3), (.agg g28)] s25 fun v29 s30 => ∃ g31 : List AV, ∃ b32 : Bool, v29 = .tup [(.agg g31), (.bool b32)] ∧ (NewQ (.cells [.str [], .str []] 0 false) s30 fun l33 s34 => OkC (some 2) g31 (StQ (awr s34 l33 0 g31) fun s35 => RdG (abuild T Y_Dot [(0, (.int .i64 3)), (1, (.int .u64 4))]) fun g36 => NewQ (.cells [.int .i64 0, .int .u64 0] 0 false) s35 fun l37 s38 => OkC (some 2) g36 (StQ (awr s38 l37 0 g36) fun s39 => RdL (rdc s39 l37 0 2) fun g40 => RdG (abuild T Y_Item [(0, (.agg g40)), (2, (.bool true))]) fun g41 => RdL (absl T Y_s_Item 1 [(0, (.agg g41))]) fun g42 => NewQ (.cells g42 0 false) s39 fun l43 s44 => ACalls Tryz.prog F_orset_Set_See [(.ptr p3), (.slc (some (l43, 0)) 1 1 true)] s44 fun v45 s46 => ∃ b47 : Bool, ∃ n48 : Int, v45 = .tup [(.bool b47), (.int .i64 n48)] ∧ (RdL (rdc s46 l37 0 2) fun g49 => RdL (rdc s46 l5 0 2) fun g50 => RdG (abuild T Y_Item [(0, (.agg g49)), (1, (.agg g50))]) fun g51 => RdL (absl T Y_s_Item 1 [(0, (.agg g51))]) fun g52 => NewQ (.cells g52 0 false) s46 fun l53 s54 => ACalls Tryz.prog F_orset_Set_See [(.ptr p3), (.slc (some (l53, 0)) 1 1 true)] s54 fun v55 s56 => ∃ b57 : Bool, ∃ n58 : Int, v55 = .tup [(.bool b57), (.int .i64 n58)] ∧ (RdL (rdc s56 l37 0 2) fun g59 => ACalls Tryz.prog F_orset_Set_Live [(.ptr p3), (.agg g59)] s56 fun v60 s61 => ∃ g62 : List AV, ∃ b63 : Bool, v60 = .tup [(.agg g62), (.bool b63)] ∧ (NewQ (.cells [.str [], .str []] 0 false) s61 fun l64 s65 => OkC (some 2) g62 (StQ (awr s65 l64 0 g62) fun s66 => DrawQ fun S V => bsplit ((n21 : Int) == 0) (bsplit ((n27 : Int) == 0) (RdI .i64 (alenB T Y_s_Item v26 s66) fun n67 => bsplit ((n67 : Int) == 2) (IxQ (aindexAddr T Y_s_Item v26 (.int .i64 0)) fun l68 o69 => RdL (rdc s66 l68 o69 2) fun g70 => RdL (rdc s66 l12 0 2) fun g71 => RdO (aeq T 100 Y_Dot (.agg g70) (.agg g71)) fun b72 => bsplit b72 (IxQ (aindexAddr T Y_s_Item v26 (.int .i64 1)) fun l73 o74 => RdL (rdc s66 l73 o74 5) fun g75 => RdL (rdc s66 l10 0 2) fun g76 => RdG (abuild T Y_Item [(0, (.agg g76)), (2, (.bool true))]) fun g77 => RdO (aeq T 100 Y_Item (.agg g75) (.agg g77)) fun b78 => bsplit b78 (bsplit b32 (RdL (rdc s66 l10 0 2) fun g79 => (∀ s80 : AS, Ext s66 s80 → WFs s80 → (True) → ACalls Tryz.prog F_orset_Set_Gone [(.ptr p3), (.agg g79)] s80 fun v81 s82 => ∃ b83 : Bool, v81 = .bool b83 ∧ ((Ext s80 s82 ∧ S 33 [(.func F_orset_Set_Gone []), (.ptr p3), (.agg g79)] (.bool b83) s82 ∧ V 33 [(.func F_orset_Set_Gone []), (.ptr p3), (.agg g79)] (.bool b83)))) ∧ (∃ v, V 33 [(.func F_orset_Set_Gone []), (.ptr p3), (.agg g79)] v) ∧ ∀ v84 : AV, V 33 [(.func F_orset_Set_Gone []), (.ptr p3), (.agg g79)] v84 → ∃ b85 : Bool, v84 = .bool b85 ∧ (bsplit b85 (RdL (rdc s66 l5 0 2) fun g86 => (∀ s87 : AS, Ext s66 s87 → WFs s87 → (S 33 [(.func F_orset_Set_Gone []), (.ptr p3), (.agg g79)] (.bool b85) s87 ∧ True) → ACalls Tryz.prog F_orset_Set_Has [(.ptr p3), (.agg g86)] s87 fun v88 s89 => ∃ b90 : Bool, v88 = .bool b90 ∧ ((Ext s87 s89 ∧ S 38 [(.func F_orset_Set_Has []), (.ptr p3), (.agg g86)] (.bool b90) s89 ∧ V 38 [(.func F_orset_Set_Has []), (.ptr p3), (.agg g86)] (.bool b90)))) ∧ (∃ v, V 38 [(.func F_orset_Set_Has []), (.ptr p3), (.agg g86)] v) ∧ ∀ v91 : AV, V 38 [(.func F_orset_Set_Has []), (.ptr p3), (.agg g86)] v91 → ∃ b92 : Bool, v91 = .bool b92 ∧ (bsplit b92 (bsplit (!b63) (RdL (rdc s66 l37 0 2) fun g93 => ∀ s94 : AS, Ext s66 s94 → WFs s94 → (S 33 [(.func F_orset_Set_Gone []), (.ptr p3), (.agg g79)] (.bool b85) s94 ∧ (S 38 [(.func F_orset_Set_Has []), (.ptr p3), (.agg g86)] (.bool b92) s94 ∧ True)) → ACalls Tryz.prog F_orset_Set_Gone [(.ptr p3), (.agg g93)] s94 fun v96 s97 => ∃ b98 : Bool, v96 = .bool b98 ∧ (R (.bool b98) s97)) (∀ s99 : AS, Ext s66 s99 → WFs s99 → (S 33 [(.func F_orset_Set_Gone []), (.ptr p3), (.agg g79)] (.bool b85) s99 ∧ (S 38 [(.func F_orset_Set_Has []), (.ptr p3), (.agg g86)] (.bool b92) s99 ∧ True)) → R (.bool false) s99)) (∀ s101 : AS, Ext s66 s101 → WFs s101 → (S 33 [(.func F_orset_Set_Gone []), (.ptr p3), (.agg g79)] (.bool b85) s101 ∧ (S 38 [(.func F_orset_Set_Has []), (.ptr p3), (.agg g86)] (.bool b92) s101 ∧ True)) → R (.bool false) s101))) (∀ s103 : AS, Ext s66 s103 → WFs s103 → (S 33 [(.func F_orset_Set_Gone []), (.ptr p3), (.agg g79)] (.bool b85) s103 ∧ True) → R (.bool false) s103))) (∀ s105 : AS, Ext s66 s105 → WFs s105 → (True) → R (.bool false) s105)) (∀ s107 : AS, Ext s66 s107 → WFs s107 → (True) → R (.bool false) s107)) (∀ s109 : AS, Ext s66 s109 → WFs s109 → (True) → R (.bool false) s109)) (∀ s111 : AS, Ext s66 s111 → WFs s111 → (True) → R (.bool false) s111)) (∀ s113 : AS, Ext s66 s113 → WFs s113 → (True) → R (.bool false) s113)) (∀ s115 : AS, Ext s66 s115 → WFs s115 → (True) → R (.bool false) s115))))))))))))))
def A_law07iknown : QA := (.seq .leaf (.seq .leaf (.seq .leaf (.seq .leaf (.seq .leaf (.seq .leaf (.seq .leaf (.seq .leaf (.seq .leaf (.seq .leaf (.seq .leaf (.seq (.drawH 47 [[], [], [], [], [], [], [], [], [], [], [], [], [], [], [], [], [], [], [], [], [], [], [], [], [], [], [], [], [], [], [], [], [], [], [], [], [], [], [33], [], [], [], [], [], [], [], []] [33, 38]) .leaf))))))))))))
theorem q_law07iknown  (s : AS) (R : AV → AS → Prop) (h : Q_law07iknown  s R) : ACalls Tryz.prog F_law07iknown [] s R :=
 ACalls.q (n := 105) (rs := [.tmp 0]) (A := A_law07iknown) hT hmx Tryz.func13 (by kernel_rfl) rfl rfl rfl (by kernel_rfl) (by kernel_rfl) h
end Go.Proofs.YtoklmpkpeanloaaGreat
end

section
namespace Go.Proofs.YtoklmpkpeanloaaGreat
open Go.Am Go.Minster Go.Minster2
theorem key_build (a b : List UInt8) : abuild T Y_Key [(0, .str a), (1, .str b)] = some (.agg (keyC ⟨a, b⟩)) := by kernel_rfl
theorem dot_build2 (r c : Int) : abuild T Y_Dot [(0, .int .i64 r), (1, .int .u64 c)] = some (.agg (dotC ⟨r, c⟩)) := by kernel_rfl
theorem item1_row (i : Itm) : absl T Y_s_Item 1 [(0, .agg (itemC i))] = some (itemC i) := absl_agg sl_s_Item (itemC_len i) (itemC_one i)
theorem rdc_pre {s : AS} {l o n m : Nat} {cs : List AV} (h : rdc s l o n = some cs) (hm : m ≤ n) : rdc s l o m = some (cs.take m) := by
 unfold Am.rdc at *
 split at h
 ·rename_i C g ro hl
  split at h
  ·rename_i hn
   rw [if_pos (by omega)]
   simp only [Option.some.injEq] at h
   rw [← h, List.take_take]
   congr 2; omega
  ·cases h
 ·cases h
set_option maxRecDepth 100000 in
theorem known07_ok (s : AS) : ACalls Tryz.prog F_law07iknown [] s fun v s' => v = .bool true ∧ Ext s s' := by
 let k : Key := ⟨[110, 101, 119, 115], [97]⟩
 let d1 : Dot := ⟨1, 1⟩
 let d2 : Dot := ⟨2, 1⟩
 let d3 : Dot := ⟨3, 4⟩
 have hk : k.may = true := by decide
 have h12 : d2 ≠ d1 := by decide
 refine q_law07iknown _ _ ?_
 refine ACalls.use (New_ok s) ?_
 rintro v s2 ⟨p, F, rfl, hS, hn, ht, e2⟩ w2
 have A2 : SetO s s2 F p OSet.zero 0 := ⟨hS, OOk.zero, hn, ht⟩
 refine ⟨_, rfl, _, key_build _ _, NewSt w2 rfl rfl rfl fun l5 s7 F7 => ⟨_, dot_build2 1 1, _, dot_build2 2 1, NewQ.intro F7.wf rfl fun l10 s11 F11 => NewQ.intro F11.wf rfl fun l12 s13 F13 => ⟨⟨by simp [dotC], rfl⟩, ?_⟩⟩⟩
 have hne : l10 ≠ l12 := by
  rintro rfl
  have := F13.no
  rw [F11.at] at this; cases this
 refine StQ.own F13.wf (F11.own.ext F13.ext) (by simp [dotC]) fun s14 P14 => ⟨⟨by simp [dotC], rfl⟩, StQ.own P14.wf (F13.own.mut P14.mut (by simpa using hne.symm)) (by simp [dotC]) fun s15 P15 => ?_⟩
 have e13 : Ext s2 s13 := F7.ext.trans (F11.ext.trans F13.ext)
 have hn10 : s2.h l10 = none := F7.ext.none F11.no
 have hn12 : s2.h l12 = none := F7.ext.none (F11.ext.none F13.no)
 have e15 : Ext s2 s15 := Ext.wr (Ext.wr e13 hn10 P14.mut) hn12 P15.mut
 have E15 := e2.trans e15
 have o10 : Am.Own s15 l10 (dotC d1) := by
  have := P14.at
  rw [wrs_all0 (by simp [dotC])] at this
  exact Am.Own.mut this P15.mut (by simpa using hne)
 have o12 : Am.Own s15 l12 (dotC d2) := by
  have := P15.at
  rw [wrs_all0 (by simp [dotC])] at this
  exact this
 have n7 : l5 ≠ l10 := by rintro rfl; have := F11.no; rw [F7.at] at this; cases this
 have n7' : l5 ≠ l12 := by rintro rfl; have := F13.no; rw [F11.ext.1 _ _ F7.at] at this; cases this
 have o5 : Am.Own s15 l5 (keyC k) := (((F7.own.ext F11.ext).ext F13.ext).mut P14.mut (by simpa using n7)).mut P15.mut (by simpa using n7')
 have A15 := A2.ext e15
 have nin : ∀ l, s2.h l = none → l ∉ F := fun l hl hf => ht l hf hl
 refine ⟨_, o5.at.rdc (by simp [keyC]), _, o10.at.rdc (by simp [dotC]), ?_⟩
 have hp5 : ∀ {F' : List Nat} {s s' : AS} {l : Nat}, (∀ y ∈ F', y ∈ F ∨ s.h y = none) → l ∉ F → s.h l ≠ none → l ∉ F' := fun h1 h2 h3 h4 => by
  rcases h1 _ h4 with h | h
  ·exact h2 h
  ·exact h3 h
 have n5 : l5 ≠ p := fun h => nin l5 F7.no (h ▸ hS.pF)
 have n10 : l10 ≠ p := fun h => nin l10 hn10 (h ▸ hS.pF)
 have n12 : l12 ≠ p := fun h => nin l12 hn12 (h ▸ hS.pF)
 refine ACalls.use (A15.Add E15 (by omega) k d1 hk (by decide) (by rw [Is.zero.has]; rfl)) ?_
 rintro v s19 ⟨v1, l, kd, rfl, _, m19, E19, F1, x1, hx1, A19, hF1⟩ w19
 obtain rfl := kd.none fun d h => by cases h
 have i1 := Is.zero.sees1 OOk.zero (i := ⟨d1, k, false⟩) hx1 (by decide)
 have o5 := o5.mut m19 (by simpa using n5)
 have o10 := o10.mut m19 (by simpa using n10)
 have o12 := o12.mut m19 (by simpa using n12)
 refine ⟨_, _, rfl, _, o5.at.rdc (by simp [keyC]), _, o12.at.rdc (by simp [dotC]), ?_⟩
 refine ACalls.use (A19.Add E19 (by omega) k d2 hk (by decide) (by rw [i1.has]; decide)) ?_
 rintro v s25 ⟨v2, l, kd, rfl, hs25, m25, E25, F2, x2, hx2, A25, hF2⟩ w25
 obtain rfl := kd.one d1 fun d => by
  rw [i1.live]
  simp [seeV]
 have i2 := i1.sees2 A19.ok (i := ⟨d2, k, false⟩) (j := goneI d1) hx2 (by decide) (by decide)
 have o5 := o5.mut m25 (by simpa using n5)
 have o10 := o10.mut m25 (by simpa using n10)
 have o12 := o12.mut m25 (by simpa using n12)
 refine ⟨_, _, rfl, _, o12.at.rdc (by simp [dotC]), ?_⟩
 refine ACalls.use (Live_ok A25.set d2) ?_
 rintro v s30 ⟨rfl, e30⟩ w30
 have hl2 : x2.live d2 = some k := (i2.live d2).trans (by simp [seeV, goneI, h12])
 refine ⟨_, _, rfl, NewSt w30 rfl rfl rfl fun l33 s35 F35 => ⟨_, dot_build2 3 4, NewSt F35.wf rfl rfl rfl fun l37 s39 F39 => ?_⟩⟩
 have e39 := e30.trans (F35.ext.trans F39.ext)
 refine ⟨_, F39.own.at.rdc (by simp [dotC]), _, build_gone d3, _, item1_row _, NewQ.intro F39.wf rfl fun l43 s44 F44 => ?_⟩
 have e44 := e39.trans F44.ext
 have A44 := A25.ext e44
 have sl44 : Sl itemC 5 s44 (.slc (some (l43, 0)) 1 1 true) [goneI d3] := SlAt.mk F44.own.at (by simp [itemC]) (by simp [itemC])
 refine ACalls.use (A44.See (E25.trans e44) sl44 (by simp) (by simp; decide)) ?_
 rintro v s46 ⟨rfl, m46, E46, F3, x3, hx3, A46, hF3⟩ w46
 have i3 := i2.sees1 A25.ok (i := goneI d3) hx3 (by decide)
 have hp2 : p ∈ F2 := A25.set.pF
 have n37 : l37 ≠ p := by
  rintro rfl
  have := (A25.ext (e30.trans F35.ext)).there _ hp2
  exact this F39.no
 have o37 : Am.Own s46 l37 (dotC d3) := (F39.own.ext F44.ext).mut m46 (by simpa using n37)
 have o5 := (o5.ext e44).mut m46 (by simpa using n5)
 have o10 := (o10.ext e44).mut m46 (by simpa using n10)
 have o12 := (o12.ext e44).mut m46 (by simpa using n12)
 have hs46 := A44.set.keepI (hs25.ext e44) m46
 refine ⟨_, _, rfl, _, o37.at.rdc (by simp [dotC]), _, o5.at.rdc (by simp [keyC]), _, build_item d3 k, _, item1_row _, NewQ.intro w46 rfl fun l53 s54 F54 => ?_⟩
 have A54 := A46.ext F54.ext
 have sl54 : Sl itemC 5 s54 (.slc (some (l53, 0)) 1 1 true) [⟨d3, k, false⟩] := SlAt.mk F54.own.at (by simp [itemC]) (by simp [itemC])
 refine ACalls.use (A54.See (E46.trans F54.ext) sl54 (by simp) (by simp; decide)) ?_
 rintro v s56 ⟨rfl, m56, E56, F4, x4, hx4, A56, hF4⟩ w56
 have i4 := i3.sees1 A46.ok (i := ⟨d3, k, false⟩) hx4 (by decide)
 have o37 := (o37.ext F54.ext).mut m56 (by simpa using n37)
 have o5 := (o5.ext F54.ext).mut m56 (by simpa using n5)
 have o10 := (o10.ext F54.ext).mut m56 (by simpa using n10)
 have o12 := (o12.ext F54.ext).mut m56 (by simpa using n12)
 have hs56 := A54.set.keepI (hs46.ext F54.ext) m56
 refine ⟨_, _, rfl, _, o37.at.rdc (by simp [dotC]), ?_⟩
 refine ACalls.use (Live_ok A56.set d3) ?_
 rintro v s61 ⟨rfl, e61⟩ w61
 refine ⟨_, _, rfl, NewSt w61 rfl rfl rfl fun l64 s66 F66 => ?_⟩
 have e66 := e61.trans F66.ext
 have A66 := A56.ext e66
 have hs66 := hs56.ext e66
 have hal : alenB T Y_s_Item v2 s66 = some (.int .i64 2) := hs66.lenB u_s_Item _
 obtain ⟨la, oa, a1, a2⟩ := hs66.ix (by decide) itemC_len u_s_Item z_Item (i := 0) (x := ⟨d2, k, false⟩) rfl
 obtain ⟨lb, ob, b1, b2⟩ := hs66.ix (by decide) itemC_len u_s_Item z_Item (i := 1) (x := goneI d1) rfl
 have r0 : rdc s66 la oa 2 = some (dotC d2) := by
  have h5 := (a2 s66 (Ext.refl _)).2
  exact rdc_pre h5 (by decide)
 have l3 : x4.live d3 = none := (i4.live d3).trans (by decide)
 have l1 : x4.live d1 = none := (i4.live d1).trans (by decide)
 have l2 : x4.live d2 = some k := (i4.live d2).trans (by decide)
 have g1 : x4.has d1 = true := (i4.has d1).trans (by decide)
 have g3 : x4.has d3 = true := (i4.has d3).trans (by decide)
 refine ⟨fun _ _ _ _ => True, fun q _ v => v = .bool true, fun _ _ _ _ _ _ _ => trivial, bsplit.yes rfl (bsplit.yes rfl ⟨_, hal, bsplit.yes rfl ⟨_, _, a1 _, _, r0, _, (o12.ext e66).at.rdc (by simp [dotC]), _, dot_eq _ _, bsplit.yes (by decide) ⟨_, _, b1 _, _, (b2 _ (Ext.refl _)).2, _, (o10.ext e66).at.rdc (by simp [dotC]), _, build_gone d1, _, item_eq _ _, bsplit.yes (by decide) (bsplit.yes ?_ ?_)⟩⟩⟩)⟩
 ·exact (congrArg Option.isSome hl2).trans rfl
 refine ⟨_, (o10.ext e66).at.rdc (by simp [dotC]), fun s80 e80 w80 _ => ?_, ⟨_, rfl⟩, ?_⟩
 ·refine (Gone_ok (A66.ext e80).set d1).mono ?_
  rintro v s' ⟨rfl, e⟩
  refine ⟨_, rfl, e, trivial, ?_⟩
  rw [l1]
  exact congrArg AV.bool g1
 intro v hv
 obtain rfl : v = .bool true := hv
 refine ⟨_, rfl, bsplit.yes rfl ⟨_, (o5.ext e66).at.rdc (by simp [keyC]), fun s87 e87 w87 _ => ?_, ⟨_, rfl⟩, ?_⟩⟩
 ·have A87 := A66.ext e87
  have hb := A87.bnd
  simp only [List.length_cons, List.length_nil] at hb
  refine (Has_ok A87.set (by omega) k).mono ?_
  rintro v s' ⟨⟨b, rfl, hb⟩, e⟩
  refine ⟨_, rfl, e, trivial, ?_⟩
  rw [hb.2 ⟨d2, l2⟩]
 intro v hv
 obtain rfl : v = .bool true := hv
 refine ⟨_, rfl, bsplit.yes rfl (bsplit.yes ?_ ⟨_, (o37.ext e66).at.rdc (by simp [dotC]), fun s94 e94 w94 _ => ?_⟩)⟩
 ·rw [l3]; rfl
 ·refine (Gone_ok (A66.ext e94).set d3).mono ?_
  rintro v s' ⟨rfl, e⟩
  refine ⟨_, rfl, ?_, ?_⟩
  ·rw [l3]
   exact congrArg AV.bool g3
  ·exact Ext.trans (by assumption) (e66.trans (e94.trans e))
end Go.Proofs.YtoklmpkpeanloaaGreat
end

section
namespace Go.Proofs.YtoklmpkpeanloaaGreat
open Go.Am Go.Minster Go.Minster2 Go.ChangeShapes Go.WideShapes Go.ChangeAt Go.RowKit
theorem refName_ok (t : List UInt8) (s : AS) : ACalls Tryz.prog F_ref07iName [.str t] s fun v s' => v = .bool (nameOk t) ∧ s' = s := by
 refine q_ref07iName _ _ _ ⟨_, alen_str t s, bsplit.dec (fun h => ⟨_, alen_str t s, ?_, rfl⟩) (fun h => ⟨?_, rfl⟩)⟩
 ·congr 1
  rw [nameOk, decide_eq_decide]; omega
 ·congr 1
  symm
  rw [nameOk, decide_eq_false_iff_not]; omega
section
variable {s0 s s' : AS} {pa pb : Nat} {xa xb : OSet} {Ba Bb : Nat} {sl : List (AV × List Itm)}
end
set_option maxRecDepth 100000 in
theorem flat_Key : flatT Tryz.prog 5 Y_Key = some [.str, .str] := by kernel_rfl
theorem key_arg {H : Type} {enc : TypeId × Value → H} {W : World} {v : Value} (h : ∃ (d : DataW H) (p : List MemPlace), DataW.Trod enc Tryz.prog W 0 (fun _ => true) true Y_Key v d p) :
  ∃ x : Key, absV W.heap.size (MW W) v = .agg (keyC x) := by
 obtain ⟨d, p, fuel, h⟩ := h
 have hc := flat_open 5 Y_Key _ fuel v.cells.toList _ W.heap.size (MW W) flat_Key h
 obtain ⟨a, c1, h1, ⟨r, rfl, _⟩, g1⟩ := cellsOk.cons hc
 obtain ⟨b, c2, h2, ⟨n, rfl, _⟩, g2⟩ := cellsOk.cons g1
 obtain rfl := cellsOk.nil g2
 subst h2
 refine ⟨⟨r, n⟩, ?_⟩
 have hl := congrArg List.length h1
 cases v with
 | agg l =>
  obtain ⟨l⟩ := l
  simp only [absV, absVs_map]
  exact congrArg AV.agg h1
 | _ => simp [Value.cells] at hl
end Go.Proofs.YtoklmpkpeanloaaGreat
end

section
set_option maxRecDepth 100000
set_option maxHeartbeats 4000000
namespace Go.Proofs.YtoklmpkpeanloaaGreat
open Go.Am
def Q_orset_Set_Collect (a0 : Option (Nat × Nat)) (a1 : List AV) (s : AS) (R : AV → AS → Prop) : Prop :=
 One1 a1 (NewQ (.cells a1 0 false) s fun l1 s2 => ACalls Tryz.prog F_orset_Set_there [(.ptr a0)] s2 fun v3 s4 => ∃ b5 : Bool, v3 = .bool b5 ∧ (bsplit (!b5)
 (R (.int .i64 1) s4)
 (RdL (rdc s4 l1 0 2) fun g6 => ACalls Tryz.prog F_ctx_May [(.agg g6)] s4 fun v7 s8 => ∃ b9 : Bool, v7 = .bool b9 ∧ (bsplit (!b9)
 (R (.int .i64 2) s8)
 (AsSome a0 fun l10 o11 => RdM (rd1 s8 l10 (o11 + 2)) fun r12 => RdL (rdc s8 l1 0 2) fun g13 => RdG (alookup T Y_m_Dot_struct__is_bool__ (.map r12) (.agg g13) false s8) fun g14 => RdB (g14[0]?) fun b15 => bsplit (!b15)
 (R (.int .i64 6) s8)
 (AsSome a0 fun l16 o17 => RdM (rd1 s8 l16 (o17 + 2)) fun r18 => RdL (rdc s8 l1 0 2) fun g19 => StQ (adelete T Y_m_Dot_struct__is_bool__ (.map r18) (.agg g19) s8) fun s20 => R (.int .i64 0) s20))))))
def A_orset_Set_Collect : QA := (.seq .leaf (.seq (.wrap (.seq .leaf (.cond (.seq .leaf .leaf) (.seq .leaf (.cond (.seq .leaf .leaf) (.seq (.draw 5) (.cond (.seq .leaf .leaf) .leaf))))))) (.seq (.draw 5) (.seq .leaf .leaf))))
theorem q_orset_Set_Collect (a0 : Option (Nat × Nat)) (a1 : List AV) (s : AS) (R : AV → AS → Prop) (h : Q_orset_Set_Collect a0 a1 s R) : ACalls Tryz.prog F_orset_Set_Collect [(.ptr a0), (.agg a1)] s R :=
 ACalls.q (n := 27) (rs := [.tmp 4]) (A := A_orset_Set_Collect) hT hmx Tryz.func17 (by kernel_rfl) rfl rfl rfl (by kernel_rfl) (by kernel_rfl) h
def Q_orset_BucketOf (a0 : List AV) (s : AS) (R : AV → AS → Prop) : Prop :=
 One1 a0 (NewQ (.cells a0 0 false) s fun l1 s2 => RdL (rdc s2 l1 0 2) fun g3 => ACalls Tryz.prog F_ctx_May [(.agg g3)] s2 fun v4 s5 => ∃ b6 : Bool, v4 = .bool b6 ∧ (bsplit (!b6)
 (R (.int .i64 (-1)) s5)
 (RdI .i64 (rd1 s5 l1 0) fun n7 => RdI .u64 (rd1 s5 l1 1) fun n8 => NZ 64 (R (.int .i64 (IntKind.wrap .i64 (Int.tmod (IntKind.wrap .u64 ((IntKind.wrap .u64 ((IntKind.wrap .u64 n7) * 7)) + n8)) 64))) s5))))
def A_orset_BucketOf : QA := (.seq .leaf (.seq (.seq .leaf (.cond (.seq .leaf .leaf) .leaf)) (.seq .leaf .leaf)))
theorem q_orset_BucketOf (a0 : List AV) (s : AS) (R : AV → AS → Prop) (h : Q_orset_BucketOf a0 s R) : ACalls Tryz.prog F_orset_BucketOf [(.agg a0)] s R :=
 ACalls.q (n := 15) (rs := [.tmp 2]) (A := A_orset_BucketOf) hT hmx Tryz.func32 (by kernel_rfl) rfl rfl rfl (by kernel_rfl) (by kernel_rfl) h
def Q_orset_Set_Dests (a0 : Option (Nat × Nat)) (a1 : List UInt8) (s : AS) (R : AV → AS → Prop) : Prop :=
 NewQ (.cells [(.str a1)] 0 false) s fun l1 s2 => ACalls Tryz.prog F_orset_Set_there [(.ptr a0)] s2 fun v3 s4 => ∃ b5 : Bool, v3 = .bool b5 ∧ (bsplit (!b5)
 (R (.slc none 0 0 true) s4)
 (ACalls Tryz.prog F_orset_Set_dots [(.ptr a0), (.func F_orset_Set_Dests_1 [(.ptr (some (l1, 0)))])] s4 fun v6 s7 => RdI .i64 (alenB T Y_s_Dot v6 s7) fun n8 => LoopQ fun I9 m10 => I9 m10 [(.slc none 0 0 true), (.int .i64 0)] s7 ∧
 ∀ m11 : Nat, ∀ v12 : AV, ∀ n13 : Int, ∀ s14 : AS, I9 m11 [v12, (.int .i64 n13)] s14 →
 bsplit (decide ((n13 : Int) < n8))
 (IxQ (aindexAddr T Y_s_Dot v6 (.int .i64 n13)) fun l15 o16 => RdL (rdc s14 l15 o16 2) fun g17 => NewQ (.cells [.int .i64 0, .int .u64 0] 0 false) s14 fun l18 s19 => OkC (some 2) g17 (StQ (awr s19 l18 0 g17) fun s20 => RdL (rdc s20 l18 0 2) fun g21 => AsSome a0 fun l22 o23 => RdM (rd1 s20 l22 (o23 + 1)) fun r24 => RdL (rdc s20 l18 0 2) fun g25 => RdG (alookup T Y_m_Dot_Key (.map r24) (.agg g25) false s20) fun g26 => RdS (g26[1]?) fun x27 => RdG (abuild T Y_Dest [(0, (.agg g21)), (1, (.str x27))]) fun g28 => RdL (absl T Y_s_Dest 1 [(0, (.agg g28))]) fun g29 => NewQ (.cells g29 0 false) s20 fun l30 s31 => Bd2 (aappend T Y_s_Dest Y_s_Dest v12 (.slc (some (l30, 0)) 1 1 true) s31) fun v32 s33 => ∃ m', m' < m11 ∧ I9 m' [v32, (.int .i64 (IntKind.wrap .i64 (n13 + 1)))] s33))
 (R v12 s14)))
def A_orset_Set_Dests : QA := (.seq .leaf (.seq (.seq .leaf (.cond (.seq .leaf .leaf) .leaf)) (.seq .leaf (.seq (.seq .leaf (.wrap (.loop [(5, .any), (15, .int .i64)] [(5, 5), (7, 7), (15, 31)] (.seq .leaf (.seq (.cond .leaf .leaf) (.seq (.wrap (.seq .leaf .calm)) .leaf)))))) (.seq .leaf .leaf)))))
theorem q_orset_Set_Dests (a0 : Option (Nat × Nat)) (a1 : List UInt8) (s : AS) (R : AV → AS → Prop) (h : Q_orset_Set_Dests a0 a1 s R) : ACalls Tryz.prog F_orset_Set_Dests [(.ptr a0), (.str a1)] s R :=
 ACalls.q (n := 33) (rs := [.tmp 4]) (A := A_orset_Set_Dests) hT hmx Tryz.func34 (by kernel_rfl) rfl rfl rfl (by kernel_rfl) (by kernel_rfl) h
def Q_orset_Set_Bucket (a0 : Option (Nat × Nat)) (a1 : Int) (s : AS) (R : AV → AS → Prop) : Prop :=
 NewQ (.cells [(.int .i64 a1)] 0 false) s fun l1 s2 => ACalls Tryz.prog F_orset_Set_there [(.ptr a0)] s2 fun v3 s4 => ∃ b5 : Bool, v3 = .bool b5 ∧ (bsplit (!b5)
 (R (.tup [(.slc none 0 0 true), (.int .i64 1)]) s4)
 (JoinQ fun J6 =>
 (∀ b7 : Bool, ∀ s8 : AS, J6 [(.bool b7)] s8 →
 bsplit b7
 (R (.tup [(.slc none 0 0 true), (.int .i64 2)]) s8)
 (ACalls Tryz.prog F_orset_Set_Items [(.ptr a0)] s8 fun v9 s10 => ACalls Tryz.prog F_slices_DeleteFunc__s_Item_Item [v9, (.func F_orset_Set_Bucket_1 [(.ptr (some (l1, 0)))])] s10 fun v11 s12 => R (.tup [v11, (.int .i64 0)]) s12)) ∧
 (RdI .i64 (rd1 s4 l1 0) fun n13 => bsplit (decide ((n13 : Int) < 0)) (J6 [(.bool true)] s4) (RdI .i64 (rd1 s4 l1 0) fun n14 => J6 [(.bool (decide ((n14 : Int) ≥ 64)))] s4))))
def A_orset_Set_Bucket : QA := (.seq .leaf (.seq (.wrap (.seq .leaf (.cond (.seq .leaf .leaf) (.join [(10, .bool)] [(10, 16)] .leaf (.cond (.seq .leaf .leaf) .leaf))))) (.seq .leaf .leaf)))
theorem q_orset_Set_Bucket (a0 : Option (Nat × Nat)) (a1 : Int) (s : AS) (R : AV → AS → Prop) (h : Q_orset_Set_Bucket a0 a1 s R) : ACalls Tryz.prog F_orset_Set_Bucket [(.ptr a0), (.int .i64 a1)] s R :=
 ACalls.q (n := 21) (rs := [.tmp 4, .tmp 5]) (A := A_orset_Set_Bucket) hT hmx Tryz.func38 (by kernel_rfl) rfl rfl rfl (by kernel_rfl) (by kernel_rfl) h
def Q_orset_Set_Dests_1 (a0 : List AV) (a1 : List AV) (c0 : Option (Nat × Nat)) (s : AS) (R : AV → AS → Prop) : Prop :=
 One1 a0 (NewQ (.cells a0 0 false) s fun l1 s2 => One1 a1 (NewQ (.cells a1 0 false) s2 fun l3 s4 => RdS (rd1 s4 l3 0) fun x5 => AsSome c0 fun l6 o7 => RdS (rd1 s4 l6 o7) fun x8 => R (.bool ((x5 : List UInt8) == x8)) s4))
def A_orset_Set_Dests_1 : QA := (.seq .leaf (.seq .leaf .leaf))
theorem q_orset_Set_Dests_1 (a0 : List AV) (a1 : List AV) (c0 : Option (Nat × Nat)) (s : AS) (R : AV → AS → Prop) (h : Q_orset_Set_Dests_1 a0 a1 c0 s R) : ACalls Tryz.prog F_orset_Set_Dests_1 [(.agg a0), (.agg a1), (.ptr c0)] s R :=
 ACalls.q (n := 10) (rs := [.tmp 5]) (A := A_orset_Set_Dests_1) hT hmx Tryz.func84 (by kernel_rfl) rfl rfl rfl (by kernel_rfl) (by kernel_rfl) h
def Q_orset_Set_Bucket_1 (a0 : List AV) (c0 : Option (Nat × Nat)) (s : AS) (R : AV → AS → Prop) : Prop :=
 One1 a0 (NewQ (.cells a0 0 false) s fun l1 s2 => DrawQ fun S V => RdL (rdc s2 l1 0 2) fun g3 => (∀ s4 : AS, Ext s2 s4 → WFs s4 → (True) → ACalls Tryz.prog F_orset_BucketOf [(.agg g3)] s4 fun v5 s6 => ∃ n7 : Int, v5 = .int .i64 n7 ∧ ((Ext s4 s6 ∧ S 2 [(.func F_orset_BucketOf []), (.agg g3)] (.int .i64 n7) s6 ∧ V 2 [(.func F_orset_BucketOf []), (.agg g3)] (.int .i64 n7)))) ∧ (∃ v, V 2 [(.func F_orset_BucketOf []), (.agg g3)] v) ∧ ∀ v8 : AV, V 2 [(.func F_orset_BucketOf []), (.agg g3)] v8 → ∃ n9 : Int, v8 = .int .i64 n9 ∧ (AsSome c0 fun l10 o11 => RdI .i64 (rd1 s2 l10 o11) fun n12 => ∀ s13 : AS, Ext s2 s13 → WFs s13 → (S 2 [(.func F_orset_BucketOf []), (.agg g3)] (.int .i64 n9) s13 ∧ True) → R (.bool ((n9 : Int) != n12)) s13))
def A_orset_Set_Bucket_1 : QA := (.seq .leaf (.seq (.drawH 4 [[], [], [], []] [2]) .leaf))
theorem q_orset_Set_Bucket_1 (a0 : List AV) (c0 : Option (Nat × Nat)) (s : AS) (R : AV → AS → Prop) (h : Q_orset_Set_Bucket_1 a0 c0 s R) : ACalls Tryz.prog F_orset_Set_Bucket_1 [(.agg a0), (.ptr c0)] s R :=
 ACalls.q (n := 9) (rs := [.tmp 3]) (A := A_orset_Set_Bucket_1) hT hmx Tryz.func89 (by kernel_rfl) rfl rfl rfl (by kernel_rfl) (by kernel_rfl) h
def Q_ref07iMay (a0 : List AV) (s : AS) (R : AV → AS → Prop) : Prop :=
 One1 a0 (NewQ (.cells a0 0 false) s fun l1 s2 => RdB (rd1 s2 l1 4) fun b3 => bsplit b3
 (RdL (rdc s2 l1 0 2) fun g4 => ACalls Tryz.prog F_ref04iMay [(.agg g4)] s2 fun v5 s6 => ∃ b7 : Bool, v5 = .bool b7 ∧ (bsplit b7 (RdL (rdc s6 l1 2 2) fun g8 => RdG (abuild T Y_Key []) fun g9 => RdO (aeq T 100 Y_Key (.agg g8) (.agg g9)) fun b10 => R (.bool b10) s6) (R (.bool false) s6)))
 (RdL (rdc s2 l1 0 2) fun g11 => ACalls Tryz.prog F_ref04iMay [(.agg g11)] s2 fun v12 s13 => ∃ b14 : Bool, v12 = .bool b14 ∧ (bsplit b14 (RdS (rd1 s13 l1 2) fun x15 => ACalls Tryz.prog F_ref07iName [(.str x15)] s13 fun v16 s17 => ∃ b18 : Bool, v16 = .bool b18 ∧ (bsplit b18 (RdS (rd1 s17 l1 3) fun x19 => ACalls Tryz.prog F_ref07iName [(.str x19)] s17 fun v20 s21 => ∃ b22 : Bool, v20 = .bool b22 ∧ (R (.bool b22) s21)) (R (.bool false) s17))) (R (.bool false) s13))))
def A_ref07iMay : QA := (.seq .leaf (.seq (.seq .leaf (.cond (.seq .leaf .leaf) .leaf)) (.seq .leaf .leaf)))
theorem q_ref07iMay (a0 : List AV) (s : AS) (R : AV → AS → Prop) (h : Q_ref07iMay a0 s R) : ACalls Tryz.prog F_ref07iMay [(.agg a0)] s R :=
 ACalls.q (n := 29) (rs := [.tmp 2]) (A := A_ref07iMay) hT hmx Tryz.func14 (by kernel_rfl) rfl rfl rfl (by kernel_rfl) (by kernel_rfl) h
def Q_ref07iSet_Live (a0 : Option (Nat × Nat)) (s : AS) (R : AV → AS → Prop) : Prop :=
 LoopQ fun I1 m2 => I1 m2 [(.slc none 0 0 true), (.int .i64 0)] s ∧
 ∀ m3 : Nat, ∀ v4 : AV, ∀ n5 : Int, ∀ s6 : AS, I1 m3 [v4, (.int .i64 n5)] s6 →
 AsSome a0 fun l7 o8 => RdA (rd1 s6 l7 (o8 + 17)) fun v9 => RdI .i64 (alenB T Y_s_Item v9 s6) fun n10 => bsplit (decide ((n5 : Int) < n10))
 (AsSome a0 fun l11 o12 => RdA (rd1 s6 l11 (o12 + 17)) fun v13 => IxQ (aindexAddr T Y_s_Item v13 (.int .i64 n5)) fun l14 o15 => RdB (rd1 s6 l14 (o15 + 4)) fun b16 => bsplit (!b16)
 (AsSome a0 fun l17 o18 => RdA (rd1 s6 l17 (o18 + 17)) fun v19 => IxQ (aindexAddr T Y_s_Item v19 (.int .i64 n5)) fun l20 o21 => RdL (rdc s6 l20 o21 5) fun g22 => RdL (absl T Y_s_Item 1 [(0, (.agg g22))]) fun g23 => NewQ (.cells g23 0 false) s6 fun l24 s25 => Bd2 (aappend T Y_s_Item Y_s_Item v4 (.slc (some (l24, 0)) 1 1 true) s25) fun v26 s27 => ∃ m', m' < m3 ∧ I1 m' [v26, (.int .i64 (IntKind.wrap .i64 (n5 + 1)))] s27)
 (∃ m', m' < m3 ∧ I1 m' [v4, (.int .i64 (IntKind.wrap .i64 (n5 + 1)))] s6))
 (R v4 s6)
def A_ref07iSet_Live : QA := (.seq .leaf (.seq .leaf (.seq (.seq .leaf (.wrap (.loop [(3, .any), (4, .int .i64)] [(3, 32)] (.seq (.seq .leaf (.cond .leaf .leaf)) (.seq (.wrap (.seq .leaf (.cond .leaf .leaf))) .leaf))))) (.seq .leaf .leaf))))
theorem q_ref07iSet_Live (a0 : Option (Nat × Nat)) (s : AS) (R : AV → AS → Prop) (h : Q_ref07iSet_Live a0 s R) : ACalls Tryz.prog F_ref07iSet_Live [(.ptr a0)] s R :=
 ACalls.q (n := 34) (rs := [.tmp 2]) (A := A_ref07iSet_Live) hT hmx Tryz.func26 (by kernel_rfl) rfl rfl rfl (by kernel_rfl) (by kernel_rfl) h
def Q_ref07iSet_IsGone (a0 : Option (Nat × Nat)) (a1 : List AV) (s : AS) (R : AV → AS → Prop) : Prop :=
 One1 a1 (NewQ (.cells a1 0 false) s fun l1 s2 => RdL (rdc s2 l1 0 2) fun g3 => ACalls Tryz.prog F_ref07iSet_at [(.ptr a0), (.agg g3)] s2 fun v4 s5 => ∃ n6 : Int, v4 = .int .i64 n6 ∧ (AsSome a0 fun l7 o8 => RdL (rdc s5 l1 0 2) fun g9 => ACalls Tryz.prog F_ref04iSet_Has [(.ptr (some (l7, o8))), (.agg g9)] s5 fun v10 s11 => ∃ b12 : Bool, v10 = .bool b12 ∧ (bsplit b12 (bsplit (decide ((n6 : Int) < 0)) (R (.bool true) s11) (AsSome a0 fun l13 o14 => RdA (rd1 s11 l13 (o14 + 17)) fun v15 => IxQ (aindexAddr T Y_s_Item v15 (.int .i64 n6)) fun l16 o17 => RdB (rd1 s11 l16 (o17 + 4)) fun b18 => R (.bool b18) s11)) (R (.bool false) s11))))
def A_ref07iSet_IsGone : QA := (.seq .leaf (.seq .leaf (.seq .calm .leaf)))
theorem q_ref07iSet_IsGone (a0 : Option (Nat × Nat)) (a1 : List AV) (s : AS) (R : AV → AS → Prop) (h : Q_ref07iSet_IsGone a0 a1 s R) : ACalls Tryz.prog F_ref07iSet_IsGone [(.ptr a0), (.agg a1)] s R :=
 ACalls.q (n := 28) (rs := [.tmp 4]) (A := A_ref07iSet_IsGone) hT hmx Tryz.func31 (by kernel_rfl) rfl rfl rfl (by kernel_rfl) (by kernel_rfl) h
def Q_ref07iSameDests (a0 : AV) (a1 : AV) (s : AS) (R : AV → AS → Prop) : Prop :=
 RdI .i64 (alenB T Y_s_Dest a0 s) fun n1 => RdI .i64 (alenB T Y_s_Dest a1 s) fun n2 => bsplit ((n1 : Int) != n2)
 (R (.bool false) s)
 (LoopQ fun I3 m4 => I3 m4 [(.int .i64 0)] s ∧
 ∀ m5 : Nat, ∀ n6 : Int, ∀ s7 : AS, I3 m5 [(.int .i64 n6)] s7 →
 RdI .i64 (alenB T Y_s_Dest a0 s7) fun n8 => bsplit (decide ((n6 : Int) < n8))
 (IxQ (aindexAddr T Y_s_Dest a0 (.int .i64 n6)) fun l9 o10 => RdL (rdc s7 l9 o10 3) fun g11 => IxQ (aindexAddr T Y_s_Dest a1 (.int .i64 n6)) fun l12 o13 => RdL (rdc s7 l12 o13 3) fun g14 => RdO (aeq T 100 Y_Dest (.agg g11) (.agg g14)) fun b15 => bsplit (!b15)
 (R (.bool false) s7)
 (∃ m', m' < m5 ∧ I3 m' [(.int .i64 (IntKind.wrap .i64 (n6 + 1)))] s7))
 (R (.bool true) s7))
def A_ref07iSameDests : QA := (.seq .leaf (.seq (.seq .leaf (.cond (.seq .leaf .leaf) .leaf)) (.seq (.seq .leaf (.wrap (.loop [(5, .int .i64)] [(4, 5), (11, 25)] (.seq (.seq .leaf (.cond .leaf .leaf)) (.seq (.wrap (.seq (.draw 8) (.cond (.seq .leaf .leaf) .leaf))) .leaf))))) (.seq .leaf .leaf))))
theorem q_ref07iSameDests (a0 : AV) (a1 : AV) (s : AS) (R : AV → AS → Prop) (h : Q_ref07iSameDests a0 a1 s R) : ACalls Tryz.prog F_ref07iSameDests [a0, a1] s R :=
 ACalls.q (n := 26) (rs := [.tmp 4]) (A := A_ref07iSameDests) hT hmx Tryz.func33 (by kernel_rfl) rfl rfl rfl (by kernel_rfl) (by kernel_rfl) h
def Q_ref07iSet_Dests (a0 : Option (Nat × Nat)) (a1 : List UInt8) (s : AS) (R : AV → AS → Prop) : Prop :=
 ACalls Tryz.prog F_ref07iSet_Live [(.ptr a0)] s fun v1 s2 => LoopQ fun I3 m4 => I3 m4 [(.slc none 0 0 true), (.int .i64 0)] s2 ∧
 ∀ m5 : Nat, ∀ v6 : AV, ∀ n7 : Int, ∀ s8 : AS, I3 m5 [v6, (.int .i64 n7)] s8 →
 RdI .i64 (alenB T Y_s_Item v1 s8) fun n9 => bsplit (decide ((n7 : Int) < n9))
 (IxQ (aindexAddr T Y_s_Item v1 (.int .i64 n7)) fun l10 o11 => RdS (rd1 s8 l10 (o11 + 2)) fun x12 => bsplit ((x12 : List UInt8) == a1)
 (IxQ (aindexAddr T Y_s_Item v1 (.int .i64 n7)) fun l13 o14 => RdL (rdc s8 l13 o14 2) fun g15 => IxQ (aindexAddr T Y_s_Item v1 (.int .i64 n7)) fun l16 o17 => RdS (rd1 s8 l16 (o17 + 3)) fun x18 => RdG (abuild T Y_Dest [(0, (.agg g15)), (1, (.str x18))]) fun g19 => RdL (absl T Y_s_Dest 1 [(0, (.agg g19))]) fun g20 => NewQ (.cells g20 0 false) s8 fun l21 s22 => Bd2 (aappend T Y_s_Dest Y_s_Dest v6 (.slc (some (l21, 0)) 1 1 true) s22) fun v23 s24 => ∃ m', m' < m5 ∧ I3 m' [v23, (.int .i64 (IntKind.wrap .i64 (n7 + 1)))] s24)
 (∃ m', m' < m5 ∧ I3 m' [v6, (.int .i64 (IntKind.wrap .i64 (n7 + 1)))] s8))
 (R v6 s8)
def A_ref07iSet_Dests : QA := (.seq .leaf (.seq .leaf (.seq .leaf (.seq (.seq .leaf (.wrap (.loop [(5, .any), (7, .int .i64)] [(5, 5), (7, 7), (10, 38)] (.seq (.seq .leaf (.cond .leaf .leaf)) (.seq (.wrap (.seq .leaf (.cond .calm .leaf))) .leaf))))) (.seq .leaf .leaf)))))
theorem q_ref07iSet_Dests (a0 : Option (Nat × Nat)) (a1 : List UInt8) (s : AS) (R : AV → AS → Prop) (h : Q_ref07iSet_Dests a0 a1 s R) : ACalls Tryz.prog F_ref07iSet_Dests [(.ptr a0), (.str a1)] s R :=
 ACalls.q (n := 40) (rs := [.tmp 4]) (A := A_ref07iSet_Dests) hT hmx Tryz.func35 (by kernel_rfl) rfl rfl rfl (by kernel_rfl) (by kernel_rfl) h
def Q_ref07iSameItems (a0 : AV) (a1 : AV) (s : AS) (R : AV → AS → Prop) : Prop :=
 RdI .i64 (alenB T Y_s_Item a0 s) fun n1 => RdI .i64 (alenB T Y_s_Item a1 s) fun n2 => bsplit ((n1 : Int) != n2)
 (R (.bool false) s)
 (LoopQ fun I3 m4 => I3 m4 [(.int .i64 0)] s ∧
 ∀ m5 : Nat, ∀ n6 : Int, ∀ s7 : AS, I3 m5 [(.int .i64 n6)] s7 →
 RdI .i64 (alenB T Y_s_Item a0 s7) fun n8 => bsplit (decide ((n6 : Int) < n8))
 (IxQ (aindexAddr T Y_s_Item a0 (.int .i64 n6)) fun l9 o10 => RdL (rdc s7 l9 o10 5) fun g11 => IxQ (aindexAddr T Y_s_Item a1 (.int .i64 n6)) fun l12 o13 => RdL (rdc s7 l12 o13 5) fun g14 => RdO (aeq T 100 Y_Item (.agg g11) (.agg g14)) fun b15 => bsplit (!b15)
 (R (.bool false) s7)
 (∃ m', m' < m5 ∧ I3 m' [(.int .i64 (IntKind.wrap .i64 (n6 + 1)))] s7))
 (R (.bool true) s7))
def A_ref07iSameItems : QA := (.seq .leaf (.seq (.seq .leaf (.cond (.seq .leaf .leaf) .leaf)) (.seq (.seq .leaf (.wrap (.loop [(5, .int .i64)] [(4, 5), (11, 25)] (.seq (.seq .leaf (.cond .leaf .leaf)) (.seq (.wrap (.seq (.draw 8) (.cond (.seq .leaf .leaf) .leaf))) .leaf))))) (.seq .leaf .leaf))))
theorem q_ref07iSameItems (a0 : AV) (a1 : AV) (s : AS) (R : AV → AS → Prop) (h : Q_ref07iSameItems a0 a1 s R) : ACalls Tryz.prog F_ref07iSameItems [a0, a1] s R :=
 ACalls.q (n := 26) (rs := [.tmp 4]) (A := A_ref07iSameItems) hT hmx Tryz.func39 (by kernel_rfl) rfl rfl rfl (by kernel_rfl) (by kernel_rfl) h
def Q_ref07iSet_See (a0 : Option (Nat × Nat)) (a1 : List AV) (s : AS) (R : AV → AS → Prop) : Prop :=
 One1 a1 (NewQ (.cells a1 0 false) s fun l1 s2 => RdL (rdc s2 l1 0 2) fun g3 => ACalls Tryz.prog F_ref07iSet_at [(.ptr a0), (.agg g3)] s2 fun v4 s5 => ∃ n6 : Int, v4 = .int .i64 n6 ∧ (JoinQ fun J7 =>
 (∀ b8 : Bool, ∀ s9 : AS, J7 [(.bool b8)] s9 →
 bsplit b8
 (AsSome a0 fun l10 o11 => RdA (rd1 s9 l10 (o11 + 17)) fun v12 => Bd2 (aappend T Y_s_Item Y_s_Item (.slc none 0 0 true) v12 s9) fun v13 s14 => RdL (rdc s14 l1 0 5) fun g15 => IxQ (aindexAddr T Y_s_Item v13 (.int .i64 n6)) fun l16 o17 => OkC (some 5) g15 (StQ (awr s14 l16 o17 g15) fun s18 => AsSome a0 fun l19 o20 => qstore T Y_s_Item s18 l19 (o20 + 17) v13 fun s21 => R (.bool true) s21))
 (AsSome a0 fun l22 o23 => RdL (rdc s9 l1 0 2) fun g24 => ACalls Tryz.prog F_ref04iSet_Add [(.ptr (some (l22, o23))), (.agg g24)] s9 fun v25 s26 => ∃ b27 : Bool, v25 = .bool b27 ∧ (bsplit (!b27)
 (R (.bool false) s26)
 (JoinQ fun J28 =>
 (∀ v29 : AV, ∀ n30 : Int, ∀ s31 : AS, J28 [v29, (.int .i64 n30)] s31 →
 RdL (rdc s31 l1 0 5) fun g32 => RdL (absl T Y_s_Item 1 [(0, (.agg g32))]) fun g33 => NewQ (.cells g33 0 false) s31 fun l34 s35 => Bd2 (aappend T Y_s_Item Y_s_Item v29 (.slc (some (l34, 0)) 1 1 true) s35) fun v36 s37 => AsSome a0 fun l38 o39 => RdA (rd1 s37 l38 (o39 + 17)) fun v40 => RdA (aslice T Y_s_Item v40 (some (.int .i64 n30)) none none) fun v41 => Bd2 (aappend T Y_s_Item Y_s_Item v36 v41 s37) fun v42 s43 => AsSome a0 fun l44 o45 => qstore T Y_s_Item s43 l44 (o45 + 17) v42 fun s46 => R (.bool true) s46) ∧
 (LoopQ fun I47 m48 => I47 m48 [(.slc none 0 0 true), (.int .i64 0)] s26 ∧
 ∀ m49 : Nat, ∀ v50 : AV, ∀ n51 : Int, ∀ s52 : AS, I47 m49 [v50, (.int .i64 n51)] s52 →
 AsSome a0 fun l53 o54 => RdA (rd1 s52 l53 (o54 + 17)) fun v55 => RdI .i64 (alenB T Y_s_Item v55 s52) fun n56 => bsplit (decide ((n51 : Int) < n56)) (AsSome a0 fun l57 o58 => RdA (rd1 s52 l57 (o58 + 17)) fun v59 => IxQ (aindexAddr T Y_s_Item v59 (.int .i64 n51)) fun l60 o61 => RdL (rdc s52 l60 o61 2) fun g62 => RdL (rdc s52 l1 0 2) fun g63 => ACalls Tryz.prog F_ref04iLess [(.agg g62), (.agg g63)] s52 fun v64 s65 => ∃ b66 : Bool, v64 = .bool b66 ∧ (bsplit b66
 (AsSome a0 fun l67 o68 => RdA (rd1 s65 l67 (o68 + 17)) fun v69 => IxQ (aindexAddr T Y_s_Item v69 (.int .i64 n51)) fun l70 o71 => RdL (rdc s65 l70 o71 5) fun g72 => RdL (absl T Y_s_Item 1 [(0, (.agg g72))]) fun g73 => NewQ (.cells g73 0 false) s65 fun l74 s75 => Bd2 (aappend T Y_s_Item Y_s_Item v50 (.slc (some (l74, 0)) 1 1 true) s75) fun v76 s77 => ∃ m', m' < m49 ∧ I47 m' [v76, (.int .i64 (IntKind.wrap .i64 (n51 + 1)))] s77)
 (J28 [v50, (.int .i64 n51)] s65))) (J28 [v50, (.int .i64 n51)] s52)))))) ∧
 (bsplit (decide ((n6 : Int) ≥ 0)) (AsSome a0 fun l78 o79 => RdA (rd1 s5 l78 (o79 + 17)) fun v80 => IxQ (aindexAddr T Y_s_Item v80 (.int .i64 n6)) fun l81 o82 => RdB (rd1 s5 l81 (o82 + 4)) fun b83 => bsplit (!b83) (RdB (rd1 s5 l1 4) fun b84 => J7 [(.bool b84)] s5) (J7 [(.bool false)] s5)) (J7 [(.bool false)] s5))))
def A_ref07iSet_See : QA := (.seq .leaf (.seq .leaf (.seq (.join [(29, .bool)] [(13, 29)] .leaf (.cond (.seq .leaf (.seq .leaf (.seq .leaf (.seq .leaf .leaf)))) .leaf)) (.seq (.seq (.draw 5) (.cond (.seq .leaf .leaf) .leaf)) (.seq .leaf (.seq .leaf (.join [(7, .any), (8, .int .i64)] [(7, 8), (50, 81)] (.wrap (.loop [(7, .any), (8, .int .i64)] [(7, 8), (50, 81)] (.seq (.seq (.draw 18) (.cond .leaf .leaf)) (.seq (.wrap .leaf) .leaf)))) (.seq .leaf (.seq .leaf (.seq .leaf .leaf))))))))))
theorem q_ref07iSet_See (a0 : Option (Nat × Nat)) (a1 : List AV) (s : AS) (R : AV → AS → Prop) (h : Q_ref07iSet_See a0 a1 s R) : ACalls Tryz.prog F_ref07iSet_See [(.ptr a0), (.agg a1)] s R :=
 ACalls.q (n := 97) (rs := [.tmp 4]) (A := A_ref07iSet_See) hT hmx Tryz.func51 (by kernel_rfl) rfl rfl rfl (by kernel_rfl) (by kernel_rfl) h
def Q_ref07iSet_Add (a0 : Option (Nat × Nat)) (a1 : List AV) (a2 : List AV) (s : AS) (R : AV → AS → Prop) : Prop :=
 One1 a1 (NewQ (.cells a1 0 false) s fun l1 s2 => One1 a2 (NewQ (.cells a2 0 false) s2 fun l3 s4 => DrawQ fun S V => RdL (rdc s4 l3 0 2) fun g5 => RdL (rdc s4 l1 0 2) fun g6 => RdG (abuild T Y_Item [(0, (.agg g5)), (1, (.agg g6))]) fun g7 => (∀ s8 : AS, Ext s4 s8 → WFs s8 → (True) → RdL (absl T Y_s_Item 1 [(0, (.agg g7))]) fun g9 => NewQ (.cells g9 0 false) s8 fun l10 s11 => (Ext s8 s11 ∧ S 3 [(.agg g7)] (.slc (some (l10, 0)) 1 1 true) s11 ∧ V 3 [(.agg g7)] (.slc (some (l10, 0)) 1 1 true))) ∧ (∃ v, V 3 [(.agg g7)] v) ∧ ∀ v12 : AV, V 3 [(.agg g7)] v12 → RdL (rdc s4 l1 0 2) fun g13 => (∀ s14 : AS, Ext s4 s14 → WFs s14 → (True) → ACalls Tryz.prog F_ref07iSet_Gone [(.ptr a0), (.agg g13)] s14 fun v15 s16 => (Ext s14 s16 ∧ S 6 [(.func F_ref07iSet_Gone []), (.ptr a0), (.agg g13)] v15 s16 ∧ V 6 [(.func F_ref07iSet_Gone []), (.ptr a0), (.agg g13)] v15)) ∧ (∃ v, V 6 [(.func F_ref07iSet_Gone []), (.ptr a0), (.agg g13)] v) ∧ ∀ v17 : AV, V 6 [(.func F_ref07iSet_Gone []), (.ptr a0), (.agg g13)] v17 → ∀ s18 : AS, Ext s4 s18 → WFs s18 → (S 3 [(.agg g7)] v12 s18 ∧ (S 6 [(.func F_ref07iSet_Gone []), (.ptr a0), (.agg g13)] v17 s18 ∧ True)) → Bd2 (aappend T Y_s_Item Y_s_Item v12 v17 s18) fun v20 s21 => LoopQ fun I22 m23 => I22 m23 [(.int .i64 0)] s21 ∧
 ∀ m24 : Nat, ∀ n25 : Int, ∀ s26 : AS, I22 m24 [(.int .i64 n25)] s26 →
 RdI .i64 (alenB T Y_s_Item v20 s26) fun n27 => bsplit (decide ((n25 : Int) < n27))
 (IxQ (aindexAddr T Y_s_Item v20 (.int .i64 n25)) fun l28 o29 => RdL (rdc s26 l28 o29 5) fun g30 => ACalls Tryz.prog F_ref07iSet_See [(.ptr a0), (.agg g30)] s26 fun v31 s32 => ∃ b33 : Bool, v31 = .bool b33 ∧ (∃ m', m' < m24 ∧ I22 m' [(.int .i64 (IntKind.wrap .i64 (n25 + 1)))] s32))
 (R v20 s26)))
def A_ref07iSet_Add : QA := (.seq .leaf (.seq (.drawH 7 [[], [], [], [], [], [], []] [3, 6]) (.seq (.seq .leaf (.wrap (.loop [(8, .int .i64)] [(8, 8), (17, 28)] (.seq (.seq .leaf (.cond .leaf .leaf)) (.seq (.wrap .leaf) .leaf))))) (.seq .leaf .leaf))))
theorem q_ref07iSet_Add (a0 : Option (Nat × Nat)) (a1 : List AV) (a2 : List AV) (s : AS) (R : AV → AS → Prop) (h : Q_ref07iSet_Add a0 a1 a2 s R) : ACalls Tryz.prog F_ref07iSet_Add [(.ptr a0), (.agg a1), (.agg a2)] s R :=
 ACalls.q (n := 30) (rs := [.tmp 6]) (A := A_ref07iSet_Add) hT hmx Tryz.func77 (by kernel_rfl) rfl rfl rfl (by kernel_rfl) (by kernel_rfl) h
def Q_ref07iSet_Remove (a0 : Option (Nat × Nat)) (a1 : List AV) (s : AS) (R : AV → AS → Prop) : Prop :=
 One1 a1 (NewQ (.cells a1 0 false) s fun l1 s2 => RdL (rdc s2 l1 0 2) fun g3 => ACalls Tryz.prog F_ref07iSet_Gone [(.ptr a0), (.agg g3)] s2 fun v4 s5 => LoopQ fun I6 m7 => I6 m7 [(.int .i64 0)] s5 ∧
 ∀ m8 : Nat, ∀ n9 : Int, ∀ s10 : AS, I6 m8 [(.int .i64 n9)] s10 →
 RdI .i64 (alenB T Y_s_Item v4 s10) fun n11 => bsplit (decide ((n9 : Int) < n11))
 (IxQ (aindexAddr T Y_s_Item v4 (.int .i64 n9)) fun l12 o13 => RdL (rdc s10 l12 o13 5) fun g14 => ACalls Tryz.prog F_ref07iSet_See [(.ptr a0), (.agg g14)] s10 fun v15 s16 => ∃ b17 : Bool, v15 = .bool b17 ∧ (∃ m', m' < m8 ∧ I6 m' [(.int .i64 (IntKind.wrap .i64 (n9 + 1)))] s16))
 (R v4 s10))
def A_ref07iSet_Remove : QA := (.seq .leaf (.seq .leaf (.seq (.seq .leaf (.wrap (.loop [(6, .int .i64)] [(6, 6), (10, 21)] (.seq (.seq .leaf (.cond .leaf .leaf)) (.seq (.wrap .leaf) .leaf))))) (.seq .leaf .leaf))))
theorem q_ref07iSet_Remove (a0 : Option (Nat × Nat)) (a1 : List AV) (s : AS) (R : AV → AS → Prop) (h : Q_ref07iSet_Remove a0 a1 s R) : ACalls Tryz.prog F_ref07iSet_Remove [(.ptr a0), (.agg a1)] s R :=
 ACalls.q (n := 23) (rs := [.tmp 4]) (A := A_ref07iSet_Remove) hT hmx Tryz.func78 (by kernel_rfl) rfl rfl rfl (by kernel_rfl) (by kernel_rfl) h
def Q_ref07iSet_at (a0 : Option (Nat × Nat)) (a1 : List AV) (s : AS) (R : AV → AS → Prop) : Prop :=
 One1 a1 (NewQ (.cells a1 0 false) s fun l1 s2 => LoopQ fun I3 m4 => I3 m4 [(.int .i64 0)] s2 ∧
 ∀ m5 : Nat, ∀ n6 : Int, ∀ s7 : AS, I3 m5 [(.int .i64 n6)] s7 →
 AsSome a0 fun l8 o9 => RdA (rd1 s7 l8 (o9 + 17)) fun v10 => RdI .i64 (alenB T Y_s_Item v10 s7) fun n11 => bsplit (decide ((n6 : Int) < n11))
 (AsSome a0 fun l12 o13 => RdA (rd1 s7 l12 (o13 + 17)) fun v14 => IxQ (aindexAddr T Y_s_Item v14 (.int .i64 n6)) fun l15 o16 => RdL (rdc s7 l15 o16 2) fun g17 => RdL (rdc s7 l1 0 2) fun g18 => RdO (aeq T 100 Y_Dot (.agg g17) (.agg g18)) fun b19 => bsplit b19
 (R (.int .i64 n6) s7)
 (∃ m', m' < m5 ∧ I3 m' [(.int .i64 (IntKind.wrap .i64 (n6 + 1)))] s7))
 (R (.int .i64 (-1)) s7))
def A_ref07iSet_at : QA := (.seq .leaf (.seq (.seq .leaf (.wrap (.loop [(5, .int .i64)] [(4, 25)] (.seq (.seq .leaf (.cond .leaf .leaf)) (.seq (.wrap (.seq (.draw 9) (.cond (.seq .leaf .leaf) .leaf))) .leaf))))) (.seq .leaf .leaf)))
theorem q_ref07iSet_at (a0 : Option (Nat × Nat)) (a1 : List AV) (s : AS) (R : AV → AS → Prop) (h : Q_ref07iSet_at a0 a1 s R) : ACalls Tryz.prog F_ref07iSet_at [(.ptr a0), (.agg a1)] s R :=
 ACalls.q (n := 26) (rs := [.tmp 4]) (A := A_ref07iSet_at) hT hmx Tryz.func83 (by kernel_rfl) rfl rfl rfl (by kernel_rfl) (by kernel_rfl) h
def Q_ref07iSet_Gone (a0 : Option (Nat × Nat)) (a1 : List AV) (s : AS) (R : AV → AS → Prop) : Prop :=
 One1 a1 (NewQ (.cells a1 0 false) s fun l1 s2 => LoopQ fun I3 m4 => I3 m4 [(.slc none 0 0 true), (.int .i64 0)] s2 ∧
 ∀ m5 : Nat, ∀ v6 : AV, ∀ n7 : Int, ∀ s8 : AS, I3 m5 [v6, (.int .i64 n7)] s8 →
 AsSome a0 fun l9 o10 => RdA (rd1 s8 l9 (o10 + 17)) fun v11 => RdI .i64 (alenB T Y_s_Item v11 s8) fun n12 => bsplit (decide ((n7 : Int) < n12))
 (JoinQ fun J13 =>
 (∀ b14 : Bool, ∀ s15 : AS, J13 [(.bool b14)] s15 →
 bsplit b14
 (AsSome a0 fun l16 o17 => RdA (rd1 s15 l16 (o17 + 17)) fun v18 => IxQ (aindexAddr T Y_s_Item v18 (.int .i64 n7)) fun l19 o20 => RdL (rdc s15 l19 o20 2) fun g21 => RdG (abuild T Y_Item [(0, (.agg g21)), (2, (.bool true))]) fun g22 => RdL (absl T Y_s_Item 1 [(0, (.agg g22))]) fun g23 => NewQ (.cells g23 0 false) s15 fun l24 s25 => Bd2 (aappend T Y_s_Item Y_s_Item v6 (.slc (some (l24, 0)) 1 1 true) s25) fun v26 s27 => ∃ m', m' < m5 ∧ I3 m' [v26, (.int .i64 (IntKind.wrap .i64 (n7 + 1)))] s27)
 (∃ m', m' < m5 ∧ I3 m' [v6, (.int .i64 (IntKind.wrap .i64 (n7 + 1)))] s15)) ∧
 (AsSome a0 fun l28 o29 => RdA (rd1 s8 l28 (o29 + 17)) fun v30 => IxQ (aindexAddr T Y_s_Item v30 (.int .i64 n7)) fun l31 o32 => RdB (rd1 s8 l31 (o32 + 4)) fun b33 => bsplit (!b33) (AsSome a0 fun l34 o35 => RdA (rd1 s8 l34 (o35 + 17)) fun v36 => IxQ (aindexAddr T Y_s_Item v36 (.int .i64 n7)) fun l37 o38 => RdL (rdc s8 l37 (o38 + 2) 2) fun g39 => RdL (rdc s8 l1 0 2) fun g40 => RdO (aeq T 100 Y_Key (.agg g39) (.agg g40)) fun b41 => J13 [(.bool b41)] s8) (J13 [(.bool false)] s8)))
 (R v6 s8))
def A_ref07iSet_Gone : QA := (.seq .leaf (.seq .leaf (.seq (.seq .leaf (.wrap (.loop [(5, .any), (6, .int .i64)] [(5, 48)] (.seq (.seq .leaf (.cond .leaf .leaf)) (.seq (.wrap (.join [(36, .bool)] [(16, 36)] (.draw 19) (.cond .leaf .leaf))) .leaf))))) (.seq .leaf .leaf))))
theorem q_ref07iSet_Gone (a0 : Option (Nat × Nat)) (a1 : List AV) (s : AS) (R : AV → AS → Prop) (h : Q_ref07iSet_Gone a0 a1 s R) : ACalls Tryz.prog F_ref07iSet_Gone [(.ptr a0), (.agg a1)] s R :=
 ACalls.q (n := 50) (rs := [.tmp 4]) (A := A_ref07iSet_Gone) hT hmx Tryz.func139 (by kernel_rfl) rfl rfl rfl (by kernel_rfl) (by kernel_rfl) h
end Go.Proofs.YtoklmpkpeanloaaGreat
end

section
namespace Go.Proofs.YtoklmpkpeanloaaGreat
open Go.Am Go.Minster Go.Minster2
theorem rdc_mid {s : AS} {l o n : Nat} {cs : List AV} (h : rdc s l o n = some cs) (k m : Nat) (hm : k + m ≤ n) : rdc s l (o + k) m = some ((cs.drop k).take m) := by
 unfold Am.rdc at *
 split at h
 ·rename_i C g ro hl
  split at h
  ·rename_i hn
   rw [if_pos (by omega)]
   simp only [Option.some.injEq] at h
   rw [← h, List.drop_take, List.take_take, List.drop_drop]
   congr 2; omega
  ·cases h
 ·cases h
theorem ref07May_ok (i : Itm) (s : AS) : ACalls Tryz.prog F_ref07iMay [.agg (itemC i)] s fun v s' => v = .bool i.may ∧ Ext s s' := by
 refine ACalls.pre fun hw => q_ref07iMay _ _ _ ⟨rfl, NewQ.intro hw rfl fun l s1 F => ⟨i.gone, by rw [F.own.at.rd1]; rfl, ?_⟩⟩
 have gd : ∀ s', Ext s1 s' → rdc s' l 0 2 = some (dotC i.dot) := fun s' e => (F.own.ext e).at.rdc (by simp [itemC])
 have gk : ∀ s', Ext s1 s' → rdc s' l 2 2 = some (keyC i.key) := fun s' e => (F.own.ext e).at.rdc (by simp [itemC])
 refine bsplit.mk (fun h => ?_) (fun h => ?_)
 ·refine ⟨_, gd _ (Ext.refl _), ?_⟩
  refine ACalls.use (ref04iMay_ok _ _) ?_
  rintro v s2 ⟨rfl, e2⟩ _
  refine ⟨_, rfl, bsplit.mk (fun h2 => ⟨_, gk _ e2, _, key0_build, _, key_eq _ _, ?_, F.ext.trans e2⟩) (fun h2 => ⟨by simp [Itm.may, h2], F.ext.trans e2⟩)⟩
  simp [Itm.may, h, h2]
 ·refine ⟨_, gd _ (Ext.refl _), ?_⟩
  refine ACalls.use (ref04iMay_ok _ _) ?_
  rintro v s2 ⟨rfl, e2⟩ _
  have E2 := F.ext.trans e2
  have o2 := (F.own.ext e2).at
  refine ⟨_, rfl, bsplit.mk (fun h2 => ⟨i.key.t, by rw [o2.rd1]; rfl, ?_⟩) (fun h2 => ⟨by simp [Itm.may, h2], E2⟩)⟩
  refine ACalls.use (refName_ok _ _) ?_
  rintro v s' ⟨rfl, rfl⟩ _
  refine ⟨_, rfl, bsplit.mk (fun h3 => ⟨i.key.d, by rw [o2.rd1]; rfl, ?_⟩) (fun h3 => ⟨by simp [Itm.may, Key.may, h, h2, h3], E2⟩)⟩
  refine ACalls.use (refName_ok _ _) ?_
  rintro v s' ⟨rfl, rfl⟩ _
  exact ⟨_, rfl, by simp [Itm.may, Key.may, h, h2, h3], E2⟩
def OSet.coll (x : OSet) (d : Dot) : OSet := { x with tomb := fun y => x.tomb y && !decide (y = d), nt := x.nt - 1 }
theorem OOk.coll {x : OSet} {B : Nat} (h : OOk x B) (d : Dot) : OOk (x.coll d) B :=
 ⟨h.ok, h.gap, h.lv, fun y hy => h.tb y (by simp only [OSet.coll, Bool.and_eq_true] at hy; exact hy.1), h.sz⟩
section
variable {F : List Nat} {s : AS} {p : Nat} {x : OSet}
theorem Collect_ok (h : SetF F s p x) (hth : ∀ y ∈ F, s.h y ≠ none) (d : Dot) :
  ACalls Tryz.prog F_orset_Set_Collect [.ptr (some (p, 0)), .agg (dotC d)] s fun r s' => (d.may = false ∧ r = .int .i64 2 ∧ Ext s s') ∨ (d.may = true ∧ x.tomb d = false ∧ r = .int .i64 6 ∧ Ext s s') ∨
   (d.may = true ∧ x.tomb d = true ∧ r = .int .i64 0 ∧ SetF F s' p (x.coll d) ∧ (∀ y ∈ F, s'.h y ≠ none) ∧ ∃ m, m ∈ F ∧ Mut [m] s s' ∧ ∀ C, ¬ At s m C) := by
 refine ACalls.pre fun hw => q_orset_Set_Collect _ _ _ _ ⟨rfl, NewQ.intro hw rfl fun l1 s2 F2 => ?_⟩
 refine ACalls.use (there_ok (h.ext F2.ext)) ?_
 rintro v s4 ⟨rfl, rfl⟩ w4
 refine ⟨_, rfl, bsplit.no rfl ⟨_, F2.own.at.rdc (by simp [dotC]), ?_⟩⟩
 refine ACalls.use (ctx_May_ok d _) ?_
 rintro v s8 ⟨rfl, e8⟩ w8
 have E8 := F2.ext.trans e8
 refine ⟨_, rfl, bsplit.mk (fun hb => .inl ⟨by simpa using hb, rfl, E8⟩) (fun hb => ?_)⟩
 simp only [Bool.not_eq_false'] at hb
 have o8 := (F2.own.ext e8).at
 obtain ⟨ok, gap, hlen, pc, lm, tm, a, hpF, hc, hlF, htF, hlt, hl, ht⟩ := h.ext E8
 have hlook : alookup T Y_m_Dot_struct__is_bool__ (.map (some tm)) (.agg (dotC d)) false s8 = some (.agg [.bool (x.tomb d)]) := by
  obtain ⟨es, c, h1, h2, _⟩ := ht
  rw [show (AV.agg (dotC d)) = dK d from rfl, h1.find mp_tombs d false, h2]
  cases x.tomb d <;> rfl
 refine ⟨_, by rw [a.at.rd1]; rfl, _, o8.rdc (by simp [dotC]), _, hlook, _, rfl, bsplit.mk (fun ht0 => .inr (.inl ⟨hb, by simpa using ht0, rfl, E8⟩)) (fun ht0 => ?_)⟩
 simp only [Bool.not_eq_false'] at ht0
 refine ⟨_, by rw [a.at.rd1]; rfl, _, o8.rdc (by simp [dotC]), ht.del w8 ht0 fun s20 ht20 w20 m20 => .inr (.inr ⟨hb, ht0, rfl, ?_, ?_, tm, htF, E8.mut.trans m20, ?_⟩)⟩
 ·obtain ⟨es, c, hto⟩ := ht.obj
  have hpt : p ∉ [tm] := by simp only [List.mem_singleton]; rintro rfl; rw [a] at hto; cases hto
  have hc20 : CtxF F s20 pc x.v x.ex := by
   obtain ⟨q1, q2, w, q3, q4, q5, q6⟩ := hc
   have n1 : pc ∉ [tm] := by simp only [List.mem_singleton]; rintro rfl; rw [q3] at hto; cases hto
   refine ⟨q1, q2, w, q3.mut m20 n1, q4, q5.mut m20 fun y hy hm => ?_, q6⟩
   obtain rfl := List.mem_singleton.1 hm
   rcases q5 with ⟨_, b, rfl⟩ | ⟨la, rfl, ho⟩
   ·simp [labOf] at hy
   ·obtain rfl : y = la := by simpa [labOf] using hy
    rw [ho] at hto; cases hto
  exact ⟨ok, gap, hlen, pc, lm, tm, a.mut m20 hpt, hpF, hc20, hlF, htF, hlt, hl.mut m20 (by simpa using hlt), ht20⟩
 ·intro y hy
  by_cases e : y = tm
  ·obtain ⟨es, c, h⟩ := ht20.obj; rw [e, h]; simp
  ·cases hq : s.h y with
   | none => exact absurd hq (hth y hy)
   | some o => rw [m20.1 y o (by simpa using e) (E8.1 y o hq)]; simp
 ·rintro C ⟨g, ro, hC⟩
  obtain ⟨es, c, hto⟩ := ht.obj
  rw [E8.1 _ _ hC] at hto; cases hto
end
section
variable {s0 s s' : AS} {pa pb : Nat} {xa xb : OSet} {Ba Bb : Nat} {sl : List (AV × List Itm)}
end
end Go.Proofs.YtoklmpkpeanloaaGreat
end

section
namespace Go.Proofs.YtoklmpkpeanloaaGreat
open Go.Am Go.Minster Go.Minster2
def OSet.item (x : OSet) (i : Itm) : Prop := match i.gone with
 | true => x.tomb i.dot = true ∧ i.key = ⟨[], []⟩
 | false => x.live i.dot = some i.key
structure Items (x : OSet) (I : List Itm) : Prop where
 ris : Rising (I.map Itm.dot)
 mem : ∀ i, i ∈ I ↔ x.item i
theorem IRis.pw {I : List Itm} (h : Rising (I.map Itm.dot)) : I.Pairwise fun a b => a.dot.lt b.dot = true := List.pairwise_map.1 h
theorem iris_uniq {I J : List Itm} (h : Rising (I.map Itm.dot)) (h' : Rising (J.map Itm.dot)) (hm : ∀ i, i ∈ I ↔ i ∈ J) : I = J :=
 pw_uniq (fun a h => Dot.lt_irrefl _ h) (fun a b => Dot.lt_asym) (IRis.pw h) (IRis.pw h') hm
theorem Items.uniq {x : OSet} {I J : List Itm} (h : Items x I) (h' : Items x J) : I = J := iris_uniq h.ris h'.ris fun i => by rw [h.mem, h'.mem]
theorem Items.one {x : OSet} {I : List Itm} (h : Items x I) {i j : Itm} (hi : i ∈ I) (hj : j ∈ I) (e : i.dot = j.dot) : i = j := by
 have key : ∀ (l : List Itm), l.Pairwise (fun a b => a.dot.lt b.dot = true) → i ∈ l → j ∈ l → i = j := by
  intro l
  induction l with
  | nil => intro _ h; cases h
  | cons a l ih =>
   intro hp h1 h2
   obtain ⟨p1, p2⟩ := List.pairwise_cons.1 hp
   rcases List.mem_cons.1 h1 with e1 | r1 <;> rcases List.mem_cons.1 h2 with e2 | r2
   ·rw [e1, e2]
   ·have := p1 j r2; rw [← e1, e] at this; exact absurd this (fun h => Dot.lt_irrefl _ h)
   ·have := p1 i r1; rw [← e2, e] at this; exact absurd this (fun h => Dot.lt_irrefl _ h)
   ·exact ih p2 r1 r2
 exact key I (IRis.pw h.ris) hi hj
theorem Items.zero : Items OSet.zero [] := ⟨List.Pairwise.nil, fun i => by unfold OSet.item; cases i.gone <;> simp [OSet.zero]⟩
theorem item_has {x : OSet} {B : Nat} (o : OOk x B) {i : Itm} (h : x.item i) : x.has i.dot = true := by
 unfold OSet.item at h
 cases hg : i.gone with
 | true => rw [hg] at h; exact (o.tb _ h.1).1
 | false => rw [hg] at h; exact (o.lv _ _ h).1
theorem Items.len {x : OSet} {B : Nat} (o : OOk x B) {I : List Itm} (h : Items x I) : I.length ≤ B := by
 obtain ⟨U, hU, hm⟩ := o.sz
 have := nodup_len (rising_nodup h.ris) fun d hd => hm d ?_
 ·simp only [List.length_map] at this; omega
 ·obtain ⟨i, hi, rfl⟩ := List.mem_map.1 hd
  exact item_has o ((h.mem i).1 hi)
structure RefO (F : List Nat) (s : AS) (q : Nat) (x : OSet) : Prop where
 ok : COk x.v x.ex
 gap : Gap x.v x.ex
 mem : ∃ w iw I, Am.Own s q (x.v.map (.int .u64) ++ [w, iw]) ∧ (w.one = true ∧ w ≠ .emp ∧ Gro dotC 2 s w x.ex) ∧ (iw.one = true ∧ iw ≠ .emp ∧ Gro itemC 5 s iw I) ∧ Items x I ∧ q ∈ F ∧ (∀ y ∈ labOf w, y ∈ F) ∧ ∀ y ∈ labOf iw, y ∈ F
section
variable {F F' : List Nat} {s s' : AS} {q : Nat} {x : OSet}
theorem RefO.mut {L : List Nat} (h : RefO F s q x) (m : Mut L s s') (hL : Dj L F) : RefO F s' q x := by
 obtain ⟨h1, h2, w, iw, I, a, ⟨b1, b2, b3⟩, ⟨c1, c2, c3⟩, d, e, f, g⟩ := h
 exact ⟨h1, h2, w, iw, I, a.mut m (fun hx => hL q hx e), ⟨b1, b2, b3.mut m fun y hy hm => hL y hm (f y hy)⟩, ⟨c1, c2, c3.mut m fun y hy hm => hL y hm (g y hy)⟩, d, e, f, g⟩
theorem RefO.ext (h : RefO F s q x) (e : Ext s s') : RefO F s' q x := h.mut (L := []) e.mut (fun y hy => by cases hy)
theorem RefO.qF (h : RefO F s q x) : q ∈ F := by obtain ⟨_, _, w, iw, I, _, _, _, _, e, _⟩ := h; exact e
theorem slc_not_int {α : Type} {f : α → List AV} {sz : Nat} {v : AV} {l : List α} (h : Gro f sz s v l) : ∀ n, v ≠ .int .i64 n := by
 rcases h with ⟨_, a, rfl⟩ | ⟨la, rfl, _⟩ <;> simp
theorem ref_17T {v : List Int} (h : v.length = 16) (w iw : AV) : (v.map (AV.int .u64) ++ [w, iw])[17]? = some iw := by
 rw [List.getElem?_append_right (by simp [h])]; simp [h]
theorem at_ok {v : List Int} {w iw : AV} {I : List Itm} (hq : At s q (v.map (.int .u64) ++ [w, iw])) (hv : v.length = 16) (hI : Sl itemC 5 s iw I) (hn : I.length ≤ 2 ^ 30) (d : Dot) :
  ACalls Tryz.prog F_ref07iSet_at [.ptr (some (q, 0)), .agg (dotC d)] s fun r s' => Ext s s' ∧ ∃ n : Int, r = .int .i64 n ∧ ((n = -1 ∧ ∀ i ∈ I, i.dot ≠ d) ∨ ∃ k : Nat, n = k ∧ ∃ i, I[k]? = some i ∧ i.dot = d) := by
 refine ACalls.pre fun hw => q_ref07iSet_at _ _ _ _ ⟨rfl, NewQ.intro hw rfl fun l1 s2 F2 => ⟨fun m vs s' => ∃ i : Nat, vs = [.int .i64 (i : Nat)] ∧ i ≤ I.length ∧ m = I.length - i ∧ s' = s2 ∧ ∀ j y, j < i → I[j]? = some y → y.dot ≠ d, I.length, ⟨0, rfl, by omega, rfl, rfl, by omega⟩, ?_⟩⟩
 rintro m n s7 ⟨i, hi, h6, rfl, rfl, hall⟩
 simp only [List.cons.injEq, AV.int.injEq, true_and, and_true] at hi
 subst hi
 have r17 : rd1 s7 q (0 + 17) = some iw := by rw [(hq.ext F2.ext).rd1]; exact ref_17T hv w iw
 refine ⟨iw, r17, _, hI.lenB u_s_Item _, bsplit.dec (fun hlt => ?_) (fun hge => ⟨F2.ext, -1, rfl, .inl ⟨rfl, fun y hy => ?_⟩⟩)⟩
 ·obtain ⟨y, hy⟩ := get_lt (l := I) (i := i) (by omega)
  obtain ⟨ly, oy, g8, g9⟩ := hI.ix (by decide) itemC_len u_s_Item z_Item hy
  refine ⟨iw, r17, ly, oy, g8 _, _, rdc_pre ((g9 _ F2.ext).2) (by decide), _, F2.own.at.rdc (by simp [dotC]), _, dot_eq y.dot d, bsplit.dec (fun e => ⟨F2.ext, _, rfl, .inr ⟨i, rfl, y, hy, e⟩⟩) (fun e => ⟨I.length - (i + 1), by omega, i + 1, by rw [wrap_i (by omega)]; rfl, by omega, rfl, rfl, fun j z hj hz => ?_⟩)⟩
  rcases Nat.lt_or_ge j i with h | h
  ·exact hall j z h hz
  ·obtain rfl : j = i := by omega
   rw [hy] at hz; obtain rfl := Option.some.inj hz; exact e
 ·obtain ⟨j, hj⟩ := List.mem_iff_getElem?.1 hy
  have : j < I.length := by
   rcases Nat.lt_or_ge j I.length with h | h
   ·exact h
   ·rw [List.getElem?_eq_none h] at hj; cases hj
  exact hall j y (by omega) hj
/-! ### the plain side of seeing -/
theorem Items.set {x : OSet} {B : Nat} (o : OOk x B) {I : List Itm} (h : Items x I) {k : Nat} {j i : Itm} (hk : I[k]? = some j) (hj : j.gone = false) (hd : j.dot = i.dot) (hg : i.gone = true) (hkey : i.key = ⟨[], []⟩) : Items (x.see i).2 (I.set k i) ∧ (x.see i).1 = true ∧ (x.see i).2.v = x.v ∧ (x.see i).2.ex = x.ex := by
 have hjI : j ∈ I := List.mem_of_getElem? hk
 have hlive : x.live i.dot = some j.key := by
  have := (h.mem j).1 hjI
  unfold OSet.item at this
  rw [hj, hd] at this; exact this
 have hc : ((x.live i.dot).isSome && i.gone) = true := by rw [hlive, hg]; rfl
 have hkl : k < I.length := by
  rcases Nat.lt_or_ge k I.length with h | h
  ·exact h
  ·rw [List.getElem?_eq_none h] at hk; cases hk
 have hdots : (I.set k i).map Itm.dot = I.map Itm.dot := by
  apply List.ext_getElem?
  intro n
  simp only [List.getElem?_map, List.getElem?_set]
  split
  ·rename_i e
   subst e
   first | (rw [if_pos hkl, hk]; simp [hd]) | (rw [hk]; simp [hd])
  ·rfl
 refine ⟨⟨by rw [hdots]; exact h.ris, fun y => ?_⟩, ?_, ?_, ?_⟩
 ·have hmem : y ∈ I.set k i ↔ y = i ∨ (y ∈ I ∧ y.dot ≠ i.dot) := by
   rw [List.mem_iff_getElem?]
   constructor
   ·rintro ⟨n, hn⟩
    rw [List.getElem?_set] at hn
    split at hn
    ·rename_i e
     first | (rw [if_pos hkl] at hn; exact .inl (Option.some.inj hn).symm) | exact .inl (Option.some.inj hn).symm
    ·rename_i e
     have hyI := List.mem_of_getElem? hn
     refine .inr ⟨hyI, fun hde => ?_⟩
     have := h.one hyI hjI (hde.trans hd.symm)
     subst this
     have hnd := rising_nodup h.ris
     have hnl : n < I.length := by
      rcases Nat.lt_or_ge n I.length with h | h
      ·exact h
      ·rw [List.getElem?_eq_none h] at hn; cases hn
     have e1 : (I.map Itm.dot)[k]? = (I.map Itm.dot)[n]? := by rw [List.getElem?_map, List.getElem?_map, hk, hn]
     exact e ((List.getElem?_inj (by simpa using hkl) hnd).1 e1)
   ·rintro (rfl | ⟨hyI, hne⟩)
    ·exact ⟨k, by rw [List.getElem?_set, if_pos rfl, if_pos hkl]⟩
    ·obtain ⟨n, hn⟩ := List.mem_iff_getElem?.1 hyI
     refine ⟨n, ?_⟩
     rw [List.getElem?_set, if_neg, hn]
     rintro rfl
     rw [hk] at hn
     obtain rfl := Option.some.inj hn
     exact hne hd
  rw [hmem, h.mem]
  unfold OSet.item
  rw [see_live o, see_tomb o]
  cases hgy : y.gone with
  | true =>
   simp only
   constructor
   ·rintro (rfl | ⟨h1, h2⟩)
    ·exact ⟨by simp [hg, hlive], hkey⟩
    ·exact ⟨by simp [h1.1], h1.2⟩
   ·rintro ⟨h1, h2⟩
    by_cases e : y.dot = i.dot
    ·left
     cases y; cases i
     simp only at e hgy h2 hkey hg
     rw [e, hgy, h2, hkey, hg]
    ·refine .inr ⟨⟨?_, h2⟩, e⟩
     simpa [e] using h1
  | false =>
   simp only
   constructor
   ·rintro (rfl | ⟨h1, h2⟩)
    ·rw [hg] at hgy; cases hgy
    ·rw [if_neg h2]; exact h1
   ·intro h1
    by_cases e : y.dot = i.dot
    ·rw [if_pos e, if_pos hg] at h1; cases h1
    ·rw [if_neg e] at h1; exact .inr ⟨h1, e⟩
 ·rw [see_chg o, hc]; rfl
 ·unfold OSet.see; rw [if_pos hc]
 ·unfold OSet.see; rw [if_pos hc]
theorem insI_mem {I : List Itm} {k : Nat} {i y : Itm} : y ∈ I.take k ++ i :: I.drop k ↔ y = i ∨ y ∈ I := by
 rw [List.mem_append, List.mem_cons]
 conv => rhs; rhs; rw [← List.take_append_drop k I]
 rw [List.mem_append]
 constructor
 ·rintro (h | rfl | h)
  ·exact .inr (.inl h)
  ·exact .inl rfl
  ·exact .inr (.inr h)
 ·rintro (rfl | h | h)
  ·exact .inr (.inl rfl)
  ·exact .inl h
  ·exact .inr (.inr h)
theorem Items.ins {x : OSet} {B : Nat} (o : OOk x B) {I : List Itm} (h : Items x I) {i : Itm} (hi : i.may = true) (hh : x.has i.dot = false) : Items (x.see i).2 (I.take (pos (I.map Itm.dot) i.dot) ++ i :: I.drop (pos (I.map Itm.dot) i.dot)) := by
 have hno : ∀ y ∈ I, y.dot ≠ i.dot := fun y hy e => by
  have := item_has o ((h.mem y).1 hy)
  rw [e, hh] at this; cases this
 have hlv : x.live i.dot = none := by
  cases hq : x.live i.dot with
  | none => rfl
  | some k => rw [(o.lv _ _ hq).1] at hh; cases hh
 have htb : x.tomb i.dot = false := by
  cases hq : x.tomb i.dot with
  | false => rfl
  | true => rw [(o.tb _ hq).1] at hh; cases hh
 refine ⟨?_, fun y => ?_⟩
 ·have := h.ris.ins (d := i.dot) (by simpa using fun y hy => hno y hy)
  rw [show (I.take (pos (I.map Itm.dot) i.dot) ++ i :: I.drop (pos (I.map Itm.dot) i.dot)).map Itm.dot = Go.Minster.ins (I.map Itm.dot) i.dot by simp [Go.Minster.ins, List.map_take, List.map_drop]]
  exact this
 ·rw [insI_mem, h.mem]
  unfold OSet.item
  rw [see_live o, see_tomb o]
  cases hgy : y.gone with
  | true =>
   simp only
   constructor
   ·rintro (rfl | h1)
    ·refine ⟨by simp [hgy, hh], ?_⟩
     simp only [Itm.may, Bool.and_eq_true, hgy, if_true, decide_eq_true_eq] at hi
     exact hi.2
    ·exact ⟨by simp [h1.1], h1.2⟩
   ·rintro ⟨h1, h2⟩
    by_cases e : y.dot = i.dot
    ·left
     rw [e, htb] at h1
     simp [hlv, hh] at h1
     have hik : i.key = ⟨[], []⟩ := by
      simp only [Itm.may, Bool.and_eq_true, h1, if_true, decide_eq_true_eq] at hi
      exact hi.2
     cases y; cases i
     simp only at e hgy h2 hik h1
     rw [e, hgy, h2, hik, h1]
    ·refine .inr ⟨?_, h2⟩
     simpa [e] using h1
  | false =>
   simp only
   constructor
   ·rintro (rfl | h1)
    ·rw [if_pos rfl, hgy, hh]; simp
    ·by_cases e : y.dot = i.dot
     ·rw [e, hlv] at h1; cases h1
     ·rw [if_neg e]; exact h1
   ·intro h1
    by_cases e : y.dot = i.dot
    ·rw [if_pos e] at h1
     left
     cases hgi : i.gone with
     | true => rw [hgi] at h1; simp at h1
     | false =>
      rw [hgi, e, hh] at h1
      simp at h1
      cases y; cases i
      simp only at e hgy h1 hgi
      rw [e, hgy, hgi, h1]
    ·rw [if_neg e] at h1; exact .inr h1
end
end Go.Proofs.YtoklmpkpeanloaaGreat
end

section
namespace Go.Proofs.YtoklmpkpeanloaaGreat
open Go.Am Go.Minster Go.Minster2
theorem OOk.exlen {x : OSet} {B : Nat} (o : OOk x B) : x.ex.length ≤ B := by
 obtain ⟨U, hU, hm⟩ := o.sz
 have := nodup_len (rising_nodup o.ok.r) fun d hd => hm d ?_
 ·omega
 ·simp [OSet.has, hasD, o.ok.m d hd, hd]
theorem flat_setG {α : Type} {f : α → List AV} {sz : Nat} (hf : ∀ x, (f x).length = sz) : ∀ (l : List α) (k : Nat) (x : α), k < l.length → wrs (l.flatMap f) (k * sz) (f x) = (l.set k x).flatMap f := by
 intro l k x hk
 have hsp : l.flatMap f = (l.take k).flatMap f ++ (f (l[k]) ++ (l.drop (k + 1)).flatMap f) := by
  conv => lhs; rw [← List.take_append_drop k l, List.flatMap_append, List.drop_eq_getElem_cons hk, List.flatMap_cons]
 have hl : ((l.take k).flatMap f).length = k * sz := by rw [flat_len hf, List.length_take, Nat.min_eq_left (by omega)]
 have := wrs_mid ((l.take k).flatMap f) (f l[k]) (f x) ((l.drop (k + 1)).flatMap f) (by rw [hf, hf])
 rw [hl] at this
 rw [hsp, ← List.append_assoc, this, List.set_eq_take_append_cons_drop, if_pos hk, List.flatMap_append, List.flatMap_cons, List.append_assoc]
theorem see_two {x : OSet} {i : Itm} (h1 : ¬ ((x.live i.dot).isSome = true ∧ i.gone = true)) (h2 : x.has i.dot = true) : x.see i = (false, x) := by
 unfold OSet.see
 rw [if_neg (by simpa using h1), if_pos (show hasD x.v x.ex i.dot = true from h2)]
theorem see_three {x : OSet} {i : Itm} (h1 : ¬ ((x.live i.dot).isSome = true ∧ i.gone = true)) (h2 : x.has i.dot = false) : (x.see i).1 = true ∧ (x.see i).2.v = (compact x.v (ins x.ex i.dot)).1 ∧ (x.see i).2.ex = (compact x.v (ins x.ex i.dot)).2 := by
 have h2' : ¬ hasD x.v x.ex i.dot = true := by rw [show hasD x.v x.ex i.dot = x.has i.dot from rfl, h2]; simp
 unfold OSet.see
 rw [if_neg (by simpa using h1), if_neg h2']
 split <;> exact ⟨rfl, rfl, rfl⟩
section
variable {F : List Nat} {s : AS} {q : Nat} {x : OSet} {B : Nat}
theorem _root_.Go.Am.Gro.there {α : Type} {f : α → List AV} {sz : Nat} {v : AV} {l : List α} (h : Gro f sz s v l) : ∀ y ∈ labOf v, s.h y ≠ none := by
 intro y hy
 rcases h with ⟨_, b, rfl⟩ | ⟨la, rfl, ho⟩
 ·simp [labOf] at hy
 ·obtain rfl : y = la := by simpa [labOf] using hy
  rw [ho]; simp
theorem _root_.Go.Am.Gro.ne {α : Type} {f : α → List AV} {sz : Nat} (hz : sz ≠ 0) {v : AV} {l : List α} {cs : List AV} (h : Gro f sz s v l) (hq : Am.Own s q cs) : ∀ y ∈ labOf v, y ∉ [q] := by
 intro y hy hm
 obtain rfl := List.mem_singleton.1 hm
 rcases h with ⟨_, b, rfl⟩ | ⟨la, rfl, ho⟩
 ·simp [labOf] at hy
 ·obtain rfl : y = la := by simpa [labOf] using hy
  rw [hq] at ho
  simp only [Option.some.injEq, AO.cells.injEq] at ho
  exact hz ho.2.1.symm
theorem ref_See_ok (h : RefO F s q x) (o : OOk x B) (hB : B ≤ 1000) (hth : ∀ y ∈ F, s.h y ≠ none) (i : Itm) (hi : i.may = true) :
  ACalls Tryz.prog F_ref07iSet_See [.ptr (some (q, 0)), .agg (itemC i)] s fun r s' => r = .bool (x.see i).1 ∧ Mut [q] s s' ∧ ∃ F', RefO F' s' q (x.see i).2 ∧ (∀ y ∈ F', y ∈ F ∨ s.h y = none) ∧ ∀ y ∈ F', s'.h y ≠ none := by
 have him : i.dot.may = true := by simp only [Itm.may, Bool.and_eq_true] at hi; exact hi.1
 refine ACalls.pre fun hw => q_ref07iSet_See _ _ _ _ ⟨rfl, NewQ.intro hw rfl fun l1 s2 F2 => ?_⟩
 obtain ⟨ok, gap, w, iw, I, a, ⟨b1, b2, b3⟩, ⟨c1, c2, c3⟩, hI, hqF, f, g⟩ := h.ext F2.ext
 have hlen := hI.len o
 have hexl := o.exlen
 have hvl := ok.v.len
 refine ⟨_, F2.own.at.rdc (by simp [itemC]), ?_⟩
 refine ACalls.use (at_ok a.at hvl (c3.sl itemC_len) (by omega) i.dot) ?_
 rintro r s5 ⟨e5, n, rfl, hcase⟩ w5
 have a5 := a.ext e5
 have c5 := c3.ext e5
 have b5 := b3.ext e5
 have o5 : Am.Own s5 l1 (itemC i) := F2.own.ext e5
 have E5 := F2.ext.trans e5
 have r17 : rd1 s5 q (0 + 17) = some iw := by rw [a5.at.rd1]; exact ref_17T hvl w iw
 have hth5 : ∀ y ∈ F, s5.h y ≠ none := fun y hy hn => hth y hy (E5.none hn)
 refine ⟨_, rfl, fun vs s' => s' = s5 ∧ ∃ t, vs = [.bool t] ∧ (t = true → ∃ (k : Nat) (j : Itm), n = k ∧ I[k]? = some j ∧ j.dot = i.dot ∧ j.gone = false ∧ i.gone = true) ∧ (t = false → ¬ ((x.live i.dot).isSome = true ∧ i.gone = true)), ?_, ?_⟩
 rotate_left
 ·refine bsplit.dec (fun hn => ?_) (fun hn => ⟨rfl, _, rfl, (fun h => by cases h), fun _ => ?_⟩)
  ·rcases hcase with ⟨rfl, _⟩ | ⟨k, rfl, j, hj, hjd⟩
   ·omega
   ·obtain ⟨lj, oj, g8, g9⟩ := c5.sl itemC_len |>.ix (by decide) itemC_len u_s_Item z_Item hj
    refine ⟨iw, r17, lj, oj, g8 _, j.gone, (g9 _ (Ext.refl _)).1 4 (by decide), bsplit.mk (fun hg => ⟨i.gone, by rw [o5.at.rd1]; rfl, rfl, _, rfl, fun ht => ⟨k, j, rfl, hj, hjd, by simpa using hg, ht⟩, fun ht h => by rw [ht] at h; cases h.2⟩) (fun hg => ⟨rfl, _, rfl, (fun h => by cases h), fun _ h => ?_⟩)⟩
    have := (hI.mem j).1 (List.mem_of_getElem? hj)
    unfold OSet.item at this
    have hg' : j.gone = true := by simpa using hg
    rw [hg', hjd] at this
    rw [(o.tb _ this.1).2] at h
    cases h.1
  ·rcases hcase with ⟨rfl, hno⟩ | ⟨k, rfl, _⟩
   ·rintro ⟨h1, h2⟩
    obtain ⟨k, hk⟩ := Option.isSome_iff_exists.1 h1
    exact hno ⟨i.dot, k, false⟩ ((hI.mem _).2 hk) rfl
   ·omega
 rintro t s9 ⟨rfl, t', ht, hyes, hno⟩
 simp only [List.cons.injEq, AV.bool.injEq, and_true] at ht
 subst ht
 refine bsplit.mk (fun ht => ?_) (fun ht => ?_)
 ·
  obtain ⟨k, j, rfl, hj, hjd, hjg, hig⟩ := hyes ht
  have hkey : i.key = ⟨[], []⟩ := by
   simp only [Itm.may, Bool.and_eq_true, hig, if_true, decide_eq_true_eq] at hi
   exact hi.2
  obtain ⟨hI', hs1, hs2, hs3⟩ := hI.set o hj hjg hjd hig hkey
  have hkl : k < I.length := by
   rcases Nat.lt_or_ge k I.length with h | h
   ·exact h
   ·rw [List.getElem?_eq_none h] at hj; cases hj
  refine ⟨iw, r17, GroN.appendS sl_s_Item itemC_len itemC_one w5 (GroN.nil (M := [])) (by simp) (c5.sl itemC_len) (by simp; omega) u_s_Item fun v13 s14 g14 w14 _ => ?_⟩
  rw [List.nil_append] at g14
  have e14 := g14.chg.ext
  rcases g14.gro with ⟨h0, _⟩ | ⟨la, hv13, ho⟩
  ·rw [h0] at hkl; simp at hkl
  have hlab : labOf v13 = [la] := by rw [hv13]; rfl
  have hla : s9.h la = none := g14.new la (by simp [hlab])
  have hlq : la ≠ q := by rintro rfl; rw [a5] at hla; cases hla
  have hix : aindexAddr T Y_s_Item v13 (.int .i64 (k : Nat)) = some (.ptr (some (la, 0 + k * 5))) := by
   rw [hv13]
   have : (0 : Int) ≤ (k : Int) ∧ (k : Int) < (I.length : Int) := by omega
   simp only [aindexAddr, u_s_Item, z_Item, Option.bind_some]
   rw [if_pos this]; simp
  refine ⟨itemC i, (o5.ext e14).at.rdc (by simp [itemC]), _, _, hix, ⟨rfl, rfl⟩, ?_⟩
  rw [Nat.zero_add]
  have hfl := flat_len itemC_len I
  have hk5 : k * 5 + 5 ≤ I.length * 5 := by omega
  refine StQ.awr w14 ho (by rw [hfl]; simp [itemC]; omega) fun s18 P18 => ?_
  have ho18 : s18.h la = some (.cells ((I.set k i).flatMap itemC) 5 false) := by
   have e3 : wrs (I.flatMap itemC) (k * 5) (itemC i) = (I.set k i).flatMap itemC := flat_setG itemC_len I k i hkl
   exact P18.at.trans (by rw [← e3])
  have a18 : Am.Own s18 q (x.v.map (.int .u64) ++ [w, iw]) := (a5.ext e14).mut P18.mut (by simpa using hlq.symm)
  have gI : Gro itemC 5 s18 v13 (I.set k i) := .inr ⟨la, by rw [List.length_set]; exact hv13, ho18⟩
  refine qstore_one g14.isSlc.2 z_s_Item (StQ.own P18.wf a18 (by simp [hvl]) fun s21 P21 => ?_)
  have M : Mut [q] s s21 := by
   have e18 : Ext s s18 := Ext.wr (E5.trans e14) (E5.none hla) P18.mut
   exact e18.mut.trans P21.mut
  have a21 : Am.Own s21 q (x.v.map (.int .u64) ++ [w, v13]) := by
   have := P21.at
   rw [wrs_one, List.set_append_right _ _ (by simp [hvl])] at this
   simp only [List.length_map, hvl, Nat.zero_add, Nat.reduceSub, List.set_cons_succ, List.set_cons_zero] at this
   exact this
  have b21 : Gro dotC 2 s21 w x.ex := (((b5.ext e14).mut P18.mut fun y hy hm => by
   obtain rfl := List.mem_singleton.1 hm
   exact hth5 _ (f _ hy) hla)).mut P21.mut ((b5.ext e14).mut P18.mut (fun y hy hm => by
   obtain rfl := List.mem_singleton.1 hm
   exact hth5 _ (f _ hy) hla) |>.ne (by decide) a18)
  have g21 := gI.mut P21.mut (by simpa [hlab] using hlq)
  rw [hs1]
  refine ⟨rfl, M, la :: F, ⟨by rw [hs2, hs3]; exact ok, by rw [hs2, hs3]; exact gap, w, _, I.set k i, by rw [hs2]; exact a21, ⟨b1, b2, by rw [hs3]; exact b21⟩, ⟨g14.isSlc.2, g14.isSlc.1, g21⟩, hI', by simp [hqF], fun y hy => by simp [f y hy], fun y hy => by rw [hlab] at hy; simp at hy; simp [hy]⟩, fun y hy => ?_, fun y hy => ?_⟩
  ·rcases List.mem_cons.1 hy with rfl | hy
   ·exact .inr (E5.none hla)
   ·exact .inl hy
  ·by_cases e1 : y = q
   ·rw [e1, a21]; simp
   ·rw [P21.eq y e1]
    by_cases e2 : y = la
    ·rw [e2, ho18]; simp
    ·rw [P18.eq y e2]
     rcases List.mem_cons.1 hy with rfl | hy
     ·exact absurd rfl e2
     ·exact fun hn => hth5 y hy (e14.none hn)
 ·have hn1 := hno ht
  have hT : RefT s9 q [iw] x.v x.ex := ⟨hvl, fun y hy n => by obtain rfl := List.mem_singleton.1 hy; exact slc_not_int c5 n, w, a5, b1, b2, b5.sl dotC_len⟩
  refine ⟨_, o5.at.rdc (by simp [itemC]), ?_⟩
  refine ACalls.use (ref_Add_T hT ok.v ok.r ok.m (by omega) him) ?_
  rintro r s26 ⟨rfl, m26, hold, hnew⟩ w26
  cases hh : hasD x.v x.ex i.dot with
  | true =>
   have e26 := hold hh
   rw [see_two hn1 hh]
   exact ⟨_, rfl, bsplit.yes (by simp) ⟨rfl, (E5.trans e26).mut, F, h.ext (E5.trans e26), fun y hy => .inl hy, fun y hy hn => hth5 y hy (e26.none hn)⟩⟩
  | false =>
   obtain ⟨hs1, hs2, hs3⟩ := see_three hn1 hh
   obtain ⟨hv26, hnt, w', a26, d1, d2, d3, d4⟩ := hnew hh
   have c26 : Gro itemC 5 s26 iw I := c5.mut m26 (c5.ne (by decide) a5)
   have hlq : l1 ∉ [q] := by
    simp only [List.mem_singleton]
    rintro rfl
    have := a5.at.inj o5.at
    have := congrArg List.length this
    simp [hvl, itemC] at this
   have o26 : Am.Own s26 l1 (itemC i) := o5.mut m26 hlq
   have r26 : ∀ s', Ext s26 s' → rd1 s' q (0 + 17) = some iw := fun s' e => by rw [(a26.ext e).at.rd1]; exact ref_17T hv26 w' iw
   refine ⟨_, rfl, bsplit.no (by simp) ⟨fun vs s' => ∃ left, vs = [left, .int .i64 (pos (I.map Itm.dot) i.dot : Nat)] ∧ WFs s' ∧ GroN itemC 5 [] s26 s' left (I.take (pos (I.map Itm.dot) i.dot)), ?_, fun m vs s' => ∃ (k : Nat) (left : AV), vs = [left, .int .i64 (k : Nat)] ∧ k ≤ I.length ∧ m = I.length - k ∧ WFs s' ∧ GroN itemC 5 [] s26 s' left (I.take k) ∧ ∀ (j : Nat) y, j < k → I[j]? = some y → y.dot.lt i.dot = true, I.length, ⟨0, _, rfl, by omega, rfl, w26, by simpa using GroN.nil, fun j y hj => by omega⟩, ?_⟩⟩
   ·rintro v29 n30 s31 ⟨left, hl, w31, g31⟩
    simp only [List.cons.injEq, AV.int.injEq, true_and, and_true] at hl
    obtain ⟨rfl, rfl⟩ := hl
    have hpl : pos (I.map Itm.dot) i.dot ≤ I.length := by have := pos_le (I.map Itm.dot) i.dot; simpa using this
    have htl : (I.take (pos (I.map Itm.dot) i.dot)).length ≤ I.length := by rw [List.length_take]; omega
    refine ⟨_, (o26.ext g31.chg.ext).at.rdc (by simp [itemC]), GroN.append1 sl_s_Item itemC_len itemC_one w31 g31 (by simp) i (by omega) fun v36 s37 g37 w37 _ => ?_⟩
    obtain ⟨v41, k1, k2⟩ := ((c26.ext g37.chg.ext).sl itemC_len).from itemC_len u_s_Item z_Item c2 hpl .i64
    refine ⟨iw, r26 _ g37.chg.ext, v41, k1, GroN.appendS sl_s_Item itemC_len itemC_one w37 g37 (by simp) k2 (by simp; omega) u_s_Item fun v42 s43 g43 w43 _ => ?_⟩
    have hins : I.take (pos (I.map Itm.dot) i.dot) ++ [i] ++ I.drop (pos (I.map Itm.dot) i.dot) = I.take (pos (I.map Itm.dot) i.dot) ++ i :: I.drop (pos (I.map Itm.dot) i.dot) := by simp
    rw [hins] at g43
    have a43 := a26.ext g43.chg.ext
    refine qstore_one g43.isSlc.2 z_s_Item (StQ.own w43 a43 (by simp [hv26]) fun s46 P => ?_)
    have a46 : Am.Own s46 q ((compact x.v (ins x.ex i.dot)).1.map (.int .u64) ++ [w', v42]) := by
     have := P.at
     rw [wrs_one, List.set_append_right _ _ (by simp [hv26])] at this
     simp only [List.length_map, hv26, Nat.zero_add, Nat.reduceSub, List.set_cons_succ, List.set_cons_zero] at this
     exact this
    have hq26 : s26.h q ≠ none := by rw [a26]; simp
    have g46 := g43.gro.mut P.mut fun y hy hm => by
     obtain rfl := List.mem_singleton.1 hm
     exact hq26 (g43.new _ hy)
    have d46 := (d3.ext g43.chg.ext).mut P.mut ((d3.ext g43.chg.ext).ne (by decide) a43)
    have M : Mut [q] s s46 := E5.mut.trans (m26.trans (g43.chg.ext.mut.trans P.mut))
    have ok2 := see_OOk o hi
    have hnone : ∀ y, s26.h y = none → s9.h y = none := fun y hy => by
     cases hq : s9.h y with
     | none => rfl
     | some ob =>
      by_cases e : y = q
      ·subst e; exact absurd hy hq26
      ·rw [m26.1 y ob (by simpa using e) hq] at hy; cases hy
    rw [hs1]
    refine ⟨rfl, M, labOf w' ++ (labOf v42 ++ F), ⟨ok2.ok, ok2.gap, w', v42, _, by rw [hs2]; exact a46, ⟨d1, d2, by rw [hs3]; exact d46⟩, ⟨g43.isSlc.2, g43.isSlc.1, g46⟩, hI.ins o hi hh, by simp [hqF], fun y hy => by simp [hy], fun y hy => by simp [hy]⟩, fun y hy => ?_, fun y hy => ?_⟩
    ·rcases List.mem_append.1 hy with hy | hy
     ·exact .inr (E5.none (d4 y hy))
     ·rcases List.mem_append.1 hy with hy | hy
      ·exact .inr (E5.none (hnone y (g43.new y hy)))
      ·exact .inl hy
    ·rcases List.mem_append.1 hy with hy | hy
     ·exact d46.there y hy
     ·rcases List.mem_append.1 hy with hy | hy
      ·exact g46.there y hy
      ·by_cases e : y = q
       ·rw [e, a46]; simp
       ·rw [P.eq y e]
        intro hn
        exact hth5 y hy (hnone y (g43.chg.ext.none hn))
   ·rintro m left n s52 ⟨k, left', hk, h6, rfl, w52, g52, hlt⟩
    simp only [List.cons.injEq, AV.int.injEq, true_and, and_true] at hk
    obtain ⟨rfl, rfl⟩ := hk
    have c52 := c26.ext g52.chg.ext
    have htl : (I.take k).length ≤ I.length := by rw [List.length_take]; omega
    have fin : (∀ y, I[k]? = some y → y.dot.lt i.dot = false) → pos (I.map Itm.dot) i.dot = k := fun hq => by
     refine pos_eq (by simpa using h6) (fun j d hj hd => ?_) fun d hd => ?_
     ·rw [List.getElem?_map, Option.map_eq_some_iff] at hd
      obtain ⟨y, hy, rfl⟩ := hd
      exact hlt j y hj hy
     ·rw [List.getElem?_map, Option.map_eq_some_iff] at hd
      obtain ⟨y, hy, rfl⟩ := hd
      exact hq y hy
    refine ⟨iw, r26 _ g52.chg.ext, _, (c52.sl itemC_len).lenB u_s_Item _, bsplit.dec (fun hl => ?_) (fun hge => ?_)⟩
    ·obtain ⟨y, hy⟩ := get_lt (l := I) (i := k) (by omega)
     obtain ⟨ly, oy, g8, g9⟩ := (c52.sl itemC_len).ix (by decide) itemC_len u_s_Item z_Item hy
     refine ⟨iw, r26 _ g52.chg.ext, ly, oy, g8 _, _, rdc_pre ((g9 _ (Ext.refl _)).2) (by decide), _, (o26.ext g52.chg.ext).at.rdc (by simp [itemC]), ?_⟩
     refine ACalls.use (ref04iLess_ok y.dot i.dot _) ?_
     rintro r s65 ⟨rfl, e65⟩ w65
     refine ⟨_, rfl, bsplit.mk (fun hb => ?_) (fun hb => ?_)⟩
     ·have ht : I.take (k + 1) = I.take k ++ [y] := by rw [List.take_add_one, hy]; rfl
      refine ⟨iw, r26 _ (g52.chg.ext.trans e65), ly, oy, g8 _, _, (g9 _ e65).2, GroN.append1 sl_s_Item itemC_len itemC_one w65 (g52.step e65) (by simp) y (by omega) fun v' s' g' hw' _ => ?_⟩
      refine ⟨I.length - (k + 1), by omega, k + 1, v', by rw [wrap_i (by omega)]; rfl, by omega, rfl, hw', by rw [ht]; exact g', fun j z hj hz => ?_⟩
      rcases Nat.lt_or_ge j k with h | h
      ·exact hlt j z h hz
      ·obtain rfl : j = k := by omega
       rw [hy] at hz; obtain rfl := Option.some.inj hz; exact hb
     ·have hp := fin fun z hz => by rw [hy] at hz; obtain rfl := Option.some.inj hz; exact hb
      exact ⟨left, by rw [hp], w65, by rw [hp]; exact g52.step e65⟩
    ·have hp := fin fun z hz => by rw [List.getElem?_eq_none (by omega)] at hz; cases hz
     exact ⟨left, by rw [hp], w52, by rw [hp]; exact g52⟩
end
end Go.Proofs.YtoklmpkpeanloaaGreat
end

section
set_option maxRecDepth 100000
set_option maxHeartbeats 4000000
namespace Go.Proofs.YtoklmpkpeanloaaGreat
open Go.Am
def Q_ref07iSet_Collect (a0 : Option (Nat × Nat)) (a1 : List AV) (s : AS) (R : AV → AS → Prop) : Prop :=
 One1 a1 (NewQ (.cells a1 0 false) s fun l1 s2 => RdL (rdc s2 l1 0 2) fun g3 => ACalls Tryz.prog F_ref07iSet_at [(.ptr a0), (.agg g3)] s2 fun v4 s5 => ∃ n6 : Int, v4 = .int .i64 n6 ∧ (bsplit (decide ((n6 : Int) < 0)) (R (.bool false) s5) (AsSome a0 fun l7 o8 => RdA (rd1 s5 l7 (o8 + 17)) fun v9 => IxQ (aindexAddr T Y_s_Item v9 (.int .i64 n6)) fun l10 o11 => RdB (rd1 s5 l10 (o11 + 4)) fun b12 => bsplit (!b12)
 (R (.bool false) s5)
 (DrawQ fun S V => AsSome a0 fun l13 o14 => RdA (rd1 s5 l13 (o14 + 17)) fun v15 => RdA (aslice T Y_s_Item v15 none (some (.int .i64 n6)) none) fun v16 => (∀ s17 : AS, Ext s5 s17 → WFs s17 → (True) → Bd2 (aappend T Y_s_Item Y_s_Item (.slc none 0 0 true) v16 s17) fun v18 s19 => (Ext s17 s19 ∧ S 7 [(.slc none 0 0 true), v16] v18 s19 ∧ V 7 [(.slc none 0 0 true), v16] v18)) ∧ (∃ v, V 7 [(.slc none 0 0 true), v16] v) ∧ ∀ v20 : AV, V 7 [(.slc none 0 0 true), v16] v20 → AsSome a0 fun l21 o22 => RdA (rd1 s5 l21 (o22 + 17)) fun v23 => RdA (aslice T Y_s_Item v23 (some (.int .i64 (IntKind.wrap .i64 (n6 + 1)))) none none) fun v24 => ∀ s25 : AS, Ext s5 s25 → WFs s25 → (S 7 [(.slc none 0 0 true), v16] v20 s25 ∧ True) → Bd2 (aappend T Y_s_Item Y_s_Item v20 v24 s25) fun v27 s28 => AsSome a0 fun l29 o30 => qstore T Y_s_Item s28 l29 (o30 + 17) v27 fun s31 => R (.bool true) s31))))
def A_ref07iSet_Collect : QA := (.seq .leaf (.seq .leaf (.seq (.seq .leaf (.cond (.seq .leaf .leaf) .leaf)) (.seq (.drawT [0, 1, 2, 3, 4, 5, 6, 7, 8, 9, 10, 11, 12, 13, 14] [15, 16, 17, 18] [[], [], [], [], [], [], [], [], [], [], [], [], [], [], [], [], [], [], []] [7]) (.seq .leaf .leaf)))))
theorem q_ref07iSet_Collect (a0 : Option (Nat × Nat)) (a1 : List AV) (s : AS) (R : AV → AS → Prop) (h : Q_ref07iSet_Collect a0 a1 s R) : ACalls Tryz.prog F_ref07iSet_Collect [(.ptr a0), (.agg a1)] s R :=
 ACalls.q (n := 40) (rs := [.tmp 4]) (A := A_ref07iSet_Collect) hT hmx Tryz.func79 (by kernel_rfl) rfl rfl rfl (by kernel_rfl) (by kernel_rfl) h
end Go.Proofs.YtoklmpkpeanloaaGreat
end

section
namespace Go.Proofs.YtoklmpkpeanloaaGreat
open Go.Am Go.Minster Go.Minster2
theorem SameItems_ok {s : AS} {v v' : AV} {l l' : List Itm} (h : Sl itemC 5 s v l) (h' : Sl itemC 5 s v' l') (hn : l.length ≤ 2 ^ 40) : ACalls Tryz.prog F_ref07iSameItems [v, v'] s fun r s' => r = .bool (decide (l = l')) ∧ s' = s := by
 refine q_ref07iSameItems _ _ _ _ ⟨_, h.lenB u_s_Item _, _, h'.lenB u_s_Item _, bsplit.mk (fun hq => ?_) (fun hq => ?_)⟩
 ·refine ⟨?_, rfl⟩
  have hq' : ¬ (l.length : Int) = (l'.length : Int) := by simpa using hq
  have : l.length ≠ l'.length := by omega
  have : l ≠ l' := fun e => this (by rw [e])
  simp [this]
 ·have hlen : l.length = l'.length := by
   have : (l.length : Int) = (l'.length : Int) := by simpa using hq
   omega
  refine ⟨fun m vs s' => ∃ i : Nat, vs = [.int .i64 (i : Nat)] ∧ i ≤ l.length ∧ m = l.length - i ∧ s' = s ∧ l.take i = l'.take i, l.length, ⟨0, rfl, by omega, rfl, rfl, by simp⟩, ?_⟩
  rintro m n s20 ⟨i, hi, h6, rfl, rfl, h7⟩
  simp only [List.cons.injEq, AV.int.injEq, true_and, and_true] at hi
  subst hi
  refine ⟨_, h.lenB u_s_Item _, bsplit.dec (fun hlt => ?_) (fun hge => ?_)⟩
  ·obtain ⟨x, hx⟩ := get_lt (l := l) (i := i) (by omega)
   obtain ⟨y, hy⟩ := get_lt (l := l') (i := i) (by omega)
   obtain ⟨la, o, h8, h9⟩ := h.ix (by decide) itemC_len u_s_Item z_Item hx
   obtain ⟨la', o', h8', h9'⟩ := h'.ix (by decide) itemC_len u_s_Item z_Item hy
   refine ⟨la, o, h8 _, _, (h9 _ (Ext.refl _)).2, la', o', h8' _, _, (h9' _ (Ext.refl _)).2, _, item_eq x y, bsplit.mk (fun hq => ?_) (fun hq => ?_)⟩
   ·refine ⟨?_, rfl⟩
    have hne : x ≠ y := by simpa using hq
    have : l ≠ l' := fun e => hne (by subst e; rw [hx] at hy; exact Option.some.inj hy)
    simp [this]
   ·have he : x = y := by simpa using hq
    subst he
    refine ⟨l.length - (i + 1), by omega, i + 1, by rw [wrap_i (by omega)]; rfl, by omega, rfl, rfl, ?_⟩
    rw [List.take_add_one, List.take_add_one, h7, hx, hy]
  ·refine ⟨?_, rfl⟩
   rw [List.take_of_length_le (by omega), List.take_of_length_le (by omega)] at h7
   simp [h7]
def KD (x : OSet) (k : Key) (l : List Dot) : Prop := Rising l ∧ ∀ d, d ∈ l ↔ x.live d = some k
theorem KD.uniq {x : OSet} {k : Key} {l l' : List Dot} (h : KD x k l) (h' : KD x k l') : l = l' := rising_uniq h.1 h'.1 fun d => by rw [h.2, h'.2]
theorem KeyDots.kd {x : OSet} {k : Key} {l : List Dot} (h : KeyDots x k l) : KD x k l := ⟨h.ris, h.mem⟩
theorem KD.has {x : OSet} {B : Nat} (o : OOk x B) {k : Key} {l : List Dot} (h : KD x k l) {d : Dot} (hd : d ∈ l) : x.has d = true := (o.lv d k ((h.2 d).1 hd)).1
theorem KD.len {x : OSet} {B : Nat} (o : OOk x B) {k : Key} {l : List Dot} (h : KD x k l) : l.length ≤ B := by
 obtain ⟨U, hU, hm⟩ := o.sz
 have := nodup_len (rising_nodup h.1) fun d hd => hm d (h.has o hd)
 omega
def liveOf (k : Key) (i : Itm) : Bool := !i.gone && decide (i.key = k)
theorem kd_filter {x : OSet} {I : List Itm} (h : Items x I) (k : Key) : KD x k ((I.filter (liveOf k)).map Itm.dot) := by
 refine ⟨h.ris.sub (List.Sublist.map _ List.filter_sublist), fun d => ?_⟩
 simp only [List.mem_map, List.mem_filter, liveOf, Bool.and_eq_true, Bool.not_eq_true', decide_eq_true_eq]
 constructor
 ·rintro ⟨i, ⟨hi, hg, hk⟩, rfl⟩
  have := (h.mem i).1 hi
  unfold OSet.item at this
  rw [hg] at this
  rw [this, hk]
 ·intro hd
  exact ⟨⟨d, k, false⟩, ⟨(h.mem _).2 hd, rfl, rfl⟩, rfl⟩
section
variable {F : List Nat} {s : AS} {q : Nat} {x : OSet} {B : Nat}
theorem RefO.open (h : RefO F s q x) : ∃ w iw I, At s q (x.v.map (.int .u64) ++ [w, iw]) ∧ iw ≠ .emp ∧ Gro itemC 5 s iw I ∧ Items x I ∧ (∀ s', Ext s s' → rd1 s' q (0 + 17) = some iw) ∧ RefT s q [iw] x.v x.ex := by
 obtain ⟨ok, gap, w, iw, I, a, ⟨b1, b2, b3⟩, ⟨c1, c2, c3⟩, hI, hqF, f, g⟩ := h
 exact ⟨w, iw, I, a.at, c2, c3, hI, fun s' e => by rw [(a.ext e).at.rd1]; exact ref_17T ok.v.len w iw, ok.v.len, fun y hy n => by obtain rfl := List.mem_singleton.1 hy; exact slc_not_int c3 n, w, a, b1, b2, b3.sl dotC_len⟩
theorem ref_Gone_ok (h : RefO F s q x) (o : OOk x B) (hB : B ≤ 1000) (k : Key) : ACalls Tryz.prog F_ref07iSet_Gone [.ptr (some (q, 0)), .agg (keyC k)] s fun v s' => ∃ l, KD x k l ∧ GroN itemC 5 [] s s' v (l.map goneI) := by
 obtain ⟨w, iw, I, a, c2, c3, hI, hr, _⟩ := h.open
 have hlen := hI.len o
 refine ACalls.pre fun hw => q_ref07iSet_Gone _ _ _ _ ⟨rfl, NewQ.intro hw rfl fun l1 s2 F2 => ⟨fun m vs s' => ∃ (i : Nat) (v : AV), vs = [v, .int .i64 (i : Nat)] ∧ i ≤ I.length ∧ m = I.length - i ∧ WFs s' ∧ GroN itemC 5 [] s2 s' v ((((I.take i).filter (liveOf k)).map Itm.dot).map goneI), I.length, ⟨0, _, rfl, by omega, rfl, F2.wf, by simpa using GroN.nil⟩, ?_⟩⟩
 rintro m v6 n s8 ⟨i, v', hi, h6, rfl, w8, g8⟩
 simp only [List.cons.injEq, AV.int.injEq, true_and, and_true] at hi
 obtain ⟨rfl, rfl⟩ := hi
 have E8 := F2.ext.trans g8.chg.ext
 have c8 := (c3.ext E8).sl itemC_len
 refine ⟨iw, hr _ E8, _, c8.lenB u_s_Item _, bsplit.dec (fun hlt => ?_) (fun hge => ?_)⟩
 ·obtain ⟨y, hy⟩ := get_lt (l := I) (i := i) (by omega)
  obtain ⟨ly, oy, k8, k9⟩ := c8.ix (by decide) itemC_len u_s_Item z_Item hy
  have hfl := List.length_filter_le (liveOf k) (I.take i)
  have htl := List.length_take_le i I
  have ht : ((((I.take (i + 1)).filter (liveOf k)).map Itm.dot).map goneI) = ((((I.take i).filter (liveOf k)).map Itm.dot).map goneI) ++ if liveOf k y = true then [goneI y.dot] else [] := by
   rw [List.take_add_one, hy, List.filter_append, Option.toList_some, List.map_append, List.map_append]
   congr 1
   cases hq : liveOf k y <;> simp [List.filter_cons, hq]
  refine ⟨fun vs s' => s' = s8 ∧ vs = [.bool (liveOf k y)], ?_, iw, hr _ E8, ly, oy, k8 _, y.gone, (k9 _ (Ext.refl _)).1 4 (by decide), bsplit.mk (fun hg => ⟨iw, hr _ E8, ly, oy, k8 _, keyC y.key, rdc_mid ((k9 _ (Ext.refl _)).2) 2 2 (by decide), _, (F2.own.ext g8.chg.ext).at.rdc (by simp [keyC]), _, key_eq y.key k, rfl, by simp only [Bool.not_eq_true'] at hg; simp [liveOf, hg]⟩) (fun hg => ⟨rfl, by simp only [Bool.not_eq_false'] at hg; simp [liveOf, hg]⟩)⟩
  rintro b s15 ⟨rfl, hb⟩
  simp only [List.cons.injEq, AV.bool.injEq, and_true] at hb
  subst hb
  refine bsplit.mk (fun hb => ?_) (fun hb => ?_)
  ·refine ⟨iw, hr _ E8, ly, oy, k8 _, _, rdc_pre ((k9 _ (Ext.refl _)).2) (by decide), _, build_gone y.dot, GroN.append1 sl_s_Item itemC_len itemC_one w8 g8 (by simp) (goneI y.dot) (by simp; omega) fun v' s' g' w' _ => ?_⟩
   exact ⟨I.length - (i + 1), by omega, i + 1, v', by rw [wrap_i (by omega)]; rfl, by omega, rfl, w', by rw [ht, if_pos hb]; exact g'⟩
  ·exact ⟨I.length - (i + 1), by omega, i + 1, v6, by rw [wrap_i (by omega)]; rfl, by omega, rfl, w8, by rw [ht, if_neg (by rw [hb]; simp), List.append_nil]; exact g8⟩
 ·rw [List.take_of_length_le (by omega)] at g8
  exact ⟨_, kd_filter hI k, g8.gro, F2.ext.mut.trans g8.chg, fun la hla => F2.ext.none (g8.new la hla)⟩
theorem RefO.keepI {s' : AS} {v : AV} {l : List Itm} (h : RefO F s q x) (hs : Sl itemC 5 s v l) (m : Mut [q] s s') : Sl itemC 5 s' v l := by
 obtain ⟨ok, gap, w, iw, I, a, ⟨b1, b2, b3⟩, ⟨c1, c2, c3⟩, _⟩ := h
 refine items_keep a (fun c hc n => ?_) hs m
 rcases List.mem_append.1 hc with hc | hc
 ·obtain ⟨y, _, rfl⟩ := List.mem_map.1 hc; simp
 ·simp only [List.mem_cons, List.not_mem_nil, or_false] at hc
  rcases hc with rfl | rfl
  ·exact slc_not_int b3 n
  ·exact slc_not_int c3 n
theorem refLoop (hw : WFs s) (h : RefO F s q x) (o : OOk x B) (hth : ∀ y ∈ F, s.h y ≠ none) {v : AV} {L : List Itm} (hv : Sl itemC 5 s v L) (hB : B + L.length ≤ 1000) (hL : ∀ i ∈ L, i.may = true) {K : AS → Prop}
    (hK : ∀ s' F', RefO F' s' q (x.sees L).2 → (∀ y ∈ F', y ∈ F ∨ s.h y = none) → (∀ y ∈ F', s'.h y ≠ none) → Mut [q] s s' → Sl itemC 5 s' v L → WFs s' → K s') :
    LoopQ fun I22 m23 => I22 m23 [(.int .i64 0)] s ∧
     ∀ m24 : Nat, ∀ n25 : Int, ∀ s26 : AS, I22 m24 [(.int .i64 n25)] s26 →
     RdI .i64 (alenB T Y_s_Item v s26) fun n27 => bsplit (decide ((n25 : Int) < n27))
     (IxQ (aindexAddr T Y_s_Item v (.int .i64 n25)) fun l28 o29 => RdL (rdc s26 l28 o29 5) fun g30 => ACalls Tryz.prog F_ref07iSet_See [(.ptr (some (q, 0))), (.agg g30)] s26 fun v31 s32 => ∃ b33 : Bool, v31 = .bool b33 ∧ (∃ m', m' < m24 ∧ I22 m' [(.int .i64 (IntKind.wrap .i64 (n25 + 1)))] s32))
     (K s26) := by
  have hstep : ∀ (i : Nat) y, L[i]? = some y → (x.sees (L.take (i + 1))).2 = ((x.sees (L.take i)).2.see y).2 := by
    intro i y hy
    unfold OSet.sees
    rw [List.take_add_one, hy, Option.toList_some, List.foldl_append]
    rfl
  refine ⟨fun m vs s' => ∃ i : Nat, vs = [.int .i64 (i : Nat)] ∧ i ≤ L.length ∧ m = L.length - i ∧ WFs s' ∧ Mut [q] s s' ∧ Sl itemC 5 s' v L ∧ ∃ F', RefO F' s' q (x.sees (L.take i)).2 ∧ (∀ y ∈ F', y ∈ F ∨ s.h y = none) ∧ ∀ y ∈ F', s'.h y ≠ none, L.length, ⟨0, rfl, by omega, rfl, hw, Mut.refl _ _, hv, F, h, fun y hy => .inl hy, hth⟩, ?_⟩
  rintro m n s26 ⟨i, hi, h6, rfl, w26, m26, hv26, F', hR, hn, ht⟩
  simp only [List.cons.injEq, AV.int.injEq, true_and, and_true] at hi
  subst hi
  refine ⟨_, hv26.lenB u_s_Item _, bsplit.dec (fun hlt => ?_) (fun hge => ?_)⟩
  · obtain ⟨y, hy⟩ := get_lt (l := L) (i := i) (by omega)
    obtain ⟨ly, oy, k8, k9⟩ := hv26.ix (by decide) itemC_len u_s_Item z_Item hy
    have ok : OOk (x.sees (L.take i)).2 (B + (L.take i).length) := o.sees _ fun j hj => hL j (List.mem_of_mem_take hj)
    have htl := List.length_take_le i L
    have hti : (L.take i).length ≤ L.length := by rw [List.length_take]; omega
    refine ⟨ly, oy, k8 _, _, (k9 _ (Ext.refl _)).2, ?_⟩
    refine ACalls.use (ref_See_ok hR ok (by omega) ht y (hL y (List.mem_of_getElem? hy))) ?_
    rintro r s32 ⟨rfl, m32, F2, hR2, hn2, ht2⟩ w32
    refine ⟨_, rfl, L.length - (i + 1), by omega, i + 1, by rw [wrap_i (by omega)]; rfl, by omega, rfl, w32, m26.trans m32, hR.keepI hv26 m32, F2, by rw [hstep i y hy]; exact hR2, fun z hz => ?_, ht2⟩
    have hqs : s.h q ≠ none := hth q h.qF
    rcases hn2 z hz with h1 | h1
    · exact hn z h1
    · right
      cases hq : s.h z with
      | none => rfl
      | some ob =>
        by_cases e : z = q
        · subst e
          exact absurd h1 (ht _ hR.qF)
        · rw [m26.1 z ob (by simpa using e) hq] at h1; cases h1
  · rw [List.take_of_length_le (by omega)] at hR
    exact hK s26 F' hR hn ht m26 hv26 w26
theorem ref_Add_ok (h : RefO F s q x) (o : OOk x B) (hth : ∀ y ∈ F, s.h y ≠ none) (hB : B ≤ 450) (k : Key) (d : Dot) (hk : k.may = true) (hd : d.may = true) :
  ACalls Tryz.prog F_ref07iSet_Add [.ptr (some (q, 0)), .agg (keyC k), .agg (dotC d)] s fun v s' => ∃ l, KD x k l ∧ Sl itemC 5 s' v (⟨d, k, false⟩ :: l.map goneI) ∧ Mut [q] s s' ∧ ∃ F', RefO F' s' q (x.sees (⟨d, k, false⟩ :: l.map goneI)).2 ∧ (∀ y ∈ F', y ∈ F ∨ s.h y = none) ∧ ∀ y ∈ F', s'.h y ≠ none := by
 refine ACalls.pre fun hw => q_ref07iSet_Add _ _ _ _ _ ⟨rfl, NewQ.intro hw rfl fun l1 s2 F2 => ⟨rfl, NewQ.intro F2.wf rfl fun l3 s4 F4 => ?_⟩⟩
 have E4 := F2.ext.trans F4.ext
 have h4 := h.ext E4
 obtain ⟨w0, iw0, I0, _, _, _, hI0, _⟩ := h.open
 have hkd0 := kd_filter hI0 k
 generalize hl0 : (I0.filter (liveOf k)).map Itm.dot = l at hkd0
 refine ⟨fun z _ v s' => (z = 3 → ∃ l, v = .slc (some (l, 0)) 1 1 true ∧ At s' l (itemC ⟨d, k, false⟩)) ∧ (z = 6 → Sl itemC 5 s' v (l.map goneI)), fun z _ v => z = 3 → ∃ l, v = .slc (some (l, 0)) 1 1 true, ?_, _, F4.own.at.rdc (by simp [dotC]), _, (F2.own.ext F4.ext).at.rdc (by simp [keyC]), _, build_item d k, fun s8 e8 w8 _ => ?_, ⟨.slc (some (0, 0)) 1 1 true, fun _ => ⟨0, rfl⟩⟩, fun v12 hv12 => ⟨_, (F2.own.ext F4.ext).at.rdc (by simp [keyC]), fun s14 e14 w14 _ => ?_, ⟨.undef, (fun h => by cases h)⟩, fun v17 _ s18 e18 w18 hS => ?_⟩⟩
 ·rintro z ks v s s' e ⟨h1, h2⟩
  refine ⟨fun hq => ?_, fun hq => (h2 hq).ext e⟩
  obtain ⟨l, a, b⟩ := h1 hq
  exact ⟨l, a, b.ext e⟩
 ·exact ⟨_, absl_agg sl_s_Item (itemC_len _) (itemC_one _), NewQ.intro w8 rfl fun l10 s11 F11 => ⟨F11.ext, ⟨(fun _ => ⟨l10, rfl, F11.own.at⟩), (fun h => by cases h)⟩, fun _ => ⟨l10, rfl⟩⟩⟩
 ·refine (ref_Gone_ok (h4.ext e14) o (by omega) k).mono ?_
  rintro v15 s16 ⟨l', kd', g⟩
  obtain rfl := kd'.uniq hkd0
  exact ⟨g.chg.ext, ⟨(fun h => by cases h), fun _ => g.sl itemC_len⟩, (fun h => by cases h)⟩
 obtain ⟨l18, rfl, hi⟩ := hS.1.1 rfl
 have hg := hS.2.1.2 rfl
 have hln := hkd0.len o
 refine lit_append w18 hi hg (by simp; omega) fun v20 s21 hs21 w21 e21 => ?_
 have E21 := E4.trans (e18.trans e21)
 have hmay : ∀ i ∈ (⟨d, k, false⟩ : Itm) :: l.map goneI, i.may = true := by
  intro i hi
  rcases List.mem_cons.1 hi with rfl | hi
  ·simp [Itm.may, hk, hd]
  ·obtain ⟨y, hy, rfl⟩ := List.mem_map.1 hi
   exact goneI_may (OSet.has_may (hkd0.has o hy))
 refine refLoop w21 (h.ext E21) o (fun y hy hn => hth y hy (E21.none hn)) hs21 (by simp; omega) hmay fun s' F' hR hn ht m hs w => ?_
 exact ⟨l, hkd0, hs, E21.mut.trans m, F', hR, fun y hy => (hn y hy).imp id fun h => E21.none h, ht⟩
theorem ref_Remove_ok (h : RefO F s q x) (o : OOk x B) (hth : ∀ y ∈ F, s.h y ≠ none) (hB : B ≤ 450) (k : Key) :
  ACalls Tryz.prog F_ref07iSet_Remove [.ptr (some (q, 0)), .agg (keyC k)] s fun v s' => ∃ l, KD x k l ∧ Sl itemC 5 s' v (l.map goneI) ∧ Mut [q] s s' ∧ ∃ F', RefO F' s' q (x.sees (l.map goneI)).2 ∧ (∀ y ∈ F', y ∈ F ∨ s.h y = none) ∧ ∀ y ∈ F', s'.h y ≠ none := by
 refine ACalls.pre fun hw => q_ref07iSet_Remove _ _ _ _ ⟨rfl, NewQ.intro hw rfl fun l1 s2 F2 => ⟨_, F2.own.at.rdc (by simp [keyC]), ?_⟩⟩
 refine ACalls.use (ref_Gone_ok (h.ext F2.ext) o (by omega) k) ?_
 rintro v4 s5 ⟨l, kd, g⟩ w5
 have E5 := F2.ext.trans g.chg.ext
 have hln := kd.len o
 refine refLoop w5 (h.ext E5) o (fun y hy hn => hth y hy (E5.none hn)) (g.sl itemC_len) (by simp; omega) (goneL_may fun y hy => OSet.has_may (kd.has o hy)) fun s' F' hR hn ht m hs w => ?_
 exact ⟨l, kd, hs, E5.mut.trans m, F', hR, fun y hy => (hn y hy).imp id fun h => E5.none h, ht⟩
theorem Items.coll {x : OSet} {I : List Itm} (h : Items x I) {k : Nat} {j : Itm} (hk : I[k]? = some j) (hg : j.gone = true) : Items (x.coll j.dot) (I.take k ++ I.drop (k + 1)) := by
 have hkl : k < I.length := by
  rcases Nat.lt_or_ge k I.length with h | h
  ·exact h
  ·rw [List.getElem?_eq_none h] at hk; cases hk
 have hsp : I = I.take k ++ j :: I.drop (k + 1) := by
  conv => lhs; rw [← List.take_append_drop k I, List.drop_eq_getElem_cons hkl]
  rw [List.getElem?_eq_getElem hkl] at hk
  rw [Option.some.inj hk]
 have hsub : (I.take k ++ I.drop (k + 1)).Sublist I := by
  conv => rhs; rw [hsp]
  exact List.Sublist.append_left (List.sublist_cons_self _ _) _
 have hjI : j ∈ I := List.mem_of_getElem? hk
 have hmem : ∀ y, y ∈ I.take k ++ I.drop (k + 1) ↔ y ∈ I ∧ y.dot ≠ j.dot := by
  intro y
  have hpw := IRis.pw h.ris
  rw [hsp] at hpw
  obtain ⟨p1, p2, p3⟩ := List.pairwise_append.1 hpw
  obtain ⟨p4, p5⟩ := List.pairwise_cons.1 p2
  constructor
  ·intro hy
   refine ⟨hsub.subset hy, fun e => ?_⟩
   rcases List.mem_append.1 hy with hy | hy
   ·have := p3 y hy j (by simp); rw [e] at this; exact Dot.lt_irrefl _ this
   ·have := p4 y hy; rw [e] at this; exact Dot.lt_irrefl _ this
  ·rintro ⟨hy, hne⟩
   rw [hsp] at hy
   rcases List.mem_append.1 hy with hy | hy
   ·exact List.mem_append_left _ hy
   ·rcases List.mem_cons.1 hy with rfl | hy
    ·exact absurd rfl hne
    ·exact List.mem_append_right _ hy
 refine ⟨h.ris.sub (hsub.map _), fun y => ?_⟩
 rw [hmem, h.mem]
 have hjt := (h.mem j).1 hjI
 unfold OSet.item at hjt ⊢
 rw [hg] at hjt
 cases hgy : y.gone with
 | true =>
  simp only [OSet.coll, Bool.and_eq_true, Bool.not_eq_true', decide_eq_false_iff_not]
  constructor
  ·rintro ⟨⟨a, b⟩, c⟩; exact ⟨⟨a, c⟩, b⟩
  ·rintro ⟨⟨a, c⟩, b⟩; exact ⟨⟨a, b⟩, c⟩
 | false =>
  simp only [OSet.coll]
  constructor
  ·exact fun h => h.1
  ·intro hl
   refine ⟨hl, fun e => ?_⟩
   have : (⟨y.dot, y.key, false⟩ : Itm) ∈ I := (h.mem _).2 hl
   have := h.one this hjI e
   rw [← this] at hg; cases hg
theorem ref_Collect_ok (h : RefO F s q x) (o : OOk x B) (hth : ∀ y ∈ F, s.h y ≠ none) (hB : B ≤ 1000) (d : Dot) :
  ACalls Tryz.prog F_ref07iSet_Collect [.ptr (some (q, 0)), .agg (dotC d)] s fun r s' => (x.tomb d = false ∧ r = .bool false ∧ Ext s s') ∨ (x.tomb d = true ∧ r = .bool true ∧ Mut [q] s s' ∧ ∃ F', RefO F' s' q (x.coll d) ∧ (∀ y ∈ F', y ∈ F ∨ s.h y = none) ∧ ∀ y ∈ F', s'.h y ≠ none) := by
 refine ACalls.pre fun hw => q_ref07iSet_Collect _ _ _ _ ⟨rfl, NewQ.intro hw rfl fun l1 s2 F2 => ⟨_, F2.own.at.rdc (by simp [dotC]), ?_⟩⟩
 obtain ⟨ok, gap, w, iw, I, a, ⟨b1, b2, b3⟩, ⟨c1, c2, c3⟩, hI, hqF, f, g⟩ := h.ext F2.ext
 have hlen := hI.len o
 have hvl := ok.v.len
 refine ACalls.use (at_ok a.at hvl (c3.sl itemC_len) (by omega) d) ?_
 rintro r s5 ⟨e5, n, rfl, hcase⟩ w5
 have E5 := F2.ext.trans e5
 have a5 := a.ext e5
 have c5 := c3.ext e5
 have b5 := b3.ext e5
 have r17 : ∀ s', Ext s5 s' → rd1 s' q (0 + 17) = some iw := fun s' e => by rw [(a5.ext e).at.rd1]; exact ref_17T hvl w iw
 refine ⟨_, rfl, bsplit.dec (fun hn => .inl ⟨?_, rfl, E5⟩) (fun hn => ?_)⟩
 ·rcases hcase with ⟨rfl, hno⟩ | ⟨k, rfl, _⟩
  ·cases hq : x.tomb d with
   | false => rfl
   | true => exact absurd rfl (hno ⟨d, ⟨[], []⟩, true⟩ ((hI.mem _).2 ⟨hq, rfl⟩))
  ·omega
 rcases hcase with ⟨rfl, _⟩ | ⟨k, rfl, j, hj, hjd⟩
 ·omega
 have hjI := List.mem_of_getElem? hj
 have hkl : k < I.length := by
  rcases Nat.lt_or_ge k I.length with h | h
  ·exact h
  ·rw [List.getElem?_eq_none h] at hj; cases hj
 obtain ⟨lj, oj, g8, g9⟩ := (c5.sl itemC_len).ix (by decide) itemC_len u_s_Item z_Item hj
 have hjit := (hI.mem j).1 hjI
 unfold OSet.item at hjit
 refine ⟨iw, r17 _ (Ext.refl _), lj, oj, g8 _, j.gone, (g9 _ (Ext.refl _)).1 4 (by decide), bsplit.mk (fun hg => .inl ⟨?_, rfl, E5⟩) (fun hg => ?_)⟩
 ·have hg' : j.gone = false := by simpa using hg
  rw [hg', hjd] at hjit
  cases hq : x.tomb d with
  | false => rfl
  | true => rw [(o.tb _ hq).2] at hjit; cases hjit
 have hg' : j.gone = true := by simpa using hg
 rw [hg', hjd] at hjit
 obtain ⟨v16, k1, k2⟩ := (c5.sl itemC_len).upto itemC_len u_s_Item z_Item c2 (show k ≤ I.length by omega) .i64
 obtain ⟨v24, k3, k4⟩ := (c5.sl itemC_len).from itemC_len u_s_Item z_Item c2 (show k + 1 ≤ I.length by omega) .i64
 have htk : (I.take k).length = k := by rw [List.length_take]; omega
 refine ⟨fun z _ v s' => GroN itemC 5 [] s5 s' v (I.take k), fun _ _ _ => True, fun _ _ _ _ _ e h => h.step e, iw, r17 _ (Ext.refl _), v16, k1, fun s17 e17 w17 _ => ?_, ⟨.undef, trivial⟩, fun v20 _ => ⟨iw, r17 _ (Ext.refl _), v24, ?_, fun s25 e25 w25 hS => ?_⟩⟩
 ·refine GroN.appendS sl_s_Item itemC_len itemC_one w17 (GroN.start (M := []) e17.mut) (by simp) (k2.ext e17) (by simp [htk]; omega) u_s_Item fun v' s' g' w' m' => ?_
  rw [List.nil_append] at g'
  exact ⟨Mut.ext (by simpa [labOf] using m'), g', trivial⟩
 ·rw [wrap_i (by omega)]; exact k3
 have g25 := hS.1
 refine GroN.appendS sl_s_Item itemC_len itemC_one w25 g25 (by simp) (k4.ext e25) (by simp [htk]; omega) u_s_Item fun v27 s28 g28 w28 _ => ?_
 have a28 := a5.ext g28.chg.ext
 refine qstore_one g28.isSlc.2 z_s_Item (StQ.own w28 a28 (by simp [hvl]) fun s31 P => .inr ⟨hjit.1, rfl, E5.mut.trans (g28.chg.ext.mut.trans P.mut), labOf v27 ++ F, ?_, fun y hy => ?_, fun y hy => ?_⟩)
 ·have a31 : Am.Own s31 q (x.v.map (.int .u64) ++ [w, v27]) := by
   have := P.at
   rw [wrs_one, List.set_append_right _ _ (by simp [hvl])] at this
   simp only [List.length_map, hvl, Nat.zero_add, Nat.reduceSub, List.set_cons_succ, List.set_cons_zero] at this
   exact this
  have hit := hI.coll hj hg'
  rw [hjd] at hit
  exact ⟨ok, gap, w, v27, _, a31, ⟨b1, b2, (b5.ext g28.chg.ext).mut P.mut ((b5.ext g28.chg.ext).ne (by decide) a28)⟩, ⟨g28.isSlc.2, g28.isSlc.1, g28.gro.mut P.mut (g28.gro.ne (by decide) a28)⟩, hit, by simp [hqF], fun y hy => by simp [f y hy], fun y hy => by simp [hy]⟩
 ·rcases List.mem_append.1 hy with hy | hy
  ·exact .inr (E5.none (g28.new y hy))
  ·exact .inl hy
 ·by_cases e : y = q
  ·rw [e, P.at]; simp
  ·rw [P.eq y e]
   rcases List.mem_append.1 hy with hy | hy
   ·exact g28.gro.there y hy
   ·exact fun hn => hth y hy (E5.none (g28.chg.ext.none hn))
end
end Go.Proofs.YtoklmpkpeanloaaGreat
end

section
namespace Go.Proofs.YtoklmpkpeanloaaGreat
open Go.Am Go.Minster Go.Minster2
section
variable {F : List Nat} {s : AS} {p : Nat} {x : OSet} {B : Nat}
def liveE (e : Dot × Key × Nat) : Itm := ⟨e.1, e.2.1, false⟩
theorem srt_rising {l : List Itm} (hs : Go.Minster.SI.Srt l 0 l.length) (hn : (l.map Itm.dot).Nodup) : Rising (l.map Itm.dot) := by
 refine List.pairwise_iff_getElem.2 fun i j hi hj hij => ?_
 simp only [List.length_map] at hi hj
 have hle : (Go.Minster.SI.el l i).le (Go.Minster.SI.el l j) := hs i j (by omega) hij hj
 have ei : Go.Minster.SI.el l i = l[i] := by have := Go.Minster.SI.el_get hi; rw [List.getElem?_eq_getElem hi] at this; exact (Option.some.inj this).symm
 have ej : Go.Minster.SI.el l j = l[j] := by have := Go.Minster.SI.el_get hj; rw [List.getElem?_eq_getElem hj] at this; exact (Option.some.inj this).symm
 rw [ei, ej] at hle
 simp only [List.getElem_map]
 rcases Dot.lt_tri l[i].dot l[j].dot with h | h | h
 ·exact h
 ·exfalso
  have := (List.pairwise_iff_getElem.1 hn) i j (by simpa using hi) (by simpa using hj) hij
  simp only [List.getElem_map] at this
  exact this h
 ·exfalso
  have h2 : l[j].dot.lt l[i].dot = false := hle
  rw [h2] at h; cases h
theorem Items_okN (h : SetF F s p x) (o : OOk x B) (hB : B ≤ 1000) : ACalls Tryz.prog F_orset_Set_Items [.ptr (some (p, 0))] s fun v s' => ∃ I, Items x I ∧ SI.ArrN s s' v I := by
 obtain ⟨hb1, hb2⟩ := h.bnd o
 refine q_orset_Set_Items _ _ _ ?_
 refine ACalls.use (there_ok h) ?_
 rintro v s2 ⟨rfl, rfl⟩ w2
 obtain ⟨_, _, _, pc, lm, tm, a, _, _, _, _, _, ⟨es, c, hm, hg, hl⟩, _⟩ := id h
 refine ⟨_, rfl, bsplit.no rfl ⟨fun vs s' => ∃ (v : AV) (done : List (Dot × Key × Nat)), vs = [v] ∧ WFs s' ∧ GroN itemC 5 [] s2 s' v (done.map liveE) ∧ (∀ e ∈ es, e ∈ done) ∧ (∀ e ∈ done, e ∈ es) ∧ done.Nodup, ?_, _, by rw [a.at.rd1]; rfl, MpAt.range u_m_Dot_Key w2 hm fun it s19 hit F19 => ⟨fun m vs s' => ∃ (v : AV) (done : List (Dot × Key × Nat)), vs = [v] ∧ m = es.length - done.length ∧ WFs s' ∧ MpAt dK kV s' lm es c false ∧ Iter s' it lm es c done ∧ GroN itemC 5 [it] s19 s' v (done.map liveE), es.length, ⟨_, [], rfl, by simp, F19.wf, hm.ext F19.ext, hit, GroN.nil⟩, ?_⟩⟩⟩
 ·rintro v5 s6 ⟨v', done, hv, w6, g6, d1, d2, d3⟩
  obtain rfl : v5 = v' := by simpa using hv
  have e6 := g6.chg.ext
  refine ACalls.use (Tombs_ok (h.ext e6) (by omega)) ?_
  rintro v7 s8 ⟨t, hA, tris, tmem, tlen⟩ w8
  refine ACalls.use (gone_ok hA.dots (by omega)) ?_
  rintro v9 s10 g10 w10
  have e10 := hA.1.trans g10.chg.ext
  have hdl : done.length = es.length := by
   have hes2 : es.Nodup := hm.nd.imp fun {a b} h e => h (by rw [e])
   exact ((List.perm_ext_iff_of_nodup d3 hes2).2 fun a => ⟨d2 a, d1 a⟩).length_eq
  refine GroN.appendS sl_s_Item itemC_len itemC_one w10 (g6.step e10) (by simp) (g10.sl itemC_len) (by simp; omega) u_s_Item fun v11 s12 g12 w12 _ => ?_
  refine ACalls.use (SI.sortGro_ok g12 (by simp; omega)) ?_
  rintro r s14 ⟨rfl, l', hp, hs, hA2⟩ w14
  refine ⟨rfl, l', ?_, hA2⟩
  have hlive : ∀ i : Itm, i ∈ done.map liveE ↔ i.gone = false ∧ x.live i.dot = some i.key := by
   intro i
   rw [List.mem_map]
   constructor
   ·rintro ⟨e, he, rfl⟩
    exact ⟨rfl, by rw [← hg]; exact mget_mem hm.nd (d2 e he)⟩
   ·rintro ⟨h1, h2⟩
    rw [← hg] at h2
    obtain ⟨j, n, hj⟩ := mget_some h2
    refine ⟨_, d1 _ (List.mem_of_getElem? hj), ?_⟩
    cases i
    simp only at h1
    simp [liveE, h1]
  have hgone : ∀ i : Itm, i ∈ t.map goneI ↔ i.gone = true ∧ x.tomb i.dot = true ∧ i.key = ⟨[], []⟩ := by
   intro i
   rw [List.mem_map]
   constructor
   ·rintro ⟨d, hd, rfl⟩
    exact ⟨rfl, (tmem d).1 hd, rfl⟩
   ·rintro ⟨h1, h2, h3⟩
    refine ⟨i.dot, (tmem _).2 h2, ?_⟩
    cases i
    simp only at h1 h3
    simp [goneI, h1, h3]
  have hnd : ((done.map liveE ++ t.map goneI).map Itm.dot).Nodup := by
   rw [List.map_append, List.map_map, List.map_map]
   refine List.nodup_append.2 ⟨?_, ?_, ?_⟩
   ·refine List.pairwise_map.2 (List.Pairwise.imp_of_mem ?_ d3)
    intro u w hu hw huw he
    have h1 := mget_mem hm.nd (d2 u hu)
    have h2 := mget_mem hm.nd (d2 w hw)
    have key : ∀ (l : List (Dot × Key × Nat)), l.Pairwise (fun a b => a.1 ≠ b.1) → u ∈ l → w ∈ l → u = w := by
     intro l
     induction l with
     | nil => intro _ h; cases h
     | cons z l ih =>
      intro hp h4 h5
      obtain ⟨p1, p2⟩ := List.pairwise_cons.1 hp
      rcases List.mem_cons.1 h4 with r4 | h4 <;> rcases List.mem_cons.1 h5 with r5 | h5
      ·rw [r4, r5]
      ·exact absurd (by rw [← r4]; exact he) (p1 w h5)
      ·exact absurd (by rw [← r5]; exact he.symm) (p1 u h4)
      ·exact ih p2 h4 h5
    exact huw (key es hm.nd (d2 u hu) (d2 w hw))
   ·have : t.map (Itm.dot ∘ goneI) = t := by
     conv => rhs; rw [← List.map_id t]
     rfl
    rw [this]; exact rising_nodup tris
   ·intro u hu w hw
    rw [List.mem_map] at hu hw
    obtain ⟨e, he, rfl⟩ := hu
    obtain ⟨d, hd, rfl⟩ := hw
    intro heq
    have h1 : x.live e.1 = some e.2.1 := by rw [← hg]; exact mget_mem hm.nd (d2 e he)
    have h2 := (o.tb d ((tmem d).1 hd)).2
    have : e.1 = d := heq
    rw [this, h2] at h1; cases h1
  refine ⟨srt_rising hs ((hp.map Itm.dot).nodup_iff.2 hnd), fun i => ?_⟩
  rw [hp.mem_iff, List.mem_append, hlive, hgone]
  unfold OSet.item
  cases i.gone <;> simp
 ·rintro m v s24 ⟨v', done, hv, rfl, w24, hm24, hit24, g24⟩
  obtain rfl : v = v' := by simpa using hv
  have hitx : s24.h it ≠ none := by rw [hit24.at]; simp
  refine ⟨fun vs s' => (vs = [.bool false] ∧ s' = s24 ∧ ∀ e ∈ es, e ∈ done) ∨ (vs = [.bool true] ∧ ∃ e, e ∈ es ∧ e ∉ done ∧ WFs s' ∧ MpAt dK kV s' lm es c false ∧ Iter s' it lm es c (done ++ [e]) ∧ GroN itemC 5 [it] s19 s' v (done.map liveE)), ?_, ?_⟩
  rotate_left
  ·refine Iter.next w24 hm24 hit24 (fun hall => .inl ⟨rfl, rfl, hall⟩) fun e s' he hne hit' w' m' => .inr ⟨rfl, e, he, hne, w', hm24.mut m' ?_, hit', g24.wr ?_ m'⟩
   ·simp only [List.mem_singleton]
    rintro rfl
    have := hm24.obj
    rw [hit24.at] at this; cases this
   ·intro y hy
    obtain rfl := List.mem_singleton.1 hy
    rw [hit.at]; simp
  rintro b s27 (⟨hb, rfl, hall⟩ | ⟨hb, e, he, hne, w27, hm27, hit27, g27⟩)
  ·obtain rfl : b = false := by simpa using hb
   refine bsplit.no rfl ⟨v, done, rfl, w24, ⟨g24.gro, ?_, fun la hla => F19.ext.none (g24.new la hla)⟩, hall, hit24.sub, hit24.nd⟩
   exact (Ext.wr F19.ext F19.no g24.chg).mut
  ·obtain rfl : b = true := by simpa using hb
   have hlt := hit24.lt he hne
   refine bsplit.yes rfl (Iter.entry hm27 hit27 ⟨dotC e.1, rfl, keyC e.2.1, rfl, NewQ.intro w27 rfl fun l32 s33 F33 => NewQ.intro F33.wf rfl fun l34 s35 F35 => ⟨⟨by simp [dotC], rfl⟩, ?_⟩⟩)
   have hne34 : l32 ≠ l34 := by
    rintro rfl
    have := F35.no
    rw [F33.at] at this; cases this
   refine StQ.own F35.wf (F33.own.ext F35.ext) (by simp [dotC]) fun s36 P36 => ⟨⟨by simp [keyC], rfl⟩, StQ.own P36.wf (F35.own.mut P36.mut (by simpa using hne34.symm)) (by simp [keyC]) fun s37 P37 => ?_⟩
   have e35 : Ext s27 s35 := F33.ext.trans F35.ext
   have e37 : Ext s27 s37 := Ext.wr (Ext.wr e35 F33.no P36.mut) (F33.ext.none F35.no) P37.mut
   have o32 : Am.Own s37 l32 (dotC e.1) := by
    have := P36.at
    rw [wrs_all0 (by simp [dotC])] at this
    exact Am.Own.mut this P37.mut (by simpa using hne34)
   have o34 : Am.Own s37 l34 (keyC e.2.1) := by
    have := P37.at
    rw [wrs_all0 (by simp [keyC])] at this
    exact this
   have hit37 := hit27.ext e37
   refine ⟨_, o32.at.rdc (by simp [dotC]), _, o34.at.rdc (by simp [keyC]), _, build_item e.1 e.2.1, GroN.append1 sl_s_Item itemC_len itemC_one P37.wf (g27.step e37) (fun y hy => ?_) (liveE e) (by simp; omega) fun v44 s45 g45 w45 m45 => ?_⟩
   ·obtain rfl := List.mem_singleton.1 hy
    rw [hit37.at]; simp
   ·have hnit : it ∉ labOf v := fun hx => by
     have := g24.new it hx
     rw [hit.at] at this; cases this
    have hnlm : lm ∉ labOf v := fun hx => by
     have := g24.new lm hx
     rw [(hm.ext F19.ext).obj] at this; cases this
    refine ⟨es.length - (done ++ [e]).length, by simp; omega, v44, done ++ [e], rfl, rfl, w45, (hm27.ext e37).mut m45 hnlm, hit37.mut m45 hnit, ?_⟩
    rw [List.map_append]
    exact g45
end
/-! ### the reference's live items and keys -/
section
variable {F : List Nat} {s : AS} {q : Nat} {x : OSet} {B : Nat}
def liveI (I : List Itm) : List Itm := I.filter fun i => !i.gone
theorem ref_Live_ok (h : RefO F s q x) (o : OOk x B) (hB : B ≤ 1000) : ACalls Tryz.prog F_ref07iSet_Live [.ptr (some (q, 0))] s fun v s' => ∃ I, Items x I ∧ GroN itemC 5 [] s s' v (liveI I) := by
 obtain ⟨w, iw, I, a, c2, c3, hI, hr, _⟩ := h.open
 have hlen := hI.len o
 refine ACalls.pre fun hw => q_ref07iSet_Live _ _ _ ⟨fun m vs s' => ∃ (i : Nat) (v : AV), vs = [v, .int .i64 (i : Nat)] ∧ i ≤ I.length ∧ m = I.length - i ∧ WFs s' ∧ GroN itemC 5 [] s s' v (liveI (I.take i)), I.length, ⟨0, _, rfl, by omega, rfl, hw, by simpa [liveI] using GroN.nil⟩, ?_⟩
 rintro m v4 n s6 ⟨i, v', hi, h6, rfl, w6, g6⟩
 simp only [List.cons.injEq, AV.int.injEq, true_and, and_true] at hi
 obtain ⟨rfl, rfl⟩ := hi
 have E6 := g6.chg.ext
 have c6 := (c3.ext E6).sl itemC_len
 refine ⟨iw, hr _ E6, _, c6.lenB u_s_Item _, bsplit.dec (fun hlt => ?_) (fun hge => ?_)⟩
 ·obtain ⟨y, hy⟩ := get_lt (l := I) (i := i) (by omega)
  obtain ⟨ly, oy, k8, k9⟩ := c6.ix (by decide) itemC_len u_s_Item z_Item hy
  have hfl := List.length_filter_le (fun i : Itm => !i.gone) (I.take i)
  have htl := List.length_take_le i I
  have ht : liveI (I.take (i + 1)) = liveI (I.take i) ++ if y.gone = false then [y] else [] := by
   unfold liveI
   rw [List.take_add_one, hy, List.filter_append, Option.toList_some]
   congr 1
   cases hq : y.gone <;> simp [List.filter_cons, hq]
  refine ⟨iw, hr _ E6, ly, oy, k8 _, y.gone, (k9 _ (Ext.refl _)).1 4 (by decide), bsplit.mk (fun hg => ?_) (fun hg => ?_)⟩
  ·refine ⟨iw, hr _ E6, ly, oy, k8 _, _, (k9 _ (Ext.refl _)).2, GroN.append1 sl_s_Item itemC_len itemC_one w6 g6 (by simp) y (by unfold liveI; omega) fun v' s' g' w' _ => ?_⟩
   exact ⟨I.length - (i + 1), by omega, i + 1, v', by rw [wrap_i (by omega)]; rfl, by omega, rfl, w', by rw [ht, if_pos (by simpa using hg)]; exact g'⟩
  ·exact ⟨I.length - (i + 1), by omega, i + 1, v4, by rw [wrap_i (by omega)]; rfl, by omega, rfl, w6, by rw [ht, if_neg (by simpa using hg), List.append_nil]; exact g6⟩
 ·rw [List.take_of_length_le (by omega)] at g6
  exact ⟨I, hI, g6⟩
theorem liveI_mem {I : List Itm} (h : Items x I) (i : Itm) : i ∈ liveI I ↔ i.gone = false ∧ x.live i.dot = some i.key := by
 unfold liveI
 rw [List.mem_filter, h.mem]
 unfold OSet.item
 cases i.gone <;> simp
end
end Go.Proofs.YtoklmpkpeanloaaGreat
end
