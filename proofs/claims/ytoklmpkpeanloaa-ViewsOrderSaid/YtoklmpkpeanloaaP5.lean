/-
  A part of the proof: an abstract machine over the model, and contracts of functions of this program over it.
-/
import Derived.KernelRfl
import Derived.Test.YtoklmpkpeanloaaP4
set_option linter.unusedVariables false
set_option linter.unusedSimpArgs false
set_option linter.unusedSectionVars false
section
set_option maxRecDepth 100000
set_option maxHeartbeats 4000000
namespace Go.Proofs.Ytoklmpkpeanloaa
open Go.Am
def Q_orset_New  (s : AS) (R : AV → AS → Prop) : Prop :=
 ACalls Try.prog F_ctx_New [] s fun v1 s2 => ∃ p3 : Option (Nat × Nat), v1 = .ptr p3 ∧ (NewQ (.map [] 0 false) s2 fun l4 s5 => NewQ (.map [] 0 false) s5 fun l6 s7 => RdG (abuild T Y_orset_Set [(0, (.ptr p3)), (1, (.map (some l4))), (2, (.map (some l6)))]) fun g8 => One1 g8 (NewQ (.cells g8 0 false) s7 fun l9 s10 => R (.ptr (some (l9, 0))) s10))
def A_orset_New : QA := (.seq .leaf (.seq .leaf .leaf))
theorem q_orset_New  (s : AS) (R : AV → AS → Prop) (h : Q_orset_New  s R) : ACalls Try.prog F_orset_New [] s R :=
 ACalls.q (n := 6) (rs := [.tmp 0]) (A := A_orset_New) hT hmx Try.func12 (by kernel_rfl) rfl rfl rfl (by kernel_rfl) (by kernel_rfl) h
def Q_orset_Set_See (a0 : Option (Nat × Nat)) (a1 : AV) (s : AS) (R : AV → AS → Prop) : Prop :=
 ACalls Try.prog F_orset_Set_there [(.ptr a0)] s fun v1 s2 => ∃ b3 : Bool, v1 = .bool b3 ∧ (bsplit (!b3)
 (R (.tup [(.bool false), (.int .i64 1)]) s2)
 (ACalls Try.prog F_slices_ContainsFunc__s_Item_Item [a1, (.func F_orset_Set_See_1 [])] s2 fun v4 s5 => ∃ b6 : Bool, v4 = .bool b6 ∧ (bsplit b6
 (R (.tup [(.bool false), (.int .i64 2)]) s5)
 (ACalls Try.prog F_orset_Set_Copy [(.ptr a0)] s5 fun v7 s8 => ∃ p9 : Option (Nat × Nat), v7 = .ptr p9 ∧ (JoinQ fun J10 =>
 (∀ b11 : Bool, ∀ s12 : AS, J10 [(.bool b11)] s12 →
 JoinQ fun J13 =>
 (∀ b14 : Bool, ∀ s15 : AS, J13 [(.bool b14)] s15 →
 bsplit b14
 (R (.tup [(.bool false), (.int .i64 5)]) s15)
 (AsSome p9 fun l16 o17 => RdL (rdc s15 l16 o17 3) fun g18 => AsSome a0 fun l19 o20 => OkC (some 3) g18 (StQ (awr s15 l19 o20 g18) fun s21 => R (.tup [(.bool b11), (.int .i64 0)]) s21))) ∧
 (AsSome p9 fun l22 o23 => RdM (rd1 s12 l22 (o23 + 1)) fun r24 => RdI .i64 (alenB T Y_m_Dot_Key (.map r24) s12) fun n25 => bsplit (decide ((n25 : Int) > 1024)) (J13 [(.bool true)] s12) (AsSome p9 fun l26 o27 => RdM (rd1 s12 l26 (o27 + 1)) fun r28 => RdI .i64 (alenB T Y_m_Dot_Key (.map r28) s12) fun n29 => AsSome p9 fun l30 o31 => RdM (rd1 s12 l30 (o31 + 2)) fun r32 => RdI .i64 (alenB T Y_m_Dot_struct__is_bool__ (.map r32) s12) fun n33 => J13 [(.bool (decide ((IntKind.wrap .i64 (n29 + n33) : Int) > 4096)))] s12))) ∧
 (RdI .i64 (alenB T Y_s_Item a1 s8) fun n34 => LoopQ fun I35 m36 => I35 m36 [(.bool false), (.int .i64 0)] s8 ∧
 ∀ m37 : Nat, ∀ b38 : Bool, ∀ n39 : Int, ∀ s40 : AS, I35 m37 [(.bool b38), (.int .i64 n39)] s40 →
 bsplit (decide ((n39 : Int) < n34))
 (IxQ (aindexAddr T Y_s_Item a1 (.int .i64 n39)) fun l41 o42 => RdL (rdc s40 l41 o42 5) fun g43 => NewQ (.cells [.int .i64 0, .int .u64 0, .str [], .str [], .bool false] 0 false) s40 fun l44 s45 => OkC (some 5) g43 (StQ (awr s45 l44 0 g43) fun s46 => RdL (rdc s46 l44 0 5) fun g47 => ACalls Try.prog F_orset_Set_see [(.ptr p9), (.agg g47)] s46 fun v48 s49 => ∃ b50 : Bool, ∃ n51 : Int, v48 = .tup [(.bool b50), (.int .i64 n51)] ∧ (bsplit ((n51 : Int) != 0)
 (R (.tup [(.bool false), (.int .i64 n51)]) s49)
 (bsplit b38 (∃ m', m' < m37 ∧ I35 m' [(.bool true), (.int .i64 (IntKind.wrap .i64 (n39 + 1)))] s49) (∃ m', m' < m37 ∧ I35 m' [(.bool b50), (.int .i64 (IntKind.wrap .i64 (n39 + 1)))] s49)))))
 (J10 [(.bool b38)] s40)))))))
def A_orset_Set_See : QA := (.seq .leaf (.seq (.seq .leaf (.cond (.seq .leaf .leaf) .leaf)) (.seq (.seq .leaf (.cond (.seq .leaf .leaf) .leaf)) (.seq .leaf (.seq .leaf (.join [(7, .bool)] [(4, 5), (7, 7), (9, 11), (19, 38)] (.seq .leaf (.wrap (.loop [(7, .bool), (21, .int .i64)] [(4, 5), (7, 7), (9, 11), (21, 38)] (.seq .leaf (.seq (.cond .leaf .leaf) (.seq (.wrap (.seq .leaf (.seq .leaf (.seq (.seq .leaf (.cond (.seq .leaf .leaf) .leaf)) .leaf)))) .leaf)))))) (.seq (.join [(58, .bool)] [(39, 58)] (.draw 16) (.cond (.seq .leaf .leaf) .leaf)) (.seq .leaf (.seq .leaf .leaf)))))))))
theorem q_orset_Set_See (a0 : Option (Nat × Nat)) (a1 : AV) (s : AS) (R : AV → AS → Prop) (h : Q_orset_Set_See a0 a1 s R) : ACalls Try.prog F_orset_Set_See [(.ptr a0), a1] s R :=
 ACalls.q (n := 65) (rs := [.tmp 4, .tmp 5]) (A := A_orset_Set_See) hT hmx Try.func14 (by kernel_rfl) rfl rfl rfl (by kernel_rfl) (by kernel_rfl) h
def Q_orset_Set_Ctx (a0 : Option (Nat × Nat)) (s : AS) (R : AV → AS → Prop) : Prop :=
 ACalls Try.prog F_orset_Set_there [(.ptr a0)] s fun v1 s2 => ∃ b3 : Bool, v1 = .bool b3 ∧ (bsplit (!b3)
 (R (.ptr none) s2)
 (AsSome a0 fun l4 o5 => RdP (rd1 s2 l4 o5) fun p6 => ACalls Try.prog F_ctx_Ctx_Copy [(.ptr p6)] s2 fun v7 s8 => ∃ p9 : Option (Nat × Nat), v7 = .ptr p9 ∧ (R (.ptr p9) s8)))
def A_orset_Set_Ctx : QA := (.seq .leaf (.seq (.seq .leaf (.cond (.seq .leaf .leaf) .leaf)) (.seq .leaf .leaf)))
theorem q_orset_Set_Ctx (a0 : Option (Nat × Nat)) (s : AS) (R : AV → AS → Prop) (h : Q_orset_Set_Ctx a0 s R) : ACalls Try.prog F_orset_Set_Ctx [(.ptr a0)] s R :=
 ACalls.q (n := 11) (rs := [.tmp 2]) (A := A_orset_Set_Ctx) hT hmx Try.func17 (by kernel_rfl) rfl rfl rfl (by kernel_rfl) (by kernel_rfl) h
def Q_orset_Set_Items (a0 : Option (Nat × Nat)) (s : AS) (R : AV → AS → Prop) : Prop :=
 ACalls Try.prog F_orset_Set_there [(.ptr a0)] s fun v1 s2 => ∃ b3 : Bool, v1 = .bool b3 ∧ (bsplit (!b3)
 (R (.slc none 0 0 true) s2)
 (JoinQ fun J4 =>
 (∀ v5 : AV, ∀ s6 : AS, J4 [v5] s6 →
 ACalls Try.prog F_orset_Set_Tombs [(.ptr a0)] s6 fun v7 s8 => ACalls Try.prog F_orset_gone [v7] s8 fun v9 s10 => Bd2 (aappend T Y_s_Item Y_s_Item v5 v9 s10) fun v11 s12 => ACalls Try.prog F_slices_SortFunc__s_Item_Item [v11, (.func F_orset_Set_Items_1 [])] s12 fun v13 s14 => v13 = .tup [] ∧ (R v11 s14)) ∧
 (AsSome a0 fun l15 o16 => RdM (rd1 s2 l15 (o16 + 1)) fun r17 => Bd2 (arange T Y_m_Dot_Key (.map r17) s2) fun v18 s19 => LoopQ fun I20 m21 => I20 m21 [(.slc none 0 0 true)] s19 ∧
 ∀ m22 : Nat, ∀ v23 : AV, ∀ s24 : AS, I20 m22 [v23] s24 →
 JoinQ fun J25 =>
 (∀ b26 : Bool, ∀ s27 : AS, J25 [(.bool b26)] s27 →
 bsplit b26
 (RdE (aentry v18 s27) fun v28 v29 => ∃ g30 : List AV, v28 = .agg g30 ∧ (∃ g31 : List AV, v29 = .agg g31 ∧ (NewQ (.cells [.int .i64 0, .int .u64 0] 0 false) s27 fun l32 s33 => NewQ (.cells [.str [], .str []] 0 false) s33 fun l34 s35 => OkC (some 2) g30 (StQ (awr s35 l32 0 g30) fun s36 => OkC (some 2) g31 (StQ (awr s36 l34 0 g31) fun s37 => RdL (rdc s37 l32 0 2) fun g38 => RdL (rdc s37 l34 0 2) fun g39 => RdG (abuild T Y_Item [(0, (.agg g38)), (1, (.agg g39))]) fun g40 => RdL (absl T Y_s_Item 1 [(0, (.agg g40))]) fun g41 => NewQ (.cells g41 0 false) s37 fun l42 s43 => Bd2 (aappend T Y_s_Item Y_s_Item v23 (.slc (some (l42, 0)) 1 1 true) s43) fun v44 s45 => ∃ m', m' < m22 ∧ I20 m' [v44] s45)))))
 (J4 [v23] s27)) ∧
 (NextP (acandM v18 s24)
 (J25 [(.bool false)] s24)
 fun v46 v47 s48 => J25 [(.bool true)] s48))))
def A_orset_Set_Items : QA := (.seq .leaf (.seq (.seq .leaf (.cond (.seq .leaf .leaf) .leaf)) (.seq .leaf (.join [(3, .any)] [(3, 5), (9, 24)] (.seq .leaf (.wrap (.loop [(3, .any)] [(3, 5), (14, 24)] (.join [(15, .bool)] [(14, 15)] .leaf (.seq (.cond .leaf .leaf) (.wrap (.seq .leaf .leaf))))))) (.seq .leaf (.seq .leaf (.seq .leaf .leaf)))))))
theorem q_orset_Set_Items (a0 : Option (Nat × Nat)) (s : AS) (R : AV → AS → Prop) (h : Q_orset_Set_Items a0 s R) : ACalls Try.prog F_orset_Set_Items [(.ptr a0)] s R :=
 ACalls.q (n := 33) (rs := [.tmp 2]) (A := A_orset_Set_Items) hT hmx Try.func43 (by kernel_rfl) rfl rfl rfl (by kernel_rfl) (by kernel_rfl) h
def Q_orset_Set_there (a0 : Option (Nat × Nat)) (s : AS) (R : AV → AS → Prop) : Prop :=
 RdO (aeq T 100 Y_p_orset_Set (.ptr a0) (.ptr none)) fun b1 => bsplit (!b1) (AsSome a0 fun l2 o3 => RdP (rd1 s l2 o3) fun p4 => RdO (aeq T 100 Y_p_ctx_Ctx (.ptr p4) (.ptr none)) fun b5 => R (.bool (!b5)) s) (R (.bool false) s)
def A_orset_Set_there : QA := (.seq .leaf (.seq .leaf .leaf))
theorem q_orset_Set_there (a0 : Option (Nat × Nat)) (s : AS) (R : AV → AS → Prop) (h : Q_orset_Set_there a0 s R) : ACalls Try.prog F_orset_Set_there [(.ptr a0)] s R :=
 ACalls.q (n := 12) (rs := [.tmp 2]) (A := A_orset_Set_there) hT hmx Try.func46 (by kernel_rfl) rfl rfl rfl (by kernel_rfl) (by kernel_rfl) h
def Q_slices_SortedFunc__Dot (a0 : AV) (a1 : AV) (s : AS) (R : AV → AS → Prop) : Prop :=
 ACalls Try.prog F_slices_Collect__Dot [a0] s fun v1 s2 => ACalls Try.prog F_slices_SortFunc__s_Dot_Dot [v1, a1] s2 fun v3 s4 => v3 = .tup [] ∧ (R v1 s4)
def A_slices_SortedFunc__Dot : QA := (.seq .leaf (.seq .leaf (.seq .leaf (.seq .leaf .leaf))))
theorem q_slices_SortedFunc__Dot (a0 : AV) (a1 : AV) (s : AS) (R : AV → AS → Prop) (h : Q_slices_SortedFunc__Dot a0 a1 s R) : ACalls Try.prog F_slices_SortedFunc__Dot [a0, a1] s R :=
 ACalls.q (n := 12) (rs := [.tmp 4]) (A := A_slices_SortedFunc__Dot) hT hmx Try.func47 (by kernel_rfl) rfl rfl rfl (by kernel_rfl) (by kernel_rfl) h
def Q_maps_Keys__m_Dot_struct_is_bool__Dot_struct_is_bool (a0 : Option Nat) (s : AS) (R : AV → AS → Prop) : Prop :=
 NewQ (.cells [(.map a0)] 0 false) s fun l1 s2 => R (.func F_maps_Keys__m_Dot_struct_is_bool__Dot_struct_is_bool__1 [(.ptr (some (l1, 0)))]) s2
def A_maps_Keys__m_Dot_struct_is_bool__Dot_struct_is_bool : QA := (.seq .leaf (.seq .leaf .leaf))
theorem q_maps_Keys__m_Dot_struct_is_bool__Dot_struct_is_bool (a0 : Option Nat) (s : AS) (R : AV → AS → Prop) (h : Q_maps_Keys__m_Dot_struct_is_bool__Dot_struct_is_bool a0 s R) : ACalls Try.prog F_maps_Keys__m_Dot_struct_is_bool__Dot_struct_is_bool [(.map a0)] s R :=
 ACalls.q (n := 4) (rs := [.tmp 2]) (A := A_maps_Keys__m_Dot_struct_is_bool__Dot_struct_is_bool) hT hmx Try.func48 (by kernel_rfl) rfl rfl rfl (by kernel_rfl) (by kernel_rfl) h
def Q_orset_MayKey (a0 : List AV) (s : AS) (R : AV → AS → Prop) : Prop :=
 One1 a0 (NewQ (.cells a0 0 false) s fun l1 s2 => RdS (rd1 s2 l1 0) fun x3 => ACalls Try.prog F_orset_name [(.str x3)] s2 fun v4 s5 => ∃ b6 : Bool, v4 = .bool b6 ∧ (bsplit b6 (RdS (rd1 s5 l1 1) fun x7 => ACalls Try.prog F_orset_name [(.str x7)] s5 fun v8 s9 => ∃ b10 : Bool, v8 = .bool b10 ∧ (R (.bool b10) s9)) (R (.bool false) s5)))
def A_orset_MayKey : QA := (.seq .leaf (.seq .leaf .leaf))
theorem q_orset_MayKey (a0 : List AV) (s : AS) (R : AV → AS → Prop) (h : Q_orset_MayKey a0 s R) : ACalls Try.prog F_orset_MayKey [(.agg a0)] s R :=
 ACalls.q (n := 11) (rs := [.tmp 2]) (A := A_orset_MayKey) hT hmx Try.func53 (by kernel_rfl) rfl rfl rfl (by kernel_rfl) (by kernel_rfl) h
def Q_orset_gone (a0 : AV) (s : AS) (R : AV → AS → Prop) : Prop :=
 RdI .i64 (alenB T Y_s_Dot a0 s) fun n1 => LoopQ fun I2 m3 => I2 m3 [(.slc none 0 0 true), (.int .i64 0)] s ∧
 ∀ m4 : Nat, ∀ v5 : AV, ∀ n6 : Int, ∀ s7 : AS, I2 m4 [v5, (.int .i64 n6)] s7 →
 bsplit (decide ((n6 : Int) < n1))
 (IxQ (aindexAddr T Y_s_Dot a0 (.int .i64 n6)) fun l8 o9 => RdL (rdc s7 l8 o9 2) fun g10 => NewQ (.cells [.int .i64 0, .int .u64 0] 0 false) s7 fun l11 s12 => OkC (some 2) g10 (StQ (awr s12 l11 0 g10) fun s13 => RdL (rdc s13 l11 0 2) fun g14 => RdG (abuild T Y_Item [(0, (.agg g14)), (2, (.bool true))]) fun g15 => RdL (absl T Y_s_Item 1 [(0, (.agg g15))]) fun g16 => NewQ (.cells g16 0 false) s13 fun l17 s18 => Bd2 (aappend T Y_s_Item Y_s_Item v5 (.slc (some (l17, 0)) 1 1 true) s18) fun v19 s20 => ∃ m', m' < m4 ∧ I2 m' [v19, (.int .i64 (IntKind.wrap .i64 (n6 + 1)))] s20))
 (R v5 s7)
def A_orset_gone : QA := (.seq .leaf (.seq .leaf (.seq (.seq .leaf (.wrap (.loop [(3, .any), (8, .int .i64)] [(3, 3), (5, 5), (8, 17)] (.seq .leaf (.seq (.cond .leaf .leaf) (.seq (.wrap (.seq .leaf .leaf)) .leaf)))))) (.seq .leaf .leaf))))
theorem q_orset_gone (a0 : AV) (s : AS) (R : AV → AS → Prop) (h : Q_orset_gone a0 s R) : ACalls Try.prog F_orset_gone [a0] s R :=
 ACalls.q (n := 19) (rs := [.tmp 2]) (A := A_orset_gone) hT hmx Try.func58 (by kernel_rfl) rfl rfl rfl (by kernel_rfl) (by kernel_rfl) h
def Q_slices_ContainsFunc__s_Item_Item (a0 : AV) (a1 : AV) (s : AS) (R : AV → AS → Prop) : Prop :=
 ACalls Try.prog F_slices_IndexFunc__s_Item_Item [a0, a1] s fun v1 s2 => ∃ n3 : Int, v1 = .int .i64 n3 ∧ (R (.bool (decide ((n3 : Int) ≥ 0))) s2)
def A_slices_ContainsFunc__s_Item_Item : QA := (.seq .leaf (.seq .leaf .leaf))
theorem q_slices_ContainsFunc__s_Item_Item (a0 : AV) (a1 : AV) (s : AS) (R : AV → AS → Prop) (h : Q_slices_ContainsFunc__s_Item_Item a0 a1 s R) : ACalls Try.prog F_slices_ContainsFunc__s_Item_Item [a0, a1] s R :=
 ACalls.q (n := 9) (rs := [.tmp 4]) (A := A_slices_ContainsFunc__s_Item_Item) hT hmx Try.func59 (by kernel_rfl) rfl rfl rfl (by kernel_rfl) (by kernel_rfl) h
def Q_orset_Set_See_1 (a0 : List AV) (s : AS) (R : AV → AS → Prop) : Prop :=
 One1 a0 (NewQ (.cells a0 0 false) s fun l1 s2 => RdL (rdc s2 l1 0 5) fun g3 => ACalls Try.prog F_orset_May [(.agg g3)] s2 fun v4 s5 => ∃ b6 : Bool, v4 = .bool b6 ∧ (R (.bool (!b6)) s5))
def A_orset_Set_See_1 : QA := (.seq .leaf (.seq .leaf .leaf))
theorem q_orset_Set_See_1 (a0 : List AV) (s : AS) (R : AV → AS → Prop) (h : Q_orset_Set_See_1 a0 s R) : ACalls Try.prog F_orset_Set_See_1 [(.agg a0)] s R :=
 ACalls.q (n := 6) (rs := [.tmp 2]) (A := A_orset_Set_See_1) hT hmx Try.func60 (by kernel_rfl) rfl rfl rfl (by kernel_rfl) (by kernel_rfl) h
def Q_orset_May (a0 : List AV) (s : AS) (R : AV → AS → Prop) : Prop :=
 One1 a0 (NewQ (.cells a0 0 false) s fun l1 s2 => RdB (rd1 s2 l1 4) fun b3 => bsplit b3
 (RdL (rdc s2 l1 0 2) fun g4 => ACalls Try.prog F_ctx_May [(.agg g4)] s2 fun v5 s6 => ∃ b7 : Bool, v5 = .bool b7 ∧ (bsplit b7 (RdL (rdc s6 l1 2 2) fun g8 => RdG (abuild T Y_Key []) fun g9 => RdO (aeq T 100 Y_Key (.agg g8) (.agg g9)) fun b10 => R (.bool b10) s6) (R (.bool false) s6)))
 (RdL (rdc s2 l1 0 2) fun g11 => ACalls Try.prog F_ctx_May [(.agg g11)] s2 fun v12 s13 => ∃ b14 : Bool, v12 = .bool b14 ∧ (bsplit b14 (RdL (rdc s13 l1 2 2) fun g15 => ACalls Try.prog F_orset_MayKey [(.agg g15)] s13 fun v16 s17 => ∃ b18 : Bool, v16 = .bool b18 ∧ (R (.bool b18) s17)) (R (.bool false) s13))))
def A_orset_May : QA := (.seq .leaf (.seq (.seq .leaf (.cond (.seq .leaf .leaf) .leaf)) (.seq .leaf .leaf)))
theorem q_orset_May (a0 : List AV) (s : AS) (R : AV → AS → Prop) (h : Q_orset_May a0 s R) : ACalls Try.prog F_orset_May [(.agg a0)] s R :=
 ACalls.q (n := 22) (rs := [.tmp 2]) (A := A_orset_May) hT hmx Try.func61 (by kernel_rfl) rfl rfl rfl (by kernel_rfl) (by kernel_rfl) h
def Q_orset_Set_Copy (a0 : Option (Nat × Nat)) (s : AS) (R : AV → AS → Prop) : Prop :=
 ACalls Try.prog F_orset_Set_there [(.ptr a0)] s fun v1 s2 => ∃ b3 : Bool, v1 = .bool b3 ∧ (bsplit (!b3)
 (R (.ptr none) s2)
 (DrawQ fun S V => AsSome a0 fun l4 o5 => RdP (rd1 s2 l4 o5) fun p6 => (∀ s7 : AS, Ext s2 s7 → WFs s7 → (True) → ACalls Try.prog F_ctx_Ctx_Copy [(.ptr p6)] s7 fun v8 s9 => ∃ p10 : Option (Nat × Nat), v8 = .ptr p10 ∧ ((Ext s7 s9 ∧ S 4 [(.func F_ctx_Ctx_Copy []), (.ptr p6)] (.ptr p10) s9 ∧ V 4 [(.func F_ctx_Ctx_Copy []), (.ptr p6)] (.ptr p10)))) ∧ (∃ v, V 4 [(.func F_ctx_Ctx_Copy []), (.ptr p6)] v) ∧ ∀ v11 : AV, V 4 [(.func F_ctx_Ctx_Copy []), (.ptr p6)] v11 → ∃ p12 : Option (Nat × Nat), v11 = .ptr p12 ∧ (AsSome a0 fun l13 o14 => RdM (rd1 s2 l13 (o14 + 1)) fun r15 => (∀ s16 : AS, Ext s2 s16 → WFs s16 → (S 4 [(.func F_ctx_Ctx_Copy []), (.ptr p6)] (.ptr p12) s16 ∧ True) → ACalls Try.prog F_maps_Clone__m_Dot_Key_Dot_Key [(.map r15)] s16 fun v17 s18 => ∃ r19 : Option Nat, v17 = .map r19 ∧ ((Ext s16 s18 ∧ S 9 [(.func F_maps_Clone__m_Dot_Key_Dot_Key []), (.map r15)] (.map r19) s18 ∧ V 9 [(.func F_maps_Clone__m_Dot_Key_Dot_Key []), (.map r15)] (.map r19)))) ∧ (∃ v, V 9 [(.func F_maps_Clone__m_Dot_Key_Dot_Key []), (.map r15)] v) ∧ ∀ v20 : AV, V 9 [(.func F_maps_Clone__m_Dot_Key_Dot_Key []), (.map r15)] v20 → ∃ r21 : Option Nat, v20 = .map r21 ∧ (AsSome a0 fun l22 o23 => RdM (rd1 s2 l22 (o23 + 2)) fun r24 => ∀ s25 : AS, Ext s2 s25 → WFs s25 → (S 4 [(.func F_ctx_Ctx_Copy []), (.ptr p6)] (.ptr p12) s25 ∧ (S 9 [(.func F_maps_Clone__m_Dot_Key_Dot_Key []), (.map r15)] (.map r21) s25 ∧ True)) → ACalls Try.prog F_maps_Clone__m_Dot_struct_is_bool__Dot_struct_is_bool [(.map r24)] s25 fun v27 s28 => ∃ r29 : Option Nat, v27 = .map r29 ∧ (RdG (abuild T Y_orset_Set [(0, (.ptr p12)), (1, (.map r21)), (2, (.map r29))]) fun g30 => One1 g30 (NewQ (.cells g30 0 false) s28 fun l31 s32 => R (.ptr (some (l31, 0))) s32))))))
def A_orset_Set_Copy : QA := (.seq .leaf (.seq (.seq .leaf (.cond (.seq .leaf .leaf) .leaf)) (.seq (.drawH 14 [[], [], [], [], [], [], [], [], [], [4], [], [], [], []] [4, 9]) .leaf)))
theorem q_orset_Set_Copy (a0 : Option (Nat × Nat)) (s : AS) (R : AV → AS → Prop) (h : Q_orset_Set_Copy a0 s R) : ACalls Try.prog F_orset_Set_Copy [(.ptr a0)] s R :=
 ACalls.q (n := 23) (rs := [.tmp 2]) (A := A_orset_Set_Copy) hT hmx Try.func62 (by kernel_rfl) rfl rfl rfl (by kernel_rfl) (by kernel_rfl) h
def Q_orset_Set_see (a0 : Option (Nat × Nat)) (a1 : List AV) (s : AS) (R : AV → AS → Prop) : Prop :=
 One1 a1 (NewQ (.cells a1 0 false) s fun l1 s2 => AsSome a0 fun l3 o4 => RdM (rd1 s2 l3 (o4 + 1)) fun r5 => RdL (rdc s2 l1 0 2) fun g6 => ∃ g7 : List AV, ∃ b8 : Bool, alookup T Y_m_Dot_Key (.map r5) (.agg g6) true s2 = some (.tup [(.agg g7), (.bool b8)]) ∧ (NewQ (.cells [.str [], .str []] 0 false) s2 fun l9 s10 => OkC (some 2) g7 (StQ (awr s10 l9 0 g7) fun s11 => JoinQ fun J12 =>
 (∀ b13 : Bool, ∀ s14 : AS, J12 [(.bool b13)] s14 →
 bsplit b13
 (AsSome a0 fun l15 o16 => RdM (rd1 s14 l15 (o16 + 1)) fun r17 => RdL (rdc s14 l1 0 2) fun g18 => StQ (adelete T Y_m_Dot_Key (.map r17) (.agg g18) s14) fun s19 => AsSome a0 fun l20 o21 => RdM (rd1 s19 l20 (o21 + 2)) fun r22 => RdL (rdc s19 l1 0 2) fun g23 => RdG (abuild T Y_struct__is_bool__ [(0, (.bool true))]) fun g24 => StQ (amapUpdate T Y_m_Dot_struct__is_bool__ (.map r22) (.agg g23) (.agg g24) s19) fun s25 => R (.tup [(.bool true), (.int .i64 0)]) s25)
 (AsSome a0 fun l26 o27 => RdP (rd1 s14 l26 o27) fun p28 => RdL (rdc s14 l1 0 2) fun g29 => ACalls Try.prog F_ctx_Ctx_Add [(.ptr p28), (.agg g29)] s14 fun v30 s31 => ∃ b32 : Bool, ∃ n33 : Int, v30 = .tup [(.bool b32), (.int .i64 n33)] ∧ (JoinQ fun J34 =>
 (∀ b35 : Bool, ∀ s36 : AS, J34 [(.bool b35)] s36 →
 bsplit b35
 (R (.tup [(.bool false), (.int .i64 n33)]) s36)
 (RdB (rd1 s36 l1 4) fun b37 => bsplit b37
 (AsSome a0 fun l38 o39 => RdM (rd1 s36 l38 (o39 + 2)) fun r40 => RdL (rdc s36 l1 0 2) fun g41 => RdG (abuild T Y_struct__is_bool__ [(0, (.bool true))]) fun g42 => StQ (amapUpdate T Y_m_Dot_struct__is_bool__ (.map r40) (.agg g41) (.agg g42) s36) fun s43 => R (.tup [(.bool true), (.int .i64 0)]) s43)
 (AsSome a0 fun l44 o45 => RdM (rd1 s36 l44 (o45 + 1)) fun r46 => RdL (rdc s36 l1 0 2) fun g47 => RdL (rdc s36 l1 2 2) fun g48 => StQ (amapUpdate T Y_m_Dot_Key (.map r46) (.agg g47) (.agg g48) s36) fun s49 => R (.tup [(.bool true), (.int .i64 0)]) s49))) ∧
 (bsplit ((n33 : Int) != 0) (J34 [(.bool true)] s31) (J34 [(.bool (!b32))] s31))))) ∧
 (bsplit b8 (RdB (rd1 s11 l1 4) fun b50 => J12 [(.bool b50)] s11) (J12 [(.bool false)] s11)))))
def A_orset_Set_see : QA := (.seq .leaf (.seq .calm (.seq (.join [(24, .bool)] [(20, 24)] .leaf (.cond (.seq (.draw 6) (.seq (.draw 7) (.seq .leaf .leaf))) .leaf)) (.seq .calm (.seq (.wrap (.join [(56, .bool)] [(56, 62)] .leaf (.cond (.seq .leaf .leaf) (.seq .leaf (.cond (.draw 7) (.draw 8)))))) (.seq .leaf .leaf))))))
theorem q_orset_Set_see (a0 : Option (Nat × Nat)) (a1 : List AV) (s : AS) (R : AV → AS → Prop) (h : Q_orset_Set_see a0 a1 s R) : ACalls Try.prog F_orset_Set_see [(.ptr a0), (.agg a1)] s R :=
 ACalls.q (n := 74) (rs := [.tmp 4, .tmp 5]) (A := A_orset_Set_see) hT hmx Try.func63 (by kernel_rfl) rfl rfl rfl (by kernel_rfl) (by kernel_rfl) h
def Q_orset_Set_Keys_1 (a0 : List AV) (a1 : List AV) (s : AS) (R : AV → AS → Prop) : Prop :=
 One1 a0 (NewQ (.cells a0 0 false) s fun l1 s2 => One1 a1 (NewQ (.cells a1 0 false) s2 fun l3 s4 => DrawQ fun S V => RdS (rd1 s4 l1 0) fun x5 => RdS (rd1 s4 l3 0) fun x6 => (∀ s7 : AS, Ext s4 s7 → WFs s7 → (True) → ACalls Try.prog F_cmp_Compare__string [(.str x5), (.str x6)] s7 fun v8 s9 => ∃ n10 : Int, v8 = .int .i64 n10 ∧ ((Ext s7 s9 ∧ S 4 [(.func F_cmp_Compare__string []), (.str x5), (.str x6)] (.int .i64 n10) s9 ∧ V 4 [(.func F_cmp_Compare__string []), (.str x5), (.str x6)] (.int .i64 n10)))) ∧ (∃ v, V 4 [(.func F_cmp_Compare__string []), (.str x5), (.str x6)] v) ∧ ∀ v11 : AV, V 4 [(.func F_cmp_Compare__string []), (.str x5), (.str x6)] v11 → ∃ n12 : Int, v11 = .int .i64 n12 ∧ (RdS (rd1 s4 l1 1) fun x13 => RdS (rd1 s4 l3 1) fun x14 => ∀ s15 : AS, Ext s4 s15 → WFs s15 → (S 4 [(.func F_cmp_Compare__string []), (.str x5), (.str x6)] (.int .i64 n12) s15 ∧ True) → ACalls Try.prog F_cmp_Compare__string [(.str x13), (.str x14)] s15 fun v17 s18 => ∃ n19 : Int, v17 = .int .i64 n19 ∧ (RdL (absl T Y_s_int 2 [(0, (.int .i64 n12)), (1, (.int .i64 n19))]) fun g20 => NewQ (.cells g20 0 false) s18 fun l21 s22 => ACalls Try.prog F_cmp_Or__int [(.slc (some (l21, 0)) 2 2 true)] s22 fun v23 s24 => ∃ n25 : Int, v23 = .int .i64 n25 ∧ (R (.int .i64 n25) s24)))))
def A_orset_Set_Keys_1 : QA := (.seq .leaf (.seq (.drawH 9 [[], [], [], [], [], [], [], [], []] [4]) .leaf))
theorem q_orset_Set_Keys_1 (a0 : List AV) (a1 : List AV) (s : AS) (R : AV → AS → Prop) (h : Q_orset_Set_Keys_1 a0 a1 s R) : ACalls Try.prog F_orset_Set_Keys_1 [(.agg a0), (.agg a1)] s R :=
 ACalls.q (n := 17) (rs := [.tmp 4]) (A := A_orset_Set_Keys_1) hT hmx Try.func71 (by kernel_rfl) rfl rfl rfl (by kernel_rfl) (by kernel_rfl) h
def Q_cmp_Compare__string (a0 : List UInt8) (a1 : List UInt8) (s : AS) (R : AV → AS → Prop) : Prop :=
 ACalls Try.prog F_cmp_isNaN__string [(.str a0)] s fun v1 s2 => ∃ b3 : Bool, v1 = .bool b3 ∧ (ACalls Try.prog F_cmp_isNaN__string [(.str a1)] s2 fun v4 s5 => ∃ b6 : Bool, v4 = .bool b6 ∧ (bsplit b3
 (bsplit b6
 (R (.int .i64 0) s5)
 (R (.int .i64 (-1)) s5))
 (bsplit b6
 (R (.int .i64 1) s5)
 (bsplit (bytesLt a0 a1)
 (R (.int .i64 (-1)) s5)
 (bsplit (!(bytesLt a0 a1 || (a0 : List UInt8) == a1))
 (R (.int .i64 1) s5)
 (R (.int .i64 0) s5))))))
def A_cmp_Compare__string : QA := (.seq .leaf (.seq .leaf (.seq .leaf (.seq (.seq .leaf (.cond (.seq (.seq .leaf (.cond (.seq .leaf .leaf) .leaf)) (.seq .leaf .leaf)) .leaf)) (.seq (.seq .leaf (.cond (.seq .leaf .leaf) .leaf)) (.seq (.seq .leaf (.cond (.seq .leaf .leaf) .leaf)) (.seq (.seq .leaf (.cond (.seq .leaf .leaf) .leaf)) (.seq .leaf .leaf))))))))
theorem q_cmp_Compare__string (a0 : List UInt8) (a1 : List UInt8) (s : AS) (R : AV → AS → Prop) (h : Q_cmp_Compare__string a0 a1 s R) : ACalls Try.prog F_cmp_Compare__string [(.str a0), (.str a1)] s R :=
 ACalls.q (n := 20) (rs := [.tmp 4]) (A := A_cmp_Compare__string) hT hmx Try.func73 (by kernel_rfl) rfl rfl rfl (by kernel_rfl) (by kernel_rfl) h
def Q_slices_IndexFunc__s_Item_Item (a0 : AV) (a1 : AV) (s : AS) (R : AV → AS → Prop) : Prop :=
 RdI .i64 (alenB T Y_s_Item a0 s) fun n1 => LoopQ fun I2 m3 => I2 m3 [(.int .i64 0)] s ∧
 ∀ m4 : Nat, ∀ n5 : Int, ∀ s6 : AS, I2 m4 [(.int .i64 n5)] s6 →
 bsplit (decide ((n5 : Int) < n1))
 (IxQ (aindexAddr T Y_s_Item a0 (.int .i64 n5)) fun l7 o8 => RdL (rdc s6 l7 o8 5) fun g9 => ACallV Try.prog a1 [(.agg g9)] s6 fun v10 s11 => ∃ b12 : Bool, v10 = .bool b12 ∧ (bsplit b12
 (R (.int .i64 n5) s11)
 (∃ m', m' < m4 ∧ I2 m' [(.int .i64 (IntKind.wrap .i64 (n5 + 1)))] s11)))
 (R (.int .i64 (-1)) s6)
def A_slices_IndexFunc__s_Item_Item : QA := (.seq .leaf (.seq (.seq .leaf (.wrap (.loop [(8, .int .i64)] [(4, 5), (8, 18)] (.seq .leaf (.seq (.cond .leaf .leaf) (.seq (.wrap (.seq .leaf (.seq .leaf (.cond (.seq .leaf .leaf) .leaf)))) .leaf)))))) (.seq .leaf .leaf)))
theorem q_slices_IndexFunc__s_Item_Item (a0 : AV) (a1 : AV) (s : AS) (R : AV → AS → Prop) (h : Q_slices_IndexFunc__s_Item_Item a0 a1 s R) : ACalls Try.prog F_slices_IndexFunc__s_Item_Item [a0, a1] s R :=
 ACalls.q (n := 19) (rs := [.tmp 4]) (A := A_slices_IndexFunc__s_Item_Item) hT hmx Try.func84 (by kernel_rfl) rfl rfl rfl (by kernel_rfl) (by kernel_rfl) h
def Q_orset_Set_Items_1 (a0 : List AV) (a1 : List AV) (s : AS) (R : AV → AS → Prop) : Prop :=
 One1 a0 (NewQ (.cells a0 0 false) s fun l1 s2 => One1 a1 (NewQ (.cells a1 0 false) s2 fun l3 s4 => RdL (rdc s4 l1 0 2) fun g5 => RdL (rdc s4 l3 0 2) fun g6 => ACalls Try.prog F_orset_order [(.agg g5), (.agg g6)] s4 fun v7 s8 => ∃ n9 : Int, v7 = .int .i64 n9 ∧ (R (.int .i64 n9) s8)))
def A_orset_Set_Items_1 : QA := (.seq .leaf (.seq .leaf .leaf))
theorem q_orset_Set_Items_1 (a0 : List AV) (a1 : List AV) (s : AS) (R : AV → AS → Prop) (h : Q_orset_Set_Items_1 a0 a1 s R) : ACalls Try.prog F_orset_Set_Items_1 [(.agg a0), (.agg a1)] s R :=
 ACalls.q (n := 10) (rs := [.tmp 4]) (A := A_orset_Set_Items_1) hT hmx Try.func86 (by kernel_rfl) rfl rfl rfl (by kernel_rfl) (by kernel_rfl) h
def Q_slices_Collect__Dot (a0 : AV) (s : AS) (R : AV → AS → Prop) : Prop :=
 ACalls Try.prog F_slices_AppendSeq__s_Dot_Dot [(.slc none 0 0 true), a0] s fun v1 s2 => R v1 s2
def A_slices_Collect__Dot : QA := (.seq .leaf (.seq .leaf .leaf))
theorem q_slices_Collect__Dot (a0 : AV) (s : AS) (R : AV → AS → Prop) (h : Q_slices_Collect__Dot a0 s R) : ACalls Try.prog F_slices_Collect__Dot [a0] s R :=
 ACalls.q (n := 5) (rs := [.tmp 2]) (A := A_slices_Collect__Dot) hT hmx Try.func87 (by kernel_rfl) rfl rfl rfl (by kernel_rfl) (by kernel_rfl) h
def Q_orset_name (a0 : List UInt8) (s : AS) (R : AV → AS → Prop) : Prop :=
 RdI .i64 (alenB T Y_string (.str a0) s) fun n1 => bsplit (decide ((n1 : Int) ≥ 1)) (RdI .i64 (alenB T Y_string (.str a0) s) fun n2 => R (.bool (decide ((n2 : Int) ≤ 32))) s) (R (.bool false) s)
def A_orset_name : QA := (.seq .leaf (.seq .leaf .leaf))
theorem q_orset_name (a0 : List UInt8) (s : AS) (R : AV → AS → Prop) (h : Q_orset_name a0 s R) : ACalls Try.prog F_orset_name [(.str a0)] s R :=
 ACalls.q (n := 11) (rs := [.tmp 2]) (A := A_orset_name) hT hmx Try.func92 (by kernel_rfl) rfl rfl rfl (by kernel_rfl) (by kernel_rfl) h
def Q_cmp_isNaN__string (a0 : List UInt8) (s : AS) (R : AV → AS → Prop) : Prop :=
 R (.bool (!((a0 : List UInt8) == a0))) s
def A_cmp_isNaN__string : QA := (.seq .leaf (.seq .leaf .leaf))
theorem q_cmp_isNaN__string (a0 : List UInt8) (s : AS) (R : AV → AS → Prop) (h : Q_cmp_isNaN__string a0 s R) : ACalls Try.prog F_cmp_isNaN__string [(.str a0)] s R :=
 ACalls.q (n := 6) (rs := [.tmp 2]) (A := A_cmp_isNaN__string) hT hmx Try.func102 (by kernel_rfl) rfl rfl rfl (by kernel_rfl) (by kernel_rfl) h
def Q_orset_order (a0 : List AV) (a1 : List AV) (s : AS) (R : AV → AS → Prop) : Prop :=
 One1 a0 (NewQ (.cells a0 0 false) s fun l1 s2 => One1 a1 (NewQ (.cells a1 0 false) s2 fun l3 s4 => DrawQ fun S V => RdI .i64 (rd1 s4 l1 0) fun n5 => RdI .i64 (rd1 s4 l3 0) fun n6 => (∀ s7 : AS, Ext s4 s7 → WFs s7 → (True) → ACalls Try.prog F_cmp_Compare__int [(.int .i64 n5), (.int .i64 n6)] s7 fun v8 s9 => ∃ n10 : Int, v8 = .int .i64 n10 ∧ ((Ext s7 s9 ∧ S 4 [(.func F_cmp_Compare__int []), (.int .i64 n5), (.int .i64 n6)] (.int .i64 n10) s9 ∧ V 4 [(.func F_cmp_Compare__int []), (.int .i64 n5), (.int .i64 n6)] (.int .i64 n10)))) ∧ (∃ v, V 4 [(.func F_cmp_Compare__int []), (.int .i64 n5), (.int .i64 n6)] v) ∧ ∀ v11 : AV, V 4 [(.func F_cmp_Compare__int []), (.int .i64 n5), (.int .i64 n6)] v11 → ∃ n12 : Int, v11 = .int .i64 n12 ∧ (RdI .u64 (rd1 s4 l1 1) fun n13 => RdI .u64 (rd1 s4 l3 1) fun n14 => ∀ s15 : AS, Ext s4 s15 → WFs s15 → (S 4 [(.func F_cmp_Compare__int []), (.int .i64 n5), (.int .i64 n6)] (.int .i64 n12) s15 ∧ True) → ACalls Try.prog F_cmp_Compare__uint64 [(.int .u64 n13), (.int .u64 n14)] s15 fun v17 s18 => ∃ n19 : Int, v17 = .int .i64 n19 ∧ (RdL (absl T Y_s_int 2 [(0, (.int .i64 n12)), (1, (.int .i64 n19))]) fun g20 => NewQ (.cells g20 0 false) s18 fun l21 s22 => ACalls Try.prog F_cmp_Or__int [(.slc (some (l21, 0)) 2 2 true)] s22 fun v23 s24 => ∃ n25 : Int, v23 = .int .i64 n25 ∧ (R (.int .i64 n25) s24)))))
def A_orset_order : QA := (.seq .leaf (.seq (.drawH 9 [[], [], [], [], [], [], [], [], []] [4]) .leaf))
theorem q_orset_order (a0 : List AV) (a1 : List AV) (s : AS) (R : AV → AS → Prop) (h : Q_orset_order a0 a1 s R) : ACalls Try.prog F_orset_order [(.agg a0), (.agg a1)] s R :=
 ACalls.q (n := 17) (rs := [.tmp 4]) (A := A_orset_order) hT hmx Try.func49 (by kernel_rfl) rfl rfl rfl (by kernel_rfl) (by kernel_rfl) h
def Q_orset_Set_Tombs (a0 : Option (Nat × Nat)) (s : AS) (R : AV → AS → Prop) : Prop :=
 ACalls Try.prog F_orset_Set_there [(.ptr a0)] s fun v1 s2 => ∃ b3 : Bool, v1 = .bool b3 ∧ (bsplit (!b3)
 (R (.slc none 0 0 true) s2)
 (AsSome a0 fun l4 o5 => RdM (rd1 s2 l4 (o5 + 2)) fun r6 => ACalls Try.prog F_maps_Keys__m_Dot_struct_is_bool__Dot_struct_is_bool [(.map r6)] s2 fun v7 s8 => ACalls Try.prog F_slices_SortedFunc__Dot [v7, (.func F_orset_order [])] s8 fun v9 s10 => R v9 s10))
def A_orset_Set_Tombs : QA := (.seq .leaf (.seq (.seq .leaf (.cond (.seq .leaf .leaf) .leaf)) (.seq .leaf .leaf)))
theorem q_orset_Set_Tombs (a0 : Option (Nat × Nat)) (s : AS) (R : AV → AS → Prop) (h : Q_orset_Set_Tombs a0 s R) : ACalls Try.prog F_orset_Set_Tombs [(.ptr a0)] s R :=
 ACalls.q (n := 12) (rs := [.tmp 2]) (A := A_orset_Set_Tombs) hT hmx Try.func9 (by kernel_rfl) rfl rfl rfl (by kernel_rfl) (by kernel_rfl) h
def Q_slices_DeleteFunc__s_Item_Item (a0 : AV) (a1 : AV) (s : AS) (R : AV → AS → Prop) : Prop :=
 ACalls Try.prog F_slices_IndexFunc__s_Item_Item [a0, a1] s fun v1 s2 => ∃ n3 : Int, v1 = .int .i64 n3 ∧ (bsplit ((n3 : Int) == (-1))
 (R a0 s2)
 (JoinQ fun J4 =>
 (∀ n5 : Int, ∀ s6 : AS, J4 [(.int .i64 n5)] s6 →
 RdA (aslice T Y_s_Item a0 (some (.int .i64 n5)) none none) fun v7 => StQ (aclear T Y_s_Item v7 s6) fun s8 => RdA (aslice T Y_s_Item a0 none (some (.int .i64 n5)) none) fun v9 => R v9 s8) ∧
 (LoopQ fun I10 m11 => I10 m11 [(.int .i64 n3), (.int .i64 (IntKind.wrap .i64 (n3 + 1)))] s2 ∧
 ∀ m12 : Nat, ∀ n13 : Int, ∀ n14 : Int, ∀ s15 : AS, I10 m12 [(.int .i64 n13), (.int .i64 n14)] s15 →
 RdI .i64 (alenB T Y_s_Item a0 s15) fun n16 => bsplit (decide ((n14 : Int) < n16))
 (IxQ (aindexAddr T Y_s_Item a0 (.int .i64 n14)) fun l17 o18 => RdL (rdc s15 l17 o18 5) fun g19 => NewQ (.cells [.int .i64 0, .int .u64 0, .str [], .str [], .bool false] 0 false) s15 fun l20 s21 => OkC (some 5) g19 (StQ (awr s21 l20 0 g19) fun s22 => RdL (rdc s22 l20 0 5) fun g23 => ACallV Try.prog a1 [(.agg g23)] s22 fun v24 s25 => ∃ b26 : Bool, v24 = .bool b26 ∧ (bsplit (!b26)
 (RdL (rdc s25 l20 0 5) fun g27 => IxQ (aindexAddr T Y_s_Item a0 (.int .i64 n13)) fun l28 o29 => OkC (some 5) g27 (StQ (awr s25 l28 o29 g27) fun s30 => ∃ m', m' < m12 ∧ I10 m' [(.int .i64 (IntKind.wrap .i64 (n13 + 1))), (.int .i64 (IntKind.wrap .i64 (n14 + 1)))] s30))
 (∃ m', m' < m12 ∧ I10 m' [(.int .i64 n13), (.int .i64 (IntKind.wrap .i64 (n14 + 1)))] s25))))
 (J4 [(.int .i64 n13)] s15))))
def A_slices_DeleteFunc__s_Item_Item : QA := (.seq .leaf (.seq .leaf (.seq (.seq .leaf (.cond (.seq .leaf .leaf) .leaf)) (.join [(5, .int .i64)] [(5, 7), (14, 35)] (.seq .leaf (.wrap (.loop [(5, .int .i64), (6, .int .i64)] [(5, 7), (16, 35)] (.seq (.seq .leaf (.cond .leaf .leaf)) (.seq (.wrap (.seq .leaf (.seq .leaf (.cond (.seq .leaf .leaf) .leaf)))) .leaf))))) (.seq .leaf (.seq .leaf .leaf))))))
theorem q_slices_DeleteFunc__s_Item_Item (a0 : AV) (a1 : AV) (s : AS) (R : AV → AS → Prop) (h : Q_slices_DeleteFunc__s_Item_Item a0 a1 s R) : ACalls Try.prog F_slices_DeleteFunc__s_Item_Item [a0, a1] s R :=
 ACalls.q (n := 42) (rs := [.tmp 4]) (A := A_slices_DeleteFunc__s_Item_Item) hT hmx Try.func42 (by kernel_rfl) rfl rfl rfl (by kernel_rfl) (by kernel_rfl) h
def Q_ref07iName (a0 : List UInt8) (s : AS) (R : AV → AS → Prop) : Prop :=
 RdI .i64 (alenB T Y_string (.str a0) s) fun n1 => bsplit (decide ((n1 : Int) ≥ 1)) (RdI .i64 (alenB T Y_string (.str a0) s) fun n2 => R (.bool (decide ((n2 : Int) ≤ 32))) s) (R (.bool false) s)
def A_ref07iName : QA := (.seq .leaf (.seq .leaf .leaf))
theorem q_ref07iName (a0 : List UInt8) (s : AS) (R : AV → AS → Prop) (h : Q_ref07iName a0 s R) : ACalls Try.prog F_ref07iName [(.str a0)] s R :=
 ACalls.q (n := 11) (rs := [.tmp 2]) (A := A_ref07iName) hT hmx Try.func10 (by kernel_rfl) rfl rfl rfl (by kernel_rfl) (by kernel_rfl) h
end Go.Proofs.Ytoklmpkpeanloaa
end

section
namespace Go.Proofs.Ytoklmpkpeanloaa
open Go.Am Go.Minster2
def keyC (k : Key) : List AV := [.str k.t, .str k.d]
theorem keyC_len (k : Key) : (keyC k).length = 2 := rfl
def itemC (i : Itm) : List AV := [.int .i64 i.dot.r, .int .u64 i.dot.c, .str i.key.t, .str i.key.d, .bool i.gone]
theorem itemC_len (i : Itm) : (itemC i).length = 5 := rfl
theorem itemC_one (i : Itm) : (itemC i).all AV.one = true := rfl
end Go.Proofs.Ytoklmpkpeanloaa
end

section
set_option maxRecDepth 100000
set_option maxHeartbeats 4000000
namespace Go.Proofs.Ytoklmpkpeanloaa.SI
open Go.Am Go.Minster2 Go.Minster.SI
def oe : Go.Minster.SG.OE := ⟨Itm, Itm.zero, Itm.lt, Itm.cmp, fun a b => Itm.cmp_lt, fun a b c h h' => Itm.le_trans (a := a) (b := b) (c := c) h h', fun a => Itm.le_refl a, fun a b h => Itm.lt_le h⟩
def se : SG.SE := ⟨oe, itemC, 5, itemC_len, fun x => rfl, Y_s_Item, Y_Item, u_s_Item, z_Item, F_slices_SortFunc__s_Item_Item, F_slices_pdqsortCmpFunc__Item, F_slices_insertionSortCmpFunc__Item, F_slices_heapSortCmpFunc__Item, F_slices_choosePivotCmpFunc__Item, F_slices_reverseRangeCmpFunc__Item, F_slices_partialInsertionSortCmpFunc__Item, F_slices_partitionEqualCmpFunc__Item, F_slices_partitionCmpFunc__Item, F_slices_siftDownCmpFunc__Item, F_slices_medianAdjacentCmpFunc__Item, F_slices_medianCmpFunc__Item, F_slices_order2CmpFunc__Item, F_slices_breakPatternsCmpFunc__Item⟩
instance : SG.SQ se where
 q_SortFunc := fun a0 a1 s R h =>
  ACalls.q (n := 14) (rs := []) (A := SG.A_SortFunc) hT hmx Try.func85 (by kernel_rfl) rfl rfl rfl (by kernel_rfl) (by kernel_rfl) h
 q_pdqsortCmpFunc := fun a0 a1 a2 a3 a4 s R h =>
  ACalls.q (n := 148) (rs := []) (A := SG.A_pdqsortCmpFunc) hT hmx Try.func105 (by kernel_rfl) rfl rfl rfl (by kernel_rfl) (by kernel_rfl) h
 q_insertionSortCmpFunc := fun a0 a1 a2 a3 s R h =>
  ACalls.q (n := 53) (rs := []) (A := SG.A_insertionSortCmpFunc) hT hmx Try.func117 (by kernel_rfl) rfl rfl rfl (by kernel_rfl) (by kernel_rfl) h
 q_heapSortCmpFunc := fun a0 a1 a2 a3 s R h =>
  ACalls.q (n := 60) (rs := []) (A := SG.A_heapSortCmpFunc) hT hmx Try.func118 (by kernel_rfl) rfl rfl rfl (by kernel_rfl) (by kernel_rfl) h
 q_choosePivotCmpFunc := fun a0 a1 a2 a3 s R h =>
  ACalls.q (n := 63) (rs := [.tmp 8, .tmp 9]) (A := SG.A_choosePivotCmpFunc) hT hmx Try.func120 (by kernel_rfl) rfl rfl rfl (by kernel_rfl) (by kernel_rfl) h
 q_reverseRangeCmpFunc := fun a0 a1 a2 a3 s R h =>
  ACalls.q (n := 34) (rs := []) (A := SG.A_reverseRangeCmpFunc) hT hmx Try.func121 (by kernel_rfl) rfl rfl rfl (by kernel_rfl) (by kernel_rfl) h
 q_partialInsertionSortCmpFunc := fun a0 a1 a2 a3 s R h =>
  ACalls.q (n := 141) (rs := [.tmp 8]) (A := SG.A_partialInsertionSortCmpFunc) hT hmx Try.func122 (by kernel_rfl) rfl rfl rfl (by kernel_rfl) (by kernel_rfl) h
 q_partitionEqualCmpFunc := fun a0 a1 a2 a3 a4 s R h =>
  ACalls.q (n := 90) (rs := [.tmp 10]) (A := SG.A_partitionEqualCmpFunc) hT hmx Try.func123 (by kernel_rfl) rfl rfl rfl (by kernel_rfl) (by kernel_rfl) h
 q_partitionCmpFunc := fun a0 a1 a2 a3 a4 s R h =>
  ACalls.q (n := 178) (rs := [.tmp 10, .tmp 11]) (A := SG.A_partitionCmpFunc) hT hmx Try.func124 (by kernel_rfl) rfl rfl rfl (by kernel_rfl) (by kernel_rfl) h
 q_siftDownCmpFunc := fun a0 a1 a2 a3 a4 s R h =>
  ACalls.q (n := 82) (rs := []) (A := SG.A_siftDownCmpFunc) hT hmx Try.func145 (by kernel_rfl) rfl rfl rfl (by kernel_rfl) (by kernel_rfl) h
 q_medianAdjacentCmpFunc := fun a0 a1 a2 a3 s R h =>
  ACalls.q (n := 18) (rs := [.tmp 8]) (A := SG.A_medianAdjacentCmpFunc) hT hmx Try.func148 (by kernel_rfl) rfl rfl rfl (by kernel_rfl) (by kernel_rfl) h
 q_medianCmpFunc := fun a0 a1 a2 a3 a4 a5 s R h =>
  ACalls.q (n := 41) (rs := [.tmp 12]) (A := SG.A_medianCmpFunc) hT hmx Try.func149 (by kernel_rfl) rfl rfl rfl (by kernel_rfl) (by kernel_rfl) h
 q_order2CmpFunc := fun a0 a1 a2 a3 a4 s R h =>
  ACalls.q (n := 32) (rs := [.tmp 10, .tmp 11]) (A := SG.A_order2CmpFunc) hT hmx Try.func157 (by kernel_rfl) rfl rfl rfl (by kernel_rfl) (by kernel_rfl) h
 q_breakPatternsCmpFunc := fun a0 a1 a2 a3 s R h =>
  ACalls.q (n := 67) (rs := []) (A := SG.A_breakPatternsCmpFunc) hT hmx Try.func119 (by kernel_rfl) rfl rfl rfl (by kernel_rfl) (by kernel_rfl) h
class CmpOk (cf : FuncId) : Prop where
 ok : ∀ (a b : Itm) (s : AS), ACalls Try.prog cf [.agg (itemC a), .agg (itemC b)] s fun v s' => v = .int .i64 (a.cmp b) ∧ Ext s s'
structure Arr (s : AS) (a : AV) (lo : Nat) (l : List Itm) (rest : List AV) : Prop where
 val : ∃ c e, a = .slc (some (lo, 0)) l.length c e
 obj : ∃ g, s.h lo = some (.cells (l.flatMap itemC ++ rest) g false)
section
variable {s : AS} {a : AV} {lo : Nat} {l : List Itm} {rest : List AV}
theorem dots_len (l : List Itm) : (l.flatMap itemC).length = l.length * 5 := by
 induction l with
 | nil => rfl
 | cons x l ih => simp only [List.flatMap_cons, List.length_append, ih, itemC_len, List.length_cons]; omega
theorem Arr.mut {L : List Nat} {s' : AS} (h : Arr s a lo l rest) (m : Mut L s s') (hL : lo ∉ L) : Arr s' a lo l rest := by
 obtain ⟨h1, g, h2⟩ := h
 exact ⟨h1, g, m.1 _ _ hL h2⟩
theorem Arr.ext {s' : AS} (h : Arr s a lo l rest) (e : Ext s s') : Arr s' a lo l rest := h.mut (L := []) e.mut (by simp)
theorem Arr.ix (h : Arr s a lo l rest) {i : Nat} (hi : i < l.length) : aindexAddr T Y_s_Item a (.int .i64 (i : Nat)) = some (.ptr (some (lo, i * 5))) := by
 obtain ⟨⟨c, e, rfl⟩, _⟩ := h
 have : (0 : Int) ≤ (i : Int) ∧ (i : Int) < (l.length : Int) := by omega
 simp only [aindexAddr, u_s_Item, z_Item, Option.bind_some]
 rw [if_pos this]
 simp
theorem Arr.rd (h : Arr s a lo l rest) {i : Nat} (hi : i < l.length) : rdc s lo (i * 5) 5 = some (itemC (el l i)) := by
 obtain ⟨_, g, h2⟩ := h
 have hat : At s lo (l.flatMap itemC ++ rest) := ⟨_, _, h2⟩
 rw [hat.rdc (by rw [List.length_append, dots_len]; omega)]
 rw [List.drop_append_of_le_length (by rw [dots_len]; omega), List.take_append_of_le_length (by rw [List.length_drop, dots_len]; omega), flat_elem itemC_len (el_get hi)]
theorem flat_set : ∀ (l : List Itm) (i : Nat) (x : Itm) (rest : List AV), i < l.length → wrs (l.flatMap itemC ++ rest) (i * 5) (itemC x) = (l.set i x).flatMap itemC ++ rest
 | [], i, x, rest, h => by simp at h
 | d :: l, 0, x, rest, h => by simp [wrs, itemC]
 | d :: l, i + 1, x, rest, h => by
  have ih := flat_set l i x rest (by simpa using h)
  simp only [List.flatMap_cons, List.set_cons_succ, List.append_assoc, ← ih]
  simp only [wrs, itemC, Nat.add_mul, Nat.one_mul]
  simp
theorem Arr.wr (h : Arr s a lo l rest) (hw : WFs s) {i : Nat} (hi : i < l.length) (x : Itm) {K : AS → Prop} (hk : ∀ s', Arr s' a lo (l.set i x) rest → WFs s' → Mut [lo] s s' → K s') : OkC (some 5) (itemC x) (StQ (awr s lo (i * 5) (itemC x)) K) := by
 obtain ⟨h1, g, h2⟩ := h
 refine ⟨⟨rfl, rfl⟩, StQ.awr hw h2 (by rw [List.length_append, dots_len, itemC_len]; omega) fun s' P => hk s' ⟨?_, g, ?_⟩ P.wf P.mut⟩
 ·rw [List.length_set]; exact h1
 ·rw [P.at, flat_set l i x rest hi]
end
instance instCmp {cf : FuncId} [h : CmpOk cf] : SG.CmpOk se cf := ⟨h.ok⟩
theorem Arr.of {s : AS} {a : AV} {lo : Nat} {l : List Itm} {rest : List AV} (h : SG.Arr (E := se) s a lo l rest) : Arr s a lo l rest := ⟨h.val, h.obj⟩
def ArrN (s0 s : AS) (v : AV) (l : List Itm) : Prop := Ext s0 s ∧ ((l = [] ∧ ∃ a, v = .slc a 0 0 true) ∨ ∃ la, v = .slc (some (la, 0)) l.length l.length false ∧ Arr s v la l [] ∧ s0.h la = none)
theorem sortGro_ok {cf : FuncId} [CmpOk cf] {s0 s : AS} {v : AV} {l : List Itm} {sz : Nat} (g : GroN itemC sz [] s0 s v l) (hl : l.length < 65536) :
  ACalls Try.prog F_slices_SortFunc__s_Item_Item [v, .func cf []] s fun r s' => r = .tup [] ∧ ∃ l', l'.Perm l ∧ Srt l' 0 l'.length ∧ ArrN s0 s' v l' := by
 refine (SG.sortGro_ok (E := se) (cf := cf) g hl).mono ?_
 rintro r s' ⟨h1, l', h2, h3, h4, h5⟩
 refine ⟨h1, l', h2, h3, h4, ?_⟩
 rcases h5 with h5 | ⟨la, h6, h7, h8⟩
 ·exact .inl h5
 ·exact .inr ⟨la, h6, Arr.of h7, h8⟩
theorem ArrN.dots {s0 s : AS} {v : AV} {l : List Itm} (h : ArrN s0 s v l) : Sl itemC 5 s v l := by
 rcases h.2 with ⟨rfl, a, rfl⟩ | ⟨la, rfl, ⟨_, g, ho⟩, _⟩
 ·exact Sl.nil
 ·refine SlAt.mk ⟨_, _, ho⟩ (dots_len l) ?_ (Nat.le_refl _)
  rw [List.drop_zero]
  show (l.flatMap itemC ++ []).take _ = _
  rw [List.append_nil]
  exact List.take_of_length_le (Nat.le_of_eq (dots_len l))
end Go.Proofs.Ytoklmpkpeanloaa.SI
end

section

end

section
set_option maxRecDepth 100000
set_option maxHeartbeats 4000000
namespace Go.Proofs.Ytoklmpkpeanloaa.SK
open Go.Am Go.Minster2 Go.Minster.SK
def oe : Go.Minster.SG.OE := ⟨Key, ⟨[], []⟩, Key.lt, Key.cmp, fun a b => Key.cmp_lt, fun a b c h h' => Key.le_trans (a := a) (b := b) (c := c) h h', fun a => Key.le_refl a, fun a b h => Key.lt_le h⟩
def se : SG.SE := ⟨oe, keyC, 2, keyC_len, fun x => rfl, Y_s_Key, Y_Key, u_s_Key, z_Key, F_slices_SortFunc__s_Key_Key, F_slices_pdqsortCmpFunc__Key, F_slices_insertionSortCmpFunc__Key, F_slices_heapSortCmpFunc__Key, F_slices_choosePivotCmpFunc__Key, F_slices_reverseRangeCmpFunc__Key, F_slices_partialInsertionSortCmpFunc__Key, F_slices_partitionEqualCmpFunc__Key, F_slices_partitionCmpFunc__Key, F_slices_siftDownCmpFunc__Key, F_slices_medianAdjacentCmpFunc__Key, F_slices_medianCmpFunc__Key, F_slices_order2CmpFunc__Key, F_slices_breakPatternsCmpFunc__Key⟩
instance : SG.SQ se where
 q_SortFunc := fun a0 a1 s R h =>
  ACalls.q (n := 14) (rs := []) (A := SG.A_SortFunc) hT hmx Try.func100 (by kernel_rfl) rfl rfl rfl (by kernel_rfl) (by kernel_rfl) h
 q_pdqsortCmpFunc := fun a0 a1 a2 a3 a4 s R h =>
  ACalls.q (n := 148) (rs := []) (A := SG.A_pdqsortCmpFunc) hT hmx Try.func116 (by kernel_rfl) rfl rfl rfl (by kernel_rfl) (by kernel_rfl) h
 q_insertionSortCmpFunc := fun a0 a1 a2 a3 s R h =>
  ACalls.q (n := 53) (rs := []) (A := SG.A_insertionSortCmpFunc) hT hmx Try.func137 (by kernel_rfl) rfl rfl rfl (by kernel_rfl) (by kernel_rfl) h
 q_heapSortCmpFunc := fun a0 a1 a2 a3 s R h =>
  ACalls.q (n := 60) (rs := []) (A := SG.A_heapSortCmpFunc) hT hmx Try.func138 (by kernel_rfl) rfl rfl rfl (by kernel_rfl) (by kernel_rfl) h
 q_choosePivotCmpFunc := fun a0 a1 a2 a3 s R h =>
  ACalls.q (n := 63) (rs := [.tmp 8, .tmp 9]) (A := SG.A_choosePivotCmpFunc) hT hmx Try.func140 (by kernel_rfl) rfl rfl rfl (by kernel_rfl) (by kernel_rfl) h
 q_reverseRangeCmpFunc := fun a0 a1 a2 a3 s R h =>
  ACalls.q (n := 34) (rs := []) (A := SG.A_reverseRangeCmpFunc) hT hmx Try.func141 (by kernel_rfl) rfl rfl rfl (by kernel_rfl) (by kernel_rfl) h
 q_partialInsertionSortCmpFunc := fun a0 a1 a2 a3 s R h =>
  ACalls.q (n := 141) (rs := [.tmp 8]) (A := SG.A_partialInsertionSortCmpFunc) hT hmx Try.func142 (by kernel_rfl) rfl rfl rfl (by kernel_rfl) (by kernel_rfl) h
 q_partitionEqualCmpFunc := fun a0 a1 a2 a3 a4 s R h =>
  ACalls.q (n := 90) (rs := [.tmp 10]) (A := SG.A_partitionEqualCmpFunc) hT hmx Try.func143 (by kernel_rfl) rfl rfl rfl (by kernel_rfl) (by kernel_rfl) h
 q_partitionCmpFunc := fun a0 a1 a2 a3 a4 s R h =>
  ACalls.q (n := 178) (rs := [.tmp 10, .tmp 11]) (A := SG.A_partitionCmpFunc) hT hmx Try.func144 (by kernel_rfl) rfl rfl rfl (by kernel_rfl) (by kernel_rfl) h
 q_siftDownCmpFunc := fun a0 a1 a2 a3 a4 s R h =>
  ACalls.q (n := 82) (rs := []) (A := SG.A_siftDownCmpFunc) hT hmx Try.func154 (by kernel_rfl) rfl rfl rfl (by kernel_rfl) (by kernel_rfl) h
 q_medianAdjacentCmpFunc := fun a0 a1 a2 a3 s R h =>
  ACalls.q (n := 18) (rs := [.tmp 8]) (A := SG.A_medianAdjacentCmpFunc) hT hmx Try.func155 (by kernel_rfl) rfl rfl rfl (by kernel_rfl) (by kernel_rfl) h
 q_medianCmpFunc := fun a0 a1 a2 a3 a4 a5 s R h =>
  ACalls.q (n := 41) (rs := [.tmp 12]) (A := SG.A_medianCmpFunc) hT hmx Try.func156 (by kernel_rfl) rfl rfl rfl (by kernel_rfl) (by kernel_rfl) h
 q_order2CmpFunc := fun a0 a1 a2 a3 a4 s R h =>
  ACalls.q (n := 32) (rs := [.tmp 10, .tmp 11]) (A := SG.A_order2CmpFunc) hT hmx Try.func160 (by kernel_rfl) rfl rfl rfl (by kernel_rfl) (by kernel_rfl) h
 q_breakPatternsCmpFunc := fun a0 a1 a2 a3 s R h =>
  ACalls.q (n := 67) (rs := []) (A := SG.A_breakPatternsCmpFunc) hT hmx Try.func139 (by kernel_rfl) rfl rfl rfl (by kernel_rfl) (by kernel_rfl) h
class CmpOk (cf : FuncId) : Prop where
 ok : ∀ (a b : Key) (s : AS), ACalls Try.prog cf [.agg (keyC a), .agg (keyC b)] s fun v s' => v = .int .i64 (a.cmp b) ∧ Ext s s'
structure Arr (s : AS) (a : AV) (lo : Nat) (l : List Key) (rest : List AV) : Prop where
 val : ∃ c e, a = .slc (some (lo, 0)) l.length c e
 obj : ∃ g, s.h lo = some (.cells (l.flatMap keyC ++ rest) g false)
section
variable {s : AS} {a : AV} {lo : Nat} {l : List Key} {rest : List AV}
theorem dots_len (l : List Key) : (l.flatMap keyC).length = l.length * 2 := by
 induction l with
 | nil => rfl
 | cons x l ih => simp only [List.flatMap_cons, List.length_append, ih, keyC_len, List.length_cons]; omega
end
instance instCmp {cf : FuncId} [h : CmpOk cf] : SG.CmpOk se cf := ⟨h.ok⟩
theorem Arr.of {s : AS} {a : AV} {lo : Nat} {l : List Key} {rest : List AV} (h : SG.Arr (E := se) s a lo l rest) : Arr s a lo l rest := ⟨h.val, h.obj⟩
def ArrN (s0 s : AS) (v : AV) (l : List Key) : Prop := Ext s0 s ∧ ((l = [] ∧ ∃ a, v = .slc a 0 0 true) ∨ ∃ la, v = .slc (some (la, 0)) l.length l.length false ∧ Arr s v la l [] ∧ s0.h la = none)
theorem sortGro_ok {cf : FuncId} [CmpOk cf] {s0 s : AS} {v : AV} {l : List Key} {sz : Nat} (g : GroN keyC sz [] s0 s v l) (hl : l.length < 65536) :
  ACalls Try.prog F_slices_SortFunc__s_Key_Key [v, .func cf []] s fun r s' => r = .tup [] ∧ ∃ l', l'.Perm l ∧ Srt l' 0 l'.length ∧ ArrN s0 s' v l' := by
 refine (SG.sortGro_ok (E := se) (cf := cf) g hl).mono ?_
 rintro r s' ⟨h1, l', h2, h3, h4, h5⟩
 refine ⟨h1, l', h2, h3, h4, ?_⟩
 rcases h5 with h5 | ⟨la, h6, h7, h8⟩
 ·exact .inl h5
 ·exact .inr ⟨la, h6, Arr.of h7, h8⟩
theorem ArrN.dots {s0 s : AS} {v : AV} {l : List Key} (h : ArrN s0 s v l) : Sl keyC 2 s v l := by
 rcases h.2 with ⟨rfl, a, rfl⟩ | ⟨la, rfl, ⟨_, g, ho⟩, _⟩
 ·exact Sl.nil
 ·refine SlAt.mk ⟨_, _, ho⟩ (dots_len l) ?_ (Nat.le_refl _)
  rw [List.drop_zero]
  show (l.flatMap keyC ++ []).take _ = _
  rw [List.append_nil]
  exact List.take_of_length_le (Nat.le_of_eq (dots_len l))
end Go.Proofs.Ytoklmpkpeanloaa.SK
end

section
namespace Go.Proofs.Ytoklmpkpeanloaa
open Go.Am Go.Minster Go.Minster2
theorem isNaN_str (a : List UInt8) (s : AS) : ACalls Try.prog F_cmp_isNaN__string [.str a] s fun v s' => v = .bool false ∧ s' = s :=
 q_cmp_isNaN__string _ _ _ ⟨by simp, rfl⟩
theorem cmp_str (a b : List UInt8) (s : AS) : ACalls Try.prog F_cmp_Compare__string [.str a, .str b] s fun v s' => v = .int .i64 (cmpS a b) ∧ s' = s := by
 refine q_cmp_Compare__string _ _ _ _ ?_
 refine ACalls.use (isNaN_str a s) ?_
 rintro v s' ⟨rfl, rfl⟩ _
 refine ⟨_, rfl, ?_⟩
 refine ACalls.use (isNaN_str b s') ?_
 rintro v s ⟨rfl, rfl⟩ _
 refine ⟨_, rfl, bsplit.no rfl (bsplit.no rfl (bsplit.mk (fun h => ⟨?_, rfl⟩) (fun h => bsplit.mk (fun h2 => ⟨?_, rfl⟩) (fun h2 => ⟨?_, rfl⟩))))⟩
 ·simp [cmpS, h]
 ·have : a ≠ b := by rintro rfl; simp at h2
  simp [cmpS, h, this]
 ·have : a = b := by simpa [h] using h2
  subst this
  simp [cmpS, bytesLt_irrefl]
theorem orset_order_ok (a b : Dot) (s : AS) : ACalls Try.prog F_orset_order [.agg (dotC a), .agg (dotC b)] s fun v s' => v = .int .i64 (a.cmp b) ∧ Ext s s' := by
 refine ACalls.pre fun hw => q_orset_order _ _ _ _ ⟨rfl, NewQ.intro hw rfl fun l s1 F => ⟨rfl, NewQ.intro F.wf rfl fun l2 s2 F2 => ?_⟩⟩
 have e := F.ext.trans F2.ext
 refine ⟨fun _ _ _ _ => True, fun _ _ v => v = .int .i64 (cmpI a.r b.r), fun _ _ _ _ _ _ _ => trivial, ?_⟩
 simp only [(F.own.ext F2.ext).at.rd1, F2.own.at.rd1, dotC, List.getElem?_cons_zero, List.getElem?_cons_succ, go_sem]
 refine ⟨fun s7 _ _ _ => ?_, ⟨_, rfl⟩, ?_⟩
 ·refine (cmp_Compare__int_ok _ _ _).mono ?_
  rintro v s' ⟨rfl, rfl⟩
  exact ⟨_, rfl, Ext.refl _, trivial, rfl⟩
 ·rintro v rfl
  refine ⟨_, rfl, fun s15 e15 _ _ => ?_⟩
  refine ACalls.use (cmp_Compare__uint64_ok _ _ _) ?_
  rintro v s' ⟨rfl, rfl⟩ hw'
  refine ⟨_, rfl, ?_⟩
  have habs : absl T Y_s_int 2 [(0, .int .i64 (cmpI a.r b.r)), (1, .int .i64 (cmpI a.c b.c))] = some [.int .i64 (cmpI a.r b.r), .int .i64 (cmpI a.c b.c)] := by
   simp only [absl, u_s_int, z_int, zr_int, Option.bind_some, acells_int]; rfl
  rw [habs]
  simp only [go_sem]
  refine NewQ.intro hw' rfl fun l3 s3 F3 => ?_
  refine (cmp_Or__int_ok2 _ _ F3.own.at).mono ?_
  rintro v s' ⟨rfl, rfl⟩
  refine ⟨_, rfl, ?_, e.trans (e15.trans F3.ext)⟩
  simp only [Dot.cmp]
instance : CmpOk F_orset_order := ⟨orset_order_ok⟩
theorem items1_ok (a b : Itm) (s : AS) : ACalls Try.prog F_orset_Set_Items_1 [.agg (itemC a), .agg (itemC b)] s fun v s' => v = .int .i64 (a.cmp b) ∧ Ext s s' := by
 refine ACalls.pre fun hw => q_orset_Set_Items_1 _ _ _ _ ⟨rfl, NewQ.intro hw rfl fun l s1 F => ⟨rfl, NewQ.intro F.wf rfl fun l2 s2 F2 => ?_⟩⟩
 refine ⟨dotC a.dot, (F.own.ext F2.ext).at.rdc (by simp [itemC]), dotC b.dot, F2.own.at.rdc (by simp [itemC]), ?_⟩
 refine ACalls.use (orset_order_ok _ _ _) ?_
 rintro v s' ⟨rfl, e⟩ _
 exact ⟨_, rfl, rfl, (F.ext.trans F2.ext).trans e⟩
instance : SI.CmpOk F_orset_Set_Items_1 := ⟨items1_ok⟩
theorem keys1_ok (a b : Key) (s : AS) : ACalls Try.prog F_orset_Set_Keys_1 [.agg (keyC a), .agg (keyC b)] s fun v s' => v = .int .i64 (a.cmp b) ∧ Ext s s' := by
 refine ACalls.pre fun hw => q_orset_Set_Keys_1 _ _ _ _ ⟨rfl, NewQ.intro hw rfl fun l s1 F => ⟨rfl, NewQ.intro F.wf rfl fun l2 s2 F2 => ?_⟩⟩
 have e := F.ext.trans F2.ext
 refine ⟨fun _ _ _ _ => True, fun _ _ v => v = .int .i64 (cmpS a.t b.t), fun _ _ _ _ _ _ _ => trivial, ?_⟩
 simp only [(F.own.ext F2.ext).at.rd1, F2.own.at.rd1, keyC, List.getElem?_cons_zero, List.getElem?_cons_succ, go_sem]
 refine ⟨fun s7 _ _ _ => ?_, ⟨_, rfl⟩, ?_⟩
 ·refine (cmp_str _ _ _).mono ?_
  rintro v s' ⟨rfl, rfl⟩
  exact ⟨_, rfl, Ext.refl _, trivial, rfl⟩
 ·rintro v rfl
  refine ⟨_, rfl, fun s15 e15 _ _ => ?_⟩
  refine ACalls.use (cmp_str _ _ _) ?_
  rintro v s' ⟨rfl, rfl⟩ hw'
  refine ⟨_, rfl, ?_⟩
  have habs : absl T Y_s_int 2 [(0, .int .i64 (cmpS a.t b.t)), (1, .int .i64 (cmpS a.d b.d))] = some [.int .i64 (cmpS a.t b.t), .int .i64 (cmpS a.d b.d)] := by
   simp only [absl, u_s_int, z_int, zr_int, Option.bind_some, acells_int]; rfl
  rw [habs]
  simp only [go_sem]
  refine NewQ.intro hw' rfl fun l3 s3 F3 => ?_
  refine (cmp_Or__int_ok2 _ _ F3.own.at).mono ?_
  rintro v s' ⟨rfl, rfl⟩
  refine ⟨_, rfl, ?_, e.trans (e15.trans F3.ext)⟩
  simp only [Key.cmp]
instance : SK.CmpOk F_orset_Set_Keys_1 := ⟨keys1_ok⟩
def nameOk (t : List UInt8) : Bool := decide (1 ≤ t.length ∧ t.length ≤ 32)
theorem alen_str (t : List UInt8) (s : AS) : alenB T Y_string (.str t) s = some (.int .i64 (t.length : Nat)) := by simp [alenB, u_string]
theorem name_ok (t : List UInt8) (s : AS) : ACalls Try.prog F_orset_name [.str t] s fun v s' => v = .bool (nameOk t) ∧ s' = s := by
 refine q_orset_name _ _ _ ⟨_, alen_str t s, bsplit.dec (fun h => ⟨_, alen_str t s, ?_, rfl⟩) (fun h => ⟨?_, rfl⟩)⟩
 ·congr 1
  rw [nameOk, decide_eq_decide]; omega
 ·congr 1
  symm
  rw [nameOk, decide_eq_false_iff_not]; omega
def _root_.Go.Minster2.Key.may (k : Key) : Bool := nameOk k.t && nameOk k.d
def _root_.Go.Minster2.Itm.may (i : Itm) : Bool := i.dot.may && (if i.gone then decide (i.key = ⟨[], []⟩) else i.key.may)
theorem MayKey_ok (k : Key) (s : AS) : ACalls Try.prog F_orset_MayKey [.agg (keyC k)] s fun v s' => v = .bool k.may ∧ Ext s s' := by
 refine ACalls.pre fun hw => q_orset_MayKey _ _ _ ⟨rfl, NewQ.intro hw rfl fun l s1 F => ⟨k.t, by rw [F.own.at.rd1]; rfl, ?_⟩⟩
 refine ACalls.use (name_ok _ _) ?_
 rintro v s2 ⟨rfl, rfl⟩ _
 refine ⟨_, rfl, bsplit.mk (fun h => ⟨k.d, by rw [F.own.at.rd1]; rfl, ?_⟩) (fun h => ⟨by rw [Key.may, h]; rfl, F.ext⟩)⟩
 refine ACalls.use (name_ok _ _) ?_
 rintro v s3 ⟨rfl, rfl⟩ _
 exact ⟨_, rfl, by rw [Key.may, h]; rfl, F.ext⟩
theorem tri_Key : triples (T.und Y_Key) = some [(false, Y_string, 0), (false, Y_string, 1)] := by kernel_rfl
theorem et_Key : T.eqt Y_Key = true := by kernel_rfl
theorem key_eq (a b : Key) : aeq T 100 Y_Key (.agg (keyC a)) (.agg (keyC b)) = some (decide (a = b)) := by
 rw [aeq_tri tri_Key et_Key]
 simp only [eqTri, cond_false, part_s ag_string, keyC, List.getElem?_cons_zero, List.getElem?_cons_succ, Option.bind_some, aeqStr u_string]
 cases a; cases b
 simp only [Key.mk.injEq]
 rename_i r c r' c'
 by_cases h1 : r = r' <;> by_cases h2 : c = c' <;> simp [h1, h2]
theorem key0_build : abuild T Y_Key [] = some (.agg (keyC ⟨[], []⟩)) := by kernel_rfl
theorem May_ok (i : Itm) (s : AS) : ACalls Try.prog F_orset_May [.agg (itemC i)] s fun v s' => v = .bool i.may ∧ Ext s s' := by
 refine ACalls.pre fun hw => q_orset_May _ _ _ ⟨rfl, NewQ.intro hw rfl fun l s1 F => ⟨i.gone, by rw [F.own.at.rd1]; rfl, ?_⟩⟩
 have gd : ∀ s', Ext s1 s' → rdc s' l 0 2 = some (dotC i.dot) := fun s' e => (F.own.ext e).at.rdc (by simp [itemC])
 have gk : ∀ s', Ext s1 s' → rdc s' l 2 2 = some (keyC i.key) := fun s' e => (F.own.ext e).at.rdc (by simp [itemC])
 refine bsplit.mk (fun h => ?_) (fun h => ?_)
 ·refine ⟨_, gd _ (Ext.refl _), ?_⟩
  refine ACalls.use (ctx_May_ok _ _) ?_
  rintro v s2 ⟨rfl, e2⟩ _
  refine ⟨_, rfl, bsplit.mk (fun h2 => ⟨_, gk _ e2, _, key0_build, _, key_eq _ _, ?_, F.ext.trans e2⟩) (fun h2 => ⟨by simp [Itm.may, h2], F.ext.trans e2⟩)⟩
  simp [Itm.may, h, h2]
 ·refine ⟨_, gd _ (Ext.refl _), ?_⟩
  refine ACalls.use (ctx_May_ok _ _) ?_
  rintro v s2 ⟨rfl, e2⟩ _
  refine ⟨_, rfl, bsplit.mk (fun h2 => ⟨_, gk _ e2, ?_⟩) (fun h2 => ⟨by simp [Itm.may, h2], F.ext.trans e2⟩)⟩
  refine ACalls.use (MayKey_ok _ _) ?_
  rintro v s3 ⟨rfl, e3⟩ _
  exact ⟨_, rfl, by simp [Itm.may, h, h2], F.ext.trans (e2.trans e3)⟩
end Go.Proofs.Ytoklmpkpeanloaa
end

section
namespace Go.Proofs.Ytoklmpkpeanloaa
open Go.Am Go.Minster Go.ChangeShapes Go.WideShapes Go.ChangeAt Go.RowKit
set_option maxRecDepth 100000 in
theorem flat_int : flatT Try.prog 5 Y_int = some [.int .i64] := by kernel_rfl
abbrev Ints := Sl (fun n : Int => [AV.int .i64 n]) 1
set_option maxRecDepth 100000 in
theorem ints_arg {H : Type} {enc : TypeId × Value → H} {W : World} {base : Nat} {v : Value} (hv : Value.okWide Try.prog W .any base Y_s_int v) (h : ∃ (d : DataW H) (p : List MemPlace), DataW.Trod enc Try.prog W 0 (fun _ => true) true Y_s_int v d p) :
  ∃ l : List Int, Ints (sW W) (absV W.heap.size (MW W) v) l ∧ ∀ n ∈ l, -9223372036854775808 ≤ n ∧ n ≤ 9223372036854775807 := by
 obtain ⟨d, p, h⟩ := h
 obtain ⟨C, h1, h2, _⟩ := slice_arg (d := 5) (ks := [.int .i64]) (hT.und _ _ u_s_int) flat_int (by kernel_rfl) (by decide) hv h
 obtain ⟨l, e1, e2, e3⟩ := cells_dec (f := fun n : Int => [AV.int .i64 n]) (Q := fun n => -9223372036854775808 ≤ n ∧ n ≤ 9223372036854775807) C fun c hc => by
  obtain ⟨a, c1, rfl, ⟨r, rfl, hr1, hr2⟩, g1⟩ := (h2 c hc).cons
  obtain rfl := g1.nil
  rw [min_i64] at hr1
  rw [max_i64] at hr2
  exact ⟨r, rfl, hr1, hr2⟩
 rw [e1, e2] at h1
 exact ⟨l, h1, e3⟩
theorem has_zero (x : Dot) : hasD zeros [] x = false := by
 cases hq : hasD zeros [] x with
 | false => rfl
 | true =>
  obtain ⟨hm, h⟩ := hasD_iff.1 hq
  have := Dot.may_iff.1 hm
  rcases h with h | h
  ·cases h
  ·have e : zeros.getD (x.r - 1).toNat 0 = 0 := by
    simp only [zeros, List.getD_eq_getElem?_getD, List.getElem?_replicate]
    split <;> rfl
   omega
theorem addD_any {v : List Int} {ex : List Dot} (ok : COk v ex) (gap : Gap v ex) (hn : ex.length < 4096) (d : Dot) : COk (addD v ex d).2.2.1 (addD v ex d).2.2.2 ∧ Gap (addD v ex d).2.2.1 (addD v ex d).2.2.2 ∧ (addD v ex d).2.2.2.length ≤ ex.length + 1 ∧ ∀ x, hasD (addD v ex d).2.2.1 (addD v ex d).2.2.2 x = true ↔ hasD v ex x = true ∨ (x = d ∧ d.may = true) := by
 cases hm : d.may with
 | false =>
  have : addD v ex d = (false, 2, v, ex) := by simp [addD, hm]
  rw [this]
  exact ⟨ok, gap, by simp, fun x => by simp⟩
 | true =>
  rw [addD_few hm hn]
  exact ⟨ok.add hm, Gap.add ok gap hm, addR_len, fun x => by rw [addR_has ok hm]; simp⟩
end Go.Proofs.Ytoklmpkpeanloaa
end

section
namespace Go.Proofs.Ytoklmpkpeanloaa
open Go.Am Go.Minster
/-! ### maps of dots -/
abbrev dK (d : Dot) : AV := .agg (dotC d)
abbrev bV (b : Bool) : AV := .agg [.bool b]
theorem tri_ok_Dot : ∀ r c : Int, akeyOk T 100 Y_Dot (.agg [.int .i64 r, .int .u64 c]) = true := by
 intro r c; kernel_rfl
theorem is_build : abuild T Y_struct__is_bool__ [(0, .bool true)] = some (.agg [.bool true]) := by kernel_rfl
/-! ### views -/
structure Vw where
 v : List Int
 ex : List Dot
 live : Dot → Bool
structure CtxF (F : List Nat) (s : AS) (p : Nat) (v : List Int) (ex : List Dot) : Prop where
 len : v.length = 16
 lab : p ∈ F
 mem : ∃ w, Am.Own s p (v.map (.int .u64) ++ [w, .bool true]) ∧ w.one = true ∧ Gro dotC 2 s w ex ∧ ∀ la ∈ labOf w, la ∈ F
theorem CtxF.at {F : List Nat} {s : AS} {p : Nat} {v : List Int} {ex : List Dot} (h : CtxF F s p v ex) : CtxAt s p v ex := by
 obtain ⟨h1, _, w, h2, h3, h4, h5⟩ := h
 exact ⟨h1, w, h2, h3, h4.sl dotC_len⟩
theorem CtxF.mut {F : List Nat} {s s' : AS} {L : List Nat} {p : Nat} {v : List Int} {ex : List Dot} (h : CtxF F s p v ex) (m : Mut L s s') (hL : ∀ x ∈ L, x ∉ F) : CtxF F s' p v ex := by
 obtain ⟨h1, h0, w, h2, h3, h4, h5⟩ := h
 exact ⟨h1, h0, w, h2.mut m (fun hx => hL p hx h0), h3, h4.mut m fun x hx hm => hL x hm (h5 x hx), h5⟩
theorem CtxF.sub {F F' : List Nat} {s : AS} {p : Nat} {v : List Int} {ex : List Dot} (h : CtxF F s p v ex) (hF : ∀ x ∈ F, x ∈ F') : CtxF F' s p v ex := by
 obtain ⟨h1, h0, w, h2, h3, h4, h5⟩ := h
 exact ⟨h1, hF _ h0, w, h2, h3, h4, fun x hx => hF x (h5 x hx)⟩
theorem CtxG.toF {s0 s : AS} {p : Nat} {v : List Int} {ex : List Dot} (h : CtxG s0 s p v ex) (hp : s0.h p = none) : ∃ F, CtxF F s p v ex ∧ (∀ x ∈ F, s0.h x = none) ∧ ∀ x ∈ F, s.h x ≠ none := by
 obtain ⟨h1, w, h2, h3, h4, h5⟩ := h
 refine ⟨p :: labOf w, ⟨h1, by simp, w, h2, h3, h4, fun x hx => by simp [hx]⟩, fun x hx => ?_, fun x hx => ?_⟩
 ·rcases List.mem_cons.1 hx with rfl | hx
  ·exact hp
  ·exact h5 x hx
 ·rcases List.mem_cons.1 hx with rfl | hx
  ·rw [h2]; simp
  ·rcases h4 with ⟨_, a, rfl⟩ | ⟨la, rfl, ho⟩
   ·simp [labOf] at hx
   ·obtain rfl : x = la := by simpa [labOf] using hx
    rw [ho]; simp
theorem CtxG.toF2 {s0 s : AS} {p : Nat} {v : List Int} {ex : List Dot} (h : CtxG s0 s p v ex) : ∃ F, CtxF F s p v ex ∧ (∀ x ∈ F, x = p ∨ s0.h x = none) ∧ ∀ x ∈ F, s.h x ≠ none := by
 obtain ⟨h1, w, h2, h3, h4, h5⟩ := h
 refine ⟨p :: labOf w, ⟨h1, by simp, w, h2, h3, h4, fun x hx => by simp [hx]⟩, fun x hx => ?_, fun x hx => ?_⟩
 ·rcases List.mem_cons.1 hx with rfl | hx
  ·exact .inl rfl
  ·exact .inr (h5 x hx)
 ·rcases List.mem_cons.1 hx with rfl | hx
  ·rw [h2]; simp
  ·rcases h4 with ⟨_, a, rfl⟩ | ⟨la, rfl, ho⟩
   ·simp [labOf] at hx
   ·obtain rfl : x = la := by simpa [labOf] using hx
    rw [ho]; simp
/-! ### matrices -/
section
variable {F : List Nat} {s s' : AS} {p m : Nat} {n o : Int} {told : Int → Option Vw} {has : List Int}
end
end Go.Proofs.Ytoklmpkpeanloaa
end

section
namespace Go.Proofs.Ytoklmpkpeanloaa
open Go.Am Go.Minster Go.Minster2
/-! ### maps of dots -/
abbrev kV (k : Key) : AV := .agg (keyC k)
theorem mp_tombs : MpTy (K := Dot) T Y_m_Dot_struct__is_bool__ Y_Dot Y_struct__is_bool__ dK (bV false) :=
 ⟨u_m_Dot_struct__is_bool__, fun a b => dot_eq a b, fun a => tri_ok_Dot a.r a.c, fun a => by simp [abits, bitsL, dotC], zr_struct__is_bool__⟩
theorem mp_live : MpTy (K := Dot) T Y_m_Dot_Key Y_Dot Y_Key dK (kV ⟨[], []⟩) :=
 ⟨u_m_Dot_Key, fun a b => dot_eq a b, fun a => tri_ok_Dot a.r a.c, fun a => by simp [abits, bitsL, dotC], zr_Key⟩
theorem st_Dot : StTy T Y_Dot 2 := ⟨ag_Dot, z_Dot, _, _, zr_Dot, rfl, rfl⟩
theorem sty_s_Dot : STy T Y_s_Dot := ⟨ag_s_Dot, z_s_Dot⟩
theorem _root_.Go.Am.GroN.map {α β : Type} {f : α → List AV} {g : β → List AV} {h : α → β} (hg : ∀ x, g (h x) = f x) {sz : Nat} {M : List Nat} {s0 s : AS} {v : AV} {l : List α} (G : GroN f sz M s0 s v l) : GroN g sz M s0 s v (l.map h) := by
 refine ⟨?_, G.chg, G.new⟩
 have e : (l.map h).flatMap g = l.flatMap f := by
  rw [List.flatMap_map]; congr 1; funext x; exact hg x
 rcases G.gro with ⟨rfl, a, rfl⟩ | ⟨la, rfl, ho⟩
 ·exact .inl ⟨rfl, a, rfl⟩
 ·exact .inr ⟨la, by rw [List.length_map], by rw [e]; exact ho⟩
section
variable {V : Type} {vf : V → AV} {m : Nat} {es : List (Dot × V × Nat)} {c : Nat} {ro : Bool} {s : AS}
theorem collect_keys {gf : FuncId} {lb : Nat} (hgf : callable Try.prog gf = true) (hes : es.length ≤ 2 ^ 30) (hm : MpAt dK vf s m es c ro)
  (hrun : ∀ s1, Ext s s1 → WFs s1 → ItRun Try.prog dK vf m es c ro (fun e => dotC e.1) gf [.ptr (some (lb, 0))] s1) :
  ACalls Try.prog F_slices_Collect__Dot [.func gf [.ptr (some (lb, 0))]] s fun v s' => ∃ done : List (Dot × V × Nat), (∀ e ∈ es, e ∈ done) ∧ (∀ e ∈ done, e ∈ es) ∧ done.Nodup ∧ GroN dotC 2 [] s s' v (done.map fun e => e.1) := by
 refine q_slices_Collect__Dot _ _ _ ?_
 refine (appendSeq_calls hT Try.func107 (by kernel_rfl) (ts := Y_s_Dot) (te := Y_Dot) (tq := Y_iter_Seq_Dot_) (by kernel_rfl) (by kernel_rfl) (by kernel_rfl) sty_s_Dot sl_s_Dot st_Dot (el := fun e => dotC e.1) (fun e => rfl) (fun e => rfl) hgf hes hm hrun).mono ?_
 rintro v s' ⟨done, h1, h2, h3, g⟩
 exact ⟨done, h1, h2, h3, GroN.map (h := fun e : Dot × V × Nat => e.1) (fun x => rfl) g⟩
theorem sorted_keys {gf : FuncId} {lb : Nat} (hgf : callable Try.prog gf = true) (hes : es.length < 65536) (hm : MpAt dK vf s m es c ro)
  (hrun : ∀ s1, Ext s s1 → WFs s1 → ItRun Try.prog dK vf m es c ro (fun e => dotC e.1) gf [.ptr (some (lb, 0))] s1) :
  ACalls Try.prog F_slices_SortedFunc__Dot [.func gf [.ptr (some (lb, 0))], .func F_orset_order []] s fun v s' => ∃ l : List Dot, Rising l ∧ (∀ d, d ∈ l ↔ ∃ e ∈ es, e.1 = d) ∧ l.length = es.length ∧ ArrN s s' v l := by
 refine q_slices_SortedFunc__Dot _ _ _ _ ?_
 refine ACalls.use (collect_keys hgf (by omega) hm hrun) ?_
 rintro v s2 ⟨done, h1, h2, h3, g⟩ w2
 have hnd : (done.map fun e => e.1).Nodup := by
  refine List.pairwise_map.2 (List.Pairwise.imp_of_mem ?_ h3)
  intro a b ha hb hab he
  have ha' := h2 a ha
  have hb' := h2 b hb
  refine hab ?_
  have hp := hm.nd
  have key : ∀ (l : List (Dot × V × Nat)), l.Pairwise (fun a b => a.1 ≠ b.1) → a ∈ l → b ∈ l → a = b := by
   intro l
   induction l with
   | nil => intro _ h; cases h
   | cons x l ih =>
    intro hp h4 h5
    obtain ⟨p1, p2⟩ := List.pairwise_cons.1 hp
    rcases List.mem_cons.1 h4 with r4 | h4 <;> rcases List.mem_cons.1 h5 with r5 | h5
    ·rw [r4, r5]
    ·exact absurd (by rw [← r4]; exact he) (p1 b h5)
    ·exact absurd (by rw [← r5]; exact he.symm) (p1 a h4)
    ·exact ih p2 h4 h5
  exact key es hp ha' hb'
 have hlen : (done.map fun e => e.1).length = es.length := by
  rw [List.length_map]
  have hes2 : es.Nodup := hm.nd.imp fun {a b} h e => h (by rw [e])
  exact ((List.perm_ext_iff_of_nodup h3 hes2).2 fun a => ⟨h2 a, h1 a⟩).length_eq
 refine ACalls.use (sortGro_ok g (by omega)) ?_
 rintro r s4 ⟨rfl, l, hp, hs, ha⟩ w4
 refine ⟨rfl, l, ?_, fun d => ?_, by rw [hp.length_eq, hlen], ha⟩
 ·have hn : l.Nodup := hp.nodup_iff.2 hnd
  refine List.pairwise_iff_getElem.2 fun i j hi hj hij => ?_
  have hle : (el l i).le (el l j) := hs i j (by omega) hij hj
  have ei : el l i = l[i] := by have := el_get hi; rw [List.getElem?_eq_getElem hi] at this; exact (Option.some.inj this).symm
  have ej : el l j = l[j] := by have := el_get hj; rw [List.getElem?_eq_getElem hj] at this; exact (Option.some.inj this).symm
  rw [ei, ej] at hle
  cases hlt : l[i].lt l[j] with
  | true => rfl
  | false =>
   exfalso
   rcases Dot.le_iff.1 hle with h | ⟨h5, h6⟩
   ·have := (Dot.lt_iff (a := l[i]) (b := l[j])).2 (.inl h); rw [hlt] at this; cases this
   ·have h7 : ¬ l[i].c < l[j].c := fun h => by
     have := (Dot.lt_iff (a := l[i]) (b := l[j])).2 (.inr ⟨h5, h⟩); rw [hlt] at this; cases this
    have : l[i] = l[j] := by
     cases hx : l[i]; cases hy : l[j]
     rw [hx, hy] at h5 h6 h7
     simp only at h5 h6 h7
     rw [h5, show _ = _ from Int.le_antisymm h6 (by omega)]
    exact absurd this ((List.pairwise_iff_getElem.1 hn) i j hi hj hij)
 ·rw [hp.mem_iff, List.mem_map]
  constructor
  ·rintro ⟨e, he, rfl⟩; exact ⟨e, h2 e he, rfl⟩
  ·rintro ⟨e, he, rfl⟩; exact ⟨e, h1 e he, rfl⟩
end
end Go.Proofs.Ytoklmpkpeanloaa
end

section
namespace Go.Proofs.Ytoklmpkpeanloaa
open Go.Am Go.Minster Go.Minster2
section
variable {m : Nat} {c : Nat} {ro : Bool} {s : AS}
theorem tombs_run {es : List (Dot × Bool × Nat)} {lb : Nat} (hb : At s lb [.map (some m)]) (hm : MpAt dK bV s m es c ro) : ∀ s1, Ext s s1 → WFs s1 → ItRun Try.prog dK bV m es c ro (fun e => dotC e.1) F_maps_Keys__m_Dot_struct_is_bool__Dot_struct_is_bool__1 [.ptr (some (lb, 0))] s1 :=
 fun s1 e _ => keys_run hT Try.func89 (tm := Y_m_Dot_struct__is_bool__) (tk := Y_Dot) (tf := Y_func_Dot__bool) (tb := Y_bool) (by kernel_rfl) (by kernel_rfl) (by kernel_rfl) ag_m_Dot_struct__is_bool__ u_m_Dot_struct__is_bool__ st_Dot (kc := dotC) (fun k => ⟨rfl, rfl⟩) (hb.ext e) (hm.ext e)
theorem tombs_sorted {es : List (Dot × Bool × Nat)} (hes : es.length < 65536) (hm : MpAt dK bV s m es c ro) {R : AV → AS → Prop} (hR : ∀ v s' (l : List Dot), Rising l → (∀ d, d ∈ l ↔ ∃ e ∈ es, e.1 = d) → l.length = es.length → ArrN s s' v l → WFs s' → R v s') :
  ACalls Try.prog F_maps_Keys__m_Dot_struct_is_bool__Dot_struct_is_bool [.map (some m)] s fun v4 s5 => ACalls Try.prog F_slices_SortedFunc__Dot [v4, .func F_orset_order []] s5 R := by
 refine ACalls.pre fun hw => q_maps_Keys__m_Dot_struct_is_bool__Dot_struct_is_bool _ _ _ (NewQ.intro hw rfl fun lb s1 F => ?_)
 have h1 := hm.ext F.ext
 refine ACalls.use (sorted_keys (by kernel_rfl) hes h1 (tombs_run F.own.at h1)) ?_
 rintro v s2 ⟨l, a, b, d, e⟩ w2
 refine hR v s2 l a b d ⟨F.ext.trans e.1, e.2.imp id fun ⟨la, h1, h2, h3⟩ => ⟨la, h1, h2, F.ext.none h3⟩⟩ w2
/-! ### maps.Clone -/
theorem find112 : Extern.find Try.f112 = some Extern.MapsClone.clone := by kernel_rfl
theorem next112 : Extern.findNext Try.f112 = none := by kernel_rfl
theorem name112 : (Try.f112.name == "runtime.NumGoroutine") = false := by kernel_rfl
theorem body112 : Try.f112.body.isNone = true := by kernel_rfl
theorem MpAt.copy {K V : Type} [DecidableEq K] {kf : K → AV} {vf : V → AV} {es : List (K × V × Nat)} {s s' : AS} {m' : Nat} (h : MpAt kf vf s m es c ro) (F : Fresh s s' m' (.map (ents kf vf es) c false)) : MpAt kf vf s' m' es c false := ⟨F.at, h.st, h.lt, h.nd⟩
theorem live_clone {es : List (Dot × Key × Nat)} (hm : MpAt dK kV s m es c ro) : ACalls Try.prog F_maps_Clone__m_Dot_Key_Dot_Key [.map (some m)] s fun v s' => ∃ m', v = .map (some m') ∧ Ext s s' ∧ s.h m' = none ∧ MpAt dK kV s' m' es c false := by
 refine (clone_calls hT Try.func96 (tm := Y_m_Dot_Key) (ti := Y_interface__) (tb := Y_bool) (cl := F_maps_clone) (by kernel_rfl) (by kernel_rfl) (by kernel_rfl) (by kernel_rfl) u_m_Dot_Key Try.func112 name112 body112 next112 find112 hm.obj).mono ?_
 rintro v s' ⟨m', rfl, F⟩
 exact ⟨m', rfl, F.ext, F.no, MpAt.copy hm F⟩
theorem tombs_clone {es : List (Dot × Bool × Nat)} (hm : MpAt dK bV s m es c ro) : ACalls Try.prog F_maps_Clone__m_Dot_struct_is_bool__Dot_struct_is_bool [.map (some m)] s fun v s' => ∃ m', v = .map (some m') ∧ Ext s s' ∧ s.h m' = none ∧ MpAt dK bV s' m' es c false := by
 refine (clone_calls hT Try.func97 (tm := Y_m_Dot_struct__is_bool__) (ti := Y_interface__) (tb := Y_bool) (cl := F_maps_clone) (by kernel_rfl) (by kernel_rfl) (by kernel_rfl) (by kernel_rfl) u_m_Dot_struct__is_bool__ Try.func112 name112 body112 next112 find112 hm.obj).mono ?_
 rintro v s' ⟨m', rfl, F⟩
 exact ⟨m', rfl, F.ext, F.no, MpAt.copy hm F⟩
end
end Go.Proofs.Ytoklmpkpeanloaa
end

section
namespace Go.Proofs.Ytoklmpkpeanloaa
open Go.Am Go.Minster Go.Minster2
def LiveAt (s : AS) (l : Nat) (f : Dot → Option Key) (n : Nat) : Prop := ∃ es c, MpAt dK kV s l es c false ∧ (∀ d, mget es d = f d) ∧ es.length = n
theorem LiveAt.mut {s s' : AS} {l n : Nat} {f : Dot → Option Key} {L : List Nat} (h : LiveAt s l f n) (e : Mut L s s') (hl : l ∉ L) : LiveAt s' l f n := by
 obtain ⟨es, c, h1, h2, h3⟩ := h; exact ⟨es, c, h1.mut e hl, h2, h3⟩
theorem LiveAt.ext {s s' : AS} {l n : Nat} {f : Dot → Option Key} (h : LiveAt s l f n) (e : Ext s s') : LiveAt s' l f n := h.mut (L := []) e.mut (by simp)
def TombAt (s : AS) (l : Nat) (f : Dot → Bool) (n : Nat) : Prop := ∃ es c, MpAt dK bV s l es c false ∧ (∀ d, mget es d = if f d then some true else none) ∧ es.length = n
theorem TombAt.mut {s s' : AS} {l n : Nat} {f : Dot → Bool} {L : List Nat} (h : TombAt s l f n) (e : Mut L s s') (hl : l ∉ L) : TombAt s' l f n := by
 obtain ⟨es, c, h1, h2, h3⟩ := h; exact ⟨es, c, h1.mut e hl, h2, h3⟩
theorem TombAt.ext {s s' : AS} {l n : Nat} {f : Dot → Bool} (h : TombAt s l f n) (e : Ext s s') : TombAt s' l f n := h.mut (L := []) e.mut (by simp)
structure OSet where
 v : List Int
 ex : List Dot
 live : Dot → Option Key
 tomb : Dot → Bool
 nl : Nat
 nt : Nat
structure SetF (F : List Nat) (s : AS) (p : Nat) (x : OSet) : Prop where
 ok : COk x.v x.ex
 gap : Gap x.v x.ex
 len : x.ex.length ≤ 4096
 mem : ∃ pc lm tm, Am.Own s p [.ptr (some (pc, 0)), .map (some lm), .map (some tm)] ∧ p ∈ F ∧ CtxF F s pc x.v x.ex ∧ lm ∈ F ∧ tm ∈ F ∧ lm ≠ tm ∧ LiveAt s lm x.live x.nl ∧ TombAt s tm x.tomb x.nt
theorem SetF.mut {F : List Nat} {s s' : AS} {L : List Nat} {p : Nat} {x : OSet} (h : SetF F s p x) (m : Mut L s s') (hL : ∀ y ∈ L, y ∉ F) : SetF F s' p x := by
 obtain ⟨h1, h2, h3, pc, lm, tm, a, b, c, d, e, f, g, i⟩ := h
 exact ⟨h1, h2, h3, pc, lm, tm, a.mut m (fun hx => hL p hx b), b, c.mut m hL, d, e, f, g.mut m (fun hx => hL lm hx d), i.mut m (fun hx => hL tm hx e)⟩
theorem SetF.ext {F : List Nat} {s s' : AS} {p : Nat} {x : OSet} (h : SetF F s p x) (e : Ext s s') : SetF F s' p x := h.mut (L := []) e.mut (by simp)
section
variable {F : List Nat} {s : AS} {p : Nat} {x : OSet}
theorem there_ok (h : SetF F s p x) : ACalls Try.prog F_orset_Set_there [.ptr (some (p, 0))] s fun r s' => r = .bool true ∧ s' = s := by
 obtain ⟨_, _, _, pc, lm, tm, a, _⟩ := h
 exact q_orset_Set_there _ _ _ ⟨_, aeqPtrNil u_p_orset_Set _, bsplit.yes rfl ⟨_, by rw [a.at.rd1]; rfl, _, aeqPtrNil u_p_ctx_Ctx _, rfl, rfl⟩⟩
theorem Tombs_ok (h : SetF F s p x) (hn : x.nt < 65536) : ACalls Try.prog F_orset_Set_Tombs [.ptr (some (p, 0))] s fun r s' => ∃ l, ArrN s s' r l ∧ Rising l ∧ (∀ d, d ∈ l ↔ x.tomb d = true) ∧ l.length = x.nt := by
 refine q_orset_Set_Tombs _ _ _ ?_
 refine ACalls.use (there_ok h) ?_
 rintro v s2 ⟨rfl, rfl⟩ w2
 obtain ⟨_, _, _, pc, lm, tm, a, _, _, _, _, _, _, es, c, hm, hg, hl⟩ := h
 refine ⟨_, rfl, bsplit.no rfl ⟨_, by rw [a.at.rd1]; rfl, tombs_sorted (by omega) hm fun v s' l h1 h2 h3 h4 _ => ⟨l, h4, h1, fun d => ?_, by omega⟩⟩⟩
 rw [h2]
 have := hg d
 constructor
 ·rintro ⟨e, he, rfl⟩
  have h5 := mget_mem hm.nd he
  rw [hg] at h5
  cases hq : x.tomb e.1 with
  | true => rfl
  | false => rw [hq] at h5; cases h5
 ·intro hq
  rw [hq] at this
  obtain ⟨j, k, hj⟩ := mget_some (show mget es d = some true from this)
  exact ⟨_, List.mem_of_getElem? hj, rfl⟩
theorem set_build (pc : Nat) (lm tm : Nat) : abuild T Y_orset_Set [(0, .ptr (some (pc, 0))), (1, .map (some lm)), (2, .map (some tm))] = some (.agg [.ptr (some (pc, 0)), .map (some lm), .map (some tm)]) := by
 rw [abuild_pl (pl := [(0, 1), (1, 1), (2, 1)]) (by kernel_rfl) zr_orset_Set rfl]
 rfl
theorem Copy_ok (h : SetF F s p x) : ACalls Try.prog F_orset_Set_Copy [.ptr (some (p, 0))] s fun r s' => ∃ p' F', r = .ptr (some (p', 0)) ∧ SetF F' s' p' x ∧ (∀ y ∈ F', s.h y = none) ∧ (∀ y ∈ F', s'.h y ≠ none) ∧ Ext s s' := by
 refine q_orset_Set_Copy _ _ _ ?_
 refine ACalls.use (there_ok h) ?_
 rintro v s2 ⟨rfl, rfl⟩ w2
 have hlx := h.len
 obtain ⟨ok, gap, len, pc, lm, tm, a, hpF, hc, hlF, htF, hlt, hl, ht⟩ := id h
 have g : ∀ (i : Nat) s', Ext s2 s' → rd1 s' p i = [AV.ptr (some (pc, 0)), .map (some lm), .map (some tm)][i]? := fun i s' e => (a.ext e).at.rd1 i
 refine ⟨_, rfl, bsplit.no rfl ⟨fun q _ v s' => (q = 4 → ∃ pc, v = .ptr (some (pc, 0)) ∧ s2.h pc = none ∧ CtxG s2 s' pc x.v x.ex) ∧ (q = 9 → ∃ lm, v = .map (some lm) ∧ s2.h lm = none ∧ LiveAt s' lm x.live x.nl), fun q _ v => (q = 4 → ∃ pc, v = .ptr (some (pc, 0))) ∧ (q = 9 → ∃ lm, v = .map (some lm)), ?_, _, g 0 _ (Ext.refl _), fun s7 e7 w7 _ => ?_, ⟨.ptr (some (0, 0)), (fun _ => ⟨0, rfl⟩), (fun h => by cases h)⟩, fun v11 hv11 => ?_⟩⟩
 ·rintro q ks v s' s'' e ⟨h1, h2⟩
  refine ⟨fun hq => ?_, fun hq => ?_⟩
  ·obtain ⟨a, b, c, d⟩ := h1 hq; exact ⟨a, b, c, d.ext e⟩
  ·obtain ⟨a, b, c, d⟩ := h2 hq; exact ⟨a, b, c, d.ext e⟩
 ·refine (ctx_Copy_G (hc.at.ext e7) (by omega)).mono ?_
  rintro v s9 ⟨q, rfl, hq, g9, e9⟩
  exact ⟨_, rfl, e9, ⟨(fun _ => ⟨q, rfl, e7.none hq, g9.back e7⟩), (fun h => by cases h)⟩, (fun _ => ⟨q, rfl⟩), (fun h => by cases h)⟩
 obtain ⟨pc', rfl⟩ := hv11.1 rfl
 refine ⟨_, rfl, _, g 1 _ (Ext.refl _), fun s16 e16 w16 _ => ?_, ⟨.map (some 0), (fun h => by cases h), (fun _ => ⟨0, rfl⟩)⟩, fun v20 hv20 => ?_⟩
 ·obtain ⟨es, c, h1, h2, h3⟩ := hl.ext e16
  refine (live_clone h1).mono ?_
  rintro v s18 ⟨m', rfl, e18, hm', hM⟩
  exact ⟨_, rfl, e18, ⟨(fun h => by cases h), (fun _ => ⟨m', rfl, e16.none hm', es, c, hM, h2, h3⟩)⟩, (fun h => by cases h), (fun _ => ⟨m', rfl⟩)⟩
 obtain ⟨lm', rfl⟩ := hv20.2 rfl
 refine ⟨_, rfl, _, g 2 _ (Ext.refl _), fun s25 e25 w25 hS => ?_⟩
 obtain ⟨pc2, hpc, hpc0, hG⟩ := hS.1.1 rfl
 obtain ⟨lm2, hlm, hlm0, hL⟩ := hS.2.1.2 rfl
 simp only [AV.ptr.injEq, AV.map.injEq, Option.some.injEq, Prod.mk.injEq, and_true] at hpc hlm
 subst hpc; subst hlm
 obtain ⟨es, c, h1, h2, h3⟩ := ht.ext e25
 refine ACalls.use (tombs_clone h1) ?_
 rintro v s28 ⟨tm', rfl, e28, htm, hM⟩ w28
 refine ⟨_, rfl, _, set_build _ _ _, rfl, NewQ.intro w28 rfl fun p' s30 F30 => ?_⟩
 obtain ⟨Fc, hcF, hFn, hFt⟩ := hG.toF hpc0
 have e30 := e28.trans F30.ext
 have E30 := e25.trans e30
 have hlt' : lm' ≠ tm' := by
  rintro rfl
  obtain ⟨es', c', h4, _⟩ := hL
  rw [h4.obj] at htm; cases htm
 refine ⟨p', p' :: lm' :: tm' :: Fc, rfl, ⟨ok, gap, len, pc', lm', tm', F30.own, by simp, (hcF.mut (L := []) e30.mut (by simp)).sub (fun y hy => by simp [hy]), by simp, by simp, hlt', hL.ext e30, es, c, hM.ext F30.ext, h2, h3⟩, ?_, ?_, E30⟩
 ·intro y hy
  simp only [List.mem_cons] at hy
  rcases hy with rfl | rfl | rfl | hy
  ·exact (e25.trans e28).none F30.no
  ·exact hlm0
  ·exact e25.none htm
  ·exact hFn y hy
 ·intro y hy
  simp only [List.mem_cons] at hy
  rcases hy with rfl | rfl | rfl | hy
  ·rw [F30.at]; simp
  ·obtain ⟨es', c', h4, _⟩ := hL.ext e30
   rw [h4.obj]; simp
  ·rw [(hM.ext F30.ext).obj]; simp
  ·cases hq : s25.h y with
   | none => exact absurd hq (hFt y hy)
   | some ob => rw [e30.1 y ob hq]; simp
end
end Go.Proofs.Ytoklmpkpeanloaa
end

section
namespace Go.Proofs.Ytoklmpkpeanloaa
open Go.Am Go.Minster Go.Minster2
theorem Ext.wrL {s s1 s2 : AS} {L : List Nat} (e : Ext s s1) (hp : ∀ x ∈ L, s.h x = none) (m : Mut L s1 s2) : Ext s s2 :=
 ⟨fun x o hx => m.1 x o (fun hm => by rw [hp x hm] at hx; cases hx) (e.1 x o hx), Nat.le_trans e.2 m.2⟩
section
variable {s : AS} {l n : Nat}
theorem LiveAt.obj {f : Dot → Option Key} (h : LiveAt s l f n) : ∃ es c, s.h l = some (.map es c false) := by
 obtain ⟨es, c, h1, _⟩ := h; exact ⟨_, _, h1.obj⟩
theorem TombAt.obj {f : Dot → Bool} (h : TombAt s l f n) : ∃ es c, s.h l = some (.map es c false) := by
 obtain ⟨es, c, h1, _⟩ := h; exact ⟨_, _, h1.obj⟩
theorem LiveAt.del (hw : WFs s) {f : Dot → Option Key} (h : LiveAt s l f n) {d : Dot} {k : Key} (hd : f d = some k) {Q : AS → Prop}
  (hq : ∀ s', LiveAt s' l (fun x => if x = d then none else f x) (n - 1) → WFs s' → Mut [l] s s' → Q s') : StQ (adelete T Y_m_Dot_Key (.map (some l)) (.agg (dotC d)) s) Q := by
 obtain ⟨es, c, h1, h2, h3⟩ := h
 refine MpAt.del mp_live hw h1 d (by rw [h2]; exact hd) fun s' es' h1' h2' hl w m => hq s' ⟨es', c, h1', fun x => ?_, by omega⟩ w m
 rw [h2', h2]
theorem LiveAt.upd (hw : WFs s) {f : Dot → Option Key} (h : LiveAt s l f n) (d : Dot) (k : Key) {Q : AS → Prop}
  (hq : ∀ s', LiveAt s' l (fun x => if x = d then some k else f x) (if (f d).isSome then n else n + 1) → WFs s' → Mut [l] s s' → Q s') : StQ (amapUpdate T Y_m_Dot_Key (.map (some l)) (.agg (dotC d)) (.agg (keyC k)) s) Q := by
 obtain ⟨es, c, h1, h2, h3⟩ := h
 refine MpAt.upd mp_live hw h1 d k fun s' es' c' h1' h2' w m => hq s' ⟨es', c', h1', fun x => ?_, ?_⟩ w m
 ·rw [h2', h2]
 ·rw [upd_len h1.nd h1'.nd h2', h2, h3]
theorem TombAt.upd (hw : WFs s) {f : Dot → Bool} (h : TombAt s l f n) (d : Dot) {Q : AS → Prop}
  (hq : ∀ s', TombAt s' l (fun x => f x || decide (x = d)) (if f d then n else n + 1) → WFs s' → Mut [l] s s' → Q s') : StQ (amapUpdate T Y_m_Dot_struct__is_bool__ (.map (some l)) (.agg (dotC d)) (.agg [.bool true]) s) Q := by
 obtain ⟨es, c, h1, h2, h3⟩ := h
 refine MpAt.upd mp_tombs hw h1 d true fun s' es' c' h1' h2' w m => hq s' ⟨es', c', h1', fun x => ?_, ?_⟩ w m
 ·rw [h2', h2]
  by_cases e : x = d
  ·simp [e]
  ·simp [e]
 ·rw [upd_len h1.nd h1'.nd h2', h2, h3]
  cases f d <;> simp
end
theorem compact_len (v : List Int) (ex : List Dot) : (compact v ex).2.length ≤ ex.length := by
 have := fold_len ex (v, [])
 simpa [compact] using this
def OSet.see (x : OSet) (i : Itm) : Bool × OSet :=
 if (x.live i.dot).isSome && i.gone then (true, { x with live := fun d => if d = i.dot then none else x.live d, tomb := fun d => x.tomb d || decide (d = i.dot), nl := x.nl - 1, nt := if x.tomb i.dot then x.nt else x.nt + 1 })
 else if hasD x.v x.ex i.dot then (false, x)
 else if i.gone then (true, { x with v := (compact x.v (ins x.ex i.dot)).1, ex := (compact x.v (ins x.ex i.dot)).2, tomb := fun d => x.tomb d || decide (d = i.dot), nt := if x.tomb i.dot then x.nt else x.nt + 1 })
 else (true, { x with v := (compact x.v (ins x.ex i.dot)).1, ex := (compact x.v (ins x.ex i.dot)).2, live := fun d => if d = i.dot then some i.key else x.live d, nl := if (x.live i.dot).isSome then x.nl else x.nl + 1 })
theorem see_len (x : OSet) (i : Itm) (ok : COk x.v x.ex) (hi : i.dot.may = true) (hroom : x.ex.length < 4096) : (x.see i).2.ex.length ≤ x.ex.length + 1 ∧ (x.see i).2.nl ≤ x.nl + 1 ∧ (x.see i).2.nl + (x.see i).2.nt ≤ x.nl + x.nt + 1 := by
 have hc : (compact x.v (ins x.ex i.dot)).2.length ≤ x.ex.length + 1 := by
  have := compact_len x.v (ins x.ex i.dot)
  rw [ins_len] at this; exact this
 unfold OSet.see
 split
 ·refine ⟨by simp, by simp; omega, ?_⟩
  simp only
  split <;> omega
 ·split
  ·refine ⟨by simp, by simp, by simp⟩
  ·split
   ·refine ⟨hc, by simp, ?_⟩
    simp only; split <;> omega
   ·refine ⟨hc, ?_, ?_⟩ <;> simp only <;> split <;> omega
section
variable {F : List Nat} {s : AS} {p : Nat} {x : OSet}
theorem addD_no {v : List Int} {ex : List Dot} {d : Dot} (hh : hasD v ex d = true) (hd : d.may = true) : addD v ex d = (false, 0, v, ex) := by simp [addD, hd, hh]
theorem addD_yes {v : List Int} {ex : List Dot} {d : Dot} (hh : hasD v ex d = false) (hd : d.may = true) (hn : ex.length < 4096) : addD v ex d = (true, 0, compact v (ins ex d)) := by
 have hc := compact_len v (ins ex d)
 rw [ins_len] at hc
 simp only [addD, hd, hh, Bool.true_eq_false, Bool.false_eq_true, if_false]
 rw [if_neg (by omega)]
theorem see_ok (h : SetF F s p x) (hth : ∀ y ∈ F, s.h y ≠ none) (i : Itm) (hi : i.dot.may = true) (hroom : x.ex.length < 4096) :
  ACalls Try.prog F_orset_Set_see [.ptr (some (p, 0)), .agg (itemC i)] s fun r s' => r = .tup [.bool (x.see i).1, .int .i64 0] ∧ ∃ F', SetF F' s' p (x.see i).2 ∧ (∀ y ∈ F', y ∈ F ∨ s.h y = none) ∧ (∀ y ∈ F', s'.h y ≠ none) ∧ Mut F s s' := by
 refine ACalls.pre fun hw => q_orset_Set_see _ _ _ _ ⟨rfl, NewQ.intro hw rfl fun l1 s2 F2 => ?_⟩
 have h2 := h.ext F2.ext
 obtain ⟨ok, gap, hlen, pc, lm, tm, a, hpF, hc, hlF, htF, hlt, hl, ht⟩ := id h2
 have hf : alookup T Y_m_Dot_Key (.map (some lm)) (.agg (dotC i.dot)) true s2 = some (.tup [.agg (keyC ((x.live i.dot).getD ⟨[], []⟩)), .bool (x.live i.dot).isSome]) := by
  obtain ⟨es, c, hm, hg, _⟩ := hl
  have hf := hm.find mp_live i.dot true
  rw [hg] at hf
  refine Eq.trans (show _ = _ from hf) ?_
  cases x.live i.dot <;> rfl
 refine ⟨_, by rw [a.at.rd1]; rfl, _, F2.own.at.rdc (by simp [itemC]), keyC ((x.live i.dot).getD ⟨[], []⟩), (x.live i.dot).isSome, hf, ?_⟩
 refine NewSt F2.wf rfl rfl rfl fun l9 s11 F11 => ?_
 have E11 := F2.ext.trans F11.ext
 have o1 : Am.Own s11 l1 (itemC i) := F2.own.ext F11.ext
 have hpl : p ≠ lm := by rintro rfl; obtain ⟨es, c, h⟩ := hl.obj; rw [a] at h; cases h
 have hpt : p ≠ tm := by rintro rfl; obtain ⟨es, c, h⟩ := ht.obj; rw [a] at h; cases h
 have hF1 : l1 ∉ F := fun hm => hth l1 hm F2.no
 refine ⟨fun vs s' => vs = [.bool ((x.live i.dot).isSome && i.gone)] ∧ s' = s11, ?_, bsplit.mk (fun hs => ⟨i.gone, by rw [o1.at.rd1]; rfl, by rw [hs]; rfl, rfl⟩) (fun hs => ⟨by rw [hs]; rfl, rfl⟩)⟩
 rintro b s14 ⟨hb, rfl⟩
 simp only [List.cons.injEq, AV.bool.injEq, and_true] at hb
 subst hb
 have h14 := h2.ext F11.ext
 replace a := a.ext F11.ext
 replace hc := hc.mut (L := []) F11.ext.mut (by simp)
 replace hl := hl.ext F11.ext
 replace ht := ht.ext F11.ext
 have hth14 : ∀ y ∈ F, s14.h y ≠ none := fun y hy hn => hth y hy (E11.none hn)
 refine bsplit.mk (fun hb => ?_) (fun hb => ?_)
 ·simp only [Bool.and_eq_true] at hb
  obtain ⟨k, hk⟩ := Option.isSome_iff_exists.1 hb.1
  have hsee : x.see i = (true, { x with live := fun d => if d = i.dot then none else x.live d, tomb := fun d => x.tomb d || decide (d = i.dot), nl := x.nl - 1, nt := if x.tomb i.dot then x.nt else x.nt + 1 }) := by
   unfold OSet.see
   rw [if_pos (by simp [hb])]
  refine ⟨_, by rw [a.at.rd1]; rfl, _, o1.at.rdc (by simp [itemC]), hl.del F11.wf hk fun s19 hl19 w19 m19 => ?_⟩
  have ht19 := ht.mut m19 (by simpa using hlt.symm)
  have a19 := a.mut m19 (by simpa using hpl)
  have o19 := o1.mut m19 (by simp only [List.mem_singleton]; rintro rfl; exact hF1 hlF)
  refine ⟨_, by rw [a19.at.rd1]; rfl, _, o19.at.rdc (by simp [itemC]), _, is_build, ht19.upd w19 i.dot fun s25 ht25 w25 m25 => ?_⟩
  have hml : ∀ y ∈ [lm], y ∈ F := by simpa using hlF
  have hmt : ∀ y ∈ [tm], y ∈ F := by simpa using htF
  have M : Mut F s s25 := E11.mut.trans ((m19.mono hml).trans (m25.mono hmt))
  have hcl : pc ∉ [lm] := by
   simp only [List.mem_singleton]
   rintro rfl
   obtain ⟨_, _, w, hw2, _⟩ := hc
   obtain ⟨es, c, h⟩ := hl.obj
   rw [hw2] at h; cases h
  have hct : pc ∉ [tm] := by
   simp only [List.mem_singleton]
   rintro rfl
   obtain ⟨_, _, w, hw2, _⟩ := hc
   obtain ⟨es, c, h⟩ := ht.obj
   rw [hw2] at h; cases h
  have hc25 : CtxF F s25 pc x.v x.ex := by
   obtain ⟨q1, q2, w, q3, q4, q5, q6⟩ := hc
   have keep : ∀ (m : Nat) (es : List (AV × AV × Nat)) (c : Nat), s14.h m = some (.map es c false) → ∀ y ∈ labOf w, y ≠ m := by
    rintro m es c hm y hy rfl
    rcases q5 with ⟨_, b, rfl⟩ | ⟨la, rfl, ho⟩
    ·simp [labOf] at hy
    ·obtain rfl : y = la := by simpa [labOf] using hy
     rw [ho] at hm; cases hm
   obtain ⟨es1, c1, e1⟩ := hl.obj
   obtain ⟨es2, c2, e2⟩ := ht.obj
   have q5' := q5.mut m19 fun y hy hm => keep _ _ _ e1 y hy (by simpa using hm)
   exact ⟨q1, q2, w, (q3.mut m19 hcl).mut m25 hct, q4, q5'.mut m25 fun y hy hm => keep _ _ _ e2 y hy (by simpa using hm), q6⟩
  rw [hsee]
  refine ⟨rfl, F, ⟨ok, gap, hlen, pc, lm, tm, a19.mut m25 (by simpa using hpt), hpF, hc25, hlF, htF, hlt, hl19.mut m25 (by simpa using hlt), ht25⟩, fun y hy => .inl hy, fun y hy => ?_, M⟩
  have keepN : ∀ {m : Nat} {u u' : AS}, Mut [m] u u' → u'.h m ≠ none → u.h y ≠ none → u'.h y ≠ none := by
   intro m u u' mm hm hn
   by_cases e : y = m
   ·rw [e]; exact hm
   ·cases hq : u.h y with
    | none => exact absurd hq hn
    | some o => rw [mm.1 y o (by simpa using e) hq]; simp
  refine keepN m25 ?_ (keepN m19 ?_ (hth14 y hy))
  ·obtain ⟨es, c, h⟩ := ht25.obj; rw [h]; simp
  ·obtain ⟨es, c, h⟩ := hl19.obj; rw [h]; simp
 refine ⟨_, by rw [a.at.rd1]; rfl, _, o1.at.rdc (by simp [itemC]), ?_⟩
 refine ACalls.use (ctx_Add_ok3 hc.at ok.v ok.r ok.m (by omega) i.dot) ?_
 rintro r s31 ⟨rfl, c31, m31, hno, hyes⟩ w31
 have hb' : ¬ ((x.live i.dot).isSome && i.gone) = true := by rw [hb]; simp
 cases hh : hasD x.v x.ex i.dot with
 | true =>
  rw [addD_no hh hi] at c31 hno hyes ⊢
  have e31 := hno rfl
  have hsee : x.see i = (false, x) := by
   unfold OSet.see
   rw [if_neg hb', if_pos hh]
  rw [hsee]
  refine ⟨_, _, rfl, fun vs s' => vs = [.bool true] ∧ s' = s31, ?_, bsplit.no rfl ⟨rfl, rfl⟩⟩
  rintro b s36 ⟨hb, rfl⟩
  simp only [List.cons.injEq, AV.bool.injEq, and_true] at hb
  subst hb
  exact bsplit.yes rfl ⟨rfl, F, h14.ext e31, fun y hy => .inl hy, fun y hy hn => hth14 y hy (e31.none hn), (E11.trans e31).mut⟩
 | false =>
  have hadd := addD_yes hh hi hroom
  have haa := addD_any ok gap hroom i.dot
  rw [hadd] at c31 hno hyes haa ⊢
  obtain ⟨ok', gap', hlen0, _⟩ := haa
  have hlen' : (compact x.v (ins x.ex i.dot)).2.length ≤ x.ex.length + 1 := hlen0
  have hG := hyes rfl
  obtain ⟨Fc, hcF, hFn, hFt⟩ := hG.toF2
  have hpcF : pc ∈ F := hc.lab
  have m31F : Mut F s14 s31 := m31.mono (by simpa using hpcF)
  have hpc : p ≠ pc := by
   rintro rfl
   have hvl := ok.v.len
   obtain ⟨_, _, w, hw2, _⟩ := hc
   have h1 := congrArg List.length (a.at.inj hw2.at)
   simp [hvl] at h1
  have hlp : lm ≠ pc := by
   rintro rfl
   obtain ⟨_, _, w, hw2, _⟩ := hc
   obtain ⟨es, c, h⟩ := hl.obj
   rw [hw2] at h; cases h
  have htp : tm ≠ pc := by
   rintro rfl
   obtain ⟨_, _, w, hw2, _⟩ := hc
   obtain ⟨es, c, h⟩ := ht.obj
   rw [hw2] at h; cases h
  have a31 := a.mut m31 (by simpa using hpc)
  have hl31 := hl.mut m31 (by simpa using hlp)
  have ht31 := ht.mut m31 (by simpa using htp)
  have o31 := o1.mut m31 (by simp only [List.mem_singleton]; rintro rfl; exact hF1 hpcF)
  have hFs : ∀ y ∈ Fc, y ∈ F ∨ s.h y = none := by
   intro y hy
   rcases hFn y hy with rfl | h
   ·exact .inl hpcF
   ·exact .inr (E11.none h)
  have hFm : ∀ {m : Nat}, m ≠ pc → s14.h m ≠ none → ∀ y ∈ [m], y ∉ Fc := by
   intro m hm hn y hy hf
   obtain rfl := List.mem_singleton.1 hy
   rcases hFn y hf with h | h
   ·exact hm h
   ·exact hn h
  have fin : ∀ {m : Nat} {s' : AS}, m ∈ F → Mut [m] s31 s' → s'.h m ≠ none → ∀ y ∈ Fc ++ F, s'.h y ≠ none := by
   intro m s' hm mm hn y hy
   by_cases e : y = m
   ·rw [e]; exact hn
   ·have h31 : s31.h y ≠ none := by
     rcases List.mem_append.1 hy with hy | hy
     ·exact hFt y hy
     ·by_cases e2 : y = pc
      ·rw [e2]; obtain ⟨_, w, h, _⟩ := c31; rw [h]; simp
      ·cases hq : s14.h y with
       | none => exact absurd hq (hth14 y hy)
       | some o => rw [m31.1 y o (by simpa using e2) hq]; simp
    cases hq : s31.h y with
    | none => exact absurd hq h31
    | some o => rw [mm.1 y o (by simpa using e) hq]; simp
  have hFall : ∀ y ∈ Fc ++ F, y ∈ F ∨ s.h y = none := by
   intro y hy
   rcases List.mem_append.1 hy with hy | hy
   ·exact hFs y hy
   ·exact .inl hy
  refine ⟨_, _, rfl, fun vs s' => vs = [.bool false] ∧ s' = s31, ?_, bsplit.no rfl ⟨rfl, rfl⟩⟩
  rintro b s36 ⟨hb2, rfl⟩
  simp only [List.cons.injEq, AV.bool.injEq, and_true] at hb2
  subst hb2
  refine bsplit.no rfl ⟨i.gone, by rw [o31.at.rd1]; rfl, bsplit.mk (fun hg => ?_) (fun hg => ?_)⟩
  ·have hsee : x.see i = (true, { x with v := (compact x.v (ins x.ex i.dot)).1, ex := (compact x.v (ins x.ex i.dot)).2, tomb := fun d => x.tomb d || decide (d = i.dot), nt := if x.tomb i.dot then x.nt else x.nt + 1 }) := by
    unfold OSet.see
    rw [if_neg hb', if_neg (by rw [hh]; simp), if_pos hg]
   rw [hsee]
   refine ⟨_, by rw [a31.at.rd1]; rfl, _, o31.at.rdc (by simp [itemC]), _, is_build, ht31.upd w31 i.dot fun s43 ht43 w43 m43 => ?_⟩
   obtain ⟨es, c, hto⟩ := ht.obj
   have hc43 := hcF.mut m43 (hFm htp (by rw [hto]; simp))
   refine ⟨rfl, Fc ++ F, ⟨ok', gap', by simp only; omega, pc, lm, tm, a31.mut m43 (by simpa using hpt), by simp [hpF], hc43.sub (fun y hy => by simp [hy]), by simp [hlF], by simp [htF], hlt, hl31.mut m43 (by simpa using hlt), ht43⟩, hFall, fin htF m43 ?_, E11.mut.trans (m31F.trans (m43.mono (by simpa using htF)))⟩
   obtain ⟨es, c, h⟩ := ht43.obj; rw [h]; simp
  ·have hsee : x.see i = (true, { x with v := (compact x.v (ins x.ex i.dot)).1, ex := (compact x.v (ins x.ex i.dot)).2, live := fun d => if d = i.dot then some i.key else x.live d, nl := if (x.live i.dot).isSome then x.nl else x.nl + 1 }) := by
    unfold OSet.see
    rw [if_neg hb', if_neg (by rw [hh]; simp), if_neg (by rw [hg]; simp)]
   rw [hsee]
   refine ⟨_, by rw [a31.at.rd1]; rfl, _, o31.at.rdc (by simp [itemC]), _, o31.at.rdc (by simp [itemC]), hl31.upd w31 i.dot i.key fun s49 hl49 w49 m49 => ?_⟩
   obtain ⟨es, c, hlo⟩ := hl.obj
   have hc49 := hcF.mut m49 (hFm hlp (by rw [hlo]; simp))
   refine ⟨rfl, Fc ++ F, ⟨ok', gap', by simp only; omega, pc, lm, tm, a31.mut m49 (by simpa using hpl), by simp [hpF], hc49.sub (fun y hy => by simp [hy]), by simp [hlF], by simp [htF], hlt, hl49, ht31.mut m49 (by simpa using hlt.symm)⟩, hFall, fin hlF m49 ?_, E11.mut.trans (m31F.trans (m49.mono (by simpa using hlF)))⟩
   obtain ⟨es, c, h⟩ := hl49.obj; rw [h]; simp
end
end Go.Proofs.Ytoklmpkpeanloaa
end

section
namespace Go.Proofs.Ytoklmpkpeanloaa
open Go.Am Go.Minster Go.Minster2
theorem sl_s_Item : SlTy T Y_s_Item Y_Item 5 56 := ⟨u_s_Item, z_Item, b_Item, ⟨_, _, zr_Item, rfl, rfl⟩, by decide, by decide⟩
section
variable {s : AS} {a : AV} {l : List Itm} {g : FuncId} {cap : List AV} {P : Itm → Bool}
theorem IndexFunc_ok (hl : Sl itemC 5 s a l) (hn : l.length ≤ 2 ^ 40) (hf : ∀ i s', Ext s s' → WFs s' → ACalls Try.prog g ([.agg (itemC i)] ++ cap) s' fun v s'' => v = .bool (P i) ∧ Ext s' s'') :
  ACalls Try.prog F_slices_IndexFunc__s_Item_Item [a, .func g cap] s fun v s' => Ext s s' ∧ ∃ n : Int, v = .int .i64 n ∧ ((n = -1 ∧ l.any P = false) ∨ ∃ k : Nat, n = k ∧ k < l.length ∧ (∃ x, l[k]? = some x ∧ P x = true) ∧ ∀ j x, j < k → l[j]? = some x → P x = false) := by
 refine ACalls.pre fun hw => q_slices_IndexFunc__s_Item_Item _ _ _ _ ⟨_, hl.lenB u_s_Item _, fun m vs s' => ∃ i : Nat, vs = [.int .i64 (i : Nat)] ∧ i ≤ l.length ∧ m = l.length - i ∧ Ext s s' ∧ WFs s' ∧ (∀ j x, j < i → l[j]? = some x → P x = false), l.length, ⟨0, rfl, by omega, rfl, Ext.refl _, hw, by omega⟩, ?_⟩
 rintro m n s6 ⟨i, hi, h6, rfl, e6, w6, hall⟩
 simp only [List.cons.injEq, AV.int.injEq, true_and, and_true] at hi
 subst hi
 refine bsplit.dec (fun hlt => ?_) (fun hge => ⟨e6, -1, rfl, .inl ⟨rfl, ?_⟩⟩)
 ·obtain ⟨x, hx⟩ := get_lt (l := l) (i := i) (by omega)
  obtain ⟨la, o, h8, h9⟩ := hl.ix (by decide) itemC_len u_s_Item z_Item hx
  refine ⟨la, o, h8 _, _, (h9 _ e6).2, ?_⟩
  refine ACalls.use (hf x s6 e6 w6) ?_
  rintro v s11 ⟨rfl, e11⟩ w11
  refine ⟨_, rfl, bsplit.mk (fun hb => ⟨e6.trans e11, _, rfl, .inr ⟨i, rfl, by omega, ⟨x, hx, hb⟩, hall⟩⟩) (fun hb => ⟨l.length - (i + 1), by omega, i + 1, by rw [wrap_i (by omega)]; rfl, by omega, rfl, e6.trans e11, w11, fun j y hj hy => ?_⟩)⟩
  rcases Nat.lt_or_ge j i with h | h
  ·exact hall j y h hy
  ·obtain rfl : j = i := by omega
   rw [hx] at hy; obtain rfl := Option.some.inj hy; exact hb
 ·rw [List.any_eq_false]
  intro x hx
  obtain ⟨j, hj⟩ := List.mem_iff_getElem?.1 hx
  have : j < l.length := by
   rcases Nat.lt_or_ge j l.length with h | h
   ·exact h
   ·rw [List.getElem?_eq_none h] at hj; cases hj
  rw [hall j x (by omega) hj]; simp
theorem ContainsFunc_ok (hl : Sl itemC 5 s a l) (hn : l.length ≤ 2 ^ 40) (hf : ∀ i s', Ext s s' → WFs s' → ACalls Try.prog g ([.agg (itemC i)] ++ cap) s' fun v s'' => v = .bool (P i) ∧ Ext s' s'') :
  ACalls Try.prog F_slices_ContainsFunc__s_Item_Item [a, .func g cap] s fun v s' => v = .bool (l.any P) ∧ Ext s s' := by
 refine q_slices_ContainsFunc__s_Item_Item _ _ _ _ ?_
 refine ACalls.use (IndexFunc_ok hl hn hf) ?_
 rintro v s2 ⟨e, n, rfl, h⟩ _
 refine ⟨_, rfl, ?_, e⟩
 congr 1
 rcases h with ⟨rfl, h⟩ | ⟨k, rfl, hk, ⟨x, hx, hp⟩, _⟩
 ·rw [h]; decide
 ·rw [List.any_eq_true.2 ⟨x, List.mem_of_getElem? hx, hp⟩, decide_eq_true_eq]; omega
theorem See1_ok (i : Itm) (s : AS) : ACalls Try.prog F_orset_Set_See_1 [.agg (itemC i)] s fun v s' => v = .bool (!i.may) ∧ Ext s s' := by
 refine ACalls.pre fun hw => q_orset_Set_See_1 _ _ _ ⟨rfl, NewQ.intro hw rfl fun l s1 F => ⟨_, F.own.at.rdc (by simp [itemC]), ?_⟩⟩
 refine ACalls.use (May_ok i _) ?_
 rintro v s2 ⟨rfl, e⟩ _
 exact ⟨_, rfl, rfl, F.ext.trans e⟩
end
def OSet.sees (x : OSet) (l : List Itm) : Bool × OSet := l.foldl (fun a i => (a.1 || (a.2.see i).1, (a.2.see i).2)) (false, x)
section
variable {F : List Nat} {s : AS} {p : Nat} {x : OSet}
theorem LiveAt.lenB {l n : Nat} {f : Dot → Option Key} (h : LiveAt s l f n) : alenB T Y_m_Dot_Key (.map (some l)) s = some (.int .i64 (n : Nat)) := by
 obtain ⟨es, c, h1, _, h3⟩ := h
 rw [h1.lenB mp_live, h3]
theorem TombAt.lenB {l n : Nat} {f : Dot → Bool} (h : TombAt s l f n) : alenB T Y_m_Dot_struct__is_bool__ (.map (some l)) s = some (.int .i64 (n : Nat)) := by
 obtain ⟨es, c, h1, _, h3⟩ := h
 rw [h1.lenB mp_tombs, h3]
theorem See_ok (h : SetF F s p x) {a : AV} {l : List Itm} (hl : Sl itemC 5 s a l) (hall : ∀ i ∈ l, i.may = true) (hr1 : x.ex.length + l.length ≤ 4096) (hr2 : x.nl + l.length ≤ 1024) (hr3 : x.nl + x.nt + l.length ≤ 4096) :
  ACalls Try.prog F_orset_Set_See [.ptr (some (p, 0)), a] s fun r s' => r = .tup [.bool (x.sees l).1, .int .i64 0] ∧ ∃ F', SetF F' s' p (x.sees l).2 ∧ (∀ y ∈ F', y = p ∨ s.h y = none) ∧ (∀ y ∈ F', s'.h y ≠ none) ∧ Mut [p] s s' := by
 refine q_orset_Set_See _ _ _ _ ?_
 refine ACalls.use (there_ok h) ?_
 rintro v s2 ⟨rfl, rfl⟩ w2
 refine ⟨_, rfl, bsplit.no rfl ?_⟩
 refine ACalls.use (ContainsFunc_ok (P := fun i => !i.may) hl (by omega) fun i s' _ _ => See1_ok i s') ?_
 rintro v s5 ⟨rfl, e5⟩ w5
 have : l.any (fun i => !i.may) = false := by
  rw [List.any_eq_false]
  intro i hi
  simp [hall i hi]
 rw [this]
 refine ⟨_, rfl, bsplit.no rfl ?_⟩
 refine ACalls.use (Copy_ok (h.ext e5)) ?_
 rintro v s8 ⟨po, F0, rfl, hS, hn0, ht0, e8⟩ w8
 have E8 := e5.trans e8
 have hp : ∃ cs, Am.Own s2 p cs ∧ cs.length = 3 := by
  obtain ⟨_, _, _, pc, lm, tm, a, _⟩ := h
  exact ⟨_, a, rfl⟩
 obtain ⟨cs, hp, hcs⟩ := hp
 have hstep : ∀ (i : Nat) y, l[i]? = some y → x.sees (l.take (i + 1)) = ((x.sees (l.take i)).1 || ((x.sees (l.take i)).2.see y).1, ((x.sees (l.take i)).2.see y).2) := by
  intro i y hy
  unfold OSet.sees
  rw [List.take_add_one, hy, Option.toList_some, List.foldl_append]
  rfl
 refine ⟨_, rfl, fun vs s' => vs = [.bool (x.sees l).1] ∧ WFs s' ∧ Ext s2 s' ∧ ∃ F', SetF F' s' po (x.sees l).2 ∧ (∀ y ∈ F', s2.h y = none) ∧ (∀ y ∈ F', s'.h y ≠ none) ∧ (x.sees l).2.nl ≤ 1024 ∧ (x.sees l).2.nl + (x.sees l).2.nt ≤ 4096, ?_, ?_⟩
 ·rintro b s12 ⟨hb, w12, e12, F', hS', hn', ht', hl1, hl2⟩
  simp only [List.cons.injEq, AV.bool.injEq, and_true] at hb
  subst hb
  obtain ⟨ok, gap, hlen, pc, lm, tm, a', hpF, hc, hlF, htF, hlt, hlv, htb⟩ := hS'
  refine ⟨fun vs s' => vs = [.bool false] ∧ s' = s12, ?_, _, by rw [a'.at.rd1]; rfl, _, hlv.lenB, bsplit.no (by rw [decide_eq_false_iff_not]; omega) ⟨_, by rw [a'.at.rd1]; rfl, _, hlv.lenB, _, by rw [a'.at.rd1]; rfl, _, htb.lenB, ?_, rfl⟩⟩
  ·rintro b s15 ⟨hb, rfl⟩
   simp only [List.cons.injEq, AV.bool.injEq, and_true] at hb
   subst hb
   have ho := hp.ext e12
   refine bsplit.no rfl ⟨_, a'.at.rdc (by simp), ⟨by simp, rfl⟩, StQ.own w12 ho (by simp [hcs]) fun s21 P => ⟨rfl, p :: F', ⟨ok, gap, hlen, pc, lm, tm, ?_, by simp, ?_, by simp [hlF], by simp [htF], hlt, hlv.mut P.mut ?_, htb.mut P.mut ?_⟩, fun y hy => ?_, fun y hy => ?_, e12.mut.trans P.mut⟩⟩
   ·have := P.at
    rw [wrs_all0 (by simp [hcs])] at this
    exact this
   ·refine (hc.mut P.mut fun y hy hm => ?_).sub fun y hy => by simp [hy]
    obtain rfl := List.mem_singleton.1 hy
    have := hn' _ hm
    rw [hp] at this; cases this
   ·intro hm
    obtain rfl := List.mem_singleton.1 hm
    have := hn' _ hlF
    rw [hp] at this; cases this
   ·intro hm
    obtain rfl := List.mem_singleton.1 hm
    have := hn' _ htF
    rw [hp] at this; cases this
   ·rcases List.mem_cons.1 hy with rfl | hy
    ·exact .inl rfl
    ·exact .inr (hn' y hy)
   ·by_cases e : y = p
    ·rw [e, P.at]; simp
    ·rw [P.eq y e]
     rcases List.mem_cons.1 hy with rfl | hy
     ·exact absurd rfl e
     ·exact ht' y hy
  ·rw [wrap_i (by omega), show decide (((x.sees l).2.nl : Int) + ((x.sees l).2.nt : Int) > 4096) = false from by rw [decide_eq_false_iff_not]; omega]
 ·refine ⟨_, hl.lenB u_s_Item _, fun m vs s' => ∃ i : Nat, vs = [.bool (x.sees (l.take i)).1, .int .i64 (i : Nat)] ∧ i ≤ l.length ∧ m = l.length - i ∧ WFs s' ∧ Ext s2 s' ∧ (∃ F', SetF F' s' po (x.sees (l.take i)).2 ∧ (∀ y ∈ F', s2.h y = none) ∧ (∀ y ∈ F', s'.h y ≠ none)) ∧ (x.sees (l.take i)).2.ex.length ≤ x.ex.length + i ∧ (x.sees (l.take i)).2.nl ≤ x.nl + i ∧ (x.sees (l.take i)).2.nl + (x.sees (l.take i)).2.nt ≤ x.nl + x.nt + i, l.length, ⟨0, rfl, by omega, rfl, w8, E8, ⟨F0, hS, fun y hy => e5.none (hn0 y hy), ht0⟩, by simp [OSet.sees], by simp [OSet.sees], by simp [OSet.sees]⟩, ?_⟩
  rintro m b n s40 ⟨i, hi, h6, rfl, w40, e40, ⟨F', hS', hn', ht'⟩, r1, r2, r3⟩
  simp only [List.cons.injEq, AV.int.injEq, AV.bool.injEq, true_and, and_true] at hi
  obtain ⟨rfl, rfl⟩ := hi
  refine bsplit.dec (fun hlt => ?_) (fun hge => ?_)
  ·obtain ⟨y, hy⟩ := get_lt (l := l) (i := i) (by omega)
   obtain ⟨la, o, h8, h9⟩ := hl.ix (by decide) itemC_len u_s_Item z_Item hy
   have hmay : y.dot.may = true := by
    have := hall y (List.mem_of_getElem? hy)
    simp only [Itm.may, Bool.and_eq_true] at this
    exact this.1
   refine ⟨la, o, h8 _, _, (h9 _ e40).2, NewSt w40 rfl rfl rfl fun l44 s46 F46 => ?_⟩
   refine ⟨_, F46.own.at.rdc (by simp [itemC]), ?_⟩
   have ht46 : ∀ z ∈ F', s46.h z ≠ none := fun z hz hq => ht' z hz (F46.ext.none hq)
   have hsl := see_len (x.sees (l.take i)).2 y hS'.ok hmay (by omega)
   refine ACalls.use (see_ok (hS'.ext F46.ext) ht46 y hmay (by omega)) ?_
   rintro v s49 ⟨rfl, F2, hS2, hn2, ht2, m2⟩ w49
   have hs1 := hstep i y hy
   have E49 : Ext s2 s49 := Ext.wrL (e40.trans F46.ext) hn' m2
   refine ⟨_, _, rfl, bsplit.no (by decide) ?_⟩
   have hn2' : ∀ z ∈ F2, s2.h z = none := fun z hz => by
    rcases hn2 z hz with h | h
    ·exact hn' z h
    ·exact (e40.trans F46.ext).none h
   have rest : SetF F2 s49 po (x.sees (l.take (i + 1))).2 ∧ (x.sees (l.take (i + 1))).2.ex.length ≤ x.ex.length + (i + 1) ∧ (x.sees (l.take (i + 1))).2.nl ≤ x.nl + (i + 1) ∧ (x.sees (l.take (i + 1))).2.nl + (x.sees (l.take (i + 1))).2.nt ≤ x.nl + x.nt + (i + 1) := by
    rw [hs1]
    exact ⟨hS2, by simp only; omega, by simp only; omega, by simp only; omega⟩
   refine bsplit.mk (fun hb => ?_) (fun hb => ?_)
   ·exact ⟨l.length - (i + 1), by omega, i + 1, by rw [wrap_i (by omega), hs1, hb]; rfl, by omega, rfl, w49, E49, ⟨F2, rest.1, hn2', ht2⟩, rest.2⟩
   ·exact ⟨l.length - (i + 1), by omega, i + 1, by rw [wrap_i (by omega), hs1, hb]; rfl, by omega, rfl, w49, E49, ⟨F2, rest.1, hn2', ht2⟩, rest.2⟩
  ·obtain rfl : i = l.length := by omega
   rw [List.take_length] at *
   exact ⟨rfl, w40, e40, F', hS', hn', ht', by omega, by omega⟩
end
/-! ### the live dots that something holds of -/
section
variable {F : List Nat} {s : AS} {p : Nat} {x : OSet} {g : FuncId} {cap : List AV} {P : Dot → Key → Bool}
end
/-! ### items that are gone -/
def goneI (d : Dot) : Itm := ⟨d, ⟨[], []⟩, true⟩
theorem build_gone (d : Dot) : abuild T Y_Item [(0, .agg (dotC d)), (2, .bool true)] = some (.agg (itemC (goneI d))) := by kernel_rfl
theorem gone_ok {s : AS} {a : AV} {l : List Dot} (hl : Dots s a l) (hn : l.length ≤ 2 ^ 29) :
  ACalls Try.prog F_orset_gone [a] s fun v s' => GroN itemC 5 [] s s' v (l.map goneI) := by
 refine ACalls.pre fun hw => q_orset_gone _ _ _ ⟨_, hl.lenB u_s_Dot _, fun m vs s' => ∃ (i : Nat) (v : AV), vs = [v, .int .i64 (i : Nat)] ∧ i ≤ l.length ∧ m = l.length - i ∧ WFs s' ∧ GroN itemC 5 [] s s' v ((l.take i).map goneI), l.length, ⟨0, _, rfl, by omega, rfl, hw, by simpa using GroN.nil⟩, ?_⟩
 rintro m v5 n s7 ⟨i, v', hi, h6, rfl, w7, g7⟩
 simp only [List.cons.injEq, AV.int.injEq, true_and, and_true] at hi
 obtain ⟨rfl, rfl⟩ := hi
 refine bsplit.dec (fun hlt => ?_) (fun hge => ?_)
 ·obtain ⟨d, hx⟩ := get_lt (l := l) (i := i) (by omega)
  obtain ⟨la, o, h8, h9⟩ := hl.ix (by decide) dotC_len u_s_Dot z_Dot hx
  have ht : (l.take (i + 1)).map goneI = (l.take i).map goneI ++ [goneI d] := by
   rw [List.take_add_one, hx, List.map_append]; rfl
  refine ⟨la, o, h8 _, _, (h9 _ g7.chg.ext).2, NewSt w7 rfl rfl rfl fun l11 s13 F13 => ?_⟩
  refine ⟨_, F13.own.at.rdc (by simp [dotC]), _, build_gone d, GroN.append1 sl_s_Item itemC_len itemC_one F13.wf (g7.step F13.ext) (by simp) (goneI d) (by simp; omega) fun v' s' g' w' _ => ?_⟩
  exact ⟨l.length - (i + 1), by omega, i + 1, v', by rw [wrap_i (by omega)]; rfl, by omega, rfl, w', by rw [ht]; exact g'⟩
 ·rw [List.take_of_length_le (by omega)] at g7
  exact g7
end Go.Proofs.Ytoklmpkpeanloaa
end

section
namespace Go.Proofs.Ytoklmpkpeanloaa
open Go.Am Go.Minster Go.Minster2
def OSet.zero : OSet := ⟨zeros, [], fun _ => none, fun _ => false, 0, 0⟩
theorem ctx_New_G (s : AS) : ACalls Try.prog F_ctx_New [] s fun r s' => ∃ p, r = .ptr (some (p, 0)) ∧ s.h p = none ∧ CtxG s s' p zeros [] ∧ Ext s s' := by
 refine ACalls.pre fun hw => q_ctx_New _ _ ?_
 have hb : abuild T Y_ctx_Ctx [(2, .bool true)] = some (.agg (zeros.map (.int .u64) ++ [.slc none 0 0 true, .bool true])) := by kernel_rfl
 exact ⟨_, hb, rfl, NewQ.intro hw rfl fun p s1 F => ⟨p, rfl, F.no, ⟨rfl, _, F.own, rfl, Gro.nil, by simp [labOf]⟩, F.ext⟩⟩
theorem New_ok (s : AS) : ACalls Try.prog F_orset_New [] s fun r s' => ∃ p F, r = .ptr (some (p, 0)) ∧ SetF F s' p OSet.zero ∧ (∀ y ∈ F, s.h y = none) ∧ (∀ y ∈ F, s'.h y ≠ none) ∧ Ext s s' := by
 refine ACalls.pre fun hw => q_orset_New _ _ ?_
 refine ACalls.use (ctx_New_G s) ?_
 rintro v s2 ⟨pc, rfl, hpc, hG, e2⟩ w2
 refine ⟨_, rfl, NewQ.intro w2 rfl fun lm s5 F5 => NewQ.intro F5.wf rfl fun tm s7 F7 => ⟨_, set_build _ _ _, rfl, NewQ.intro F7.wf rfl fun p s10 F10 => ?_⟩⟩
 obtain ⟨Fc, hcF, hFn, hFt⟩ := hG.toF hpc
 have e10 := F5.ext.trans (F7.ext.trans F10.ext)
 have e57 := F7.ext.trans F10.ext
 have hlm : s10.h lm = some (.map [] 0 false) := e57.1 _ _ F5.at
 have htm : s10.h tm = some (.map [] 0 false) := F10.ext.1 _ _ F7.at
 have hne : lm ≠ tm := by
  rintro rfl
  have := F7.no
  rw [F5.at] at this; cases this
 refine ⟨p, p :: lm :: tm :: Fc, rfl, ⟨COk.zero, (fun y hy => by cases hy), by simp [OSet.zero], pc, lm, tm, F10.own, by simp, (hcF.mut (L := []) e10.mut (by simp)).sub (fun y hy => by simp [hy]), by simp, by simp, hne, ⟨[], 0, MpAt.new hlm, fun d => rfl, rfl⟩, ⟨[], 0, MpAt.new htm, fun d => rfl, rfl⟩⟩, ?_, ?_, e2.trans e10⟩
 ·intro y hy
  simp only [List.mem_cons] at hy
  rcases hy with rfl | rfl | rfl | hy
  ·exact e2.none (F5.ext.none (F7.ext.none F10.no))
  ·exact e2.none F5.no
  ·exact e2.none (F5.ext.none F7.no)
  ·exact hFn y hy
 ·intro y hy
  simp only [List.mem_cons] at hy
  rcases hy with rfl | rfl | rfl | hy
  ·rw [F10.at]; simp
  ·rw [hlm]; simp
  ·rw [htm]; simp
  ·cases hq : s2.h y with
   | none => exact absurd hq (hFt y hy)
   | some ob => rw [e10.1 y ob hq]; simp
section
variable {F : List Nat} {s s' : AS} {p : Nat} {x : OSet} {k : Key}
theorem Ctx_ok (h : SetF F s p x) : ACalls Try.prog F_orset_Set_Ctx [.ptr (some (p, 0))] s fun r s' => ∃ q, r = .ptr (some (q, 0)) ∧ s.h q = none ∧ CtxG s s' q x.v x.ex ∧ Ext s s' := by
 refine q_orset_Set_Ctx _ _ _ ?_
 refine ACalls.use (there_ok h) ?_
 rintro v s2 ⟨rfl, rfl⟩ w2
 have hlx := h.len
 obtain ⟨ok, gap, hlen, pc, lm, tm, a, hpF, hc, _⟩ := h
 refine ⟨_, rfl, bsplit.no rfl ⟨_, by rw [a.at.rd1]; rfl, ?_⟩⟩
 refine ACalls.use (ctx_Copy_G hc.at (by omega)) ?_
 rintro v s8 ⟨q, rfl, hq, g, e⟩ _
 exact ⟨_, rfl, q, rfl, hq, g, e⟩
theorem build_item (d : Dot) (k : Key) : abuild T Y_Item [(0, .agg (dotC d)), (1, .agg (keyC k))] = some (.agg (itemC ⟨d, k, false⟩)) := by kernel_rfl
end
end Go.Proofs.Ytoklmpkpeanloaa
end

section
set_option maxRecDepth 100000
set_option maxHeartbeats 4000000
namespace Go.Proofs.Ytoklmpkpeanloaa
open Go.Am
end Go.Proofs.Ytoklmpkpeanloaa
end

section
namespace Go.Minster.SK
open Go.Minster2
end Go.Minster.SK
namespace Go.Proofs.Ytoklmpkpeanloaa.SK
open Go.Am Go.Minster2 Go.Minster.SK
theorem ab1 {y i : Nat} (h : i ≤ y) : abound1 y (.int .i64 (i : Nat)) = some i := by
 have : (0 : Int) ≤ (i : Int) ∧ (i : Int) ≤ ((y : Nat) : Int) := by omega
 simp only [abound1, if_pos this, Int.toNat_natCast]
theorem asl_from {a o n c i : Nat} {e : Bool} (h1 : i < n) (h2 : n ≤ c) : aslice T Y_s_Key (.slc (some (a, o)) n c e) (some (.int .i64 (i : Nat))) none none = some (.slc (some (a, o + i * 2)) (n - i) (c - i) e) := by
 have h3 : ¬ c = i := by omega
 cases e <;> simp [aslice, u_s_Key, z_Key, abounds, aopt, ahigh, ab1 (show i ≤ n by omega), h2, h3]
theorem asl_to {a o n c i : Nat} {e : Bool} (h1 : i ≤ c) (h0 : 0 < c) : aslice T Y_s_Key (.slc (some (a, o)) n c e) none (some (.int .i64 (i : Nat))) none = some (.slc (some (a, o)) i c e) := by
 have : ¬ c = 0 := by omega
 cases e <;> simp [aslice, u_s_Key, z_Key, abounds, aopt, ahigh, ab1 h1, this]
theorem clear_ok {s : AS} {lo n c i m : Nat} {e : Bool} {l : List Key} {rest : List AV} {g : Nat} (hw : WFs s) (hobj : s.h lo = some (.cells (l.flatMap keyC ++ rest) g false)) (hi : i < l.length) (hn : n = l.length - i) (ho : m = i * 2) {K : AS → Prop}
  (hk : ∀ s', (∃ rest', s'.h lo = some (.cells ((l.take i).flatMap keyC ++ rest') g false)) → WFs s' → Mut [lo] s s' → K s') : StQ (aclear T Y_s_Key (.slc (some (lo, m)) n c e) s) K := by
 subst hn; subst ho
 have hne : ¬ l.length - i = 0 := by omega
 have hrl : (rep (l.length - i) [AV.str [], AV.str []]).length = (l.length - i) * 2 := by simp [rep]
 have e1 : aclear T Y_s_Key (.slc (some (lo, i * 2)) (l.length - i) c e) s = awr s lo (i * 2) (rep (l.length - i) [AV.str [], AV.str []]) := by
  simp only [aclear, u_s_Key, if_neg hne, zr_Key, Option.bind_some, acells_agg]
  rfl
 rw [e1]
 refine StQ.awr hw hobj (by rw [hrl, List.length_append, dots_len]; omega) fun s' P => hk s' ⟨rep (l.length - i) [AV.str [], AV.str []] ++ ((l.drop i).flatMap keyC ++ rest).drop (rep (l.length - i) [AV.str [], AV.str []]).length, ?_⟩ P.wf P.mut
 have hsp : l.flatMap keyC ++ rest = (l.take i).flatMap keyC ++ ((l.drop i).flatMap keyC ++ rest) := by
  rw [← List.append_assoc, ← List.flatMap_append, List.take_append_drop]
 rw [P.at, hsp]
 have hl : ((l.take i).flatMap keyC).length = i * 2 := by rw [dots_len, List.length_take]; omega
 rw [← hl, wrs_app _ _ _ (by rw [hrl, List.length_append, dots_len, List.length_drop]; omega), List.append_assoc]
end Go.Proofs.Ytoklmpkpeanloaa.SK
end

section
namespace Go.Proofs.Ytoklmpkpeanloaa
open Go.Am Go.Minster Go.Minster2
section
variable {m : Nat} {es : List (Dot × Key × Nat)} {c : Nat} {ro : Bool} {s : AS}
end
section
variable {F : List Nat} {s s' : AS} {p : Nat} {x : OSet}
end
end Go.Proofs.Ytoklmpkpeanloaa
end

section
namespace Go.Proofs.Ytoklmpkpeanloaa
open Go.Am Go.Minster Go.Minster2
def OSet.has (x : OSet) (d : Dot) : Bool := hasD x.v x.ex d
def OSet.keeps (x : OSet) (d : Dot) : Prop := d ∈ x.ex ∨ (x.live d).isSome = true ∨ x.tomb d = true
structure OOk (x : OSet) (B : Nat) : Prop where
 ok : COk x.v x.ex
 gap : Gap x.v x.ex
 lv : ∀ d k, x.live d = some k → x.has d = true ∧ k.may = true
 tb : ∀ d, x.tomb d = true → x.has d = true ∧ x.live d = none
 sz : ∃ U : List Dot, U.length ≤ B ∧ ∀ d, x.keeps d → d ∈ U
theorem OOk.zero : OOk OSet.zero 0 := ⟨COk.zero, (fun y hy => by cases hy), (fun d k h => by cases h), (fun d h => by cases h), [], by simp, fun d h => by
  rcases h with h | h | h
  ·cases h
  ·cases h
  ·cases h⟩
theorem OOk.mono {x : OSet} {B B' : Nat} (h : OOk x B) (hb : B ≤ B') : OOk x B' := by
 obtain ⟨a, b, c, d, U, e, f⟩ := h; exact ⟨a, b, c, d, U, by omega, f⟩
section
variable {x : OSet} {B : Nat} {i : Itm}
theorem addR_no {v : List Int} {ex : List Dot} {d : Dot} (h : hasD v ex d = false) : addR v ex d = compact v (ins ex d) := by simp [addR, h]
theorem see_has (h : OOk x B) (hi : i.dot.may = true) (d : Dot) : (x.see i).2.has d = (x.has d || decide (d = i.dot)) := by
 unfold OSet.see
 split
 ·rename_i hc
  simp only [Bool.and_eq_true] at hc
  obtain ⟨k, hk⟩ := Option.isSome_iff_exists.1 hc.1
  have := (h.lv _ _ hk).1
  by_cases e : d = i.dot
  ·subst e; simp only [OSet.has] at this ⊢; simp [this]
  ·simp [OSet.has, e]
 ·split
  ·rename_i hh
   by_cases e : d = i.dot
   ·subst e; simp [OSet.has, hh]
   ·simp [OSet.has, e]
  ·rename_i hh
   have hh' : hasD x.v x.ex i.dot = false := by simpa using hh
   have key : hasD (compact x.v (ins x.ex i.dot)).1 (compact x.v (ins x.ex i.dot)).2 d = (hasD x.v x.ex d || decide (d = i.dot)) := by
    have := addR_has h.ok hi d
    rw [addR_no hh'] at this
    cases hq : hasD (compact x.v (ins x.ex i.dot)).1 (compact x.v (ins x.ex i.dot)).2 d with
    | true => rcases this.1 hq with h | h <;> simp [h]
    | false =>
     cases hq2 : (hasD x.v x.ex d || decide (d = i.dot)) with
     | false => rfl
     | true =>
      simp only [Bool.or_eq_true, decide_eq_true_eq] at hq2
      rw [this.2 hq2] at hq; cases hq
   split
   ·exact key
   ·exact key
theorem see_live (h : OOk x B) (d : Dot) : (x.see i).2.live d = if d = i.dot then (if i.gone then none else if x.has d then x.live d else some i.key) else x.live d := by
 unfold OSet.see
 split
 ·rename_i hc
  simp only [Bool.and_eq_true] at hc
  simp [hc.2]
 ·rename_i hc
  split
  ·rename_i hh
   by_cases e : d = i.dot
   ·subst e
    cases hg : i.gone with
    | true =>
     rw [hg, Bool.and_true] at hc
     simp only [if_true]
     simpa using hc
    | false => simp [OSet.has, hh]
   ·simp [e]
  ·rename_i hh
   have hnone : x.live i.dot = none := by
    cases hq : x.live i.dot with
    | none => rfl
    | some k => exact absurd (h.lv _ _ hq).1 hh
   split
   ·rename_i hg
    by_cases e : d = i.dot
    ·subst e; simp [hg, hnone]
    ·simp [e]
   ·rename_i hg
    by_cases e : d = i.dot
    ·subst e; simp [hg, OSet.has, hh]
    ·simp [e]
theorem see_tomb (h : OOk x B) (d : Dot) : (x.see i).2.tomb d = (x.tomb d || (decide (d = i.dot) && i.gone && ((x.live d).isSome || !x.has d))) := by
 unfold OSet.see
 split
 ·rename_i hc
  simp only [Bool.and_eq_true] at hc
  by_cases e : d = i.dot
  ·subst e; simp [hc.1, hc.2]
  ·simp [e]
 ·rename_i hc
  split
  ·rename_i hh
   by_cases e : d = i.dot
   ·subst e
    have : ((x.live i.dot).isSome || !x.has i.dot) = (x.live i.dot).isSome := by simp [OSet.has, hh]
    rw [this]
    cases hg : i.gone with
    | true => rw [hg, Bool.and_true] at hc; simp [hc]
    | false => simp
   ·simp [e]
  ·rename_i hh
   have hh' : x.has i.dot = false := by simpa [OSet.has] using hh
   split
   ·rename_i hg
    by_cases e : d = i.dot
    ·subst e; simp [hg, hh']
    ·simp [e]
   ·rename_i hg
    simp [hg]
theorem see_OOk (h : OOk x B) (hi : i.may = true) : OOk (x.see i).2 (if x.has i.dot then B else B + 1) := by
 have him : i.dot.may = true := by simp only [Itm.may, Bool.and_eq_true] at hi; exact hi.1
 have hok : COk (x.see i).2.v (x.see i).2.ex ∧ Gap (x.see i).2.v (x.see i).2.ex := by
  unfold OSet.see
  split
  ·exact ⟨h.ok, h.gap⟩
  ·split
   ·exact ⟨h.ok, h.gap⟩
   ·rename_i hh
    have hh' : hasD x.v x.ex i.dot = false := by simpa using hh
    have h1 := h.ok.add him
    have h2 := Gap.add h.ok h.gap him
    rw [addR_no hh'] at h1 h2
    split <;> exact ⟨h1, h2⟩
 refine ⟨hok.1, hok.2, fun d k hd => ?_, fun d hd => ?_, ?_⟩
 ·rw [see_live h] at hd
  rw [see_has h him]
  by_cases e : d = i.dot
  ·subst e
   rw [if_pos rfl] at hd
   refine ⟨by simp, ?_⟩
   split at hd
   ·cases hd
   ·split at hd
    ·exact (h.lv _ _ hd).2
    ·rename_i hg _
     simp only [Option.some.injEq] at hd
     subst hd
     simp only [Itm.may, Bool.and_eq_true] at hi
     have := hi.2
     rw [if_neg hg] at this; exact this
  ·rw [if_neg e] at hd
   have := h.lv _ _ hd
   exact ⟨by simp [this.1], this.2⟩
 ·rw [see_tomb h] at hd
  rw [see_has h him, see_live h]
  simp only [Bool.or_eq_true, Bool.and_eq_true, decide_eq_true_eq] at hd
  rcases hd with hd | ⟨⟨rfl, hg⟩, _⟩
  ·have := h.tb _ hd
   refine ⟨by simp [this.1], ?_⟩
   by_cases e : d = i.dot
   ·subst e; simp [this.1, this.2]
   ·rw [if_neg e]; exact this.2
  ·refine ⟨by simp, by simp [hg]⟩
 ·obtain ⟨U, hU, hm⟩ := h.sz
  have hl : ∀ d, ((x.see i).2.live d).isSome = true → (x.live d).isSome = true ∨ (d = i.dot ∧ x.has i.dot = false) := by
   intro d hd
   rw [see_live h] at hd
   by_cases e : d = i.dot
   ·subst e
    rw [if_pos rfl] at hd
    split at hd
    ·cases hd
    ·split at hd
     ·exact .inl hd
     ·rename_i hn; exact .inr ⟨rfl, by simpa using hn⟩
   ·rw [if_neg e] at hd; exact .inl hd
  have ht : ∀ d, (x.see i).2.tomb d = true → x.keeps d ∨ (d = i.dot ∧ x.has i.dot = false) := by
   intro d hd
   rw [see_tomb h] at hd
   simp only [Bool.or_eq_true, Bool.and_eq_true, decide_eq_true_eq] at hd
   rcases hd with hd | ⟨⟨rfl, hg⟩, hd | hd⟩
   ·exact .inl (.inr (.inr hd))
   ·exact .inl (.inr (.inl hd))
   ·exact .inr ⟨rfl, by simpa using hd⟩
  by_cases hh : x.has i.dot = true
  ·rw [if_pos hh]
   have hex : (x.see i).2.ex = x.ex := by
    unfold OSet.see
    split
    ·rfl
    ·rw [if_pos (show hasD x.v x.ex i.dot = true from hh)]
   refine ⟨U, hU, fun d hd => ?_⟩
   rcases hd with hd | hd | hd
   ·rw [hex] at hd; exact hm _ (.inl hd)
   ·rcases hl d hd with hd | ⟨_, hd⟩
    ·exact hm _ (.inr (.inl hd))
    ·rw [hh] at hd; cases hd
   ·rcases ht d hd with hd | ⟨_, hd⟩
    ·exact hm _ hd
    ·rw [hh] at hd; cases hd
  ·rw [if_neg hh]
   have hex : ∀ d ∈ (x.see i).2.ex, d = i.dot ∨ d ∈ x.ex := by
    intro d hd
    unfold OSet.see at hd
    split at hd
    ·exact .inr hd
    ·split at hd
     ·exact .inr hd
     ·have : d ∈ (compact x.v (ins x.ex i.dot)).2 := by split at hd <;> exact hd
      exact mem_ins.1 ((compact_sub _ _).subset this)
   refine ⟨i.dot :: U, by simp; omega, fun d hd => ?_⟩
   rcases hd with hd | hd | hd
   ·rcases hex d hd with rfl | hd
    ·simp
    ·simp [hm _ (.inl hd)]
   ·rcases hl d hd with hd | ⟨rfl, _⟩
    ·simp [hm _ (.inr (.inl hd))]
    ·simp
   ·rcases ht d hd with hd | ⟨rfl, _⟩
    ·simp [hm _ hd]
    ·simp
end
theorem sees_aux : ∀ (l : List Itm) (b : Bool) (x : OSet), l.foldl (fun a i => (a.1 || (a.2.see i).1, (a.2.see i).2)) (b, x) = (b || (x.sees l).1, (x.sees l).2)
 | [], b, x => by simp [OSet.sees]
 | i :: l, b, x => by
  unfold OSet.sees
  simp only [List.foldl_cons]
  rw [sees_aux l, sees_aux l (false || _)]
  simp [Bool.or_assoc]
theorem sees_cons (x : OSet) (i : Itm) (l : List Itm) : x.sees (i :: l) = ((x.see i).1 || ((x.see i).2.sees l).1, ((x.see i).2.sees l).2) := by
 conv => lhs; unfold OSet.sees
 rw [List.foldl_cons, sees_aux]
 simp
theorem OOk.sees : ∀ (l : List Itm) {x : OSet} {B : Nat}, OOk x B → (∀ i ∈ l, i.may = true) → OOk (x.sees l).2 (B + l.length)
 | [], x, B, h, _ => h
 | i :: l, x, B, h, hl => by
  rw [sees_cons]
  have h1 := (see_OOk h (hl i (by simp))).mono (B' := B + 1) (by split <;> omega)
  have := OOk.sees l h1 fun j hj => hl j (by simp [hj])
  exact this.mono (by simp; omega)
/-! ### how great -/
theorem rising_nodup {l : List Dot} (h : Rising l) : l.Nodup := h.imp fun {a b} hab e => by subst e; exact Dot.lt_irrefl _ hab
theorem SetF.bnd {F : List Nat} {s : AS} {p : Nat} {x : OSet} {B : Nat} (h : SetF F s p x) (o : OOk x B) : x.nl + x.nt ≤ B ∧ x.ex.length ≤ B := by
 obtain ⟨ok, gap, hlen, pc, lm, tm, a, hpF, hc, hlF, htF, hlt, ⟨es, c, h1, h2, h3⟩, ⟨es', c', h1', h2', h3'⟩⟩ := h
 obtain ⟨U, hU, hm⟩ := o.sz
 have n1 : (es.map fun e => e.1).Nodup := List.pairwise_map.2 h1.nd
 have n2 : (es'.map fun e => e.1).Nodup := List.pairwise_map.2 h1'.nd
 constructor
 ·have hnd : ((es.map fun e => e.1) ++ (es'.map fun e => e.1)).Nodup := by
   refine List.nodup_append.2 ⟨n1, n2, fun a ha b hb => ?_⟩
   rintro rfl
   rw [keys_iff, h2] at ha
   rw [keys_iff, h2'] at hb
   cases hq : x.tomb a with
   | false => rw [hq] at hb; cases hb
   | true => rw [(o.tb _ hq).2] at ha; cases ha
  have := nodup_len hnd fun d hd => hm d ?_
  ·simp only [List.length_append, List.length_map] at this; omega
  ·rcases List.mem_append.1 hd with hd | hd
   ·rw [keys_iff, h2] at hd
    exact .inr (.inl hd)
   ·rw [keys_iff, h2'] at hd
    cases hq : x.tomb d with
    | false => rw [hq] at hd; cases hd
    | true => exact .inr (.inr hq)
 ·have := nodup_len (rising_nodup ok.r) fun d hd => hm d ?_
  ·omega
  ·exact .inl hd
/-! ### rows in order -/
theorem pw_uniq {α : Type} {r : α → α → Prop} (irr : ∀ a, ¬ r a a) (asy : ∀ a b, r a b → ¬ r b a) : ∀ {l l' : List α}, l.Pairwise r → l'.Pairwise r → (∀ x, x ∈ l ↔ x ∈ l') → l = l'
 | [], [], _, _, _ => rfl
 | [], b :: l', _, _, h => by have := (h b).2 (by simp); cases this
 | a :: l, [], _, _, h => by have := (h a).1 (by simp); cases this
 | a :: l, b :: l', h1, h2, h => by
  obtain ⟨p1, p2⟩ := List.pairwise_cons.1 h1
  obtain ⟨q1, q2⟩ := List.pairwise_cons.1 h2
  have hab : a = b := by
   rcases List.mem_cons.1 ((h a).1 (by simp)) with e | ha
   ·exact e
   ·rcases List.mem_cons.1 ((h b).2 (by simp)) with e | hb
    ·exact e.symm
    ·exact absurd (p1 b hb) (asy _ _ (q1 a ha))
  subst hab
  have := pw_uniq irr asy p2 q2 fun x => by
   constructor
   ·intro hx
    rcases List.mem_cons.1 ((h x).1 (by simp [hx])) with e | hx'
    ·subst e; exact absurd (p1 x hx) (irr x)
    ·exact hx'
   ·intro hx
    rcases List.mem_cons.1 ((h x).2 (by simp [hx])) with e | hx'
    ·subst e; exact absurd (q1 x hx) (irr x)
    ·exact hx'
  rw [this]
theorem Dot.lt_asym {a b : Dot} (h : a.lt b = true) : ¬ b.lt a = true := by
 rw [Dot.lt_iff] at *; omega
/-! ### a law's own sets -/
structure SetO (s0 s : AS) (F : List Nat) (p : Nat) (x : OSet) (B : Nat) : Prop where
 set : SetF F s p x
 ok : OOk x B
 new : ∀ y ∈ F, s0.h y = none
 there : ∀ y ∈ F, s.h y ≠ none
section
variable {s0 s s' : AS} {F F' G : List Nat} {p q : Nat} {x y : OSet} {B C : Nat}
theorem SetF.pF (h : SetF F s p x) : p ∈ F := by obtain ⟨_, _, _, pc, lm, tm, _, h, _⟩ := h; exact h
theorem SetO.bnd (h : SetO s0 s F p x B) : x.nl + x.nt ≤ B ∧ x.ex.length ≤ B := h.set.bnd h.ok
theorem SetO.mut (h : SetO s0 s F p x B) (e : Ext s0 s) {x' : OSet} {B' : Nat} (h' : SetF F' s' p x') (ok : OOk x' B') (hn : ∀ y ∈ F', y ∈ F ∨ s.h y = none) (ht : ∀ y ∈ F', s'.h y ≠ none) : SetO s0 s' F' p x' B' :=
 ⟨h', ok, fun y hy => by
  rcases hn y hy with h2 | h2
  ·exact h.new y h2
  ·exact e.none h2, ht⟩
theorem new_or (hp : p ∈ F) (hn : ∀ y ∈ F', y = p ∨ s.h y = none) : ∀ y ∈ F', y ∈ F ∨ s.h y = none := fun y hy => by
 rcases hn y hy with rfl | h
 ·exact .inl hp
 ·exact .inr h
end
end Go.Proofs.Ytoklmpkpeanloaa
end

section
namespace Go.Proofs.Ytoklmpkpeanloaa
open Go.Am Go.Minster Go.Minster2
section
variable {s0 s : AS} {F : List Nat} {p : Nat} {x : OSet} {B : Nat}
theorem SetO.See (h : SetO s0 s F p x B) (e : Ext s0 s) {a : AV} {l : List Itm} (hl : Sl itemC 5 s a l) (hB : B + l.length ≤ 1000) (hm : ∀ i ∈ l, i.may = true) :
  ACalls Try.prog F_orset_Set_See [.ptr (some (p, 0)), a] s fun r s' => r = .tup [.bool (x.sees l).1, .int .i64 0] ∧ Mut [p] s s' ∧ Ext s0 s' ∧ ∃ F' x', x' = (x.sees l).2 ∧ SetO s0 s' F' p x' (B + l.length) ∧ ∀ y ∈ F', y ∈ F ∨ s.h y = none := by
 obtain ⟨b1, b2⟩ := h.bnd
 refine (See_ok h.set hl hm (by omega) (by omega) (by omega)).mono ?_
 rintro r s' ⟨rfl, F', hS, hn', ht', m⟩
 have hF := new_or h.set.pF hn'
 exact ⟨rfl, m, Ext.wr e (h.new _ h.set.pF) m, F', _, rfl, h.mut e hS (h.ok.sees l hm) hF ht', hF⟩
end
/-! ### what is seen and live, by cases -/
structure Is (x : OSet) (S : List Dot) (V : Dot → Option Key) : Prop where
 has : ∀ d, x.has d = decide (d ∈ S)
 live : ∀ d, x.live d = V d
theorem Is.zero : Is OSet.zero [] fun _ => none := ⟨fun d => by rw [OSet.has, show OSet.zero.v = zeros from rfl, show OSet.zero.ex = [] from rfl, has_zero]; simp, fun d => rfl⟩
end Go.Proofs.Ytoklmpkpeanloaa
end

section
set_option maxRecDepth 100000
set_option maxHeartbeats 4000000
namespace Go.Proofs.Ytoklmpkpeanloaa
open Go.Am
end Go.Proofs.Ytoklmpkpeanloaa
end

section
namespace Go.Proofs.Ytoklmpkpeanloaa
open Go.Am Go.Minster Go.Minster2
theorem rdc_pre {s : AS} {l o n m : Nat} {cs : List AV} (h : rdc s l o n = some cs) (hm : m ≤ n) : rdc s l o m = some (cs.take m) := by
 unfold Am.rdc at *
 split at h
 ·rename_i C g ro hl
  split at h
  ·rename_i hn
   rw [if_pos (by omega)]
   simp only [Option.some.injEq] at h
   rw [← h, List.take_take]
   congr 2; omega
  ·cases h
 ·cases h
end Go.Proofs.Ytoklmpkpeanloaa
end

section
namespace Go.Proofs.Ytoklmpkpeanloaa
open Go.Am Go.Minster Go.Minster2 Go.ChangeShapes Go.WideShapes Go.ChangeAt Go.RowKit
theorem refName_ok (t : List UInt8) (s : AS) : ACalls Try.prog F_ref07iName [.str t] s fun v s' => v = .bool (nameOk t) ∧ s' = s := by
 refine q_ref07iName _ _ _ ⟨_, alen_str t s, bsplit.dec (fun h => ⟨_, alen_str t s, ?_, rfl⟩) (fun h => ⟨?_, rfl⟩)⟩
 ·congr 1
  rw [nameOk, decide_eq_decide]; omega
 ·congr 1
  symm
  rw [nameOk, decide_eq_false_iff_not]; omega
section
variable {s0 s s' : AS} {pa pb : Nat} {xa xb : OSet} {Ba Bb : Nat} {sl : List (AV × List Itm)}
end
end Go.Proofs.Ytoklmpkpeanloaa
end

section
set_option maxRecDepth 100000
set_option maxHeartbeats 4000000
namespace Go.Proofs.Ytoklmpkpeanloaa
open Go.Am
def Q_ref07iMay (a0 : List AV) (s : AS) (R : AV → AS → Prop) : Prop :=
 One1 a0 (NewQ (.cells a0 0 false) s fun l1 s2 => RdB (rd1 s2 l1 4) fun b3 => bsplit b3
 (RdL (rdc s2 l1 0 2) fun g4 => ACalls Try.prog F_ref04iMay [(.agg g4)] s2 fun v5 s6 => ∃ b7 : Bool, v5 = .bool b7 ∧ (bsplit b7 (RdL (rdc s6 l1 2 2) fun g8 => RdG (abuild T Y_Key []) fun g9 => RdO (aeq T 100 Y_Key (.agg g8) (.agg g9)) fun b10 => R (.bool b10) s6) (R (.bool false) s6)))
 (RdL (rdc s2 l1 0 2) fun g11 => ACalls Try.prog F_ref04iMay [(.agg g11)] s2 fun v12 s13 => ∃ b14 : Bool, v12 = .bool b14 ∧ (bsplit b14 (RdS (rd1 s13 l1 2) fun x15 => ACalls Try.prog F_ref07iName [(.str x15)] s13 fun v16 s17 => ∃ b18 : Bool, v16 = .bool b18 ∧ (bsplit b18 (RdS (rd1 s17 l1 3) fun x19 => ACalls Try.prog F_ref07iName [(.str x19)] s17 fun v20 s21 => ∃ b22 : Bool, v20 = .bool b22 ∧ (R (.bool b22) s21)) (R (.bool false) s17))) (R (.bool false) s13))))
def A_ref07iMay : QA := (.seq .leaf (.seq (.seq .leaf (.cond (.seq .leaf .leaf) .leaf)) (.seq .leaf .leaf)))
theorem q_ref07iMay (a0 : List AV) (s : AS) (R : AV → AS → Prop) (h : Q_ref07iMay a0 s R) : ACalls Try.prog F_ref07iMay [(.agg a0)] s R :=
 ACalls.q (n := 29) (rs := [.tmp 2]) (A := A_ref07iMay) hT hmx Try.func75 (by kernel_rfl) rfl rfl rfl (by kernel_rfl) (by kernel_rfl) h
end Go.Proofs.Ytoklmpkpeanloaa
end

section
namespace Go.Proofs.Ytoklmpkpeanloaa
open Go.Am Go.Minster Go.Minster2
theorem rdc_mid {s : AS} {l o n : Nat} {cs : List AV} (h : rdc s l o n = some cs) (k m : Nat) (hm : k + m ≤ n) : rdc s l (o + k) m = some ((cs.drop k).take m) := by
 unfold Am.rdc at *
 split at h
 ·rename_i C g ro hl
  split at h
  ·rename_i hn
   rw [if_pos (by omega)]
   simp only [Option.some.injEq] at h
   rw [← h, List.drop_take, List.take_take, List.drop_drop]
   congr 2; omega
  ·cases h
 ·cases h
theorem ref07May_ok (i : Itm) (s : AS) : ACalls Try.prog F_ref07iMay [.agg (itemC i)] s fun v s' => v = .bool i.may ∧ Ext s s' := by
 refine ACalls.pre fun hw => q_ref07iMay _ _ _ ⟨rfl, NewQ.intro hw rfl fun l s1 F => ⟨i.gone, by rw [F.own.at.rd1]; rfl, ?_⟩⟩
 have gd : ∀ s', Ext s1 s' → rdc s' l 0 2 = some (dotC i.dot) := fun s' e => (F.own.ext e).at.rdc (by simp [itemC])
 have gk : ∀ s', Ext s1 s' → rdc s' l 2 2 = some (keyC i.key) := fun s' e => (F.own.ext e).at.rdc (by simp [itemC])
 refine bsplit.mk (fun h => ?_) (fun h => ?_)
 ·refine ⟨_, gd _ (Ext.refl _), ?_⟩
  refine ACalls.use (ref04iMay_ok _ _) ?_
  rintro v s2 ⟨rfl, e2⟩ _
  refine ⟨_, rfl, bsplit.mk (fun h2 => ⟨_, gk _ e2, _, key0_build, _, key_eq _ _, ?_, F.ext.trans e2⟩) (fun h2 => ⟨by simp [Itm.may, h2], F.ext.trans e2⟩)⟩
  simp [Itm.may, h, h2]
 ·refine ⟨_, gd _ (Ext.refl _), ?_⟩
  refine ACalls.use (ref04iMay_ok _ _) ?_
  rintro v s2 ⟨rfl, e2⟩ _
  have E2 := F.ext.trans e2
  have o2 := (F.own.ext e2).at
  refine ⟨_, rfl, bsplit.mk (fun h2 => ⟨i.key.t, by rw [o2.rd1]; rfl, ?_⟩) (fun h2 => ⟨by simp [Itm.may, h2], E2⟩)⟩
  refine ACalls.use (refName_ok _ _) ?_
  rintro v s' ⟨rfl, rfl⟩ _
  refine ⟨_, rfl, bsplit.mk (fun h3 => ⟨i.key.d, by rw [o2.rd1]; rfl, ?_⟩) (fun h3 => ⟨by simp [Itm.may, Key.may, h, h2, h3], E2⟩)⟩
  refine ACalls.use (refName_ok _ _) ?_
  rintro v s' ⟨rfl, rfl⟩ _
  exact ⟨_, rfl, by simp [Itm.may, Key.may, h, h2, h3], E2⟩
section
variable {F : List Nat} {s : AS} {p : Nat} {x : OSet}
end
section
variable {s0 s s' : AS} {pa pb : Nat} {xa xb : OSet} {Ba Bb : Nat} {sl : List (AV × List Itm)}
end
end Go.Proofs.Ytoklmpkpeanloaa
end

section
namespace Go.Proofs.Ytoklmpkpeanloaa
open Go.Am Go.Minster Go.Minster2
def OSet.item (x : OSet) (i : Itm) : Prop := match i.gone with
 | true => x.tomb i.dot = true ∧ i.key = ⟨[], []⟩
 | false => x.live i.dot = some i.key
structure Items (x : OSet) (I : List Itm) : Prop where
 ris : Rising (I.map Itm.dot)
 mem : ∀ i, i ∈ I ↔ x.item i
theorem IRis.pw {I : List Itm} (h : Rising (I.map Itm.dot)) : I.Pairwise fun a b => a.dot.lt b.dot = true := List.pairwise_map.1 h
theorem iris_uniq {I J : List Itm} (h : Rising (I.map Itm.dot)) (h' : Rising (J.map Itm.dot)) (hm : ∀ i, i ∈ I ↔ i ∈ J) : I = J :=
 pw_uniq (fun a h => Dot.lt_irrefl _ h) (fun a b => Dot.lt_asym) (IRis.pw h) (IRis.pw h') hm
theorem Items.uniq {x : OSet} {I J : List Itm} (h : Items x I) (h' : Items x J) : I = J := iris_uniq h.ris h'.ris fun i => by rw [h.mem, h'.mem]
theorem Items.zero : Items OSet.zero [] := ⟨List.Pairwise.nil, fun i => by unfold OSet.item; cases i.gone <;> simp [OSet.zero]⟩
theorem item_keeps {x : OSet} {i : Itm} (h : x.item i) : x.keeps i.dot := by
 unfold OSet.item at h
 cases hg : i.gone with
 | true => rw [hg] at h; exact .inr (.inr h.1)
 | false => rw [hg] at h; exact .inr (.inl (by rw [h]; rfl))
theorem Items.len {x : OSet} {B : Nat} (o : OOk x B) {I : List Itm} (h : Items x I) : I.length ≤ B := by
 obtain ⟨U, hU, hm⟩ := o.sz
 have := nodup_len (rising_nodup h.ris) fun d hd => hm d ?_
 ·simp only [List.length_map] at this; omega
 ·obtain ⟨i, hi, rfl⟩ := List.mem_map.1 hd
  exact item_keeps ((h.mem i).1 hi)
section
variable {F F' : List Nat} {s s' : AS} {q : Nat} {x : OSet}
/-! ### the plain side of seeing -/
end
end Go.Proofs.Ytoklmpkpeanloaa
end

section
namespace Go.Proofs.Ytoklmpkpeanloaa
open Go.Am Go.Minster Go.Minster2
theorem OOk.exlen {x : OSet} {B : Nat} (o : OOk x B) : x.ex.length ≤ B := by
 obtain ⟨U, hU, hm⟩ := o.sz
 have := nodup_len (rising_nodup o.ok.r) fun d hd => hm d ?_
 ·omega
 ·exact .inl hd
section
variable {F : List Nat} {s : AS} {q : Nat} {x : OSet} {B : Nat}
theorem _root_.Go.Am.Gro.there {α : Type} {f : α → List AV} {sz : Nat} {v : AV} {l : List α} (h : Gro f sz s v l) : ∀ y ∈ labOf v, s.h y ≠ none := by
 intro y hy
 rcases h with ⟨_, b, rfl⟩ | ⟨la, rfl, ho⟩
 ·simp [labOf] at hy
 ·obtain rfl : y = la := by simpa [labOf] using hy
  rw [ho]; simp
end
end Go.Proofs.Ytoklmpkpeanloaa
end

section
set_option maxRecDepth 100000
set_option maxHeartbeats 4000000
namespace Go.Proofs.Ytoklmpkpeanloaa
open Go.Am
end Go.Proofs.Ytoklmpkpeanloaa
end

section
namespace Go.Proofs.Ytoklmpkpeanloaa
open Go.Am Go.Minster Go.Minster2
section
variable {F : List Nat} {s : AS} {q : Nat} {x : OSet} {B : Nat}
end
end Go.Proofs.Ytoklmpkpeanloaa
end

section
namespace Go.Proofs.Ytoklmpkpeanloaa
open Go.Am Go.Minster Go.Minster2
section
variable {F : List Nat} {s : AS} {p : Nat} {x : OSet} {B : Nat}
def liveE (e : Dot × Key × Nat) : Itm := ⟨e.1, e.2.1, false⟩
theorem srt_rising {l : List Itm} (hs : Go.Minster.SI.Srt l 0 l.length) (hn : (l.map Itm.dot).Nodup) : Rising (l.map Itm.dot) := by
 refine List.pairwise_iff_getElem.2 fun i j hi hj hij => ?_
 simp only [List.length_map] at hi hj
 have hle : (Go.Minster.SI.el l i).le (Go.Minster.SI.el l j) := hs i j (by omega) hij hj
 have ei : Go.Minster.SI.el l i = l[i] := by have := Go.Minster.SI.el_get hi; rw [List.getElem?_eq_getElem hi] at this; exact (Option.some.inj this).symm
 have ej : Go.Minster.SI.el l j = l[j] := by have := Go.Minster.SI.el_get hj; rw [List.getElem?_eq_getElem hj] at this; exact (Option.some.inj this).symm
 rw [ei, ej] at hle
 simp only [List.getElem_map]
 rcases Dot.lt_tri l[i].dot l[j].dot with h | h | h
 ·exact h
 ·exfalso
  have := (List.pairwise_iff_getElem.1 hn) i j (by simpa using hi) (by simpa using hj) hij
  simp only [List.getElem_map] at this
  exact this h
 ·exfalso
  have h2 : l[j].dot.lt l[i].dot = false := hle
  rw [h2] at h; cases h
theorem Items_okN (h : SetF F s p x) (o : OOk x B) (hB : B ≤ 1000) : ACalls Try.prog F_orset_Set_Items [.ptr (some (p, 0))] s fun v s' => ∃ I, Items x I ∧ SI.ArrN s s' v I := by
 obtain ⟨hb1, hb2⟩ := h.bnd o
 refine q_orset_Set_Items _ _ _ ?_
 refine ACalls.use (there_ok h) ?_
 rintro v s2 ⟨rfl, rfl⟩ w2
 obtain ⟨_, _, _, pc, lm, tm, a, _, _, _, _, _, ⟨es, c, hm, hg, hl⟩, _⟩ := id h
 refine ⟨_, rfl, bsplit.no rfl ⟨fun vs s' => ∃ (v : AV) (done : List (Dot × Key × Nat)), vs = [v] ∧ WFs s' ∧ GroN itemC 5 [] s2 s' v (done.map liveE) ∧ (∀ e ∈ es, e ∈ done) ∧ (∀ e ∈ done, e ∈ es) ∧ done.Nodup, ?_, _, by rw [a.at.rd1]; rfl, MpAt.range u_m_Dot_Key w2 hm fun it s19 hit F19 => ⟨fun m vs s' => ∃ (v : AV) (done : List (Dot × Key × Nat)), vs = [v] ∧ m = es.length - done.length ∧ WFs s' ∧ MpAt dK kV s' lm es c false ∧ Iter s' it lm es c done ∧ GroN itemC 5 [it] s19 s' v (done.map liveE), es.length, ⟨_, [], rfl, by simp, F19.wf, hm.ext F19.ext, hit, GroN.nil⟩, ?_⟩⟩⟩
 ·rintro v5 s6 ⟨v', done, hv, w6, g6, d1, d2, d3⟩
  obtain rfl : v5 = v' := by simpa using hv
  have e6 := g6.chg.ext
  refine ACalls.use (Tombs_ok (h.ext e6) (by omega)) ?_
  rintro v7 s8 ⟨t, hA, tris, tmem, tlen⟩ w8
  refine ACalls.use (gone_ok hA.dots (by omega)) ?_
  rintro v9 s10 g10 w10
  have e10 := hA.1.trans g10.chg.ext
  have hdl : done.length = es.length := by
   have hes2 : es.Nodup := hm.nd.imp fun {a b} h e => h (by rw [e])
   exact ((List.perm_ext_iff_of_nodup d3 hes2).2 fun a => ⟨d2 a, d1 a⟩).length_eq
  refine GroN.appendS sl_s_Item itemC_len itemC_one w10 (g6.step e10) (by simp) (g10.sl itemC_len) (by simp; omega) u_s_Item fun v11 s12 g12 w12 _ => ?_
  refine ACalls.use (SI.sortGro_ok g12 (by simp; omega)) ?_
  rintro r s14 ⟨rfl, l', hp, hs, hA2⟩ w14
  refine ⟨rfl, l', ?_, hA2⟩
  have hlive : ∀ i : Itm, i ∈ done.map liveE ↔ i.gone = false ∧ x.live i.dot = some i.key := by
   intro i
   rw [List.mem_map]
   constructor
   ·rintro ⟨e, he, rfl⟩
    exact ⟨rfl, by rw [← hg]; exact mget_mem hm.nd (d2 e he)⟩
   ·rintro ⟨h1, h2⟩
    rw [← hg] at h2
    obtain ⟨j, n, hj⟩ := mget_some h2
    refine ⟨_, d1 _ (List.mem_of_getElem? hj), ?_⟩
    cases i
    simp only at h1
    simp [liveE, h1]
  have hgone : ∀ i : Itm, i ∈ t.map goneI ↔ i.gone = true ∧ x.tomb i.dot = true ∧ i.key = ⟨[], []⟩ := by
   intro i
   rw [List.mem_map]
   constructor
   ·rintro ⟨d, hd, rfl⟩
    exact ⟨rfl, (tmem d).1 hd, rfl⟩
   ·rintro ⟨h1, h2, h3⟩
    refine ⟨i.dot, (tmem _).2 h2, ?_⟩
    cases i
    simp only at h1 h3
    simp [goneI, h1, h3]
  have hnd : ((done.map liveE ++ t.map goneI).map Itm.dot).Nodup := by
   rw [List.map_append, List.map_map, List.map_map]
   refine List.nodup_append.2 ⟨?_, ?_, ?_⟩
   ·refine List.pairwise_map.2 (List.Pairwise.imp_of_mem ?_ d3)
    intro u w hu hw huw he
    have h1 := mget_mem hm.nd (d2 u hu)
    have h2 := mget_mem hm.nd (d2 w hw)
    have key : ∀ (l : List (Dot × Key × Nat)), l.Pairwise (fun a b => a.1 ≠ b.1) → u ∈ l → w ∈ l → u = w := by
     intro l
     induction l with
     | nil => intro _ h; cases h
     | cons z l ih =>
      intro hp h4 h5
      obtain ⟨p1, p2⟩ := List.pairwise_cons.1 hp
      rcases List.mem_cons.1 h4 with r4 | h4 <;> rcases List.mem_cons.1 h5 with r5 | h5
      ·rw [r4, r5]
      ·exact absurd (by rw [← r4]; exact he) (p1 w h5)
      ·exact absurd (by rw [← r5]; exact he.symm) (p1 u h4)
      ·exact ih p2 h4 h5
    exact huw (key es hm.nd (d2 u hu) (d2 w hw))
   ·have : t.map (Itm.dot ∘ goneI) = t := by
     conv => rhs; rw [← List.map_id t]
     rfl
    rw [this]; exact rising_nodup tris
   ·intro u hu w hw
    rw [List.mem_map] at hu hw
    obtain ⟨e, he, rfl⟩ := hu
    obtain ⟨d, hd, rfl⟩ := hw
    intro heq
    have h1 : x.live e.1 = some e.2.1 := by rw [← hg]; exact mget_mem hm.nd (d2 e he)
    have h2 := (o.tb d ((tmem d).1 hd)).2
    have : e.1 = d := heq
    rw [this, h2] at h1; cases h1
  refine ⟨srt_rising hs ((hp.map Itm.dot).nodup_iff.2 hnd), fun i => ?_⟩
  rw [hp.mem_iff, List.mem_append, hlive, hgone]
  unfold OSet.item
  cases i.gone <;> simp
 ·rintro m v s24 ⟨v', done, hv, rfl, w24, hm24, hit24, g24⟩
  obtain rfl : v = v' := by simpa using hv
  have hitx : s24.h it ≠ none := by rw [hit24.at]; simp
  refine ⟨fun vs s' => (vs = [.bool false] ∧ s' = s24 ∧ ∀ e ∈ es, e ∈ done) ∨ (vs = [.bool true] ∧ ∃ e, e ∈ es ∧ e ∉ done ∧ WFs s' ∧ MpAt dK kV s' lm es c false ∧ Iter s' it lm es c (done ++ [e]) ∧ GroN itemC 5 [it] s19 s' v (done.map liveE)), ?_, ?_⟩
  rotate_left
  ·refine Iter.next w24 hm24 hit24 (fun hall => .inl ⟨rfl, rfl, hall⟩) fun e s' he hne hit' w' m' => .inr ⟨rfl, e, he, hne, w', hm24.mut m' ?_, hit', g24.wr ?_ m'⟩
   ·simp only [List.mem_singleton]
    rintro rfl
    have := hm24.obj
    rw [hit24.at] at this; cases this
   ·intro y hy
    obtain rfl := List.mem_singleton.1 hy
    rw [hit.at]; simp
  rintro b s27 (⟨hb, rfl, hall⟩ | ⟨hb, e, he, hne, w27, hm27, hit27, g27⟩)
  ·obtain rfl : b = false := by simpa using hb
   refine bsplit.no rfl ⟨v, done, rfl, w24, ⟨g24.gro, ?_, fun la hla => F19.ext.none (g24.new la hla)⟩, hall, hit24.sub, hit24.nd⟩
   exact (Ext.wr F19.ext F19.no g24.chg).mut
  ·obtain rfl : b = true := by simpa using hb
   have hlt := hit24.lt he hne
   refine bsplit.yes rfl (Iter.entry hm27 hit27 ⟨dotC e.1, rfl, keyC e.2.1, rfl, NewQ.intro w27 rfl fun l32 s33 F33 => NewQ.intro F33.wf rfl fun l34 s35 F35 => ⟨⟨by simp [dotC], rfl⟩, ?_⟩⟩)
   have hne34 : l32 ≠ l34 := by
    rintro rfl
    have := F35.no
    rw [F33.at] at this; cases this
   refine StQ.own F35.wf (F33.own.ext F35.ext) (by simp [dotC]) fun s36 P36 => ⟨⟨by simp [keyC], rfl⟩, StQ.own P36.wf (F35.own.mut P36.mut (by simpa using hne34.symm)) (by simp [keyC]) fun s37 P37 => ?_⟩
   have e35 : Ext s27 s35 := F33.ext.trans F35.ext
   have e37 : Ext s27 s37 := Ext.wr (Ext.wr e35 F33.no P36.mut) (F33.ext.none F35.no) P37.mut
   have o32 : Am.Own s37 l32 (dotC e.1) := by
    have := P36.at
    rw [wrs_all0 (by simp [dotC])] at this
    exact Am.Own.mut this P37.mut (by simpa using hne34)
   have o34 : Am.Own s37 l34 (keyC e.2.1) := by
    have := P37.at
    rw [wrs_all0 (by simp [keyC])] at this
    exact this
   have hit37 := hit27.ext e37
   refine ⟨_, o32.at.rdc (by simp [dotC]), _, o34.at.rdc (by simp [keyC]), _, build_item e.1 e.2.1, GroN.append1 sl_s_Item itemC_len itemC_one P37.wf (g27.step e37) (fun y hy => ?_) (liveE e) (by simp; omega) fun v44 s45 g45 w45 m45 => ?_⟩
   ·obtain rfl := List.mem_singleton.1 hy
    rw [hit37.at]; simp
   ·have hnit : it ∉ labOf v := fun hx => by
     have := g24.new it hx
     rw [hit.at] at this; cases this
    have hnlm : lm ∉ labOf v := fun hx => by
     have := g24.new lm hx
     rw [(hm.ext F19.ext).obj] at this; cases this
    refine ⟨es.length - (done ++ [e]).length, by simp; omega, v44, done ++ [e], rfl, rfl, w45, (hm27.ext e37).mut m45 hnlm, hit37.mut m45 hnit, ?_⟩
    rw [List.map_append]
    exact g45
end
/-! ### the reference's live items and keys -/
section
variable {F : List Nat} {s : AS} {q : Nat} {x : OSet} {B : Nat}
def liveI (I : List Itm) : List Itm := I.filter fun i => !i.gone
theorem liveI_mem {I : List Itm} (h : Items x I) (i : Itm) : i ∈ liveI I ↔ i.gone = false ∧ x.live i.dot = some i.key := by
 unfold liveI
 rw [List.mem_filter, h.mem]
 unfold OSet.item
 cases i.gone <;> simp
end
end Go.Proofs.Ytoklmpkpeanloaa
end

section
set_option maxRecDepth 100000
set_option maxHeartbeats 4000000
namespace Go.Proofs.Ytoklmpkpeanloaa
open Go.Am
end Go.Proofs.Ytoklmpkpeanloaa
end

section
namespace Go.Proofs.Ytoklmpkpeanloaa
open Go.Am Go.Minster Go.Minster2
section
variable {s0 s s' : AS} {p q : Nat} {x y : OSet} {B : Nat}
end
end Go.Proofs.Ytoklmpkpeanloaa
end

section
namespace Go.Proofs.Ytoklmpkpeanloaa
open Go.Am Go.Minster Go.Minster2 Go.ChangeShapes Go.WideShapes Go.ChangeAt Go.RowKit
set_option maxRecDepth 100000 in
theorem flat_Item : flatT Try.prog 5 Y_Item = some [.int .i64, .int .u64, .str, .str, .bool] := by kernel_rfl
set_option maxRecDepth 100000 in
theorem items_arg {H : Type} {enc : TypeId × Value → H} {W : World} {base : Nat} {v : Value} (hv : Value.okWide Try.prog W .any base Y_s_Item v) (h : ∃ (d : DataW H) (p : List MemPlace), DataW.Trod enc Try.prog W 0 (fun _ => true) true Y_s_Item v d p) :
  ∃ l : List Itm, Sl itemC 5 (sW W) (absV W.heap.size (MW W) v) l ∧ ∀ i ∈ l, DotIn i.dot := by
 obtain ⟨d, p, h⟩ := h
 obtain ⟨C, h1, h2, _⟩ := slice_arg (d := 5) (ks := [.int .i64, .int .u64, .str, .str, .bool]) (hT.und _ _ u_s_Item) flat_Item (by kernel_rfl) (by decide) hv h
 obtain ⟨l, e1, e2, e3⟩ := cells_dec (f := itemC) (Q := fun i => DotIn i.dot) C fun c hc => by
  obtain ⟨a, c1, rfl, ⟨r, rfl, hr1, hr2⟩, g1⟩ := (h2 c hc).cons
  obtain ⟨b, c2, rfl, ⟨n, rfl, hn1, hn2⟩, g2⟩ := g1.cons
  obtain ⟨b, c3, rfl, ⟨t, rfl, _⟩, g3⟩ := g2.cons
  obtain ⟨b, c4, rfl, ⟨u, rfl, _⟩, g4⟩ := g3.cons
  obtain ⟨b, c5, rfl, ⟨g, rfl⟩, g5⟩ := g4.cons
  obtain rfl := g5.nil
  rw [min_i64] at hr1
  rw [max_i64] at hr2
  rw [min_u64] at hn1
  rw [max_u64] at hn2
  exact ⟨⟨⟨r, n⟩, ⟨t, u⟩, g⟩, rfl, ⟨hr1, hr2⟩, hn1, hn2⟩
 rw [e1, e2] at h1
 exact ⟨l, h1, e3⟩
end Go.Proofs.Ytoklmpkpeanloaa
end

section
namespace Go.Proofs.Ytoklmpkpeanloaa
open Go.Am Go.Minster Go.Minster2 Go.ChangeShapes Go.WideShapes Go.ChangeAt Go.RowKit
end Go.Proofs.Ytoklmpkpeanloaa
end

section
namespace Go.Proofs.Ytoklmpkpeanloaa
open Go.Am Go.Minster Go.Minster2
section
variable {s0 s : AS} {p q : Nat} {x : OSet} {B : Nat} {F G : List Nat}
end
end Go.Proofs.Ytoklmpkpeanloaa
end

section
namespace Go.Am
def AS.less (s : AS) (L : List Nat) : AS := L.foldl AS.kill s
theorem AS.less_h (s : AS) (L : List Nat) (x : Nat) : (s.less L).h x = if x ∈ L then none else s.h x := by
 unfold AS.less
 induction L generalizing s with
 | nil => simp
 | cons a L ih =>
  rw [List.foldl_cons, ih, AS.kill_h]
  by_cases h1 : x ∈ L
  ·simp [h1]
  ·by_cases h2 : x = a <;> simp [h1, h2]
theorem AS.less_nl (s : AS) (L : List Nat) : (s.less L).nl = s.nl := by
 unfold AS.less
 induction L generalizing s with
 | nil => rfl
 | cons a L ih => rw [List.foldl_cons, ih, AS.kill_nl]
theorem AS.less_ext (s : AS) (L : List Nat) : Ext (s.less L) s := ⟨(fun l o h => by rw [AS.less_h] at h; split at h <;> first | exact h | cases h), by rw [AS.less_nl]; exact Nat.le_refl _⟩
theorem AS.less_mut (s : AS) (L : List Nat) : Mut L s (s.less L) := ⟨fun l o hl h => by rw [AS.less_h, if_neg hl]; exact h, by rw [AS.less_nl]; exact Nat.le_refl _⟩
theorem AS.less_of {s0 s : AS} {L : List Nat} (e : Ext s0 s) (hL : ∀ x ∈ L, s0.h x = none) : Ext s0 (s.less L) :=
 ⟨fun l o h => by rw [AS.less_h, if_neg (fun hm => by rw [hL l hm] at h; cases h)]; exact e.1 l o h, by rw [AS.less_nl]; exact e.2⟩
end Go.Am
namespace Go.Proofs.Ytoklmpkpeanloaa
open Go.Am Go.Minster Go.Minster2
section
variable {s0 s s' : AS} {p q : Nat} {x y : OSet} {B : Nat}
end
end Go.Proofs.Ytoklmpkpeanloaa
end

section
namespace Go.Proofs.Ytoklmpkpeanloaa
open Go.Am Go.Minster Go.Minster2
end Go.Proofs.Ytoklmpkpeanloaa
end

section
set_option maxRecDepth 100000
set_option maxHeartbeats 4000000
namespace Go.Proofs.Ytoklmpkpeanloaa
open Go.Am
end Go.Proofs.Ytoklmpkpeanloaa
end

section
namespace Go.Proofs.Ytoklmpkpeanloaa
open Go.Am Go.Minster Go.Minster2
/-! ### plainly -/
theorem has_may {x : OSet} {d : Dot} (h : x.has d = true) : d.may = true := (hasD_iff.1 h).1
/-! ### at a set -/
section
variable {s0 s : AS} {F : List Nat} {p : Nat} {x : OSet} {B : Nat}
end
end Go.Proofs.Ytoklmpkpeanloaa
end

section
namespace Go.Proofs.Ytoklmpkpeanloaa
open Go.Am Go.Minster Go.Minster2
/-! ### plainly -/
section
variable {v : List Int} {ex : List Dot} {L : List Itm} {x : OSet}
end
/-! ### in memory -/
end Go.Proofs.Ytoklmpkpeanloaa
end

section
namespace Go.Proofs.Ytoklmpkpeanloaa
open Go.Am Go.Minster Go.Minster2
end Go.Proofs.Ytoklmpkpeanloaa
end

section
namespace Go.Proofs.Ytoklmpkpeanloaa.SI
open Go.Am Go.Minster Go.Minster2 Go.Minster.SI
theorem ab1 {y i : Nat} (h : i ≤ y) : abound1 y (.int .i64 (i : Nat)) = some i := by
 have : (0 : Int) ≤ (i : Int) ∧ (i : Int) ≤ ((y : Nat) : Int) := by omega
 simp only [abound1, if_pos this, Int.toNat_natCast]
theorem asl_from {a o n c i : Nat} {e : Bool} (h1 : i < n) (h2 : n ≤ c) : aslice T Y_s_Item (.slc (some (a, o)) n c e) (some (.int .i64 (i : Nat))) none none = some (.slc (some (a, o + i * 5)) (n - i) (c - i) e) := by
 have h3 : ¬ c = i := by omega
 cases e <;> simp [aslice, u_s_Item, z_Item, abounds, aopt, ahigh, ab1 (show i ≤ n by omega), h2, h3]
theorem asl_to {a o n c i : Nat} {e : Bool} (h1 : i ≤ c) (h0 : 0 < c) : aslice T Y_s_Item (.slc (some (a, o)) n c e) none (some (.int .i64 (i : Nat))) none = some (.slc (some (a, o)) i c e) := by
 have : ¬ c = 0 := by omega
 cases e <;> simp [aslice, u_s_Item, z_Item, abounds, aopt, ahigh, ab1 h1, this]
theorem clear_ok {s : AS} {lo n c i m : Nat} {e : Bool} {l : List Itm} {rest : List AV} {g : Nat} (hw : WFs s) (hobj : s.h lo = some (.cells (l.flatMap itemC ++ rest) g false)) (hi : i < l.length) (hn : n = l.length - i) (ho : m = i * 5) {K : AS → Prop}
  (hk : ∀ s', (∃ rest', s'.h lo = some (.cells ((l.take i).flatMap itemC ++ rest') g false)) → WFs s' → Mut [lo] s s' → K s') : StQ (aclear T Y_s_Item (.slc (some (lo, m)) n c e) s) K := by
 subst hn; subst ho
 have hne : ¬ l.length - i = 0 := by omega
 have hrl : (rep (l.length - i) [AV.int .i64 0, AV.int .u64 0, AV.str [], AV.str [], AV.bool false]).length = (l.length - i) * 5 := by simp [rep]
 have e1 : aclear T Y_s_Item (.slc (some (lo, i * 5)) (l.length - i) c e) s = awr s lo (i * 5) (rep (l.length - i) [AV.int .i64 0, AV.int .u64 0, AV.str [], AV.str [], AV.bool false]) := by
  simp only [aclear, u_s_Item, if_neg hne, zr_Item, Option.bind_some, acells_agg]
  rfl
 rw [e1]
 refine StQ.awr hw hobj (by rw [hrl, List.length_append, dots_len]; omega) fun s' P => hk s' ⟨rep (l.length - i) [AV.int .i64 0, AV.int .u64 0, AV.str [], AV.str [], AV.bool false] ++ ((l.drop i).flatMap itemC ++ rest).drop (rep (l.length - i) [AV.int .i64 0, AV.int .u64 0, AV.str [], AV.str [], AV.bool false]).length, ?_⟩ P.wf P.mut
 have hsp : l.flatMap itemC ++ rest = (l.take i).flatMap itemC ++ ((l.drop i).flatMap itemC ++ rest) := by
  rw [← List.append_assoc, ← List.flatMap_append, List.take_append_drop]
 rw [P.at, hsp]
 have hl : ((l.take i).flatMap itemC).length = i * 5 := by rw [dots_len, List.length_take]; omega
 rw [← hl, wrs_app _ _ _ (by rw [hrl, List.length_append, dots_len, List.length_drop]; omega), List.append_assoc]
theorem el_of {l : List Itm} {i : Nat} {x : Itm} (h : l[i]? = some x) : el l i = x := by
 have hi : i < l.length := by
  rcases Nat.lt_or_ge i l.length with h1 | h1
  ·exact h1
  ·rw [List.getElem?_eq_none h1] at h; cases h
 have := el_get hi
 rw [h] at this; exact (Option.some.inj this).symm
def Keeps (s0 s : AS) (v : AV) (l : List Itm) : Prop := ∀ s' L, Mut L s s' → (∀ z ∈ L, s0.h z ≠ none) → Sl itemC 5 s' v l
theorem Keeps.sl {s0 s : AS} {v : AV} {l : List Itm} (h : Keeps s0 s v l) : Sl itemC 5 s v l := h s [] (Mut.refl _ _) (by simp)
theorem ArrN.keep2 {s0 s s' : AS} {v : AV} {l : List Itm} {L : List Nat} (h : ArrN s0 s v l) (m : Mut L s s') (hL : ∀ z ∈ L, s0.h z ≠ none) : Sl itemC 5 s' v l := by
 obtain ⟨e, ⟨rfl, a, rfl⟩ | ⟨la, rfl, hA, hn⟩⟩ := h
 ·exact Sl.nil
 ·exact ArrN.dots (s0 := s'.less [la]) ⟨AS.less_ext _ _, .inr ⟨la, rfl, hA.mut m fun hm => hL la hm hn, by rw [AS.less_h, if_pos (by simp)]⟩⟩
section
variable {s0 s : AS} {a : AV} {l : List Itm} {g : FuncId} {cap : List AV} {P : Itm → Bool}
set_option maxRecDepth 100000 in
theorem DeleteFunc_okN (hN : ArrN s0 s a l) (hn : l.length ≤ 2 ^ 30) (hf : ∀ i s', Ext s0 s' → WFs s' → ACalls Try.prog g ([.agg (itemC i)] ++ cap) s' fun v s'' => v = .bool (P i) ∧ Ext s' s'') :
  ACalls Try.prog F_slices_DeleteFunc__s_Item_Item [a, .func g cap] s fun v s' => Ext s0 s' ∧ Keeps s0 s' v (l.filter fun i => !P i) := by
 refine q_slices_DeleteFunc__s_Item_Item _ _ _ _ ?_
 refine ACalls.use (IndexFunc_ok hN.dots (by omega) fun i s' e w => hf i s' (hN.1.trans e) w) ?_
 rintro v1 s2 ⟨e2, n, rfl, hres⟩ w2
 have E2 := hN.1.trans e2
 rcases hres with ⟨rfl, hany⟩ | ⟨k, rfl, hk, ⟨x0, hx0, hp0⟩, hbef⟩
 ·refine ⟨_, rfl, bsplit.yes rfl ⟨E2, ?_⟩⟩
  rw [List.filter_eq_self.2 fun i hi => by rw [List.any_eq_false] at hany; simpa using hany i hi]
  intro s'' L m hL
  exact hN.keep2 (e2.mut.trans m) hL
 obtain ⟨_, ⟨rfl, _⟩ | ⟨la, rfl, hA, hla⟩⟩ := hN
 ·simp at hk
 refine ⟨_, rfl, bsplit.no (by simp) ?_⟩
 have A2 := hA.ext e2
 refine ⟨fun vs s' => ∃ (i : Nat) (l' : List Itm), vs = [.int .i64 (i : Nat)] ∧ i < l.length ∧ WFs s' ∧ Arr s' (.slc (some (la, 0)) l.length l.length false) la l' [] ∧ l'.length = l.length ∧ l'.take i = (l.filter fun i => !P i) ∧ Mut [la] s2 s', ?_,
  fun m vs s' => ∃ (i j : Nat) (l' : List Itm), vs = [.int .i64 (i : Nat), .int .i64 (j : Nat)] ∧ i < j ∧ j ≤ l.length ∧ m = l.length - j ∧ WFs s' ∧ Arr s' (.slc (some (la, 0)) l.length l.length false) la l' [] ∧ l'.length = l.length ∧ l'.take i = ((l.take j).filter fun i => !P i) ∧ l'.drop j = l.drop j ∧ Mut [la] s2 s', l.length - (k + 1),
  ⟨k, k + 1, l, by rw [wrap_i (by omega)]; rfl, by omega, by omega, rfl, w2, A2, rfl, ?_, rfl, Mut.refl _ _⟩, ?_⟩
 ·rintro n5 s6 ⟨i, l', hin, hi, w6, a6, hl', ht, m6⟩
  simp only [List.cons.injEq, AV.int.injEq, true_and, and_true] at hin
  subst hin
  obtain ⟨⟨c, e, _⟩, gg, hobj⟩ := a6
  refine ⟨_, asl_from hi (Nat.le_refl _), clear_ok (i := i) w6 hobj (by omega) (by omega) (by omega) fun s8 hs8 w8 m8 => ⟨_, asl_to (by omega) (by omega), ?_, ?_⟩⟩
  ·exact Ext.wr E2 hla (m6.trans m8)
  ·obtain ⟨rest', h8⟩ := hs8
   rw [← ht]
   intro s'' L m hL
   have hlen : (l'.take i).length = i := by rw [List.length_take]; omega
   have h8' := m.1 _ _ (fun hm => hL la hm hla) h8
   have := SlAt.mk (s := s'') (la := la) (o := 0) (n := (l'.take i).length) (c := l.length) (e := false) (sz := 5) ⟨_, _, h8'⟩ (dots_len (l'.take i)) (by rw [List.drop_zero, ← dots_len (l'.take i), List.take_append_of_le_length (Nat.le_refl _), List.take_length]) (by omega)
   rw [hlen] at this
   show SlAt _ _ _ _ (l'.take i).length
   rw [hlen]; exact this
 ·have hh : l.take (k + 1) = l.take k ++ [x0] := by rw [List.take_add_one, hx0, Option.toList_some]
  rw [hh, List.filter_append, List.filter_eq_self.2 fun i hi => by
   obtain ⟨j, hj, hj2⟩ := List.mem_take_iff_getElem.1 hi
   rw [hbef j i (by omega) (by rw [List.getElem?_eq_getElem (by omega), hj2])]; rfl]
  simp [hp0]
 ·rintro m n13 n14 s15 ⟨i, j, l', hin, hij, hj, rfl, w15, a15, hl', ht, hd, m15⟩
  simp only [List.cons.injEq, AV.int.injEq, true_and, and_true] at hin
  obtain ⟨rfl, rfl⟩ := hin
  have hlen : alenB T Y_s_Item (.slc (some (la, 0)) l.length l.length false) s15 = some (.int .i64 (l.length : Nat)) := by simp [alenB, u_s_Item]
  refine ⟨_, hlen, bsplit.dec (fun hlt => ?_) (fun hge => ?_)⟩
  rotate_left
  ·rw [show l.take j = l from List.take_of_length_le (by omega)] at ht
   exact ⟨i, l', rfl, by omega, w15, a15, hl', ht, m15⟩
  obtain ⟨x, hx⟩ := get_lt (l := l) (i := j) (by omega)
  have hx' : l'[j]? = some x := by
   have h1 := congrArg (fun q => q[0]?) hd
   simp only [List.getElem?_drop, Nat.add_zero] at h1
   rw [h1, hx]
  have step := List.take_add_one (l := l) (i := j)
  rw [hx, Option.toList_some] at step
  have hrd := a15.rd (i := j) (by omega)
  rw [el_of hx'] at hrd
  refine ⟨_, _, a15.ix (by omega), _, hrd, NewSt w15 rfl rfl rfl fun l20 s22 F22 => ⟨_, F22.own.at.rdc (by simp [itemC]), ?_⟩⟩
  have E22 : Ext s0 s22 := (Ext.wr E2 hla m15).trans F22.ext
  refine ACalls.use (hf x s22 E22 F22.wf) ?_
  rintro v24 s25 ⟨rfl, e25⟩ w25
  have a25 := a15.ext (F22.ext.trans e25)
  have m25 : Mut [la] s2 s25 := m15.trans (F22.ext.trans e25).mut
  have hdrop : ∀ q : List Itm, q.drop j = l.drop j → q.drop (j + 1) = l.drop (j + 1) := by
   intro q hq
   have := congrArg (fun u => u.drop 1) hq
   simpa [List.drop_drop, Nat.add_comm] using this
  refine ⟨_, rfl, bsplit.mk (fun hb => ?_) (fun hb => ?_)⟩
  ·refine ⟨_, (F22.own.ext e25).at.rdc (by simp [itemC]), _, _, a25.ix (by omega), a25.wr w25 (by omega) x fun s30 a30 w30 m30 => ?_⟩
   refine ⟨l.length - (j + 1), by omega, i + 1, j + 1, l'.set i x, by rw [wrap_i (by omega), wrap_i (by omega)]; rfl, by omega, by omega, rfl, w30, a30, by rw [List.length_set]; exact hl', ?_, ?_, m25.trans m30⟩
   ·rw [step, List.filter_append, ← ht, List.take_add_one, List.getElem?_set, if_pos rfl, if_pos (by omega), Option.toList_some, List.take_set_of_le (Nat.le_refl _)]
    simp only [Bool.not_eq_true'] at hb
    simp [hb]
   ·rw [List.drop_set_of_lt (by omega)]; exact hdrop _ hd
  ·refine ⟨l.length - (j + 1), by omega, i, j + 1, l', by rw [wrap_i (by omega)]; rfl, by omega, by omega, rfl, w25, a25, hl', ?_, hdrop _ hd, m25⟩
   rw [step, List.filter_append, ← ht]
   simp only [Bool.not_eq_false'] at hb
   simp [hb]
end
end Go.Proofs.Ytoklmpkpeanloaa.SI
end

section
namespace Go.Proofs.Ytoklmpkpeanloaa
open Go.Am Go.Minster Go.Minster2
/-! ### buckets -/
section
variable {F G : List Nat} {s : AS} {p q : Nat} {x : OSet} {B : Nat}
end
/-! ### dests -/
section
variable {F G : List Nat} {s : AS} {p q : Nat} {x : OSet} {B : Nat}
end
end Go.Proofs.Ytoklmpkpeanloaa
end

section
namespace Go.Proofs.Ytoklmpkpeanloaa
open Go.Am Go.Minster Go.Minster2
end Go.Proofs.Ytoklmpkpeanloaa
end

section
namespace Go.Am
section
variable {T : TT} {t el : TypeId} {sz by_ : Nat} (ht : SlTy T t el sz by_)
include ht
end
end Go.Am
namespace Go.Proofs.Ytoklmpkpeanloaa
open Go.Am Go.Minster Go.Minster2
def byC (n : Int) : List AV := [.int .u8 n]
theorem byC_len (n : Int) : (byC n).length = 1 := rfl
theorem byC_one (n : Int) : (byC n).all AV.one = true := rfl
theorem sl_s_uint8 : SlTy T Y_s_uint8 Y_uint8 1 1 := ⟨u_s_uint8, z_uint8, b_uint8, ⟨_, _, zr_uint8, rfl, rfl⟩, by decide, by decide⟩
theorem by_len (l : List Int) : (l.flatMap byC).length = l.length * 1 := flat_len byC_len l
abbrev Byts (s : AS) (v : AV) (l : List Int) : Prop := Sl byC 1 s v l
abbrev BytN (s0 s : AS) (v : AV) (l : List Int) : Prop := GroN byC 1 [] s0 s v l
def BRoom (s : AS) (v : AV) (n : Nat) (l : List Int) (lo : Option Nat) : Prop :=
 match lo with
 | none => v = .slc none 0 0 true ∧ n = 0 ∧ l = []
 | some lo => v = .slc (some (lo, 0)) l.length n false ∧ l.length ≤ n ∧ ∃ rest, s.h lo = some (.cells (l.flatMap byC ++ rest) 1 false) ∧ rest.length = (n - l.length) * 1
theorem BRoom.app {s : AS} {v x : AV} {n : Nat} {l xs : List Int} {lo : Nat} (h : BRoom s v n l (some lo)) (hw : WFs s) (hx : Sl byC 1 s x xs) (hn : l.length + xs.length ≤ n) (hb : n ≤ 2 ^ 30)
  {K : AV → AS → Prop} (hk : ∀ v' s', BRoom s' v' n (l ++ xs) (some lo) → WFs s' → Mut [lo] s s' → K v' s') : Bd2 (aappend T Y_s_uint8 Y_s_uint8 v x s) K := by
 obtain ⟨rfl, hle, rest, hobj, hr⟩ := h
 obtain ⟨hsrc, hlen⟩ := SlAt.src sl_s_uint8 hx
 have e := aappend_core sl_s_uint8 (base := some (lo, 0)) (len := l.length) (cap := n) (ex := false) u_s_uint8 hlen hsrc (by rw [by_len]) (by omega)
 rw [if_pos hn] at e
 by_cases h0 : xs.flatMap byC = []
 ·have hxs : xs = [] := by
   have := congrArg List.length h0
   rw [by_len] at this
   exact List.length_eq_zero_iff.1 (by simp only [List.length_nil] at this; omega)
  subst hxs
  simp only [List.flatMap_nil, if_true] at e
  exact ⟨_, _, e, hk _ _ ⟨by simp, by simpa using hle, rest, by simpa using hobj, by simpa using hr⟩ hw (Mut.refl _ _)⟩
 ·simp only [if_neg h0] at e
  have hP := hw.put hobj (o := .cells (wrs (l.flatMap byC ++ rest) (0 + l.length * 1) (xs.flatMap byC)) 1 false) rfl
  have ea : awr s lo (0 + l.length * 1) (xs.flatMap byC) = some (s.put lo (.cells (wrs (l.flatMap byC ++ rest) (0 + l.length * 1) (xs.flatMap byC)) 1 false)) := by
   simp only [awr, hobj]
   rw [if_pos (by rw [List.length_append, by_len, by_len, hr]; omega)]
  rw [ea] at e
  refine ⟨_, _, e, hk _ _ ⟨by simp, by simpa using hn, rest.drop (xs.flatMap byC).length, ?_, ?_⟩ hP.wf hP.mut⟩
  ·rw [hP.at, Nat.zero_add, ← by_len l, wrs_app _ _ _ (by rw [by_len, hr]; omega), List.flatMap_append]
  ·rw [List.length_drop, by_len, hr, List.length_append]; omega
theorem BRoom.app' {s : AS} {v x : AV} {n : Nat} {l xs : List Int} {lo : Option Nat} (h : BRoom s v n l lo) (hw : WFs s) (hx : Sl byC 1 s x xs) (hn : l.length + xs.length ≤ n) (hb : n ≤ 2 ^ 30)
  {K : AV → AS → Prop} (hk : ∀ v' s', BRoom s' v' n (l ++ xs) lo → WFs s' → Mut lo.toList s s' → K v' s') : Bd2 (aappend T Y_s_uint8 Y_s_uint8 v x s) K := by
 cases lo with
 | some lo => exact BRoom.app h hw hx hn hb hk
 | none =>
  obtain ⟨rfl, rfl, rfl⟩ := h
  obtain rfl : xs = [] := by simpa using hn
  obtain ⟨hsrc, hlen⟩ := SlAt.src sl_s_uint8 hx
  have e := aappend_core sl_s_uint8 (base := none) (len := 0) (cap := 0) (ex := true) u_s_uint8 hlen hsrc (by simp) (by simp)
  simp only [List.length_nil, Nat.le_refl, if_true] at e
  exact ⟨_, _, e, hk _ _ ⟨rfl, rfl, rfl⟩ hw (Mut.refl _ _)⟩
theorem blit_append {s : AS} (hw : WFs s) {l0 : Nat} {i : Int} (h0 : At s l0 (byC i)) {v : AV} {l : List Int} (hl : Byts s v l) (hz : l ≠ []) (hb : l.length ≤ 2 ^ 29) {K : AV → AS → Prop} (hK : ∀ v' s', BytN s s' v' (i :: l) → WFs s' → K v' s') : Bd2 (aappend T Y_s_uint8 Y_s_uint8 (.slc (some (l0, 0)) 1 1 true) v s) K := by
 obtain ⟨hsrc, hlen⟩ := SlAt.src sl_s_uint8 hl
 have e := aappend_core sl_s_uint8 (base := some (l0, 0)) (len := 1) (cap := 1) (ex := true) u_s_uint8 hlen hsrc (by rw [flat_len byC_len]) (by omega)
 have h1 : Sl byC 1 s (.slc (some (l0, 0)) 1 1 true) [i] := SlAt.mk h0 (by simp [byC]) (by simp [byC])
 have hpos : 0 < l.length := List.length_pos_iff.2 hz
 rw [if_neg (by omega)] at e
 have hs1 := (SlAt.src sl_s_uint8 h1).1
 simp only [List.length_cons, List.length_nil, Nat.zero_add] at hs1
 rw [hs1] at e
 simp only [Option.bind_some, if_true] at e
 rw [show 1 + l.length = (i :: l).length by simp; omega] at e
 have Fr := hw.new (o := .cells ([i].flatMap byC ++ l.flatMap byC) 1 false) rfl
 refine ⟨_, _, e, hK _ _ ⟨.inr ⟨s.nl, rfl, ?_⟩, Fr.ext.mut, fun la hla => ?_⟩ Fr.wf⟩
 ·have := Fr.at
  simpa using this
 ·obtain rfl : la = s.nl := by simpa [labOf] using hla
  exact hw.none
def strB (t : List UInt8) : List Int := t.map fun c => (c.toNat : Int)
theorem strB_len (t : List UInt8) : (strB t).length = t.length := by simp [strB]
theorem strB_flat (t : List UInt8) : (strB t).flatMap byC = t.map fun c => AV.int .u8 c.toNat := by
 induction t with
 | nil => rfl
 | cons a t ih => simp only [strB, List.map_cons, List.flatMap_cons, byC] at ih ⊢; rw [ih]; rfl
def toB (l : List Int) : List UInt8 := l.map fun n => UInt8.ofNat n.toNat
theorem abytes_flat (l : List Int) : abytes (l.flatMap byC) = some (toB l) := by
 induction l with
 | nil => rfl
 | cons a l ih =>
  simp only [List.flatMap_cons, byC, List.cons_append, List.nil_append, abytes, ih, toB, List.map_cons, Option.map_some]
theorem conv_str {s : AS} {v : AV} {l : List Int} (h : Byts s v l) (hz : l ≠ []) : (aconvert T Y_s_uint8 Y_string v s).map (·.1) = some (.str (toB l)) := by
 have hp : 0 < l.length := List.length_pos_iff.2 hz
 rcases h with ⟨rfl, h2, h3⟩ | ⟨a, c, e, rfl, ⟨h1, h2⟩, h3⟩
 ·omega
 ·rcases h3 with h3 | ⟨la, o, C, rfl, hC, h3⟩
  ·omega
  ·have hn : o + l.length ≤ C.length := by
    have := congrArg List.length h3
    rw [List.length_take, List.length_drop, h1] at this
    omega
   have hr : rdc s la o l.length = some (l.flatMap byC) := by
    rw [hC.rdc hn, ← h3, Nat.mul_one]
   have hne : ¬ l.length = 0 := by omega
   simp [aconvert, u_s_uint8, u_string, u_uint8, hr, abytes_flat, hz]
/-! ### numbers -/
def byteAt (n : Int) (sh : Nat) : Int := IntKind.wrap .u8 (Int.fdiv n (2 ^ min sh (IntKind.bits .u64)))
def bes (n : Int) (k : Nat) : List Int := (List.range k).map fun i => byteAt n (8 * (k - 1 - i))
theorem bes_len (n : Int) (k : Nat) : (bes n k).length = k := by simp [bes]
theorem absl_byte (n : Int) : absl T Y_s_uint8 1 [(0, .int .u8 n)] = some [.int .u8 n] := absl_one sl_s_uint8 rfl rfl
theorem byte_append {M : List Nat} {s0 s : AS} (hw : WFs s) {v : AV} {l : List Int} (h : GroN byC 1 M s0 s v l) (hM : ∀ x ∈ M, s.h x ≠ none) (n : Int) (hb : l.length + 1 ≤ 2 ^ 30) {K : AV → AS → Prop} (hK : ∀ v' s', GroN byC 1 M s0 s' v' (l ++ [n]) → WFs s' → Mut (labOf v) s s' → K v' s') : RdL (absl T Y_s_uint8 1 [(0, .int .u8 n)]) fun g => NewQ (.cells g 0 false) s fun la s1 => Bd2 (aappend T Y_s_uint8 Y_s_uint8 v (.slc (some (la, 0)) 1 1 true) s1) K :=
 GroN.append1s (f := fun n : Int => AV.int .u8 n) sl_s_uint8 rfl (fun _ => rfl) hw h hM n hb hK
theorem byts_append {M : List Nat} {s0 s : AS} (hw : WFs s) {v x : AV} {l xs : List Int} (h : GroN byC 1 M s0 s v l) (hM : ∀ x ∈ M, s.h x ≠ none) (hx : Byts s x xs) (hb : l.length + xs.length ≤ 2 ^ 30) {K : AV → AS → Prop} (hK : ∀ v' s', GroN byC 1 M s0 s' v' (l ++ xs) → WFs s' → Mut (labOf v) s s' → K v' s') : Bd2 (aappend T Y_s_uint8 Y_s_uint8 v x s) K :=
 GroN.appendS sl_s_uint8 byC_len byC_one hw h hM hx hb u_s_uint8 hK
theorem Put_ok (n : Int) (k : Nat) (hk : 1 ≤ k ∧ k ≤ 8) (hn : k < 8 → Int.fdiv n (2 ^ min (8 * k) (IntKind.bits .u64)) = 0) (s : AS) :
  ACalls Try.prog F_wire_Put [.int .u64 n, .int .i64 (k : Nat)] s fun r s' => ∃ v, r = .tup [v, .int .i64 0] ∧ BytN s s' v (bes n k) := by
 refine ACalls.pre fun hw => q_wire_Put _ _ _ _ ⟨fun vs s' => vs = [.bool false] ∧ s' = s, ?_, bsplit.dec (fun h => absurd h (by omega)) (fun _ => bsplit.dec (fun h => absurd h (by omega)) (fun _ => bsplit.dec (fun h => ⟨?_, ?_, rfl⟩) (fun _ => ⟨rfl, rfl⟩)))⟩
 ·rintro b s3 ⟨hb, rfl⟩
  obtain rfl : b = false := by simpa using hb
  refine bsplit.no rfl ⟨fun vs s' => ∃ v, vs = [v] ∧ BytN s3 s' v (bes n k), ?_, fun m vs s' => ∃ (i : Nat) (v : AV), vs = [v, .int .i64 (i : Nat)] ∧ i ≤ k ∧ m = k - i ∧ WFs s' ∧ BytN s3 s' v ((List.range i).map fun j => byteAt n (8 * (k - 1 - j))), k, ⟨0, _, rfl, by omega, rfl, hw, by simpa using GroN.nil⟩, ?_⟩
  ·rintro v5 s6 ⟨v, hv, g⟩
   obtain rfl : v5 = v := by simpa using hv
   exact ⟨_, rfl, g⟩
  ·rintro m v10 n11 s12 ⟨i, v', hin, hi, rfl, w12, g12⟩
   simp only [List.cons.injEq, AV.int.injEq, true_and, and_true] at hin
   obtain ⟨rfl, rfl⟩ := hin
   refine bsplit.dec (fun hlt => ?_) (fun hge => ?_)
   ·have e1 : IntKind.wrap .i64 (8 * (IntKind.wrap .i64 ((IntKind.wrap .i64 ((k : Int) - 1)) - (i : Int)))) = ((8 * (k - 1 - i) : Nat) : Int) := by
     rw [wrap_i (n := (k : Int) - 1) (by omega), wrap_i (n := (k : Int) - 1 - i) (by omega), wrap_i (by omega)]; omega
    rw [e1]
    refine ⟨by omega, ?_⟩
    rw [Int.toNat_natCast]
    refine byte_append w12 g12 (by simp) (byteAt n (8 * (k - 1 - i))) (by simp; omega) fun v' s' g' w' _ => ?_
    refine ⟨k - (i + 1), by omega, i + 1, v', by rw [wrap_i (by omega)]; rfl, by omega, rfl, w', ?_⟩
    rw [List.range_succ, List.map_append]
    exact g'
   ·obtain rfl : i = k := by omega
    exact ⟨v10, rfl, g12⟩
 ·rw [wrap_i (by omega)]; omega
 ·rw [show IntKind.wrap .i64 (8 * (k : Int)) = ((8 * k : Nat) : Int) by rw [wrap_i (by omega)]; omega, Int.toNat_natCast, hn (by omega)]
  rfl
/-! ### dots, texts -/
def dotB (d : Dot) : List Int := IntKind.wrap .u8 d.r :: bes d.c 8
def textB (t : List UInt8) : List Int := bes (t.length : Nat) 2 ++ strB t
theorem dotB_len (d : Dot) : (dotB d).length = 9 := by simp [dotB, bes_len]
theorem textB_len (t : List UInt8) : (textB t).length = 2 + t.length := by simp [textB, bes_len, strB_len]
theorem bes_ne (n : Int) {k : Nat} (hk : 1 ≤ k) : bes n k ≠ [] := fun h => by have := congrArg List.length h; rw [bes_len] at this; simp at this; omega
theorem wireDot_ok (d : Dot) (hd : 0 ≤ d.r ∧ d.r ≤ 255) (s : AS) : ACalls Try.prog F_wire_Dot [.agg (dotC d)] s fun r s' => ∃ v, r = .tup [v, .int .i64 0] ∧ BytN s s' v (dotB d) := by
 refine ACalls.pre fun hw => q_wire_Dot _ _ _ ⟨rfl, NewQ.intro hw rfl fun l1 s2 F2 => ?_⟩
 have c2 := F2.own.at
 refine ⟨fun vs s' => vs = [.bool false] ∧ s' = s2, ?_, d.r, by rw [c2.rd1]; rfl, bsplit.dec (fun h => absurd h (by omega)) (fun _ => ⟨d.r, by rw [c2.rd1]; rfl, by simp; omega, rfl⟩)⟩
 rintro b s5 ⟨hb, rfl⟩
 obtain rfl : b = false := by simpa using hb
 refine bsplit.no rfl ⟨d.c, by rw [c2.rd1]; rfl, ?_⟩
 refine ACalls.use (Put_ok d.c 8 (by omega) (by omega) s5) ?_
 rintro r s8 ⟨v9, rfl, g8⟩ w8
 have e8 := g8.chg.ext
 refine ⟨_, _, rfl, d.r, by rw [(c2.ext e8).rd1]; rfl, _, absl_byte _, NewQ.intro w8 rfl fun l13 s14 F14 => ?_⟩
 refine blit_append F14.wf F14.own.at ((g8.sl byC_len).ext F14.ext) (bes_ne _ (by omega)) (by rw [bes_len]; omega) fun v' s' g' w' => ⟨v', rfl, ?_⟩
 exact ⟨g'.gro, (F2.ext.trans (e8.trans F14.ext)).mut.trans g'.chg, fun la hla => F2.ext.none (e8.none (F14.ext.none (g'.new la hla)))⟩
theorem small_shift {n : Nat} (h : n < 2 ^ 16) : Int.fdiv (n : Int) (2 ^ min (8 * 2) (IntKind.bits .u64)) = 0 := by
 rw [show min (8 * 2) (IntKind.bits .u64) = 16 from rfl]
 rw [Int.fdiv_eq_ediv_of_nonneg _ (by decide)]
 omega
theorem Blob_ok {s : AS} {v : AV} {l : List Int} (h : Byts s v l) (hn : l.length ≤ 65535) : ACalls Try.prog F_wire_Blob [v] s fun r s' => ∃ v, r = .tup [v, .int .i64 0] ∧ BytN s s' v (bes (l.length : Nat) 2 ++ l) := by
 refine ACalls.pre fun hw => q_wire_Blob _ _ _ ⟨_, h.lenB u_s_uint8 _, bsplit.dec (fun hh => absurd hh (by omega)) (fun _ => ⟨_, h.lenB u_s_uint8 _, ?_⟩)⟩
 dsimp only
 rw [wrap_u (by omega)]
 refine ACalls.use (Put_ok _ 2 (by omega) (fun _ => small_shift (by omega)) s) ?_
 rintro r s4 ⟨v5, rfl, g4⟩ w4
 refine ⟨_, _, rfl, ?_⟩
 exact byts_append w4 g4 (by simp) (h.ext g4.chg.ext) (by rw [bes_len]; omega) fun v' s' g' w' _ => ⟨v', rfl, g'⟩
end Go.Proofs.Ytoklmpkpeanloaa
end

section
namespace Go.Proofs.Ytoklmpkpeanloaa
open Go.Am Go.Minster Go.Minster2
theorem Grow_ok (N : Nat) (hN : N ≤ 2 ^ 28) (s : AS) : ACalls Try.prog F_slices_Grow__s_byte_byte [.slc none 0 0 true, .int .i64 (N : Nat)] s fun v s' => ∃ lo, BRoom s' v N [] lo ∧ Ext s s' ∧ ∀ l ∈ lo.toList, s.h l = none := by
 refine ACalls.pre fun hw => q_slices_Grow__s_byte_byte _ _ _ _ (bsplit.dec (fun h => absurd h (by omega)) (fun _ => ?_))
 refine ⟨0, by simp [acapB, u_s_uint8], 0, by simp [alenB, u_s_uint8], ?_⟩
 have e1 : IntKind.wrap .i64 ((N : Int) - (IntKind.wrap .i64 (0 - 0))) = (N : Nat) := by rw [show IntKind.wrap .i64 (0 - 0) = 0 from rfl, wrap_i (by omega)]; omega
 dsimp only
 rw [e1]
 refine bsplit.dec (fun hp => ?_) (fun hz => ?_)
 ·have hpos : 0 < N := by omega
  have ha : aappend T Y_s_uint8 Y_int (.slc none 0 0 true) (.int .i64 (N : Nat)) s = some (.slc (some (s.nl, 0)) N N false, s.new (.cells (rep N [.int .u8 0]) 1 false)) := by
   simp only [aappend, u_s_uint8, u_int, if_true, aappendZ, z_uint8, b_uint8, zr_uint8, Option.bind_some, acells, List.length_cons, List.length_nil, Int.toNat_natCast, Nat.zero_add]
   rw [show (if (AV.int IntKind.u8 0).cells.all AV.one = true then some (AV.int IntKind.u8 0).cells else none) = some [AV.int .u8 0] from rfl, Option.bind_some, if_neg (by simp only [List.length_cons, List.length_nil]; omega)]
   simp [asrc]
  have Fr := hw.new (o := .cells (rep N [.int .u8 0]) 1 false) rfl
  refine ⟨0, by simp [acapB, u_s_uint8], .slc none 0 0 true, by simp [aslice, u_s_uint8, z_uint8, abounds, aopt, ahigh, abound1], _, _, ha, 0, by simp [alenB, u_s_uint8], .slc (some (s.nl, 0)) 0 N false, ?_, some s.nl, ⟨rfl, by simp, rep N [.int .u8 0], by simpa using Fr.at, by simp [rep]⟩, Fr.ext, ?_⟩
  ·have : ¬ N = 0 := by omega
   simp [aslice, u_s_uint8, z_uint8, abounds, aopt, ahigh, abound1, this]
  ·intro l hl
   obtain rfl : l = s.nl := by simpa using hl
   exact hw.none
 ·obtain rfl : N = 0 := by omega
  exact ⟨none, ⟨rfl, rfl, rfl⟩, Ext.refl _, by simp⟩
abbrev prC : AV × List Int → List AV := fun p => [p.1]
theorem prC_len (p : AV × List Int) : (prC p).length = 1 := rfl
def lenS (L : List (AV × List Int)) : Nat := (L.map fun p => p.2.length).sum
theorem lenS_take {L : List (AV × List Int)} {i : Nat} {p : AV × List Int} (h : L[i]? = some p) : lenS (L.take (i + 1)) = lenS (L.take i) + p.2.length := by
 unfold lenS
 rw [List.take_add_one, h, Option.toList_some, List.map_append, List.sum_append]; simp
theorem lenS_le (L : List (AV × List Int)) (i : Nat) : lenS (L.take i) ≤ lenS L := by
 have : lenS L = lenS (L.take i) + lenS (L.drop i) := by
  unfold lenS
  rw [← List.sum_append, ← List.map_append, List.take_append_drop]
 omega
theorem lenS_flat (L : List (AV × List Int)) : (L.flatMap Prod.snd).length = lenS L := by simp [lenS, List.length_flatMap]
theorem Concat_ok {s : AS} {a : AV} {L : List (AV × List Int)} (ha : Sl prC 1 s a L) (hL : ∀ p ∈ L, Byts s p.1 p.2) (hn : L.length ≤ 2 ^ 20) (hb : lenS L ≤ 2 ^ 28) : ACalls Try.prog F_slices_Concat__s_byte_byte [a] s fun v s' => BytN s s' v (L.flatMap Prod.snd) := by
 refine ACalls.pre fun hw => q_slices_Concat__s_byte_byte _ _ _ ⟨fun vs s' => s' = s ∧ vs = [.int .i64 (lenS L : Nat)], ?_, _, ha.lenB u_s__uint8 _, fun m vs s' => ∃ i : Nat, vs = [.int .i64 (lenS (L.take i) : Nat), .int .i64 (i : Nat)] ∧ i ≤ L.length ∧ m = L.length - i ∧ s' = s, L.length, ⟨0, by simp [lenS], by omega, rfl, rfl⟩, ?_⟩
 rotate_left
 ·rintro m n22 n23 s24 ⟨i, hin, hi, rfl, rfl⟩
  simp only [List.cons.injEq, AV.int.injEq, true_and, and_true] at hin
  obtain ⟨rfl, rfl⟩ := hin
  refine bsplit.dec (fun hlt => ?_) (fun hge => ?_)
  ·obtain ⟨p, hp⟩ := get_lt (l := L) (i := i) (by omega)
   obtain ⟨la, o, k8, k9⟩ := ha.ix (by decide) prC_len u_s__uint8 z_s_uint8 hp
   have hs := lenS_take hp
   have hle := lenS_le L (i + 1)
   refine ⟨la, o, k8 _, p.1, (k9 _ (Ext.refl _)).1 0 (by decide), _, (hL p (List.mem_of_getElem? hp)).lenB u_s_uint8 _, ?_⟩
   dsimp only
   rw [wrap_i (n := (lenS (L.take i) : Int) + p.2.length) (by omega)]
   refine bsplit.dec (fun h => absurd h (by omega)) (fun _ => ⟨L.length - (i + 1), by omega, i + 1, ?_, by omega, rfl, rfl⟩)
   rw [wrap_i (by omega), hs]; rfl
  ·rw [List.take_of_length_le (by omega)]
   exact ⟨rfl, rfl⟩
 rintro n2 s3 ⟨rfl, hn2⟩
 obtain rfl : n2 = (lenS L : Nat) := by simpa using hn2
 refine ACalls.use (Grow_ok (lenS L) hb s3) ?_
 rintro v4 s5 ⟨lo, hR, e5, hlo⟩ w5
 refine ⟨_, ha.lenB u_s__uint8 _, fun m vs s' => ∃ (i : Nat) (v : AV), vs = [v, .int .i64 (i : Nat)] ∧ i ≤ L.length ∧ m = L.length - i ∧ WFs s' ∧ Ext s3 s' ∧ BRoom s' v (lenS L) ((L.take i).flatMap Prod.snd) lo, L.length, ⟨0, v4, rfl, by omega, rfl, w5, e5, by simpa using hR⟩, ?_⟩
 rintro m v10 n11 s12 ⟨i, v', hin, hi, rfl, w12, e12, hR12⟩
 simp only [List.cons.injEq, AV.int.injEq, true_and, and_true] at hin
 obtain ⟨rfl, rfl⟩ := hin
 refine bsplit.dec (fun hlt => ?_) (fun hge => ?_)
 ·obtain ⟨p, hp⟩ := get_lt (l := L) (i := i) (by omega)
  obtain ⟨la, o, k8, k9⟩ := ha.ix (by decide) prC_len u_s__uint8 z_s_uint8 hp
  have hs := lenS_take hp
  have hle := lenS_le L (i + 1)
  have step := List.take_add_one (l := L) (i := i)
  rw [hp, Option.toList_some] at step
  refine ⟨la, o, k8 _, p.1, (k9 _ e12).1 0 (by decide), ?_⟩
  refine BRoom.app' hR12 w12 ((hL p (List.mem_of_getElem? hp)).ext e12) (by rw [lenS_flat]; omega) (by omega) fun v' s' hR' w' m' => ?_
  refine ⟨L.length - (i + 1), by omega, i + 1, v', by rw [wrap_i (by omega)]; rfl, by omega, rfl, w', Ext.wrL e12 hlo m', ?_⟩
  rw [step, List.flatMap_append]
  simpa using hR'
 ·rw [List.take_of_length_le (by omega)] at hR12
  cases lo with
  | none =>
   obtain ⟨rfl, hN, hl0⟩ := hR12
   rw [hl0]
   exact ⟨Gro.nil, e12.mut, by simp [labOf]⟩
  | some lo =>
   obtain ⟨rfl, _, rest, hobj, hr⟩ := hR12
   rw [lenS_flat, Nat.sub_self, Nat.zero_mul] at hr
   obtain rfl := List.length_eq_zero_iff.1 hr
   rw [List.append_nil] at hobj
   refine ⟨.inr ⟨lo, by rw [lenS_flat], hobj⟩, e12.mut, fun la hla => ?_⟩
   obtain rfl : la = lo := by simpa [labOf] using hla
   exact hlo la (by simp)
theorem Join_ok {s : AS} {a : AV} {L : List (AV × List Int)} (ha : Sl prC 1 s a L) (hL : ∀ p ∈ L, Byts s p.1 p.2) (hn : L.length ≤ 2 ^ 20) (hb : lenS L ≤ 2 ^ 28) : ACalls Try.prog F_wire_Join [a] s fun v s' => BytN s s' v (L.flatMap Prod.snd) := by
 refine q_wire_Join _ _ _ ?_
 refine (Concat_ok ha hL hn hb).mono ?_
 exact fun v s' h => h
theorem qstore_slc {s : AS} {l o : Nat} {a : Option (Nat × Nat)} {n c : Nat} {e : Bool} {K : AS → Prop} : qstore T Y_s_uint8 s l o (.slc a n c e) K = StQ (awr s l o [.slc a n c e]) K := by
 simp only [qstore, z_s_uint8]; rfl
/-! ### a variable that holds a row of bytes of one's own -/
structure OutV (s0 s : AS) (c : Nat) (l : List Int) : Prop where
 e : Ext s0 s
 cn : s0.h c = none
 mem : ∃ v, Am.Own s c [v] ∧ Gro byC 1 s v l ∧ ∀ la ∈ labOf v, s0.h la = none ∧ la ≠ c
section
variable {s0 s s' : AS} {c : Nat} {l : List Int}
theorem OutV.ext (h : OutV s0 s c l) (e : Ext s s') : OutV s0 s' c l := by
 obtain ⟨h1, h2, v, h3, h4, h5⟩ := h
 exact ⟨h1.trans e, h2, v, h3.ext e, h4.ext e, h5⟩
theorem State1_ok (h : OutV s0 s c l) {a : AV} {L : List (AV × List Int)} (ha : Sl prC 1 s a L) (hL : ∀ p ∈ L, Byts s p.1 p.2) (hn : L.length ≤ 2 ^ 20) (hb : l.length + lenS L ≤ 2 ^ 28) :
  ACalls Try.prog F_views_State_1 [a, .ptr (some (c, 0))] s fun r s' => r = .tup [] ∧ OutV s0 s' c (l ++ L.flatMap Prod.snd) := by
 obtain ⟨h1, h2, v, h3, h4, h5⟩ := h
 refine q_views_State_1 _ _ _ _ ⟨fun z _ v s' => Byts s' v (L.flatMap Prod.snd), fun _ _ _ => True, fun _ _ _ _ _ e h => h.ext e, v, by rw [h3.at.rd1]; rfl, fun s4 e4 w4 _ => ?_, ⟨.undef, trivial⟩, fun v7 _ s8 e8 w8 hS => ?_⟩
 ·refine (Join_ok (ha.ext e4) (fun p hp => (hL p hp).ext e4) hn (by omega)).mono ?_
  intro v5 s6 g
  exact ⟨g.chg.ext, g.sl byC_len, trivial⟩
 obtain ⟨v', s', k1, k2, k3, k4, k5⟩ := Gro.append sl_s_uint8 byC_len byC_one w8 (h4.ext e8) hS.1 (by rw [lenS_flat]; omega) u_s_uint8
 have c8 := h3.ext e8
 have hcl : c ∉ labOf v := fun hm => (h5 c hm).2 rfl
 have c9 : Am.Own s' c [v] := c8.mut k3 hcl
 refine ⟨v', s', k1, ?_⟩
 have hv1 : ∀ la ∈ labOf v', s0.h la = none ∧ la ≠ c := by
  intro la hla
  rcases k5 la hla with h6 | h6
  ·exact h5 la h6
  ·refine ⟨h1.none (e8.none h6), ?_⟩
   rintro rfl
   rw [c8] at h6; cases h6
 have E' : Ext s0 s' := Ext.wrL (h1.trans e8) (fun x hx => (h5 x hx).1) k3
 have fin : StQ (awr s' c 0 [v']) fun s14 => (AV.tup [] = AV.tup []) ∧ OutV s0 s14 c (l ++ L.flatMap Prod.snd) := by
  refine StQ.own k4 c9 (by simp) fun s14 P => ⟨rfl, Ext.wr E' h2 P.mut, h2, v', ?_, ?_, hv1⟩
  ·have := P.at
   exact this
  ·exact k2.mut P.mut fun la hla hm => (hv1 la hla).2 (by simpa using hm)
 show qstore T Y_s_uint8 s' c 0 v' _
 rcases k2 with ⟨_, a', rfl⟩ | ⟨la, rfl, _⟩
 ·rw [qstore_slc]; exact fin
 ·rw [qstore_slc]; exact fin
theorem OutV.get (h : OutV s0 s c l) : ∃ v, rd1 s c 0 = some v ∧ Byts s v l := by
 obtain ⟨h1, h2, v, h3, h4, h5⟩ := h
 exact ⟨v, by rw [h3.at.rd1]; rfl, h4.sl byC_len⟩
end
theorem State2_ok (d : Dot) (hd : 0 ≤ d.r ∧ d.r ≤ 255) (s : AS) : ACalls Try.prog F_views_State_2 [.agg (dotC d)] s fun v s' => BytN s s' v (dotB d) := by
 refine ACalls.pre fun hw => q_views_State_2 _ _ _ ⟨rfl, NewQ.intro hw rfl fun l1 s2 F2 => ⟨_, F2.own.at.rdc (by simp [dotC]), ?_⟩⟩
 refine ACalls.use (wireDot_ok d hd s2) ?_
 rintro r s5 ⟨v, rfl, g⟩ _
 exact ⟨_, _, rfl, g.gro, F2.ext.mut.trans g.chg, fun la hla => F2.ext.none (g.new la hla)⟩
theorem State3_ok (n : Nat) (hn : n < 2 ^ 30) (s : AS) : ACalls Try.prog F_views_State_3 [.int .i64 (n : Nat)] s fun v s' => BytN s s' v (bes (n : Nat) 4) := by
 refine q_views_State_3 _ _ _ ?_
 unfold Q_views_State_3
 rw [wrap_u (by omega)]
 refine (Put_ok _ 4 (by omega) (fun _ => ?_) s).mono ?_
 ·rw [show min (8 * 4) (IntKind.bits .u64) = 32 from rfl, Int.fdiv_eq_ediv_of_nonneg _ (by decide)]
  omega
 ·rintro r s2 ⟨v, rfl, g⟩
  exact ⟨_, _, rfl, g⟩
theorem State4_ok (i : Itm) (s : AS) : ACalls Try.prog F_views_State_4 [.agg (itemC i)] s fun v s' => v = .bool i.gone ∧ Ext s s' := by
 refine ACalls.pre fun hw => q_views_State_4 _ _ _ ⟨rfl, NewQ.intro hw rfl fun l1 s2 F2 => ⟨i.gone, by rw [F2.own.at.rd1]; rfl, rfl, F2.ext⟩⟩
theorem Vector_ok (v : List Int) (hv : v.length = 16) (s : AS) : ACalls Try.prog F_wire_Vector [.agg (v.map (.int .u64))] s fun r s' => BytN s s' r (v.flatMap fun n => bes n 8) := by
 refine ACalls.pre fun hw => q_wire_Vector _ _ _ ⟨?_, NewQ.intro hw rfl fun l1 s2 F2 => ⟨v.map (.int .u64), ?_, fun m vs s' => ∃ (i : Nat) (r : AV), vs = [r, .int .i64 (i : Nat)] ∧ i ≤ 16 ∧ m = 16 - i ∧ WFs s' ∧ BytN s2 s' r ((v.take i).flatMap fun n => bes n 8), 16, ⟨0, _, rfl, by omega, rfl, F2.wf, by simpa using GroN.nil⟩, ?_⟩⟩
 ·simp [List.all_eq_true, AV.one]
 ·rw [F2.own.at.rdc (by simp [hv])]
  simp [hv, List.take_of_length_le]
 ·rintro m v7 n8 s9 ⟨i, r, hin, hi, rfl, w9, g9⟩
  simp only [List.cons.injEq, AV.int.injEq, true_and, and_true] at hin
  obtain ⟨rfl, rfl⟩ := hin
  refine bsplit.dec (fun hlt => ?_) (fun hge => ?_)
  ·obtain ⟨n, hn⟩ := get_lt (l := v) (i := i) (by omega)
   have step := List.take_add_one (l := v) (i := i)
   rw [hn, Option.toList_some] at step
   refine ⟨n, ?_, ?_⟩
   ·rw [aix_vec hv (by omega), List.getD_eq_getElem?_getD, hn]; rfl
   refine ACalls.use (Put_ok n 8 (by omega) (by omega) s9) ?_
   rintro q s12 ⟨v13, rfl, g12⟩ w12
   have hlen : ((v.take i).flatMap fun n => bes n 8).length ≤ 16 * 8 := by
    rw [List.length_flatMap]
    have : (List.map (fun a => (bes a 8).length) (v.take i)) = List.map (fun _ => 8) (v.take i) := by simp [bes_len]
    rw [this, List.map_const', List.sum_replicate_nat, List.length_take]
    have : min i v.length ≤ 16 := by omega
    omega
   refine ⟨_, _, rfl, byts_append w12 (g9.step g12.chg.ext) (by simp) (g12.sl byC_len) (by rw [bes_len]; omega) fun v' s' g' w' _ => ?_⟩
   refine ⟨16 - (i + 1), by omega, i + 1, v', by rw [wrap_i (by omega)]; rfl, by omega, rfl, w', ?_⟩
   rw [step, List.flatMap_append]
   simpa using g'
  ·rw [List.take_of_length_le (by omega)] at g9
   exact ⟨g9.gro, F2.ext.mut.trans g9.chg, fun la hla => F2.ext.none (g9.new la hla)⟩
end Go.Proofs.Ytoklmpkpeanloaa
end

section
namespace Go.Proofs.Ytoklmpkpeanloaa
open Go.Am Go.Minster Go.Minster2
def itemB (i : Itm) : List Int := dotB i.dot ++ textB i.key.t ++ textB i.key.d
def stateB (v : List Int) (ex : List Dot) (L : List Itm) : List Int := (v.flatMap fun n => bes n 8) ++ bes (ex.length : Nat) 4 ++ ex.flatMap dotB ++ bes (L.length : Nat) 4 ++ L.flatMap itemB
theorem sl_one {v : AV} (h : v.one = true) : acells v = some [v] := by cases v <;> first | rfl | cases h
theorem absl_s1 {v : AV} (h : v.one = true) : absl T Y_s__uint8 1 [(0, v)] = some [v] := by
 simp [absl, u_s__uint8, z_s_uint8, zr_s_uint8, afill, wrs, sl_one h, sl_one (show (AV.slc none 0 0 true).one = true from rfl), rep]
theorem absl_s2 {v w : AV} (h : v.one = true) (h' : w.one = true) : absl T Y_s__uint8 2 [(0, v), (1, w)] = some [v, w] := by
 simp [absl, u_s__uint8, z_s_uint8, zr_s_uint8, afill, wrs, sl_one h, sl_one h', sl_one (show (AV.slc none 0 0 true).one = true from rfl), rep]
theorem absl_s3 {u v w : AV} (h0 : u.one = true) (h : v.one = true) (h' : w.one = true) : absl T Y_s__uint8 3 [(0, u), (1, v), (2, w)] = some [u, v, w] := by
 simp [absl, u_s__uint8, z_s_uint8, zr_s_uint8, afill, wrs, sl_one h0, sl_one h, sl_one h', sl_one (show (AV.slc none 0 0 true).one = true from rfl), rep]
theorem OutV.rebase2 {s0 s s' : AS} {c : Nat} {l : List Int} (h : OutV s0 s c l) (e : Ext s s') : ∃ L, OutV (s'.less L) s' c l ∧ (∀ y ∈ L, s0.h y = none) ∧ (∀ y ∈ L, s.h y ≠ none) ∧ Ext s0 (s'.less L) := by
 obtain ⟨h1, h2, v, h3, h4, h5⟩ := h
 have hn : ∀ y ∈ c :: labOf v, s0.h y = none := by
  intro y hy
  rcases List.mem_cons.1 hy with rfl | hy
  ·exact h2
  ·exact (h5 y hy).1
 refine ⟨c :: labOf v, ⟨s'.less_ext _, by rw [AS.less_h, if_pos (by simp)], v, h3.ext e, h4.ext e, fun la hla => ⟨by rw [AS.less_h, if_pos (by simp [hla])], (h5 la hla).2⟩⟩, hn, ?_, AS.less_of (h1.trans e) hn⟩
 intro y hy
 rcases List.mem_cons.1 hy with rfl | hy
 ·rw [h3]; simp
 ·exact h4.there y hy
theorem GroN.keepL {α : Type} {f : α → List AV} {sz : Nat} {s0 s : AS} {v : AV} {l : List α} {L : List Nat} (hf : ∀ x, (f x).length = sz) (h : GroN f sz [] s0 s v l) (hL : ∀ y ∈ L, s0.h y ≠ none) : Sl f sz (s.less L) v l :=
 (h.gro.mut (s.less_mut L) fun x hx hm => hL x hm (h.new x hx)).sl hf
theorem flat_lenI {α : Type} {f : α → List Int} {n : Nat} (h : ∀ x, (f x).length = n) : ∀ l : List α, (l.flatMap f).length = l.length * n
 | [] => by simp
 | a :: l => by rw [List.flatMap_cons, List.length_append, h, flat_lenI h l, List.length_cons, Nat.add_mul]; omega
theorem reg_ok {d : Dot} (h : d.may = true) : 0 ≤ d.r ∧ d.r ≤ 255 := by have := Dot.may_iff.1 h; omega
theorem conv_bytes {s : AS} (hw : WFs s) (t : List UInt8) {K : AV → AS → Prop} (hK : ∀ v s', Byts s' v (strB t) → Ext s s' → WFs s' → K v s') : Bd2 (aconvert T Y_string Y_s_uint8 (.str t) s) K := by
 have Fr := hw.new (o := .cells (t.map fun c => .int .u8 c.toNat) 1 false) rfl
 refine ⟨.slc (some (s.nl, 0)) t.length t.length false, s.new (.cells (t.map fun c => .int .u8 c.toNat) 1 false), by simp [aconvert, u_string, u_s_uint8, u_uint8], hK _ _ ?_ Fr.ext Fr.wf⟩
 have := SlAt.mk (s := s.new (.cells (t.map fun c => .int .u8 c.toNat) 1 false)) (la := s.nl) (o := 0) (n := t.length) (c := t.length) (e := false) (sz := 1) (cs := (strB t).flatMap byC) ⟨_, _, Fr.at⟩ (by rw [by_len, strB_len]) (by rw [strB_flat, List.drop_zero]; exact List.take_of_length_le (by simp)) (Nat.le_refl _)
 show SlAt _ _ _ _ (strB t).length
 rw [strB_len]; exact this
section
variable {F : List Nat} {s : AS} {p : Nat} {x : OSet} {B : Nat}
set_option maxRecDepth 100000 in
set_option maxHeartbeats 1000000 in
theorem State_ok (h : SetF F s p x) (o : OOk x B) (hB : B ≤ 1000) : ACalls Try.prog F_views_State [.ptr (some (p, 0))] s fun v s' => ∃ I, Items x I ∧ Byts s' v (stateB x.v x.ex (liveI I)) ∧ Ext s s' := by
 have hex := o.exlen
 refine q_views_State _ _ _ ?_
 refine ACalls.use (Ctx_ok h) ?_
 rintro v1 s2 ⟨q, rfl, hq, g, e2⟩ w2
 refine ⟨_, rfl, _, aeqPtrNil u_p_ctx_Ctx _, bsplit.no rfl (NewQ.intro w2 rfl fun l5 s6 F6 => ?_)⟩
 have O6 : OutV s2 s6 l5 [] := ⟨F6.ext, F6.no, .slc none 0 0 true, F6.own, Gro.nil, by simp [labOf]⟩
 refine ACalls.use (ctx_Vector_ok (g.at.ext F6.ext)) ?_
 rintro v7 s8 ⟨rfl, e8⟩ w8
 refine ⟨_, rfl, ?_⟩
 refine ACalls.use (Vector_ok x.v o.ok.v.len s8) ?_
 rintro v10 s11 g11 w11
 have e11 := e8.trans g11.chg.ext
 refine ACalls.use (ctx_Extra_ok (g.at.ext (F6.ext.trans e11)) (by omega)) ?_
 rintro v12 s13 g13 w13
 refine ⟨_, (g13.sl dotC_len).lenB u_s_Dot _, ?_⟩
 refine ACalls.use (State3_ok x.ex.length (by omega) s13) ?_
 rintro v15 s16 g16 w16
 have e16 := g13.chg.ext.trans g16.chg.ext
 refine ⟨_, absl_s2 g11.isSlc.2 g16.isSlc.2, NewQ.intro w16 rfl fun l18 s19 F19 => ?_⟩
 have E19 := (e11.trans e16).trans F19.ext
 let L0 : List (AV × List Int) := [(v10, x.v.flatMap fun n => bes n 8), (v15, bes (x.ex.length : Nat) 4)]
 have hVl : (x.v.flatMap fun n => bes n 8).length = 128 := by
  rw [List.length_flatMap]
  have : (List.map (fun a => (bes a 8).length) x.v) = List.map (fun _ => 8) x.v := by simp [bes_len]
  rw [this, List.map_const', List.sum_replicate_nat, o.ok.v.len]
 have hL0 : lenS L0 = 132 := by simp only [lenS, L0, List.map_cons, List.map_nil, List.sum_cons, List.sum_nil, hVl, bes_len]; rfl
 refine ACalls.use (State1_ok (O6.ext E19) (L := L0) (SlAt.mk F19.own.at (by simp [L0]) (by simp [L0]) (by simp [L0])) ?_ (by simp [L0]) (by simp only [hL0, List.length_nil]; omega)) ?_
 ·intro p hp
  rcases List.mem_cons.1 hp with rfl | hp
  ·exact (g11.sl byC_len).ext (e16.trans F19.ext)
  ·obtain rfl := List.mem_singleton.1 hp
   exact (g16.sl byC_len).ext F19.ext
 rintro v20 s21 ⟨rfl, O21⟩ w21
 have hH : [] ++ L0.flatMap Prod.snd = (x.v.flatMap fun n => bes n 8) ++ bes (x.ex.length : Nat) 4 := by simp [L0]
 rw [hH] at O21
 have hHl : ((x.v.flatMap fun n => bes n 8) ++ bes (x.ex.length : Nat) 4).length = 132 := by rw [List.length_append, hVl, bes_len]
 generalize hHd : (x.v.flatMap fun n => bes n 8) ++ bes (x.ex.length : Nat) 4 = H at O21 hHl
 have hdl : ∀ l : List Dot, (l.flatMap dotB).length = l.length * 9 := fun l => flat_lenI dotB_len l
 refine ⟨rfl, fun vs s' => vs = [] ∧ WFs s' ∧ OutV s2 s' l5 (H ++ x.ex.flatMap dotB), ?_, ?_⟩
 rotate_left
 ·refine ACalls.use (ctx_Extra_ok (g.at.ext O21.e) (by omega)) ?_
  rintro v71 s72 g72 w72
  obtain ⟨Lb, Ob, hb1, hb2, eb⟩ := O21.rebase2 g72.chg.ext
  have sEx : Dots (s72.less Lb) v71 x.ex := GroN.keepL dotC_len g72 hb2
  refine ⟨_, sEx.lenB u_s_Dot _, fun m vs s' => ∃ i : Nat, vs = [.int .i64 (i : Nat)] ∧ i ≤ x.ex.length ∧ m = x.ex.length - i ∧ WFs s' ∧ OutV (s72.less Lb) s' l5 (H ++ (x.ex.take i).flatMap dotB), x.ex.length, ⟨0, rfl, by omega, rfl, w72, by simpa using Ob⟩, ?_⟩
  rintro m n s78 ⟨i, hin, hi, rfl, w78, O78⟩
  simp only [List.cons.injEq, AV.int.injEq, true_and, and_true] at hin
  subst hin
  refine bsplit.dec (fun hlt => ?_) (fun hge => ?_)
  rotate_left
  ·rw [List.take_of_length_le (by omega)] at O78
   exact ⟨rfl, w78, ⟨eb.trans O78.e, F6.no, by obtain ⟨_, _, v, k1, k2, k3⟩ := O78; exact ⟨v, k1, k2, fun la hla => ⟨eb.none (k3 la hla).1, (k3 la hla).2⟩⟩⟩⟩
  obtain ⟨d, hd⟩ := get_lt (l := x.ex) (i := i) (by omega)
  have hdm := o.ok.m d (List.mem_of_getElem? hd)
  have step := List.take_add_one (l := x.ex) (i := i)
  rw [hd, Option.toList_some] at step
  obtain ⟨la, oa, k8, k9⟩ := sEx.ix (by decide) dotC_len u_s_Dot z_Dot hd
  refine ⟨la, oa, k8 _, _, (k9 _ O78.e).2, NewSt w78 rfl rfl rfl fun l82 s84 F84 => ⟨_, F84.own.at.rdc (by simp [dotC]), ?_⟩⟩
  refine ACalls.use (State2_ok d (reg_ok hdm) s84) ?_
  rintro v86 s87 g87 w87
  refine ⟨_, absl_s1 g87.isSlc.2, NewQ.intro w87 rfl fun l89 s90 F90 => ?_⟩
  have hlen := hdl (x.ex.take i)
  have htl := List.length_take_le i x.ex
  refine ACalls.use (State1_ok (O78.ext ((F84.ext.trans g87.chg.ext).trans F90.ext)) (L := [(v86, dotB d)]) (SlAt.mk F90.own.at (by simp) (by simp) (by simp)) ?_ (by simp) (by simp only [lenS, List.map_cons, List.map_nil, List.sum_cons, List.sum_nil, dotB_len, List.length_append, hHl, hlen]; omega)) ?_
  ·intro p hp
   obtain rfl := List.mem_singleton.1 hp
   exact (g87.sl byC_len).ext F90.ext
  rintro v91 s92 ⟨rfl, O92⟩ w92
  refine ⟨rfl, x.ex.length - (i + 1), by omega, i + 1, by rw [wrap_i (by omega)]; rfl, by omega, rfl, w92, ?_⟩
  rw [step, List.flatMap_append, ← List.append_assoc]
  simpa using O92
 rintro s23 ⟨_, w23, O23⟩
 have E23 : Ext s s23 := e2.trans O23.e
 refine ACalls.use (Items_okN (h.ext E23) o hB) ?_
 rintro v24 s25 ⟨I, hI, hN⟩ w25
 have hIl := hI.len o
 refine ACalls.use (SI.DeleteFunc_okN (P := fun i => i.gone) hN (by omega) fun i s' e w => State4_ok i s') ?_
 rintro v26 s27 ⟨e27, hK⟩ w27
 have s26 := hK.sl
 have hLl : (liveI I).length ≤ I.length := List.length_filter_le _ _
 have hLeq : (I.filter fun i => !i.gone) = liveI I := rfl
 rw [hLeq] at hK s26
 refine ⟨_, s26.lenB u_s_Item _, ?_⟩
 refine ACalls.use (State3_ok (liveI I).length (by omega) s27) ?_
 rintro v29 s30 g30 w30
 refine ⟨_, absl_s1 g30.isSlc.2, NewQ.intro w30 rfl fun l32 s33 F33 => ?_⟩
 have e33 := (e27.trans g30.chg.ext).trans F33.ext
 have e27' := g30.chg.ext.trans F33.ext
 have hAl : (H ++ x.ex.flatMap dotB).length ≤ 10000 := by rw [List.length_append, hHl, hdl]; omega
 obtain ⟨Lb, Ob, hb1, hb2, eb⟩ := O23.rebase2 e33
 have sL : Sl itemC 5 (s33.less Lb) v26 (liveI I) := hK _ Lb (e27'.mut.trans (s33.less_mut Lb)) hb2
 refine ACalls.use (State1_ok Ob (L := [(v29, bes ((liveI I).length : Nat) 4)]) (SlAt.mk F33.own.at (by simp) (by simp) (by simp)) ?_ (by simp) (by simp only [lenS, List.map_cons, List.map_nil, List.sum_cons, List.sum_nil, bes_len]; omega)) ?_
 ·intro p hp
  obtain rfl := List.mem_singleton.1 hp
  exact (g30.sl byC_len).ext F33.ext
 rintro v34 s35 ⟨rfl, O35⟩ w35
 have hk : ∀ j ∈ liveI I, j.dot.may = true ∧ j.key.t.length ≤ 32 ∧ j.key.d.length ≤ 32 := by
  intro j hj
  have h1 := ((liveI_mem hI j).1 hj).2
  obtain ⟨h2, h3⟩ := o.lv _ _ h1
  refine ⟨has_may h2, ?_⟩
  simp only [Key.may, nameOk, Bool.and_eq_true, decide_eq_true_eq] at h3
  omega
 have hil : ∀ l : List Itm, (∀ j ∈ l, j ∈ liveI I) → (l.flatMap itemB).length ≤ l.length * 77 := by
  intro l
  induction l with
  | nil => simp
  | cons a l ih =>
   intro hl
   have := ih fun j hj => hl j (by simp [hj])
   have h1 := hk a (hl a (by simp))
   simp only [List.flatMap_cons, List.length_append, List.length_cons, itemB, dotB_len, textB_len] at this ⊢
   omega
 simp only [List.flatMap_cons, List.flatMap_nil, List.append_nil] at O35
 have hCl : (H ++ x.ex.flatMap dotB ++ bes ((liveI I).length : Nat) 4).length ≤ 10004 := by rw [List.length_append, bes_len]; omega
 generalize hC : H ++ x.ex.flatMap dotB ++ bes ((liveI I).length : Nat) 4 = C at O35 hCl
 refine ⟨rfl, _, sL.lenB u_s_Item _, fun m vs s' => ∃ i : Nat, vs = [.int .i64 (i : Nat)] ∧ i ≤ (liveI I).length ∧ m = (liveI I).length - i ∧ WFs s' ∧ OutV (s33.less Lb) s' l5 (C ++ ((liveI I).take i).flatMap itemB), (liveI I).length, ⟨0, rfl, by omega, rfl, w35, by simpa using O35⟩, ?_⟩
 rintro m n s41 ⟨i, hin, hi, rfl, w41, O41⟩
 simp only [List.cons.injEq, AV.int.injEq, true_and, and_true] at hin
 subst hin
 refine bsplit.dec (fun hlt => ?_) (fun hge => ?_)
 rotate_left
 ·rw [List.take_of_length_le (by omega)] at O41
  obtain ⟨v, k1, k2⟩ := O41.get
  refine ⟨v, k1, I, hI, ?_, e2.trans (eb.trans O41.e)⟩
  rw [← hC, ← hHd] at k2
  exact k2
 obtain ⟨j, hj⟩ := get_lt (l := liveI I) (i := i) (by omega)
 obtain ⟨hjm, hjt, hjd⟩ := hk j (List.mem_of_getElem? hj)
 have step := List.take_add_one (l := liveI I) (i := i)
 rw [hj, Option.toList_some] at step
 obtain ⟨la, oa, k8, k9⟩ := sL.ix (by decide) itemC_len u_s_Item z_Item hj
 refine ⟨la, oa, k8 _, _, (k9 _ O41.e).2, NewSt w41 rfl rfl rfl fun l45 s47 F47 => ⟨j.key.t, by rw [F47.own.at.rd1]; rfl, ?_⟩⟩
 refine conv_bytes F47.wf j.key.t fun v49 s50 b50 e50 w50 => ?_
 refine ACalls.use (Blob_ok b50 (by rw [strB_len]; omega)) ?_
 rintro r51 s52 ⟨v53, rfl, g52⟩ w52
 rw [strB_len] at g52
 have E52 := e50.trans g52.chg.ext
 refine ⟨_, _, rfl, j.key.d, by rw [(F47.own.ext E52).at.rd1]; rfl, ?_⟩
 refine conv_bytes w52 j.key.d fun v56 s57 b57 e57 w57 => ?_
 refine ACalls.use (Blob_ok b57 (by rw [strB_len]; omega)) ?_
 rintro r58 s59 ⟨v60, rfl, g59⟩ w59
 rw [strB_len] at g59
 have E59 := e57.trans g59.chg.ext
 refine ⟨_, _, rfl, _, (F47.own.ext (E52.trans E59)).at.rdc (by simp [itemC]), ?_⟩
 refine ACalls.use (State2_ok j.dot (reg_ok hjm) s59) ?_
 rintro v63 s64 g64 w64
 refine ⟨_, absl_s3 g64.isSlc.2 g52.isSlc.2 g59.isSlc.2, NewQ.intro w64 rfl fun l66 s67 F67 => ?_⟩
 have hlen := hil ((liveI I).take i) fun j hj => List.mem_of_mem_take hj
 have htl := List.length_take_le i (liveI I)
 let L3 : List (AV × List Int) := [(v63, dotB j.dot), (v53, textB j.key.t), (v60, textB j.key.d)]
 have hL3 : lenS L3 ≤ 77 := by simp only [lenS, L3, List.map_cons, List.map_nil, List.sum_cons, List.sum_nil, dotB_len, textB_len]; omega
 have E67 := ((F47.ext.trans E52).trans E59).trans (g64.chg.ext.trans F67.ext)
 refine ACalls.use (State1_ok (O41.ext E67) (L := L3) (SlAt.mk F67.own.at (by simp [L3]) (by simp [L3]) (by simp [L3])) ?_ (by simp [L3]) (by rw [List.length_append]; omega)) ?_
 ·intro p hp
  rcases List.mem_cons.1 hp with rfl | hp
  ·exact (g64.sl byC_len).ext F67.ext
  ·rcases List.mem_cons.1 hp with rfl | hp
   ·exact (g52.sl byC_len).ext (E59.trans (g64.chg.ext.trans F67.ext))
   ·obtain rfl := List.mem_singleton.1 hp
    exact (g59.sl byC_len).ext (g64.chg.ext.trans F67.ext)
 rintro v68 s69 ⟨rfl, O69⟩ w69
 refine ⟨rfl, (liveI I).length - (i + 1), by omega, i + 1, by rw [wrap_i (by omega)]; rfl, by omega, rfl, w69, ?_⟩
 rw [step, List.flatMap_append, ← List.append_assoc]
 simpa [L3, itemB] using O69
end
end Go.Proofs.Ytoklmpkpeanloaa
end

section
namespace Go.Proofs.Ytoklmpkpeanloaa
open Go.Am Go.Minster Go.Minster2
def zeroB : List Int := List.replicate 136 0
theorem zeroB_eq : stateB zeros [] (liveI []) = zeroB := by decide +kernel
theorem make136 (s : AS) : amakeSlice T Y_s_uint8 (.int .i64 136) (.int .i64 136) s = some (.slc (some (s.nl, 0)) 136 136 true, s.new (.cells (rep 136 [.int .u8 0]) 0 false)) := by
 simp only [amakeSlice, u_s_uint8, z_uint8, b_uint8, zr_uint8, Option.bind_some]
 rw [show acells (.int .u8 0) = some [AV.int .u8 0] from rfl, Option.bind_some, if_pos ⟨by decide, by decide, by decide, by decide, rfl⟩]
 rfl
set_option maxRecDepth 100000 in
theorem known19_ok (s : AS) : ACalls Try.prog F_law19iknown [] s fun v s' => v = .bool true ∧ Ext s s' := by
 have hz : zeroB ≠ [] := by simp [zeroB]
 refine q_law19iknown _ _ ⟨fun n _ v s' => (n = 0 → ∃ p F, v = .ptr (some (p, 0)) ∧ SetF F s' p OSet.zero) ∧ ((n = 1 ∨ n = 3) → Byts s' v zeroB), fun n _ v => (n = 0 → ∃ p, v = .ptr p) ∧ ((n = 2 ∨ n = 4) → v = .str (toB zeroB)), ?_, fun s1 e1 w1 _ => ?_, ⟨.ptr none, fun _ => ⟨_, rfl⟩, by simp⟩, fun v5 hv5 => ?_⟩
 ·rintro n k v s s' e ⟨h1, h2⟩
  exact ⟨fun hn => by obtain ⟨p, F, g1, g2⟩ := h1 hn; exact ⟨p, F, g1, g2.ext e⟩, fun hn => (h2 hn).ext e⟩
 ·refine (New_ok s1).mono ?_
  rintro v s3 ⟨p, F, rfl, h1, h2, h3, e3⟩
  exact ⟨_, rfl, e3, ⟨fun _ => ⟨p, F, rfl, h1⟩, by simp⟩, fun _ => ⟨_, rfl⟩, by simp⟩
 obtain ⟨p6, rfl⟩ := hv5.1 rfl
 refine ⟨p6, rfl, fun s7 e7 w7 hS => ?_, ⟨.undef, by simp⟩, fun v10 _ => ⟨fun s11 e11 w11 hS => ?_, ⟨.str (toB zeroB), by simp⟩, fun v13 hv13 => ?_⟩⟩
 ·obtain ⟨p, F, hp, hF⟩ := hS.1.1 rfl
  obtain rfl : p6 = some (p, 0) := by simpa using hp
  refine (State_ok hF OOk.zero (by omega)).mono ?_
  rintro v s9 ⟨I, hI, hb, e9⟩
  obtain rfl := hI.uniq Items.zero
  rw [show stateB OSet.zero.v OSet.zero.ex (liveI []) = zeroB from zeroB_eq] at hb
  exact ⟨e9, ⟨by simp, fun _ => hb⟩, by simp⟩
 ·have hb := hS.2.1.2 (.inl rfl)
  exact ⟨toB zeroB, conv_str hb hz, Ext.refl _, ⟨by simp, by simp⟩, by simp⟩
 obtain rfl := hv13.2 (.inl rfl)
 refine ⟨_, rfl, fun s15 e15 w15 _ => ?_, ⟨.undef, by simp⟩, fun v18 _ => ⟨fun s19 e19 w19 hS => ?_, ⟨.str (toB zeroB), by simp⟩, fun v21 hv21 => ?_⟩⟩
 ·have Fr := w15.new (o := .cells (rep 136 [.int .u8 0]) 0 false) rfl
  refine ⟨_, _, make136 s15, Fr.ext, ⟨by simp, fun _ => ?_⟩, by simp⟩
  exact SlAt.mk (n := 136) (c := 136) ⟨_, _, Fr.at⟩ (by rfl) (by rfl) (by omega)
 ·have hb := hS.1.2 (.inr rfl)
  exact ⟨toB zeroB, conv_str hb hz, Ext.refl _, ⟨by simp, by simp⟩, by simp⟩
 obtain rfl := hv21.2 (.inr rfl)
 exact ⟨_, rfl, fun s23 e23 w23 _ => ⟨by simp, e23⟩⟩
theorem kn19 (s' : AS) : ACalls Try.prog F_law19iknown [] s' fun v4 s5 => ∃ b6 : Bool, v4 = .bool b6 ∧ (AV.bool b6 = .bool true) := by
 refine (known19_ok s').mono ?_
 rintro v s' ⟨rfl, _⟩
 exact ⟨_, rfl, rfl⟩
theorem may19_ok {s : AS} {v : AV} {l : List Itm} (h : Sl itemC 5 s v l) (hn : l.length ≤ 2 ^ 30) : ACalls Try.prog F_law19imay [v] s fun r s' => r = .bool (l.all Itm.may) ∧ Ext s s' := by
 refine ACalls.pre fun hw => q_law19imay _ _ _ ⟨fun m vs s' => ∃ i : Nat, vs = [.int .i64 (i : Nat)] ∧ i ≤ l.length ∧ m = l.length - i ∧ Ext s s' ∧ WFs s' ∧ (l.take i).all Itm.may = true, l.length, ⟨0, rfl, by omega, rfl, Ext.refl _, hw, by simp⟩, ?_⟩
 rintro m n s5 ⟨i, hin, hi, rfl, e5, w5, hall⟩
 simp only [List.cons.injEq, AV.int.injEq, true_and, and_true] at hin
 subst hin
 refine ⟨_, h.lenB u_s_Item _, bsplit.dec (fun hlt => ?_) (fun hge => ?_)⟩
 ·obtain ⟨j, hj⟩ := get_lt (l := l) (i := i) (by omega)
  obtain ⟨la, oa, k8, k9⟩ := h.ix (by decide) itemC_len u_s_Item z_Item hj
  have step := List.take_add_one (l := l) (i := i)
  rw [hj, Option.toList_some] at step
  refine ⟨la, oa, k8 _, _, (k9 _ e5).2, ?_⟩
  refine ACalls.use (ref07May_ok j _) ?_
  rintro v s11 ⟨rfl, e11⟩ w11
  refine ⟨_, rfl, bsplit.mk (fun hb => ⟨?_, e5.trans e11⟩) (fun hb => ⟨l.length - (i + 1), by omega, i + 1, by rw [wrap_i (by omega)]; rfl, by omega, rfl, e5.trans e11, w11, ?_⟩)⟩
  ·have : l.all Itm.may = false := by
    rw [List.all_eq_false]
    exact ⟨j, List.mem_of_getElem? hj, by simpa using hb⟩
   rw [this]
  ·rw [step, List.all_append, hall]
   simpa using hb
 ·rw [List.take_of_length_le (by omega)] at hall
  rw [hall]; exact ⟨rfl, e5⟩
theorem Function_ok {s : AS} {v : AV} {l : List Itm} (h : Sl itemC 5 s v l) (hn : l.length ≤ 1000) (hm : ∀ i ∈ l, i.may = true) : ACalls Try.prog F_views_Function [v] s fun r s' => ∃ p F x, r = .tup [.ptr (some (p, 0)), .int .i64 0] ∧ x = (OSet.zero.sees l).2 ∧ SetO s s' F p x l.length ∧ Ext s s' := by
 refine q_views_Function _ _ _ ?_
 refine ACalls.use (New_ok s) ?_
 rintro v1 s2 ⟨p, F, rfl, h1, h2, h3, e2⟩ w2
 refine ⟨_, rfl, ?_⟩
 have S0 : SetO s s2 F p OSet.zero 0 := ⟨h1, OOk.zero, h2, h3⟩
 refine ACalls.use (S0.See e2 (h.ext e2) (by omega) hm) ?_
 rintro v4 s5 ⟨rfl, m5, e5, F', x', hx', S1, _⟩ w5
 refine ⟨_, _, rfl, bsplit.no rfl ⟨p, F', x', rfl, hx', ?_, e5⟩⟩
 rw [Nat.zero_add] at S1
 exact S1
/-! ### what is live in one alone -/
section
variable {F F' : List Nat} {s : AS} {p p' : Nat} {x y : OSet} {B : Nat}
end
/-! ### the reference's -/
section
variable {s0 s s' : AS} {q : Nat} {x : OSet}
end
end Go.Proofs.Ytoklmpkpeanloaa
end

section
namespace Go.Proofs.Ytoklmpkpeanloaa
open Go.Am Go.Minster Go.Minster2
end Go.Proofs.Ytoklmpkpeanloaa
end

section
namespace Go.Proofs.Ytoklmpkpeanloaa
open Go.Am Go.Minster Go.Minster2 Go.ChangeShapes Go.WideShapes Go.ChangeAt Go.RowKit
def OneKey (l : List Itm) : Prop := ∀ i ∈ l, ∀ j ∈ l, i.dot = j.dot → i.gone = false → j.gone = false → i.key = j.key
structure Saw (x : OSet) (L : List Itm) : Prop where
 has : ∀ d, x.has d = true ↔ ∃ i ∈ L, i.dot = d
 live : ∀ d k, x.live d = some k ↔ (∃ i ∈ L, i.dot = d ∧ i.gone = false ∧ i.key = k) ∧ ∀ i ∈ L, i.dot = d → i.gone = false
theorem Saw.zero : Saw OSet.zero [] := ⟨fun d => by rw [Is.zero.has]; simp, fun d k => by simp [OSet.zero]⟩
theorem Saw.see {l : List Itm} (hl : OneKey l) {x : OSet} {L : List Itm} {B : Nat} (o : OOk x B) (h : Saw x L) (hL : ∀ i ∈ L, i ∈ l) {i : Itm} (hi : i ∈ l) (hm : i.dot.may = true) : Saw (x.see i).2 (i :: L) := by
 refine ⟨fun d => ?_, fun d k => ?_⟩
 ·rw [see_has o hm]
  simp only [Bool.or_eq_true, decide_eq_true_eq, h.has, List.mem_cons]
  constructor
  ·rintro (⟨j, hj, rfl⟩ | rfl)
   ·exact ⟨j, .inr hj, rfl⟩
   ·exact ⟨i, .inl rfl, rfl⟩
  ·rintro ⟨j, rfl | hj, rfl⟩
   ·exact .inr rfl
   ·exact .inl ⟨j, hj, rfl⟩
 ·rw [see_live o]
  by_cases e : d = i.dot
  ·subst e
   rw [if_pos rfl]
   cases hg : i.gone with
   | true =>
    simp only [if_true, reduceCtorEq, false_iff]
    rintro ⟨_, h2⟩
    have := h2 i (by simp) rfl
    rw [hg] at this; cases this
   | false =>
    simp only [Bool.false_eq_true, if_false]
    cases hh : x.has i.dot with
    | true =>
     simp only [if_true]
     rw [h.live]
     constructor
     ·rintro ⟨⟨j, hj, h1, h2, h3⟩, h4⟩
      refine ⟨⟨j, by simp [hj], h1, h2, h3⟩, fun j hj he => ?_⟩
      rcases List.mem_cons.1 hj with rfl | hj
      ·exact hg
      ·exact h4 j hj he
     ·rintro ⟨⟨j, hj, h1, h2, h3⟩, h4⟩
      obtain ⟨j0, hj0, he0⟩ := (h.has _).1 hh
      have hg0 := h4 j0 (by simp [hj0]) he0
      refine ⟨⟨j0, hj0, he0, hg0, ?_⟩, fun j hj he => h4 j (by simp [hj]) he⟩
      rw [← h3]
      rcases List.mem_cons.1 hj with rfl | hj
      ·exact hl _ (hL _ hj0) _ hi he0 hg0 h2
      ·exact hl _ (hL _ hj0) _ (hL _ hj) (he0.trans h1.symm) hg0 h2
    | false =>
     simp only [Bool.false_eq_true, if_false, Option.some.injEq]
     have hno : ∀ j ∈ L, j.dot ≠ i.dot := fun j hj he => by
      rw [(h.has _).2 ⟨j, hj, he⟩] at hh; cases hh
     constructor
     ·rintro rfl
      refine ⟨⟨i, by simp, rfl, hg, rfl⟩, fun j hj he => ?_⟩
      rcases List.mem_cons.1 hj with rfl | hj
      ·exact hg
      ·exact absurd he (hno j hj)
     ·rintro ⟨⟨j, hj, h1, h2, h3⟩, _⟩
      rcases List.mem_cons.1 hj with rfl | hj
      ·exact h3
      ·exact absurd h1 (hno j hj)
  ·rw [if_neg e, h.live]
   constructor
   ·rintro ⟨⟨j, hj, h1⟩, h4⟩
    refine ⟨⟨j, by simp [hj], h1⟩, fun j hj he => ?_⟩
    rcases List.mem_cons.1 hj with rfl | hj
    ·exact absurd he.symm e
    ·exact h4 j hj he
   ·rintro ⟨⟨j, hj, h1⟩, h4⟩
    rcases List.mem_cons.1 hj with rfl | hj
    ·exact absurd h1.1.symm e
    ·exact ⟨⟨j, hj, h1⟩, fun j hj he => h4 j (by simp [hj]) he⟩
theorem Saw.sees {l : List Itm} (hl : OneKey l) : ∀ (m : List Itm) {x : OSet} {L : List Itm} {B : Nat}, OOk x B → Saw x L → (∀ i ∈ L, i ∈ l) → (∀ i ∈ m, i ∈ l ∧ i.may = true) → Saw (x.sees m).2 (m.reverse ++ L)
 | [], x, L, B, o, h, hL, hm => h
 | i :: m, x, L, B, o, h, hL, hm => by
  rw [sees_cons, List.reverse_cons, List.append_assoc]
  obtain ⟨h1, h2⟩ := hm i (by simp)
  have him : i.dot.may = true := by simp only [Itm.may, Bool.and_eq_true] at h2; exact h2.1
  exact Saw.sees hl m (see_OOk o h2) (h.see hl o hL h1 him) (fun j hj => by
   rcases List.mem_cons.1 hj with rfl | hj
   ·exact h1
   ·exact hL j hj) fun j hj => hm j (by simp [hj])
theorem Saw.uniq {x y : OSet} {L M : List Itm} (h : Saw x L) (h' : Saw y M) (hm : ∀ i, i ∈ L ↔ i ∈ M) : (∀ d, x.has d = y.has d) ∧ ∀ d, x.live d = y.live d := by
 refine ⟨fun d => ?_, fun d => ?_⟩
 ·rw [Bool.eq_iff_iff, h.has, h'.has]
  simp only [hm]
 ·apply Option.ext
  intro k
  rw [h.live, h'.live]
  simp only [hm]
theorem place2 {n : Int} {k : Nat} (hk : 0 < k) (hk2 : k ≤ 100) : ∃ j : Nat, j < k ∧ Int.tmod (IntKind.wrap .i64 (Int.tmod n (k : Int) + (k : Int))) (k : Int) = (j : Int) := by
 have h1 := Int.tmod_lt_of_pos n (show (0 : Int) < k by omega)
 have h2 : -(k : Int) < Int.tmod n k := by
  have := Int.tmod_lt_of_pos (-n) (show (0 : Int) < k by omega)
  rw [Int.neg_tmod] at this
  omega
 rw [wrap_i (by omega)]
 have h3 : 0 ≤ Int.tmod (Int.tmod n k + k) k := Int.tmod_nonneg _ (by omega)
 have h4 := Int.tmod_lt_of_pos (Int.tmod n k + k) (show (0 : Int) < k by omega)
 exact ⟨(Int.tmod (Int.tmod n k + k) k).toNat, by omega, by omega⟩
end Go.Proofs.Ytoklmpkpeanloaa
end

section
set_option maxRecDepth 100000
set_option maxHeartbeats 4000000
namespace Go.Proofs.Ytoklmpkpeanloaa
open Go.Am
def Q_law19iViewsOrder (a0 : AV) (a1 : AV) (s : AS) (R : AV → AS → Prop) : Prop :=
 JoinQ fun J1 =>
 (∀ b2 : Bool, ∀ s3 : AS, J1 [(.bool b2)] s3 →
 bsplit b2
 (ACalls Try.prog F_law19iknown [] s3 fun v4 s5 => ∃ b6 : Bool, v4 = .bool b6 ∧ (R (.bool b6) s5))
 (JoinQ fun J7 =>
 (∀ s8 : AS, J7 [] s8 →
 JoinQ fun J9 =>
 (∀ v10 : AV, ∀ s11 : AS, J9 [v10] s11 →
 JoinQ fun J12 =>
 (∀ v13 : AV, ∀ s14 : AS, J12 [v13] s14 →
 ACalls Try.prog F_views_Function [a0] s14 fun v15 s16 => ∃ p17 : Option (Nat × Nat), ∃ n18 : Int, v15 = .tup [(.ptr p17), (.int .i64 n18)] ∧ (ACalls Try.prog F_views_Function [v13] s16 fun v19 s20 => ∃ p21 : Option (Nat × Nat), ∃ n22 : Int, v19 = .tup [(.ptr p21), (.int .i64 n22)] ∧ (DrawQ fun S V => bsplit ((n18 : Int) == 0) (bsplit ((n22 : Int) == 0) ((∀ s23 : AS, Ext s20 s23 → WFs s23 → (True) → ACalls Try.prog F_views_State [(.ptr p17)] s23 fun v24 s25 => (Ext s23 s25 ∧ S 8 [(.func F_views_State []), (.ptr p17)] v24 s25 ∧ V 8 [(.func F_views_State []), (.ptr p17)] v24)) ∧ (∃ v, V 8 [(.func F_views_State []), (.ptr p17)] v) ∧ ∀ v26 : AV, V 8 [(.func F_views_State []), (.ptr p17)] v26 → (∀ s27 : AS, Ext s20 s27 → WFs s27 → (S 8 [(.func F_views_State []), (.ptr p17)] v26 s27 ∧ True) → RdS ((aconvert T Y_s_uint8 Y_string v26 s27).map (·.1)) fun x28 => (Ext s27 s27 ∧ S 9 [v26] (.str x28) s27 ∧ V 9 [v26] (.str x28))) ∧ (∃ v, V 9 [v26] v) ∧ ∀ v29 : AV, V 9 [v26] v29 → ∃ x30 : List UInt8, v29 = .str x30 ∧ ((∀ s31 : AS, Ext s20 s31 → WFs s31 → (S 8 [(.func F_views_State []), (.ptr p17)] v26 s31 ∧ True) → ACalls Try.prog F_views_State [(.ptr p21)] s31 fun v32 s33 => (Ext s31 s33 ∧ S 11 [(.func F_views_State []), (.ptr p21)] v32 s33 ∧ V 11 [(.func F_views_State []), (.ptr p21)] v32)) ∧ (∃ v, V 11 [(.func F_views_State []), (.ptr p21)] v) ∧ ∀ v34 : AV, V 11 [(.func F_views_State []), (.ptr p21)] v34 → (∀ s35 : AS, Ext s20 s35 → WFs s35 → (S 8 [(.func F_views_State []), (.ptr p17)] v26 s35 ∧ (S 11 [(.func F_views_State []), (.ptr p21)] v34 s35 ∧ True)) → RdS ((aconvert T Y_s_uint8 Y_string v34 s35).map (·.1)) fun x36 => (Ext s35 s35 ∧ S 12 [v34] (.str x36) s35 ∧ V 12 [v34] (.str x36))) ∧ (∃ v, V 12 [v34] v) ∧ ∀ v37 : AV, V 12 [v34] v37 → ∃ x38 : List UInt8, v37 = .str x38 ∧ (∀ s39 : AS, Ext s20 s39 → WFs s39 → (S 8 [(.func F_views_State []), (.ptr p17)] v26 s39 ∧ (S 9 [v26] (.str x30) s39 ∧ (S 11 [(.func F_views_State []), (.ptr p21)] v34 s39 ∧ (S 12 [v34] (.str x38) s39 ∧ True)))) → bsplit ((x30 : List UInt8) == x38) (ACalls Try.prog F_law19iknown [] s39 fun v41 s42 => ∃ b43 : Bool, v41 = .bool b43 ∧ (R (.bool b43) s42)) (R (.bool false) s39)))) (∀ s44 : AS, Ext s20 s44 → WFs s44 → (True) → R (.bool false) s44)) (∀ s46 : AS, Ext s20 s46 → WFs s46 → (True) → R (.bool false) s46)))) ∧
 (RdI .i64 (alenB T Y_s_Item a0 s11) fun n48 => LoopQ fun I49 m50 => I49 m50 [v10, (.int .i64 (IntKind.wrap .i64 (n48 - 1)))] s11 ∧
 ∀ m51 : Nat, ∀ v52 : AV, ∀ n53 : Int, ∀ s54 : AS, I49 m51 [v52, (.int .i64 n53)] s54 →
 bsplit (decide ((n53 : Int) ≥ 0))
 (IxQ (aindexAddr T Y_s_Item a0 (.int .i64 n53)) fun l55 o56 => RdL (rdc s54 l55 o56 5) fun g57 => RdL (absl T Y_s_Item 1 [(0, (.agg g57))]) fun g58 => NewQ (.cells g58 0 false) s54 fun l59 s60 => Bd2 (aappend T Y_s_Item Y_s_Item v52 (.slc (some (l59, 0)) 1 1 true) s60) fun v61 s62 => ∃ m', m' < m51 ∧ I49 m' [v61, (.int .i64 (IntKind.wrap .i64 (n53 - 1)))] s62)
 (J12 [v52] s54))) ∧
 (LoopQ fun I63 m64 => I63 m64 [(.slc none 0 0 true), (.int .i64 0)] s8 ∧
 ∀ m65 : Nat, ∀ v66 : AV, ∀ n67 : Int, ∀ s68 : AS, I63 m65 [v66, (.int .i64 n67)] s68 →
 RdI .i64 (alenB T Y_s_int a1 s68) fun n69 => bsplit (decide ((n67 : Int) < n69)) (RdI .i64 (alenB T Y_s_Item a0 s68) fun n70 => bsplit (decide ((n70 : Int) > 0))
 (IxQ (aindexAddr T Y_s_int a1 (.int .i64 n67)) fun l71 o72 => RdI .i64 (rd1 s68 l71 o72) fun n73 => RdI .i64 (alenB T Y_s_Item a0 s68) fun n74 => NZ n74 (RdI .i64 (alenB T Y_s_Item a0 s68) fun n75 => RdI .i64 (alenB T Y_s_Item a0 s68) fun n76 => NZ n76 (IxQ (aindexAddr T Y_s_Item a0 (.int .i64 (Int.tmod (IntKind.wrap .i64 ((Int.tmod n73 n74) + n75)) n76))) fun l77 o78 => RdL (rdc s68 l77 o78 5) fun g79 => RdL (absl T Y_s_Item 1 [(0, (.agg g79))]) fun g80 => NewQ (.cells g80 0 false) s68 fun l81 s82 => Bd2 (aappend T Y_s_Item Y_s_Item v66 (.slc (some (l81, 0)) 1 1 true) s82) fun v83 s84 => ∃ m', m' < m65 ∧ I63 m' [v83, (.int .i64 (IntKind.wrap .i64 (n67 + 1)))] s84)))
 (J9 [v66] s68)) (J9 [v66] s68))) ∧
 (LoopQ fun I85 m86 => I85 m86 [(.int .i64 0)] s3 ∧
 ∀ m87 : Nat, ∀ n88 : Int, ∀ s89 : AS, I85 m87 [(.int .i64 n88)] s89 →
 RdI .i64 (alenB T Y_s_Item a0 s89) fun n90 => bsplit (decide ((n88 : Int) < n90))
 (LoopQ fun I91 m92 => I91 m92 [(.int .i64 0)] s89 ∧
 ∀ m93 : Nat, ∀ n94 : Int, ∀ s95 : AS, I91 m93 [(.int .i64 n94)] s95 →
 bsplit (decide ((n94 : Int) < n88))
 (JoinQ fun J96 =>
 (∀ b97 : Bool, ∀ s98 : AS, J96 [(.bool b97)] s98 →
 bsplit b97
 (ACalls Try.prog F_law19iknown [] s98 fun v99 s100 => ∃ b101 : Bool, v99 = .bool b101 ∧ (R (.bool b101) s100))
 (∃ m', m' < m93 ∧ I91 m' [(.int .i64 (IntKind.wrap .i64 (n94 + 1)))] s98)) ∧
 (IxQ (aindexAddr T Y_s_Item a0 (.int .i64 n94)) fun l102 o103 => RdL (rdc s95 l102 o103 2) fun g104 => IxQ (aindexAddr T Y_s_Item a0 (.int .i64 n88)) fun l105 o106 => RdL (rdc s95 l105 o106 2) fun g107 => RdO (aeq T 100 Y_Dot (.agg g104) (.agg g107)) fun b108 => bsplit b108 (IxQ (aindexAddr T Y_s_Item a0 (.int .i64 n94)) fun l109 o110 => RdB (rd1 s95 l109 (o110 + 4)) fun b111 => bsplit (!b111) (IxQ (aindexAddr T Y_s_Item a0 (.int .i64 n88)) fun l112 o113 => RdB (rd1 s95 l112 (o113 + 4)) fun b114 => bsplit (!b114) (IxQ (aindexAddr T Y_s_Item a0 (.int .i64 n94)) fun l115 o116 => RdL (rdc s95 l115 (o116 + 2) 2) fun g117 => IxQ (aindexAddr T Y_s_Item a0 (.int .i64 n88)) fun l118 o119 => RdL (rdc s95 l118 (o119 + 2) 2) fun g120 => RdO (aeq T 100 Y_Key (.agg g117) (.agg g120)) fun b121 => J96 [(.bool (!b121))] s95) (J96 [(.bool false)] s95)) (J96 [(.bool false)] s95)) (J96 [(.bool false)] s95)))
 (∃ m', m' < m87 ∧ I85 m' [(.int .i64 (IntKind.wrap .i64 (n88 + 1)))] s95))
 (J7 [] s89)))) ∧
 (RdI .i64 (alenB T Y_s_Item a0 s) fun n122 => bsplit (decide ((n122 : Int) > 100)) (J1 [(.bool true)] s) (RdI .i64 (alenB T Y_s_int a1 s) fun n123 => bsplit (decide ((n123 : Int) > 200)) (J1 [(.bool true)] s) (ACalls Try.prog F_law19imay [a0] s fun v124 s125 => ∃ b126 : Bool, v124 = .bool b126 ∧ (J1 [(.bool (!b126))] s125))))
def A_law19iViewsOrder : QA := (.seq .leaf (.seq (.join [(26, .bool)] [(14, 26)] .leaf (.cond (.seq .leaf .leaf) .leaf)) (.join [] [(4, 6), (28, 79)] (.seq .leaf (.wrap (.loop [(5, .int .i64)] [(4, 6), (28, 79)] (.seq (.seq .leaf (.cond .leaf .leaf)) (.seq (.wrap (.seq .leaf (.wrap (.loop [(6, .int .i64)] [(4, 4), (6, 6), (34, 79)] (.seq (.seq .leaf (.cond .leaf .leaf)) (.seq (.wrap (.join [(78, .bool)] [(39, 78)] (.draw 38) (.cond (.seq .leaf .leaf) .leaf))) .leaf)))))) .leaf))))) (.seq .leaf (.join [(7, .any)] [(7, 8), (80, 109)] (.seq .leaf (.wrap (.loop [(7, .any), (8, .int .i64)] [(7, 8), (80, 109)] (.seq (.seq .leaf (.cond .leaf .leaf)) (.seq (.wrap .leaf) .leaf))))) (.join [(7, .any)] [(7, 7), (9, 9), (110, 123)] (.seq .leaf (.wrap (.loop [(7, .any), (9, .int .i64)] [(7, 7), (9, 9), (113, 123)] (.seq (.seq .leaf (.cond .leaf .leaf)) (.seq (.wrap .leaf) .leaf))))) (.seq .leaf (.seq .leaf (.seq (.drawH 13 [[], [], [], [], [], [], [], [], [], [8], [], [8], [8, 11]] [8, 9, 11, 12]) .leaf)))))))))
theorem q_law19iViewsOrder (a0 : AV) (a1 : AV) (s : AS) (R : AV → AS → Prop) (h : Q_law19iViewsOrder a0 a1 s R) : ACalls Try.prog F_law19iViewsOrder [a0, a1] s R :=
 ACalls.q (n := 152) (rs := [.tmp 4]) (A := A_law19iViewsOrder) hT hmx Try.func5 (by kernel_rfl) rfl rfl rfl (by kernel_rfl) (by kernel_rfl) h
end Go.Proofs.Ytoklmpkpeanloaa
end

section
namespace Go.Proofs.Ytoklmpkpeanloaa
open Go.Am Go.Minster Go.Minster2
theorem order_same {l m : List Itm} (hk : OneKey l) (hl : ∀ i ∈ l, i.may = true) (hm : ∀ i ∈ m, i ∈ l) (hs : ∀ i ∈ l, i ∈ m) {x y : OSet} (hx : x = (OSet.zero.sees l).2) (hy : y = (OSet.zero.sees m).2) : x.v = y.v ∧ x.ex = y.ex ∧ x.live = y.live := by
 have s1 : Saw x (l.reverse ++ []) := by rw [hx]; exact Saw.sees hk l OOk.zero Saw.zero (by simp) fun i hi => ⟨hi, hl i hi⟩
 have s2 : Saw y (m.reverse ++ []) := by rw [hy]; exact Saw.sees hk m OOk.zero Saw.zero (by simp) fun i hi => ⟨hm i hi, hl i (hm i hi)⟩
 have o1 : OOk x (0 + l.length) := by rw [hx]; exact OOk.zero.sees l hl
 have o2 : OOk y (0 + m.length) := by rw [hy]; exact OOk.zero.sees m fun i hi => hl i (hm i hi)
 obtain ⟨h1, h2⟩ := s1.uniq s2 fun i => by simp only [List.append_nil, List.mem_reverse]; exact ⟨hs i, hm i⟩
 obtain ⟨h3, h4⟩ := norm_eq o1.ok o1.gap o2.ok o2.gap h1
 exact ⟨h3, h4, funext h2⟩
theorem liveI_sameV {x y : OSet} (hl : y.live = x.live) {I J : List Itm} (hI : Items x I) (hJ : Items y J) : liveI J = liveI I := by
 refine iris_uniq (List.Pairwise.sublist (List.Sublist.map _ List.filter_sublist) hJ.ris) (List.Pairwise.sublist (List.Sublist.map _ List.filter_sublist) hI.ris) fun i => ?_
 rw [liveI_mem hI, liveI_mem hJ, hl]
theorem stateB_neV (v : List Int) (ex : List Dot) (L : List Itm) : stateB v ex L ≠ [] := by
 intro h
 have := congrArg List.length h
 simp only [stateB, List.length_append, bes_len, List.length_nil] at this
 omega
theorem get_lt' {α : Type} {l : List α} {j : Nat} {x : α} (h : l[j]? = some x) : j < l.length := by
 rcases Nat.lt_or_ge j l.length with h' | h'
 ·exact h'
 ·rw [List.getElem?_eq_none h'] at h; cases h
set_option maxRecDepth 100000 in
set_option maxHeartbeats 1000000 in
theorem viewsOrder_ok {s : AS} {lv ov : AV} {l : List Itm} {od : List Int} (ha : Sl itemC 5 s lv l) (ho : Ints s ov od) : ACalls Try.prog F_law19iViewsOrder [lv, ov] s fun r s' => r = .bool true := by
 refine ACalls.pre fun hw => q_law19iViewsOrder _ _ _ _ ?_
 refine ⟨fun vs s' => Ext s s' ∧ WFs s' ∧ ∃ b, vs = [.bool b] ∧ (b = false → l.length ≤ 100 ∧ od.length ≤ 200 ∧ l.all Itm.may = true), ?_, ?_⟩
 rotate_left
 ·refine ⟨_, ha.lenB u_s_Item _, bsplit.dec (fun _ => ⟨Ext.refl _, hw, _, rfl, by simp⟩) (fun h1 => ⟨_, ho.lenB u_s_int _, bsplit.dec (fun _ => ⟨Ext.refl _, hw, _, rfl, by simp⟩) (fun h2 => ?_)⟩)⟩
  refine ACalls.use (may19_ok ha (by omega)) ?_
  rintro r s69 ⟨rfl, e69⟩ w69
  exact ⟨_, rfl, e69, w69, _, rfl, fun hb => ⟨by omega, by omega, by simpa only [Bool.not_eq_false'] using hb⟩⟩
 rintro b s3 ⟨e3, w3, b', hb', hsm⟩
 obtain rfl : b = b' := by simpa using hb'
 refine bsplit.mk (fun hb => kn19 _) (fun hb => ?_)
 obtain ⟨hn1, hn2, hm⟩ := hsm hb
 have hmay : ∀ i ∈ l, i.may = true := by simpa using hm
 have ha3 := ha.ext e3
 have ho3 := ho.ext e3
 refine ⟨fun vs s' => s' = s3 ∧ OneKey l, ?_, fun m vs s' => ∃ i : Nat, vs = [.int .i64 (i : Nat)] ∧ i ≤ l.length ∧ i + m = l.length ∧ s' = s3 ∧ ∀ j k x y, j < k → k < i → l[j]? = some x → l[k]? = some y → x.dot = y.dot → x.gone = false → y.gone = false → x.key = y.key, l.length, ⟨0, rfl, by omega, by omega, rfl, by omega⟩, ?_⟩
 rotate_left
 ·rintro m n s89 ⟨i, hin, hi, hmi, rfl, hkey⟩
  simp only [List.cons.injEq, AV.int.injEq, true_and, and_true] at hin
  subst hin
  refine ⟨_, ha3.lenB u_s_Item _, bsplit.dec (fun hlt => ?_) (fun hge => ⟨rfl, fun x hx y hy => ?_⟩)⟩
  rotate_left
  ·obtain ⟨j, hj⟩ := List.mem_iff_getElem?.1 hx
   obtain ⟨k, hk⟩ := List.mem_iff_getElem?.1 hy
   have hjl := get_lt' hj
   have hkl := get_lt' hk
   intro h1 h2 h3
   rcases Nat.lt_trichotomy j k with h | h | h
   ·exact hkey j k x y h (by omega) hj hk h1 h2 h3
   ·subst h; rw [hj] at hk; rw [Option.some.inj hk]
   ·exact (hkey k j y x h (by omega) hk hj h1.symm h3 h2).symm
  obtain ⟨x, hx⟩ := get_lt (l := l) (i := i) (by omega)
  obtain ⟨lx, ox, h8, h9⟩ := ha3.ix (by decide) itemC_len u_s_Item z_Item hx
  have rx := h9 _ (Ext.refl _)
  refine ⟨fun m vs s' => ∃ k : Nat, vs = [.int .i64 (k : Nat)] ∧ k ≤ i ∧ k + m = i ∧ s' = s89 ∧ ∀ j y, j < k → l[j]? = some y → y.dot = x.dot → y.gone = false → x.gone = false → y.key = x.key, i, ⟨0, rfl, by omega, by omega, rfl, by omega⟩, ?_⟩
  rintro m2 n s95 ⟨k, hk, hki, hm2, rfl, hall⟩
  simp only [List.cons.injEq, AV.int.injEq, true_and, and_true] at hk
  subst hk
  refine bsplit.dec (fun hlt2 => ?_) (fun hge2 => ?_)
  ·obtain ⟨y, hy⟩ := get_lt (l := l) (i := k) (by omega)
   obtain ⟨ly, oy, g8, g9⟩ := ha3.ix (by decide) itemC_len u_s_Item z_Item hy
   have ry := g9 _ (Ext.refl _)
   have xd : rdc s95 lx ox 2 = some (dotC x.dot) := rdc_pre rx.2 (by decide)
   have yd : rdc s95 ly oy 2 = some (dotC y.dot) := rdc_pre ry.2 (by decide)
   have xg : rd1 s95 lx (ox + 4) = some (.bool x.gone) := rx.1 4 (by decide)
   have yg : rd1 s95 ly (oy + 4) = some (.bool y.gone) := ry.1 4 (by decide)
   have xk : rdc s95 lx (ox + 2) 2 = some (keyC x.key) := rdc_mid rx.2 2 2 (by decide)
   have yk : rdc s95 ly (oy + 2) 2 = some (keyC y.key) := rdc_mid ry.2 2 2 (by decide)
   refine ⟨fun vs s' => s' = s95 ∧ ∃ t, vs = [.bool t] ∧ (t = false → y.dot = x.dot → y.gone = false → x.gone = false → y.key = x.key), ?_, ly, oy, g8 _, _, yd, lx, ox, h8 _, _, xd, _, dot_eq _ _, bsplit.dec (fun q1 => ⟨ly, oy, g8 _, _, yg, bsplit.mk (fun q2 => ⟨lx, ox, h8 _, _, xg, bsplit.mk (fun q3 => ⟨ly, oy, g8 _, _, yk, lx, ox, h8 _, _, xk, _, key_eq _ _, rfl, _, rfl, fun h _ _ _ => by simpa using h⟩) (fun q3 => ⟨rfl, _, rfl, fun _ _ _ h => by rw [h] at q3; cases q3⟩)⟩) (fun q2 => ⟨rfl, _, rfl, fun _ _ h => by rw [h] at q2; cases q2⟩)⟩) (fun q1 => ⟨rfl, _, rfl, fun _ h => absurd h q1⟩)⟩
   rintro t s98 ⟨rfl, t', ht, hq⟩
   obtain rfl : t = t' := by simpa using ht
   refine bsplit.mk (fun ht => kn19 _) (fun ht => ⟨i - (k + 1), by omega, k + 1, by rw [wrap_i (by omega)]; rfl, by omega, by omega, rfl, fun j z hj hz => ?_⟩)
   rcases Nat.lt_or_ge j k with h | h
   ·exact hall j z h hz
   ·obtain rfl : j = k := by omega
    rw [hy] at hz; obtain rfl := Option.some.inj hz; exact hq ht
  ·obtain rfl : k = i := by omega
   refine ⟨l.length - (k + 1), by omega, k + 1, by rw [wrap_i (by omega)]; rfl, by omega, by omega, rfl, fun j q y z hjq hq hy hz => ?_⟩
   rcases Nat.lt_or_ge q k with h | h
   ·exact hkey j q y z hjq h hy hz
   ·obtain rfl : q = k := by omega
    rw [hx] at hz; obtain rfl := Option.some.inj hz
    exact fun a b c => hall j y hjq hy a b c
 rintro s8 ⟨rfl, hone⟩
 refine ⟨fun vs s' => ∃ v L, vs = [v] ∧ WFs s' ∧ GroN itemC 5 [] s8 s' v L ∧ L.length ≤ 200 ∧ ∀ i ∈ L, i ∈ l, ?_, fun m vs s' => ∃ (k : Nat) (v : AV) (L : List Itm), vs = [v, .int .i64 (k : Nat)] ∧ k ≤ od.length ∧ k + m = od.length ∧ WFs s' ∧ GroN itemC 5 [] s8 s' v L ∧ L.length ≤ k ∧ ∀ i ∈ L, i ∈ l, od.length, ⟨0, _, [], rfl, by omega, by omega, w3, GroN.nil, by simp, by simp⟩, ?_⟩
 rotate_left
 ·rintro m v66 n s68 ⟨k, v, L, hin, hk, hm3, w68, g68, hL, hLl⟩
  simp only [List.cons.injEq, AV.int.injEq, true_and, and_true] at hin
  obtain ⟨rfl, rfl⟩ := hin
  have e68 := g68.chg.ext
  have fin : ∃ v L, [v66] = [v] ∧ WFs s68 ∧ GroN itemC 5 [] s8 s68 v L ∧ L.length ≤ 200 ∧ ∀ i ∈ L, i ∈ l := ⟨v66, L, rfl, w68, g68, by omega, hLl⟩
  have lenI : alenB T Y_s_Item lv s68 = some (.int .i64 (l.length : Nat)) := ha3.lenB u_s_Item _
  refine ⟨_, ho3.lenB u_s_int _, bsplit.dec (fun hlt => ⟨_, lenI, bsplit.dec (fun hpos => ?_) (fun _ => fin)⟩) (fun _ => fin)⟩
  obtain ⟨q, hq⟩ := get_lt (l := od) (i := k) (by omega)
  obtain ⟨lx, ox, h8, h9⟩ := (ho3.ext e68).ix (f := fun n : Int => [AV.int .i64 n]) (by decide) (fun _ => rfl) u_s_int z_int hq
  obtain ⟨j, hj, hje⟩ := place2 (n := q) (k := l.length) (by omega) (by omega)
  obtain ⟨it, hit⟩ := get_lt (l := l) (i := j) hj
  obtain ⟨ly, oy, g8, g9⟩ := (ha3.ext e68).ix (by decide) itemC_len u_s_Item z_Item hit
  refine ⟨lx, ox, h8 _, q, (h9 _ (Ext.refl _)).1 0 (by decide), _, lenI, by omega, _, lenI, _, lenI, by omega, ly, oy, ?_, _, (g9 _ (Ext.refl _)).2, ?_⟩
  ·rw [hje]; exact g8 _
  refine GroN.append1 sl_s_Item itemC_len itemC_one w68 g68 (by simp) it (by omega) fun v' s' g' w' _ => ?_
  refine ⟨od.length - (k + 1), by omega, k + 1, v', _, by rw [wrap_i (by omega)]; rfl, by omega, by omega, w', g', by simp; omega, fun i hi => ?_⟩
  rcases List.mem_append.1 hi with hi | hi
  ·exact hLl i hi
  ·obtain rfl := List.mem_singleton.1 hi; exact List.mem_of_getElem? hit
 rintro v10 s11 ⟨v, L, hv, w11, g11, hL, hLl⟩
 obtain rfl : v10 = v := by simpa using hv
 have lenI : ∀ s', alenB T Y_s_Item lv s' = some (.int .i64 (l.length : Nat)) := fun s' => ha3.lenB u_s_Item s'
 refine ⟨fun vs s' => ∃ v M, vs = [v] ∧ WFs s' ∧ GroN itemC 5 [] s8 s' v M ∧ M.length ≤ 300 ∧ (∀ i ∈ M, i ∈ l) ∧ ∀ i ∈ l, i ∈ M, ?_, _, lenI _, fun m vs s' => ∃ (v : AV) (M : List Itm), vs = [v, .int .i64 ((m : Int) - 1)] ∧ m ≤ l.length ∧ WFs s' ∧ GroN itemC 5 [] s8 s' v M ∧ M.length + m ≤ 300 ∧ (∀ i ∈ M, i ∈ l) ∧ ∀ i ∈ l.drop m, i ∈ M, l.length, ⟨v10, L, by rw [wrap_i' (by omega)], by omega, w11, g11, by omega, hLl, by simp⟩, ?_⟩
 rotate_left
 ·rintro m v52 n s54 ⟨v, M, hin, hml, w54, g54, hM, hMl, hMd⟩
  simp only [List.cons.injEq, AV.int.injEq, true_and, and_true] at hin
  obtain ⟨rfl, rfl⟩ := hin
  refine bsplit.dec (fun hge => ?_) (fun hlt => ?_)
  rotate_left
  ·obtain rfl : m = 0 := by omega
   exact ⟨v52, M, rfl, w54, g54, by omega, hMl, by simpa using hMd⟩
  obtain ⟨m', rfl⟩ : ∃ m', m = m' + 1 := ⟨m - 1, by omega⟩
  have em : ((m' + 1 : Nat) : Int) - 1 = (m' : Nat) := by omega
  rw [em]
  obtain ⟨it, hit⟩ := get_lt (l := l) (i := m') (by omega)
  obtain ⟨ly, oy, g8, g9⟩ := (ha3.ext g54.chg.ext).ix (by decide) itemC_len u_s_Item z_Item hit
  refine ⟨ly, oy, g8 _, _, (g9 _ (Ext.refl _)).2, ?_⟩
  refine GroN.append1 sl_s_Item itemC_len itemC_one w54 g54 (by simp) it (by omega) fun v' s' g' w' _ => ?_
  refine ⟨m', by omega, v', _, by rw [wrap_i' (by omega)], by omega, w', g', by simp; omega, fun i hi => ?_, fun i hi => ?_⟩
  ·rcases List.mem_append.1 hi with hi | hi
   ·exact hMl i hi
   ·obtain rfl := List.mem_singleton.1 hi; exact List.mem_of_getElem? hit
  ·have hlt : m' < l.length := get_lt' hit
   rw [List.drop_eq_getElem_cons hlt] at hi
   rw [List.getElem?_eq_getElem hlt] at hit
   rcases List.mem_cons.1 hi with rfl | hi
   ·rw [Option.some.inj hit]; simp
   ·exact List.mem_append_left _ (hMd i hi)
 rintro v13 s14 ⟨v, M, hv, w14, g14, hM, hMl, hlM⟩
 obtain rfl : v13 = v := by simpa using hv
 have e14 := g14.chg.ext
 refine ACalls.use (Function_ok (ha3.ext e14) (by omega) hmay) ?_
 rintro v15 s16 ⟨p, F, x, rfl, hx, S1, e16⟩ w16
 refine ⟨_, _, rfl, ?_⟩
 refine ACalls.use (Function_ok ((g14.sl itemC_len).ext e16) (by omega) fun i hi => hmay i (hMl i hi)) ?_
 rintro v19 s20 ⟨p', F', y, rfl, hy, S2, e20⟩ w20
 obtain ⟨q1, q2, q3⟩ := order_same hone hmay hMl hlM hx hy
 refine ⟨_, _, rfl, ?_⟩
 refine ⟨fun n _ v s' => (n = 8 → ∃ I, Items x I ∧ Byts s' v (stateB x.v x.ex (liveI I))) ∧ (n = 11 → ∃ I, Items x I ∧ Byts s' v (stateB x.v x.ex (liveI I))), fun n _ v => (n = 9 ∨ n = 12) → ∃ t, v = .str t ∧ ∀ I, Items x I → t = toB (stateB x.v x.ex (liveI I)), fun n _ v s1 s2 e h => ⟨fun hn => ?_, fun hn => ?_⟩, bsplit.yes rfl (bsplit.yes rfl ⟨fun s23 e23 w23 _ => ?_, ⟨.undef, by simp⟩, fun v26 _ => ⟨fun s27 e27 w27 hS => ?_, ?_, fun v29 hv29 => ?_⟩⟩)⟩
 ·obtain ⟨I, h1, h2⟩ := h.1 hn; exact ⟨I, h1, h2.ext e⟩
 ·obtain ⟨I, h1, h2⟩ := h.2 hn; exact ⟨I, h1, h2.ext e⟩
 ·refine (State_ok ((S1.set.ext e20).ext e23) S1.ok (by omega)).mono ?_
  rintro v s' ⟨I, hI, hB, e'⟩
  exact ⟨e', ⟨fun _ => ⟨I, hI, hB⟩, by simp⟩, by simp⟩
 ·obtain ⟨I, hI, hB⟩ := hS.1.1 rfl
  exact ⟨_, conv_str hB (stateB_neV _ _ _), Ext.refl _, ⟨by simp, by simp⟩, fun _ => ⟨_, rfl, fun I' hI' => by rw [hI'.uniq hI]⟩⟩
 ·by_cases h : ∃ I, Items x I
  ·obtain ⟨I, hI⟩ := h
   exact ⟨_, fun _ => ⟨_, rfl, fun I' hI' => by rw [hI'.uniq hI]⟩⟩
  ·exact ⟨.str [], fun _ => ⟨_, rfl, fun I hI => absurd ⟨I, hI⟩ h⟩⟩
 obtain ⟨t1, rfl, ht1⟩ := hv29 (.inl rfl)
 refine ⟨_, rfl, fun s31 e31 w31 hS => ?_, ⟨.undef, by simp⟩, fun v34 _ => ⟨fun s35 e35 w35 hS => ?_, ⟨.str t1, fun _ => ⟨t1, rfl, ht1⟩⟩, fun v37 hv37 => ?_⟩⟩
 ·obtain ⟨I, hI, _⟩ := hS.1.1 rfl
  refine (State_ok (S2.set.ext e31) S2.ok (by omega)).mono ?_
  rintro v s' ⟨J, hJ, hB, e'⟩
  rw [← q1, ← q2, liveI_sameV q3.symm hI hJ] at hB
  exact ⟨e', ⟨by simp, fun _ => ⟨I, hI, hB⟩⟩, by simp⟩
 ·obtain ⟨I, hI, hB⟩ := hS.2.1.2 rfl
  exact ⟨_, conv_str hB (stateB_neV _ _ _), Ext.refl _, ⟨by simp, by simp⟩, fun _ => ⟨_, rfl, fun I' hI' => by rw [hI'.uniq hI]⟩⟩
 obtain ⟨t2, rfl, ht2⟩ := hv37 (.inr rfl)
 refine ⟨_, rfl, fun s39 e39 w39 hS => bsplit.yes ?_ (kn19 _)⟩
 obtain ⟨I, hI, _⟩ := hS.1.1 rfl
 rw [ht1 I hI, ht2 I hI]; simp
end Go.Proofs.Ytoklmpkpeanloaa
end
