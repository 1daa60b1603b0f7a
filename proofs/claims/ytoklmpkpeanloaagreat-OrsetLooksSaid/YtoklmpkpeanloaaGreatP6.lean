/-
  A part of the proof: an abstract machine over the model, and contracts of functions of this program over it.
-/
import Derived.KernelRfl
import Derived.Test.YtoklmpkpeanloaaGreatP5
set_option linter.unusedVariables false
set_option linter.unusedSimpArgs false
set_option linter.unusedSectionVars false
section
set_option maxRecDepth 100000
set_option maxHeartbeats 4000000
namespace Go.Proofs.YtoklmpkpeanloaaGreat
open Go.Am
def Q_law07iOrsetLooks (a0 : AV) (a1 : AV) (a2 : AV) (a3 : List AV) (s : AS) (R : AV → AS → Prop) : Prop :=
 One1 a3 (NewQ (.cells a3 0 false) s fun l1 s2 => JoinQ fun J3 =>
 (∀ b4 : Bool, ∀ s5 : AS, J3 [(.bool b4)] s5 →
 bsplit b4
 (ACalls Tryz.prog F_law07iknown [] s5 fun v6 s7 => ∃ b8 : Bool, v6 = .bool b8 ∧ (R (.bool b8) s7))
 (ACalls Tryz.prog F_orset_New [] s5 fun v9 s10 => ∃ p11 : Option (Nat × Nat), v9 = .ptr p11 ∧ (RdG (abuild T Y_minsterref07iSet []) fun g12 => One1 g12 (NewQ (.cells g12 0 false) s10 fun l13 s14 => JoinQ fun J15 =>
 (∀ s16 : AS, J15 [] s16 →
 ACalls Tryz.prog F_ref07iSet_Live [(.ptr (some (l13, 0)))] s16 fun v17 s18 => JoinQ fun J19 =>
 (∀ b20 : Bool, ∀ s21 : AS, J19 [(.bool b20)] s21 →
 JoinQ fun J22 =>
 (∀ s23 : AS, J22 [] s23 →
 JoinQ fun J24 =>
 (∀ s25 : AS, J24 [] s25 →
 JoinQ fun J26 =>
 (∀ s27 : AS, J26 [] s27 →
 JoinQ fun J28 =>
 (∀ v29 : AV, ∀ s30 : AS, J28 [v29] s30 →
 ACalls Tryz.prog F_orset_Set_Tombs [(.ptr p11)] s30 fun v31 s32 => ACalls Tryz.prog F_ref04iSameDots [v31, v29] s32 fun v33 s34 => ∃ b35 : Bool, v33 = .bool b35 ∧ (bsplit (!b35)
 (R (.bool false) s34)
 (LoopQ fun I36 m37 => I36 m37 [(.int .i64 (-1))] s34 ∧
 ∀ m38 : Nat, ∀ n39 : Int, ∀ s40 : AS, I36 m38 [(.int .i64 n39)] s40 →
 bsplit (decide ((n39 : Int) ≤ 64))
 (ACalls Tryz.prog F_orset_Set_Bucket [(.ptr p11), (.int .i64 n39)] s40 fun v41 s42 => ∃ v43 : AV, ∃ n44 : Int, v41 = .tup [v43, (.int .i64 n44)] ∧ (JoinQ fun J45 =>
 (∀ b46 : Bool, ∀ s47 : AS, J45 [(.bool b46)] s47 →
 bsplit b46
 (bsplit ((n44 : Int) != 2)
 (R (.bool false) s47)
 (∃ m', m' < m38 ∧ I36 m' [(.int .i64 (IntKind.wrap .i64 (n39 + 1)))] s47))
 (JoinQ fun J48 =>
 (∀ v49 : AV, ∀ s50 : AS, J48 [v49] s50 →
 bsplit ((n44 : Int) != 0) (R (.bool false) s50) (ACalls Tryz.prog F_ref07iSameItems [v43, v49] s50 fun v51 s52 => ∃ b53 : Bool, v51 = .bool b53 ∧ (bsplit (!b53)
 (R (.bool false) s52)
 (∃ m', m' < m38 ∧ I36 m' [(.int .i64 (IntKind.wrap .i64 (n39 + 1)))] s52)))) ∧
 (LoopQ fun I54 m55 => I54 m55 [(.slc none 0 0 true), (.int .i64 0)] s47 ∧
 ∀ m56 : Nat, ∀ v57 : AV, ∀ n58 : Int, ∀ s59 : AS, I54 m56 [v57, (.int .i64 n58)] s59 →
 RdA (rd1 s59 l13 17) fun v60 => RdI .i64 (alenB T Y_s_Item v60 s59) fun n61 => bsplit (decide ((n58 : Int) < n61))
 (RdA (rd1 s59 l13 17) fun v62 => IxQ (aindexAddr T Y_s_Item v62 (.int .i64 n58)) fun l63 o64 => RdL (rdc s59 l63 o64 2) fun g65 => NewQ (.cells [.int .i64 0, .int .u64 0] 0 false) s59 fun l66 s67 => OkC (some 2) g65 (StQ (awr s67 l66 0 g65) fun s68 => RdI .i64 (rd1 s68 l66 0) fun n69 => RdI .u64 (rd1 s68 l66 1) fun n70 => NZ 64 (bsplit ((IntKind.wrap .i64 (Int.tmod (IntKind.wrap .u64 ((IntKind.wrap .u64 ((IntKind.wrap .u64 n69) * 7)) + n70)) 64) : Int) == n39)
 (RdA (rd1 s68 l13 17) fun v71 => IxQ (aindexAddr T Y_s_Item v71 (.int .i64 n58)) fun l72 o73 => RdL (rdc s68 l72 o73 5) fun g74 => RdL (absl T Y_s_Item 1 [(0, (.agg g74))]) fun g75 => NewQ (.cells g75 0 false) s68 fun l76 s77 => Bd2 (aappend T Y_s_Item Y_s_Item v57 (.slc (some (l76, 0)) 1 1 true) s77) fun v78 s79 => ∃ m', m' < m56 ∧ I54 m' [v78, (.int .i64 (IntKind.wrap .i64 (n58 + 1)))] s79)
 (∃ m', m' < m56 ∧ I54 m' [v57, (.int .i64 (IntKind.wrap .i64 (n58 + 1)))] s68))))
 (J48 [v57] s59)))) ∧
 (bsplit (decide ((n39 : Int) < 0)) (J45 [(.bool true)] s42) (J45 [(.bool ((n39 : Int) == 64))] s42))))
 (ACalls Tryz.prog F_law07iknown [] s40 fun v80 s81 => ∃ b82 : Bool, v80 = .bool b82 ∧ (R (.bool b82) s81))))) ∧
 (LoopQ fun I83 m84 => I83 m84 [(.slc none 0 0 true), (.int .i64 0)] s27 ∧
 ∀ m85 : Nat, ∀ v86 : AV, ∀ n87 : Int, ∀ s88 : AS, I83 m85 [v86, (.int .i64 n87)] s88 →
 RdA (rd1 s88 l13 17) fun v89 => RdI .i64 (alenB T Y_s_Item v89 s88) fun n90 => bsplit (decide ((n87 : Int) < n90))
 (RdA (rd1 s88 l13 17) fun v91 => IxQ (aindexAddr T Y_s_Item v91 (.int .i64 n87)) fun l92 o93 => RdB (rd1 s88 l92 (o93 + 4)) fun b94 => bsplit b94
 (RdA (rd1 s88 l13 17) fun v95 => IxQ (aindexAddr T Y_s_Item v95 (.int .i64 n87)) fun l96 o97 => RdL (rdc s88 l96 o97 2) fun g98 => RdL (absl T Y_s_Dot 1 [(0, (.agg g98))]) fun g99 => NewQ (.cells g99 0 false) s88 fun l100 s101 => Bd2 (aappend T Y_s_Dot Y_s_Dot v86 (.slc (some (l100, 0)) 1 1 true) s101) fun v102 s103 => ∃ m', m' < m85 ∧ I83 m' [v102, (.int .i64 (IntKind.wrap .i64 (n87 + 1)))] s103)
 (∃ m', m' < m85 ∧ I83 m' [v86, (.int .i64 (IntKind.wrap .i64 (n87 + 1)))] s88))
 (J28 [v86] s88))) ∧
 (LoopQ fun I104 m105 => I104 m105 [(.int .i64 0)] s25 ∧
 ∀ m106 : Nat, ∀ n107 : Int, ∀ s108 : AS, I104 m106 [(.int .i64 n107)] s108 →
 RdI .i64 (alenB T Y_s_string a2 s108) fun n109 => bsplit (decide ((n107 : Int) < n109))
 (DrawQ fun S V => IxQ (aindexAddr T Y_s_string a2 (.int .i64 n107)) fun l110 o111 => RdS (rd1 s108 l110 o111) fun x112 => (∀ s113 : AS, Ext s108 s113 → WFs s113 → (True) → ACalls Tryz.prog F_orset_Set_Dests [(.ptr p11), (.str x112)] s113 fun v114 s115 => (Ext s113 s115 ∧ S 5 [(.func F_orset_Set_Dests []), (.ptr p11), (.str x112)] v114 s115 ∧ V 5 [(.func F_orset_Set_Dests []), (.ptr p11), (.str x112)] v114)) ∧ (∃ v, V 5 [(.func F_orset_Set_Dests []), (.ptr p11), (.str x112)] v) ∧ ∀ v116 : AV, V 5 [(.func F_orset_Set_Dests []), (.ptr p11), (.str x112)] v116 → IxQ (aindexAddr T Y_s_string a2 (.int .i64 n107)) fun l117 o118 => RdS (rd1 s108 l117 o118) fun x119 => ∀ s120 : AS, Ext s108 s120 → WFs s120 → (S 5 [(.func F_orset_Set_Dests []), (.ptr p11), (.str x112)] v116 s120 ∧ True) → ACalls Tryz.prog F_ref07iSet_Dests [(.ptr (some (l13, 0))), (.str x119)] s120 fun v122 s123 => ACalls Tryz.prog F_ref07iSameDests [v116, v122] s123 fun v124 s125 => ∃ b126 : Bool, v124 = .bool b126 ∧ (bsplit (!b126)
 (R (.bool false) s125)
 (∃ m', m' < m106 ∧ I104 m' [(.int .i64 (IntKind.wrap .i64 (n107 + 1)))] s125)))
 (J26 [] s108))) ∧
 (LoopQ fun I127 m128 => I127 m128 [(.int .i64 0)] s23 ∧
 ∀ m129 : Nat, ∀ n130 : Int, ∀ s131 : AS, I127 m129 [(.int .i64 n130)] s131 →
 RdI .i64 (alenB T Y_s_Dot a1 s131) fun n132 => bsplit (decide ((n130 : Int) < n132))
 (IxQ (aindexAddr T Y_s_Dot a1 (.int .i64 n130)) fun l133 o134 => RdL (rdc s131 l133 o134 2) fun g135 => ACalls Tryz.prog F_orset_Set_Live [(.ptr p11), (.agg g135)] s131 fun v136 s137 => ∃ g138 : List AV, ∃ b139 : Bool, v136 = .tup [(.agg g138), (.bool b139)] ∧ (NewQ (.cells [.str [], .str []] 0 false) s137 fun l140 s141 => OkC (some 2) g138 (StQ (awr s141 l140 0 g138) fun s142 => RdG (abuild T Y_Key []) fun g143 => NewQ (.cells [.str [], .str []] 0 false) s142 fun l144 s145 => OkC (some 2) g143 (StQ (awr s145 l144 0 g143) fun s146 => JoinQ fun J147 =>
 (∀ b148 : Bool, ∀ s149 : AS, J147 [(.bool b148)] s149 →
 JoinQ fun J150 =>
 (∀ n151 : Int, ∀ s152 : AS, J150 [(.int .i64 n151)] s152 →
 DrawQ fun S V => RdL (rdc s152 l140 0 2) fun g153 => RdL (rdc s152 l144 0 2) fun g154 => RdO (aeq T 100 Y_Key (.agg g153) (.agg g154)) fun b155 => bsplit (!b155) (∀ s156 : AS, Ext s152 s156 → WFs s156 → (True) → R (.bool false) s156) (bsplit (!((b139 : Bool) == b148)) (∀ s158 : AS, Ext s152 s158 → WFs s158 → (True) → R (.bool false) s158) (IxQ (aindexAddr T Y_s_Dot a1 (.int .i64 n130)) fun l160 o161 => RdL (rdc s152 l160 o161 2) fun g162 => (∀ s163 : AS, Ext s152 s163 → WFs s163 → (True) → ACalls Tryz.prog F_orset_Set_Gone [(.ptr p11), (.agg g162)] s163 fun v164 s165 => ∃ b166 : Bool, v164 = .bool b166 ∧ ((Ext s163 s165 ∧ S 14 [(.func F_orset_Set_Gone []), (.ptr p11), (.agg g162)] (.bool b166) s165 ∧ V 14 [(.func F_orset_Set_Gone []), (.ptr p11), (.agg g162)] (.bool b166)))) ∧ (∃ v, V 14 [(.func F_orset_Set_Gone []), (.ptr p11), (.agg g162)] v) ∧ ∀ v167 : AV, V 14 [(.func F_orset_Set_Gone []), (.ptr p11), (.agg g162)] v167 → ∃ b168 : Bool, v167 = .bool b168 ∧ (IxQ (aindexAddr T Y_s_Dot a1 (.int .i64 n130)) fun l169 o170 => RdL (rdc s152 l169 o170 2) fun g171 => (∀ s172 : AS, Ext s152 s172 → WFs s172 → (S 14 [(.func F_orset_Set_Gone []), (.ptr p11), (.agg g162)] (.bool b168) s172 ∧ True) → ACalls Tryz.prog F_ref07iSet_IsGone [(.ptr (some (l13, 0))), (.agg g171)] s172 fun v173 s174 => ∃ b175 : Bool, v173 = .bool b175 ∧ ((Ext s172 s174 ∧ S 20 [(.func F_ref07iSet_IsGone []), (.ptr (some (l13, 0))), (.agg g171)] (.bool b175) s174 ∧ V 20 [(.func F_ref07iSet_IsGone []), (.ptr (some (l13, 0))), (.agg g171)] (.bool b175)))) ∧ (∃ v, V 20 [(.func F_ref07iSet_IsGone []), (.ptr (some (l13, 0))), (.agg g171)] v) ∧ ∀ v176 : AV, V 20 [(.func F_ref07iSet_IsGone []), (.ptr (some (l13, 0))), (.agg g171)] v176 → ∃ b177 : Bool, v176 = .bool b177 ∧ (bsplit (!((b168 : Bool) == b177)) (∀ s178 : AS, Ext s152 s178 → WFs s178 → (S 14 [(.func F_orset_Set_Gone []), (.ptr p11), (.agg g162)] (.bool b168) s178 ∧ (S 20 [(.func F_ref07iSet_IsGone []), (.ptr (some (l13, 0))), (.agg g171)] (.bool b177) s178 ∧ True)) → R (.bool false) s178) (IxQ (aindexAddr T Y_s_Dot a1 (.int .i64 n130)) fun l180 o181 => RdL (rdc s152 l180 o181 2) fun g182 => (∀ s183 : AS, Ext s152 s183 → WFs s183 → (S 14 [(.func F_orset_Set_Gone []), (.ptr p11), (.agg g162)] (.bool b168) s183 ∧ (S 20 [(.func F_ref07iSet_IsGone []), (.ptr (some (l13, 0))), (.agg g171)] (.bool b177) s183 ∧ True)) → ACalls Tryz.prog F_orset_BucketOf [(.agg g182)] s183 fun v184 s185 => ∃ n186 : Int, v184 = .int .i64 n186 ∧ ((Ext s183 s185 ∧ S 28 [(.func F_orset_BucketOf []), (.agg g182)] (.int .i64 n186) s185 ∧ V 28 [(.func F_orset_BucketOf []), (.agg g182)] (.int .i64 n186)))) ∧ (∃ v, V 28 [(.func F_orset_BucketOf []), (.agg g182)] v) ∧ ∀ v187 : AV, V 28 [(.func F_orset_BucketOf []), (.agg g182)] v187 → ∃ n188 : Int, v187 = .int .i64 n188 ∧ (∀ s189 : AS, Ext s152 s189 → WFs s189 → (S 14 [(.func F_orset_Set_Gone []), (.ptr p11), (.agg g162)] (.bool b168) s189 ∧ (S 20 [(.func F_ref07iSet_IsGone []), (.ptr (some (l13, 0))), (.agg g171)] (.bool b177) s189 ∧ (S 28 [(.func F_orset_BucketOf []), (.agg g182)] (.int .i64 n188) s189 ∧ True))) → bsplit ((n188 : Int) != n151)
 (R (.bool false) s189)
 (∃ m', m' < m129 ∧ I127 m' [(.int .i64 (IntKind.wrap .i64 (n130 + 1)))] s189)))))))) ∧
 (IxQ (aindexAddr T Y_s_Dot a1 (.int .i64 n130)) fun l191 o192 => RdL (rdc s149 l191 o192 2) fun g193 => ACalls Tryz.prog F_ref04iMay [(.agg g193)] s149 fun v194 s195 => ∃ b196 : Bool, v194 = .bool b196 ∧ (bsplit b196
 (IxQ (aindexAddr T Y_s_Dot a1 (.int .i64 n130)) fun l197 o198 => RdI .i64 (rd1 s195 l197 o198) fun n199 => IxQ (aindexAddr T Y_s_Dot a1 (.int .i64 n130)) fun l200 o201 => RdI .u64 (rd1 s195 l200 (o201 + 1)) fun n202 => NZ 64 (J150 [(.int .i64 (IntKind.wrap .i64 (Int.tmod (IntKind.wrap .u64 ((IntKind.wrap .u64 ((IntKind.wrap .u64 n199) * 7)) + n202)) 64)))] s195))
 (J150 [(.int .i64 (-1))] s195)))) ∧
 (LoopQ fun I203 m204 => I203 m204 [(.bool false), (.int .i64 0)] s146 ∧
 ∀ m205 : Nat, ∀ b206 : Bool, ∀ n207 : Int, ∀ s208 : AS, I203 m205 [(.bool b206), (.int .i64 n207)] s208 →
 RdI .i64 (alenB T Y_s_Item v17 s208) fun n209 => bsplit (decide ((n207 : Int) < n209))
 (IxQ (aindexAddr T Y_s_Item v17 (.int .i64 n207)) fun l210 o211 => RdL (rdc s208 l210 o211 2) fun g212 => IxQ (aindexAddr T Y_s_Dot a1 (.int .i64 n130)) fun l213 o214 => RdL (rdc s208 l213 o214 2) fun g215 => RdO (aeq T 100 Y_Dot (.agg g212) (.agg g215)) fun b216 => bsplit b216
 (IxQ (aindexAddr T Y_s_Item v17 (.int .i64 n207)) fun l217 o218 => RdL (rdc s208 l217 (o218 + 2) 2) fun g219 => OkC (some 2) g219 (StQ (awr s208 l144 0 g219) fun s220 => ∃ m', m' < m205 ∧ I203 m' [(.bool true), (.int .i64 (IntKind.wrap .i64 (n207 + 1)))] s220))
 (∃ m', m' < m205 ∧ I203 m' [(.bool b206), (.int .i64 (IntKind.wrap .i64 (n207 + 1)))] s208))
 (J147 [(.bool b206)] s208))))))
 (J24 [] s131))) ∧
 (DrawQ fun S V => RdL (rdc s21 l1 0 2) fun g221 => (∀ s222 : AS, Ext s21 s222 → WFs s222 → (True) → ACalls Tryz.prog F_orset_Set_Has [(.ptr p11), (.agg g221)] s222 fun v223 s224 => ∃ b225 : Bool, v223 = .bool b225 ∧ ((Ext s222 s224 ∧ S 2 [(.func F_orset_Set_Has []), (.ptr p11), (.agg g221)] (.bool b225) s224 ∧ V 2 [(.func F_orset_Set_Has []), (.ptr p11), (.agg g221)] (.bool b225)))) ∧ (∃ v, V 2 [(.func F_orset_Set_Has []), (.ptr p11), (.agg g221)] v) ∧ ∀ v226 : AV, V 2 [(.func F_orset_Set_Has []), (.ptr p11), (.agg g221)] v226 → ∃ b227 : Bool, v226 = .bool b227 ∧ (bsplit (!((b227 : Bool) == b20)) (∀ s228 : AS, Ext s21 s228 → WFs s228 → (S 2 [(.func F_orset_Set_Has []), (.ptr p11), (.agg g221)] (.bool b227) s228 ∧ True) → R (.bool false) s228) (RdL (rdc s21 l1 0 2) fun g230 => (∀ s231 : AS, Ext s21 s231 → WFs s231 → (S 2 [(.func F_orset_Set_Has []), (.ptr p11), (.agg g221)] (.bool b227) s231 ∧ True) → ACalls Tryz.prog F_orset_MayKey [(.agg g230)] s231 fun v232 s233 => ∃ b234 : Bool, v232 = .bool b234 ∧ ((Ext s231 s233 ∧ S 7 [(.func F_orset_MayKey []), (.agg g230)] (.bool b234) s233 ∧ V 7 [(.func F_orset_MayKey []), (.agg g230)] (.bool b234)))) ∧ (∃ v, V 7 [(.func F_orset_MayKey []), (.agg g230)] v) ∧ ∀ v235 : AV, V 7 [(.func F_orset_MayKey []), (.agg g230)] v235 → ∃ b236 : Bool, v235 = .bool b236 ∧ (RdS (rd1 s21 l1 0) fun x237 => ∀ s238 : AS, Ext s21 s238 → WFs s238 → (S 2 [(.func F_orset_Set_Has []), (.ptr p11), (.agg g221)] (.bool b227) s238 ∧ (S 7 [(.func F_orset_MayKey []), (.agg g230)] (.bool b236) s238 ∧ True)) → ACalls Tryz.prog F_ref07iName [(.str x237)] s238 fun v240 s241 => ∃ b242 : Bool, v240 = .bool b242 ∧ (bsplit b242 (RdS (rd1 s241 l1 1) fun x243 => ACalls Tryz.prog F_ref07iName [(.str x243)] s241 fun v244 s245 => ∃ b246 : Bool, v244 = .bool b246 ∧ (bsplit (!((b236 : Bool) == b246))
 (R (.bool false) s245)
 (J22 [] s245))) (bsplit (!((b236 : Bool) == false))
 (R (.bool false) s241)
 (J22 [] s241)))))))) ∧
 (LoopQ fun I247 m248 => I247 m248 [(.bool false), (.int .i64 0)] s18 ∧
 ∀ m249 : Nat, ∀ b250 : Bool, ∀ n251 : Int, ∀ s252 : AS, I247 m249 [(.bool b250), (.int .i64 n251)] s252 →
 RdI .i64 (alenB T Y_s_Item v17 s252) fun n253 => bsplit (decide ((n251 : Int) < n253))
 (bsplit b250 (∃ m', m' < m249 ∧ I247 m' [(.bool true), (.int .i64 (IntKind.wrap .i64 (n251 + 1)))] s252) (IxQ (aindexAddr T Y_s_Item v17 (.int .i64 n251)) fun l254 o255 => RdL (rdc s252 l254 (o255 + 2) 2) fun g256 => RdL (rdc s252 l1 0 2) fun g257 => RdO (aeq T 100 Y_Key (.agg g256) (.agg g257)) fun b258 => ∃ m', m' < m249 ∧ I247 m' [(.bool b258), (.int .i64 (IntKind.wrap .i64 (n251 + 1)))] s252))
 (J19 [(.bool b250)] s252))) ∧
 (LoopQ fun I259 m260 => I259 m260 [(.int .i64 0)] s14 ∧
 ∀ m261 : Nat, ∀ n262 : Int, ∀ s263 : AS, I259 m261 [(.int .i64 n262)] s263 →
 RdI .i64 (alenB T Y_s_minsterlaw07iAct a0 s263) fun n264 => bsplit (decide ((n262 : Int) < n264))
 (IxQ (aindexAddr T Y_s_minsterlaw07iAct a0 (.int .i64 n262)) fun l265 o266 => RdL (rdc s263 l265 o266 6) fun g267 => ACalls Tryz.prog F_law07ido [(.ptr p11), (.ptr (some (l13, 0))), (.agg g267)] s263 fun v268 s269 => ∃ b270 : Bool, v268 = .bool b270 ∧ (∃ m', m' < m261 ∧ I259 m' [(.int .i64 (IntKind.wrap .i64 (n262 + 1)))] s269))
 (J15 [] s263)))))) ∧
 (ACalls Tryz.prog F_law07ifew [a0] s2 fun v271 s272 => ∃ b273 : Bool, v271 = .bool b273 ∧ (bsplit (!b273) (J3 [(.bool true)] s272) (RdI .i64 (alenB T Y_s_Dot a1 s272) fun n274 => bsplit (decide ((n274 : Int) > 30)) (J3 [(.bool true)] s272) (RdI .i64 (alenB T Y_s_string a2 s272) fun n275 => J3 [(.bool (decide ((n275 : Int) > 30)))] s272)))))
def A_law07iOrsetLooks : QA := (.seq .leaf (.seq (.join [(43, .bool)] [(31, 43)] .leaf (.cond (.seq .leaf .leaf) .leaf)) (.seq .leaf (.join [] [(11, 11), (48, 60)] (.seq .leaf (.wrap (.loop [(11, .int .i64)] [(11, 11), (48, 60)] (.seq (.seq .leaf (.cond .leaf .leaf)) (.seq (.wrap .leaf) .leaf))))) (.seq .leaf (.seq .leaf (.join [(12, .bool)] [(12, 12), (14, 14), (63, 78)] (.seq .leaf (.wrap (.loop [(12, .bool), (14, .int .i64)] [(12, 12), (14, 14), (63, 78)] (.seq (.seq .leaf (.cond .leaf .leaf)) (.seq (.wrap (.draw 8)) .leaf))))) (.join [] [(8, 8), (79, 96)] (.seq (.drawH 10 [[], [], [], [], [], [], [], [2], [], []] [2, 7]) (.cond (.seq .leaf .leaf) .leaf)) (.join [] [(8, 8), (15, 21), (97, 185)] (.seq .leaf (.wrap (.loop [(15, .int .i64)] [(8, 8), (15, 21), (97, 185)] (.seq (.seq .leaf (.cond .leaf .leaf)) (.seq (.wrap (.seq .leaf (.seq .leaf (.join [(19, .bool)] [(19, 20), (113, 133)] (.seq .leaf (.wrap (.loop [(19, .bool), (20, .int .i64)] [(19, 20), (113, 133)] (.seq (.seq .leaf (.cond .leaf .leaf)) (.seq (.wrap (.seq (.draw 9) (.cond .leaf .leaf))) .leaf))))) (.seq .leaf (.join [(21, .int .i64)] [(21, 21), (134, 153)] (.seq .leaf (.cond (.draw 12) .leaf)) (.seq (.drawH 30 [[], [], [], [], [], [], [], [], [], [], [], [], [], [], [], [], [], [], [], [], [14], [], [], [], [], [], [], [], [14, 20], []] [14, 20, 28]) (.cond (.seq .leaf .leaf) .leaf)))))))) .leaf))))) (.join [] [(8, 8), (22, 22), (186, 205)] (.seq .leaf (.wrap (.loop [(22, .int .i64)] [(8, 8), (22, 22), (186, 205)] (.seq (.seq .leaf (.cond .leaf .leaf)) (.seq (.wrap (.seq (.drawH 11 [[], [], [], [], [], [], [], [], [], [], []] [5]) (.cond (.seq .leaf .leaf) .leaf))) .leaf))))) (.seq .leaf (.join [(23, .any)] [(23, 24), (206, 233)] (.seq .leaf (.wrap (.loop [(23, .any), (24, .int .i64)] [(23, 24), (206, 233)] (.seq (.seq .leaf (.cond .leaf .leaf)) (.seq (.wrap (.seq .leaf (.cond .leaf .leaf))) .leaf))))) (.seq (.seq .leaf (.cond (.seq .leaf .leaf) .leaf)) (.seq (.seq .leaf (.wrap (.loop [(25, .int .i64)] [(8, 8), (25, 30), (239, 302)] (.seq (.seq .leaf (.cond .leaf .leaf)) (.seq (.wrap (.seq .leaf (.seq (.join [(254, .bool)] [(249, 254)] .leaf (.cond (.seq (.seq .leaf (.cond (.seq .leaf .leaf) .leaf)) .leaf) .leaf)) (.seq .leaf (.join [(28, .any)] [(28, 30), (257, 294)] (.seq .leaf (.wrap (.loop [(28, .any), (29, .int .i64)] [(28, 30), (257, 294)] (.seq (.seq .leaf (.cond .leaf .leaf)) (.seq (.wrap (.seq .leaf (.seq .leaf (.cond .leaf .leaf)))) .leaf))))) (.seq .leaf (.cond (.seq .leaf .leaf) .leaf))))))) .leaf))))) (.seq .leaf .leaf)))))))))))))))
theorem q_law07iOrsetLooks (a0 : AV) (a1 : AV) (a2 : AV) (a3 : List AV) (s : AS) (R : AV → AS → Prop) (h : Q_law07iOrsetLooks a0 a1 a2 a3 s R) : ACalls Tryz.prog F_law07iOrsetLooks [a0, a1, a2, (.agg a3)] s R :=
 ACalls.q (n := 304) (rs := [.tmp 8]) (A := A_law07iOrsetLooks) hT hmx Tryz.func4 (by kernel_rfl) rfl rfl rfl (by kernel_rfl) (by kernel_rfl) h
def Q_law07ifew (a0 : AV) (s : AS) (R : AV → AS → Prop) : Prop :=
 JoinQ fun J1 =>
 (∀ n2 : Int, ∀ s3 : AS, J1 [(.int .i64 n2)] s3 →
 RdI .i64 (alenB T Y_s_minsterlaw07iAct a0 s3) fun n4 => bsplit (decide ((n4 : Int) ≤ 100)) (R (.bool (decide ((n2 : Int) ≤ 300))) s3) (R (.bool false) s3)) ∧
 (LoopQ fun I5 m6 => I5 m6 [(.int .i64 0), (.int .i64 0)] s ∧
 ∀ m7 : Nat, ∀ n8 : Int, ∀ n9 : Int, ∀ s10 : AS, I5 m7 [(.int .i64 n8), (.int .i64 n9)] s10 →
 RdI .i64 (alenB T Y_s_minsterlaw07iAct a0 s10) fun n11 => bsplit (decide ((n9 : Int) < n11))
 (IxQ (aindexAddr T Y_s_minsterlaw07iAct a0 (.int .i64 n9)) fun l12 o13 => RdA (rd1 s10 l12 (o13 + 5)) fun v14 => RdI .i64 (alenB T Y_s_Item v14 s10) fun n15 => ∃ m', m' < m7 ∧ I5 m' [(.int .i64 (IntKind.wrap .i64 (n8 + n15))), (.int .i64 (IntKind.wrap .i64 (n9 + 1)))] s10)
 (J1 [(.int .i64 n8)] s10))
def A_law07ifew : QA := (.seq .leaf (.seq .leaf (.join [(3, .int .i64)] [(3, 18)] (.seq .leaf (.wrap (.loop [(3, .int .i64), (4, .int .i64)] [(3, 18)] (.seq (.seq .leaf (.cond .leaf .leaf)) (.seq (.wrap .leaf) .leaf))))) (.seq .leaf .leaf))))
theorem q_law07ifew (a0 : AV) (s : AS) (R : AV → AS → Prop) (h : Q_law07ifew a0 s R) : ACalls Tryz.prog F_law07ifew [a0] s R :=
 ACalls.q (n := 26) (rs := [.tmp 2]) (A := A_law07ifew) hT hmx Tryz.func24 (by kernel_rfl) rfl rfl rfl (by kernel_rfl) (by kernel_rfl) h
def Q_law07ido (a0 : Option (Nat × Nat)) (a1 : Option (Nat × Nat)) (a2 : List AV) (s : AS) (R : AV → AS → Prop) : Prop :=
 One1 a2 (NewQ (.cells a2 0 false) s fun l1 s2 => JoinQ fun J3 =>
 (∀ b4 : Bool, ∀ s5 : AS, J3 [(.bool b4)] s5 →
 RdI .i64 (rd1 s5 l1 0) fun n6 => bsplit ((n6 : Int) == 1)
 (RdL (rdc s5 l1 1 2) fun g7 => RdL (rdc s5 l1 3 2) fun g8 => ACalls Tryz.prog F_orset_Set_Add [(.ptr a0), (.agg g7), (.agg g8)] s5 fun v9 s10 => ∃ v11 : AV, ∃ n12 : Int, v9 = .tup [v11, (.int .i64 n12)] ∧ (JoinQ fun J13 =>
 (∀ b14 : Bool, ∀ s15 : AS, J13 [(.bool b14)] s15 →
 bsplit b14
 (bsplit ((n12 : Int) == 2) (RdI .i64 (alenB T Y_s_Item v11 s15) fun n16 => R (.bool ((n16 : Int) == 0)) s15) (R (.bool false) s15))
 (bsplit ((n12 : Int) == 0) (RdL (rdc s15 l1 1 2) fun g17 => RdL (rdc s15 l1 3 2) fun g18 => ACalls Tryz.prog F_ref07iSet_Add [(.ptr a1), (.agg g17), (.agg g18)] s15 fun v19 s20 => ACalls Tryz.prog F_ref07iSameItems [v11, v19] s20 fun v21 s22 => ∃ b23 : Bool, v21 = .bool b23 ∧ (R (.bool b23) s22)) (R (.bool false) s15))) ∧
 (bsplit (!b4) (J13 [(.bool true)] s10) (RdL (rdc s10 l1 3 2) fun g24 => ACalls Tryz.prog F_ref04iMay [(.agg g24)] s10 fun v25 s26 => ∃ b27 : Bool, v25 = .bool b27 ∧ (bsplit (!b27) (J13 [(.bool true)] s26) (AsSome a1 fun l28 o29 => RdL (rdc s26 l1 3 2) fun g30 => ACalls Tryz.prog F_ref04iSet_Has [(.ptr (some (l28, o29))), (.agg g30)] s26 fun v31 s32 => ∃ b33 : Bool, v31 = .bool b33 ∧ (J13 [(.bool b33)] s32)))))))
 (bsplit ((n6 : Int) == 2)
 (RdL (rdc s5 l1 1 2) fun g34 => ACalls Tryz.prog F_orset_Set_Remove [(.ptr a0), (.agg g34)] s5 fun v35 s36 => ∃ v37 : AV, ∃ n38 : Int, v35 = .tup [v37, (.int .i64 n38)] ∧ (bsplit (!b4)
 (bsplit ((n38 : Int) == 2) (RdI .i64 (alenB T Y_s_Item v37 s36) fun n39 => R (.bool ((n39 : Int) == 0)) s36) (R (.bool false) s36))
 (bsplit ((n38 : Int) == 0) (RdL (rdc s36 l1 1 2) fun g40 => ACalls Tryz.prog F_ref07iSet_Remove [(.ptr a1), (.agg g40)] s36 fun v41 s42 => ACalls Tryz.prog F_ref07iSameItems [v37, v41] s42 fun v43 s44 => ∃ b45 : Bool, v43 = .bool b45 ∧ (R (.bool b45) s44)) (R (.bool false) s36))))
 (bsplit ((n6 : Int) == 3)
 (RdA (rd1 s5 l1 5) fun v46 => ACalls Tryz.prog F_orset_Set_See [(.ptr a0), v46] s5 fun v47 s48 => ∃ b49 : Bool, ∃ n50 : Int, v47 = .tup [(.bool b49), (.int .i64 n50)] ∧ (JoinQ fun J51 =>
 (∀ s52 : AS, J51 [] s52 →
 JoinQ fun J53 =>
 (∀ b54 : Bool, ∀ s55 : AS, J53 [(.bool b54)] s55 →
 bsplit ((n50 : Int) == 0) (R (.bool ((b49 : Bool) == b54)) s55) (R (.bool false) s55)) ∧
 (LoopQ fun I56 m57 => I56 m57 [(.bool false), (.int .i64 0)] s52 ∧
 ∀ m58 : Nat, ∀ b59 : Bool, ∀ n60 : Int, ∀ s61 : AS, I56 m58 [(.bool b59), (.int .i64 n60)] s61 →
 RdA (rd1 s61 l1 5) fun v62 => RdI .i64 (alenB T Y_s_Item v62 s61) fun n63 => bsplit (decide ((n60 : Int) < n63))
 (RdA (rd1 s61 l1 5) fun v64 => IxQ (aindexAddr T Y_s_Item v64 (.int .i64 n60)) fun l65 o66 => RdL (rdc s61 l65 o66 5) fun g67 => ACalls Tryz.prog F_ref07iSet_See [(.ptr a1), (.agg g67)] s61 fun v68 s69 => ∃ b70 : Bool, v68 = .bool b70 ∧ (bsplit b70
 (∃ m', m' < m58 ∧ I56 m' [(.bool true), (.int .i64 (IntKind.wrap .i64 (n60 + 1)))] s69)
 (∃ m', m' < m58 ∧ I56 m' [(.bool b59), (.int .i64 (IntKind.wrap .i64 (n60 + 1)))] s69)))
 (J53 [(.bool b59)] s61))) ∧
 (LoopQ fun I71 m72 => I71 m72 [(.int .i64 0)] s48 ∧
 ∀ m73 : Nat, ∀ n74 : Int, ∀ s75 : AS, I71 m73 [(.int .i64 n74)] s75 →
 RdA (rd1 s75 l1 5) fun v76 => RdI .i64 (alenB T Y_s_Item v76 s75) fun n77 => bsplit (decide ((n74 : Int) < n77))
 (RdA (rd1 s75 l1 5) fun v78 => IxQ (aindexAddr T Y_s_Item v78 (.int .i64 n74)) fun l79 o80 => RdL (rdc s75 l79 o80 5) fun g81 => ACalls Tryz.prog F_ref07iMay [(.agg g81)] s75 fun v82 s83 => ∃ b84 : Bool, v82 = .bool b84 ∧ (bsplit (!b84)
 (bsplit ((n50 : Int) == 2) (R (.bool (!b49)) s83) (R (.bool false) s83))
 (∃ m', m' < m73 ∧ I71 m' [(.int .i64 (IntKind.wrap .i64 (n74 + 1)))] s83)))
 (J51 [] s75))))
 (bsplit ((n6 : Int) == 4)
 (RdL (rdc s5 l1 3 2) fun g85 => ACalls Tryz.prog F_orset_Set_Collect [(.ptr a0), (.agg g85)] s5 fun v86 s87 => ∃ n88 : Int, v86 = .int .i64 n88 ∧ (RdL (rdc s87 l1 3 2) fun g89 => ACalls Tryz.prog F_ref04iMay [(.agg g89)] s87 fun v90 s91 => ∃ b92 : Bool, v90 = .bool b92 ∧ (bsplit (!b92)
 (R (.bool ((n88 : Int) == 2)) s91)
 (RdL (rdc s91 l1 3 2) fun g93 => ACalls Tryz.prog F_ref07iSet_Collect [(.ptr a1), (.agg g93)] s91 fun v94 s95 => ∃ b96 : Bool, v94 = .bool b96 ∧ (bsplit (!b96)
 (R (.bool ((n88 : Int) == 6)) s95)
 (R (.bool ((n88 : Int) == 0)) s95))))))
 (R (.bool true) s5))))) ∧
 (RdS (rd1 s2 l1 1) fun x97 => ACalls Tryz.prog F_ref07iName [(.str x97)] s2 fun v98 s99 => ∃ b100 : Bool, v98 = .bool b100 ∧ (bsplit b100 (RdS (rd1 s99 l1 2) fun x101 => ACalls Tryz.prog F_ref07iName [(.str x101)] s99 fun v102 s103 => ∃ b104 : Bool, v102 = .bool b104 ∧ (J3 [(.bool b104)] s103)) (J3 [(.bool false)] s99))))
def A_law07ido : QA := (.seq .leaf (.join [(7, .bool)] [(7, 7), (18, 27)] .leaf (.seq (.seq .leaf (.wrap (.seq .leaf (.cond (.seq .leaf (.seq (.join [(56, .bool)] [(41, 56)] .calm (.cond (.seq .leaf .leaf) .leaf)) (.seq .leaf .leaf))) (.seq .leaf (.cond (.seq .leaf (.seq (.seq .leaf (.cond (.seq .leaf .leaf) .leaf)) (.seq .leaf .leaf))) (.seq .leaf (.cond (.seq .leaf (.join [] [(6, 6), (14, 14), (113, 132)] (.seq .leaf (.wrap (.loop [(14, .int .i64)] [(6, 6), (14, 14), (113, 132)] (.seq (.seq .leaf (.cond .leaf .leaf)) (.seq (.wrap (.seq .leaf (.cond (.seq .leaf .leaf) .leaf))) .leaf))))) (.seq .leaf (.join [(15, .bool)] [(15, 16), (133, 146)] (.seq .leaf (.wrap (.loop [(15, .bool), (16, .int .i64)] [(15, 16), (133, 146)] (.seq (.seq .leaf (.cond .leaf .leaf)) (.seq (.wrap (.seq .leaf (.cond .leaf .leaf))) .leaf))))) (.seq .leaf .leaf))))) (.seq .leaf (.cond (.seq .leaf (.seq (.seq .leaf (.cond (.seq .leaf .leaf) .leaf)) (.seq (.seq .leaf (.cond (.seq .leaf .leaf) .leaf)) (.seq .leaf .leaf)))) .leaf)))))))))) (.seq .leaf .leaf))))
theorem q_law07ido (a0 : Option (Nat × Nat)) (a1 : Option (Nat × Nat)) (a2 : List AV) (s : AS) (R : AV → AS → Prop) (h : Q_law07ido a0 a1 a2 s R) : ACalls Tryz.prog F_law07ido [(.ptr a0), (.ptr a1), (.agg a2)] s R :=
 ACalls.q (n := 175) (rs := [.tmp 6]) (A := A_law07ido) hT hmx Tryz.func25 (by kernel_rfl) rfl rfl rfl (by kernel_rfl) (by kernel_rfl) h
end Go.Proofs.YtoklmpkpeanloaaGreat
end

section
namespace Go.Proofs.YtoklmpkpeanloaaGreat
open Go.Am Go.Minster Go.Minster2
structure A07 where
 kind : Int
 key : Key
 dot : Dot
 av : AV
 items : List Itm
def act7 (a : A07) : List AV := [.int .i64 a.kind, .str a.key.t, .str a.key.d, .int .i64 a.dot.r, .int .u64 a.dot.c, a.av]
structure Act7 (s : AS) (a : A07) : Prop where
 one : a.av.one = true
 it : Sl itemC 5 s a.av a.items
theorem Act7.ext {s s' : AS} {a : A07} (h : Act7 s a) (e : Ext s s') : Act7 s' a := ⟨h.one, h.it.ext e⟩
structure Pair2 (s0 s : AS) (p q : Nat) (x y : OSet) (B : Nat) : Prop where
 e : Ext s0 s
 mem : ∃ F G, SetO s0 s F p x B ∧ RefO G s q y ∧ (∀ z ∈ G, s0.h z = none) ∧ (∀ z ∈ G, s.h z ≠ none) ∧ Dj F G
section
variable {s0 s s' : AS} {p q : Nat} {x y : OSet} {B : Nat}
theorem Pair2.ext (h : Pair2 s0 s p q x y B) (e : Ext s s') : Pair2 s0 s' p q x y B := by
 obtain ⟨e0, F, G, h1, h2, h3, h4, h5⟩ := h
 exact ⟨e0.trans e, F, G, h1.ext e, h2.ext e, h3, fun z hz hn => h4 z hz (e.none hn), h5⟩
theorem Pair2.ok (h : Pair2 s0 s p q x y B) : OOk x B := by obtain ⟨e0, F, G, h1, _⟩ := h; exact h1.ok
theorem Pair2.mono {B' : Nat} (h : Pair2 s0 s p q x y B) (hb : B ≤ B') : Pair2 s0 s p q x y B' := by
 obtain ⟨e0, F, G, h1, h2⟩ := h
 exact ⟨e0, F, G, ⟨h1.set, h1.ok.mono hb, h1.new, h1.there⟩, h2⟩
theorem Pair2.set {F G F' L : List Nat} {x' : OSet} {B' : Nat} (h1 : SetO s0 s F p x B) (h2 : RefO G s q y) (h3 : ∀ z ∈ G, s0.h z = none) (h4 : ∀ z ∈ G, s.h z ≠ none) (h5 : Dj F G) (hL : ∀ z ∈ L, z ∈ F) (m : Mut L s s') (e' : Ext s0 s') (hA : SetO s0 s' F' p x' B') (hF : ∀ z ∈ F', z ∈ F ∨ s.h z = none) : Pair2 s0 s' p q x' y B' :=
 ⟨e', F', G, hA, h2.mut m (h5.sub hL), h3, there_mut h4 m (h5.sub hL), h5.step h4 hF⟩
theorem Pair2.setR {F G G' : List Nat} {y' : OSet} (e0 : Ext s0 s) (h1 : SetO s0 s F p x B) (h2 : RefO G s q y) (h3 : ∀ z ∈ G, s0.h z = none) (h5 : Dj F G) (m : Mut [q] s s') (hR : RefO G' s' q y') (hn : ∀ z ∈ G', z ∈ G ∨ s.h z = none) (ht : ∀ z ∈ G', s'.h z ≠ none) : Pair2 s0 s' p q x y' B := by
 have hqG : ∀ z ∈ [q], z ∈ G := by simpa using h2.qF
 refine ⟨Ext.wr e0 (h3 q h2.qF) m, F, G', h1.keep m (h5.symm.sub hqG), hR, fun z hz => ?_, ht, ?_⟩
 ·rcases hn z hz with h | h
  ·exact h3 z h
  ·exact e0.none h
 ·intro z hz hg
  rcases hn z hg with h | h
  ·exact h5 z hz h
  ·exact h1.there z hz h
theorem Pair2.pnew (h : Pair2 s0 s p q x y B) : s0.h p = none ∧ s.h p ≠ none := by
 obtain ⟨e0, F, G, h1, h2, h3, h4, h5⟩ := h
 exact ⟨h1.new _ h1.set.pF, h1.there _ h1.set.pF⟩
theorem Pair2.qnew (h : Pair2 s0 s p q x y B) : s0.h q = none ∧ s.h q ≠ none := by
 obtain ⟨e0, F, G, h1, h2, h3, h4, h5⟩ := h
 exact ⟨h3 _ h2.qF, h4 _ h2.qF⟩
theorem Pair2.Add (h : Pair2 s0 s p q x y B) (hB : B ≤ 500) (k : Key) (d : Dot) (hk : k.may = true) (hd : d.may = true) (hn : x.has d = false) :
  ACalls Tryz.prog F_orset_Set_Add [.ptr (some (p, 0)), .agg (keyC k), .agg (dotC d)] s fun r s' => ∃ v l x', x' = (x.sees (⟨d, k, false⟩ :: l.map goneI)).2 ∧ KD x k l ∧ r = .tup [v, .int .i64 0] ∧ Sl itemC 5 s' v (⟨d, k, false⟩ :: l.map goneI) ∧ Mut [p] s s' ∧ Pair2 s0 s' p q x' y (B + 1) := by
 obtain ⟨e0, F, G, h1, h2, h3, h4, h5⟩ := h
 refine (h1.Add e0 hB k d hk hd hn).mono ?_
 rintro r s' ⟨v, l, kd, rfl, hs, m, E, F', x', hx, A, hF⟩
 exact ⟨v, l, x', hx, kd.kd, rfl, hs, m, Pair2.set h1 h2 h3 h4 h5 (by simpa using h1.set.pF) m E A hF⟩
theorem Pair2.Remove (h : Pair2 s0 s p q x y B) (hB : B ≤ 500) (k : Key) (hk : k.may = true) :
  ACalls Tryz.prog F_orset_Set_Remove [.ptr (some (p, 0)), .agg (keyC k)] s fun r s' => ∃ v l x', x' = (x.sees (l.map goneI)).2 ∧ KD x k l ∧ r = .tup [v, .int .i64 0] ∧ Sl itemC 5 s' v (l.map goneI) ∧ Mut [p] s s' ∧ Pair2 s0 s' p q x' y B := by
 obtain ⟨e0, F, G, h1, h2, h3, h4, h5⟩ := h
 refine (h1.Remove e0 hB k hk).mono ?_
 rintro r s' ⟨v, l, kd, rfl, hs, m, E, F', x', hx, A, hF⟩
 exact ⟨v, l, x', hx, kd.kd, rfl, hs, m, Pair2.set h1 h2 h3 h4 h5 (by simpa using h1.set.pF) m E A hF⟩
theorem Pair2.See (h : Pair2 s0 s p q x y B) {a : AV} {l : List Itm} (hl : Sl itemC 5 s a l) (hB : B + l.length ≤ 1000) (hm : ∀ i ∈ l, i.may = true) :
  ACalls Tryz.prog F_orset_Set_See [.ptr (some (p, 0)), a] s fun r s' => ∃ x', x' = (x.sees l).2 ∧ r = .tup [.bool (x.sees l).1, .int .i64 0] ∧ Mut [p] s s' ∧ Pair2 s0 s' p q x' y (B + l.length) := by
 obtain ⟨e0, F, G, h1, h2, h3, h4, h5⟩ := h
 refine (h1.See e0 hl hB hm).mono ?_
 rintro r s' ⟨rfl, m, E, F', x', hx, A, hF⟩
 exact ⟨x', hx, rfl, m, Pair2.set h1 h2 h3 h4 h5 (by simpa using h1.set.pF) m E A hF⟩
theorem Pair2.See_bad (h : Pair2 s0 s p q x y B) {a : AV} {l : List Itm} (hl : Sl itemC 5 s a l) (hn : l.length ≤ 2 ^ 40) (hm : ¬ ∀ i ∈ l, i.may = true) :
  ACalls Tryz.prog F_orset_Set_See [.ptr (some (p, 0)), a] s fun r s' => r = .tup [.bool false, .int .i64 2] ∧ Ext s s' := by
 obtain ⟨e0, F, G, h1, h2, h3, h4, h5⟩ := h
 exact Go.Proofs.YtoklmpkpeanloaaGreat.See_bad h1.set hl hn hm
theorem Pair2.Collect (h : Pair2 s0 s p q x y B) (d : Dot) :
  ACalls Tryz.prog F_orset_Set_Collect [.ptr (some (p, 0)), .agg (dotC d)] s fun r s' => ∃ x', x' = (if d.may && x.tomb d then x.coll d else x) ∧ r = .int .i64 (if d.may then (if x.tomb d then 0 else 6) else 2) ∧ Pair2 s0 s' p q x' y B ∧ ∀ l cs, At s l cs → At s' l cs := by
 obtain ⟨e0, F, G, h1, h2, h3, h4, h5⟩ := id h
 refine (Collect_ok h1.set h1.there d).mono ?_
 rintro r s' (⟨c1, rfl, e⟩ | ⟨c1, c2, rfl, e⟩ | ⟨c1, c2, rfl, hS, ht, m, hm, mm, hC⟩)
 ·exact ⟨x, by simp [c1], by simp [c1], h.ext e, fun _ _ h => h.ext e⟩
 ·exact ⟨x, by simp [c1, c2], by simp [c1, c2], h.ext e, fun _ _ h => h.ext e⟩
 ·exact ⟨x.coll d, by simp [c1, c2], by simp [c1, c2], Pair2.set h1 h2 h3 h4 h5 (by simpa using hm) mm (Ext.wr e0 (h1.new m hm) mm) ⟨hS, h1.ok.coll d, h1.new, ht⟩ fun z hz => .inl hz, fun l cs hl => hl.mut mm (by simp only [List.mem_singleton]; rintro rfl; exact hC _ hl)⟩
theorem Pair2.rAdd {C : Nat} (h : Pair2 s0 s p q x y B) (o : OOk y C) (hC : C ≤ 450) (k : Key) (d : Dot) (hk : k.may = true) (hd : d.may = true) :
  ACalls Tryz.prog F_ref07iSet_Add [.ptr (some (q, 0)), .agg (keyC k), .agg (dotC d)] s fun v s' => ∃ l, KD y k l ∧ Sl itemC 5 s' v (⟨d, k, false⟩ :: l.map goneI) ∧ Mut [q] s s' ∧ Pair2 s0 s' p q x (y.sees (⟨d, k, false⟩ :: l.map goneI)).2 B := by
 obtain ⟨e0, F, G, h1, h2, h3, h4, h5⟩ := h
 refine (ref_Add_ok h2 o h4 hC k d hk hd).mono ?_
 rintro v s' ⟨l, kd, hs, m, G', hR, hn, ht⟩
 exact ⟨l, kd, hs, m, Pair2.setR e0 h1 h2 h3 h5 m hR hn ht⟩
theorem Pair2.rRemove {C : Nat} (h : Pair2 s0 s p q x y B) (o : OOk y C) (hC : C ≤ 450) (k : Key) :
  ACalls Tryz.prog F_ref07iSet_Remove [.ptr (some (q, 0)), .agg (keyC k)] s fun v s' => ∃ l, KD y k l ∧ Sl itemC 5 s' v (l.map goneI) ∧ Mut [q] s s' ∧ Pair2 s0 s' p q x (y.sees (l.map goneI)).2 B := by
 obtain ⟨e0, F, G, h1, h2, h3, h4, h5⟩ := h
 refine (ref_Remove_ok h2 o h4 hC k).mono ?_
 rintro v s' ⟨l, kd, hs, m, G', hR, hn, ht⟩
 exact ⟨l, kd, hs, m, Pair2.setR e0 h1 h2 h3 h5 m hR hn ht⟩
theorem Pair2.rSee {C : Nat} (h : Pair2 s0 s p q x y B) (o : OOk y C) (hC : C ≤ 1000) (i : Itm) (hi : i.may = true) :
  ACalls Tryz.prog F_ref07iSet_See [.ptr (some (q, 0)), .agg (itemC i)] s fun r s' => r = .bool (y.see i).1 ∧ Mut [q] s s' ∧ Pair2 s0 s' p q x (y.see i).2 B := by
 obtain ⟨e0, F, G, h1, h2, h3, h4, h5⟩ := h
 refine (ref_See_ok h2 o hC h4 i hi).mono ?_
 rintro r s' ⟨rfl, m, G', hR, hn, ht⟩
 exact ⟨rfl, m, Pair2.setR e0 h1 h2 h3 h5 m hR hn ht⟩
theorem Pair2.rCollect {C : Nat} (h : Pair2 s0 s p q x y B) (o : OOk y C) (hC : C ≤ 1000) (d : Dot) :
  ACalls Tryz.prog F_ref07iSet_Collect [.ptr (some (q, 0)), .agg (dotC d)] s fun r s' => r = .bool (y.tomb d) ∧ Pair2 s0 s' p q x (if y.tomb d then y.coll d else y) B := by
 obtain ⟨e0, F, G, h1, h2, h3, h4, h5⟩ := id h
 refine (ref_Collect_ok h2 o h4 hC d).mono ?_
 rintro r s' (⟨c, rfl, e⟩ | ⟨c, rfl, m, G', hR, hn, ht⟩)
 ·rw [c]; exact ⟨rfl, h.ext e⟩
 ·rw [c]; exact ⟨rfl, Pair2.setR e0 h1 h2 h3 h5 m hR hn ht⟩
theorem Pair2.rHas {C : Nat} (h : Pair2 s0 s p q x y B) (o : OOk y C) (hC : C ≤ 1000) (d : Dot) :
  ACalls Tryz.prog F_ref04iSet_Has [.ptr (some (q, 0)), .agg (dotC d)] s fun r s' => r = .bool (y.has d) ∧ Ext s s' := by
 obtain ⟨e0, F, G, h1, h2, h3, h4, h5⟩ := h
 obtain ⟨w, iw, I, _, _, _, _, _, hT⟩ := h2.open
 have hex := o.exlen
 exact ref_Has_T hT (by omega) d
theorem Pair2.keepI (h : Pair2 s0 s p q x y B) {v : AV} {l : List Itm} (hs : Sl itemC 5 s v l) (m : Mut [q] s s') : Sl itemC 5 s' v l := by
 obtain ⟨e0, F, G, h1, h2, h3, h4, h5⟩ := h
 exact h2.keepI hs m
theorem SetO.Add_bad {F : List Nat} (h : SetO s0 s F p x B) (hB : B ≤ 500) (k : Key) (d : Dot) (hc : ¬ (k.may = true ∧ d.may = true ∧ x.has d = false)) :
  ACalls Tryz.prog F_orset_Set_Add [.ptr (some (p, 0)), .agg (keyC k), .agg (dotC d)] s fun r s' => r = .tup [.slc none 0 0 true, .int .i64 2] ∧ Ext s s' := by
 obtain ⟨b1, b2⟩ := h.bnd
 refine (Add_ok h.set k d h.ok.lmay (by omega) (by omega) (by omega)).mono ?_
 rintro r s' (⟨_, rfl, e⟩ | ⟨h2, _⟩)
 ·exact ⟨rfl, e⟩
 ·exact absurd h2 hc
theorem SetO.Remove_bad {F : List Nat} (h : SetO s0 s F p x B) (hB : B ≤ 500) (k : Key) (hk : k.may = false) :
  ACalls Tryz.prog F_orset_Set_Remove [.ptr (some (p, 0)), .agg (keyC k)] s fun r s' => r = .tup [.slc none 0 0 true, .int .i64 2] ∧ Ext s s' := by
 obtain ⟨b1, b2⟩ := h.bnd
 refine (Remove_ok h.set k h.ok.lmay (by omega) (by omega) (by omega)).mono ?_
 rintro r s' (⟨_, rfl, e⟩ | ⟨h2, _⟩)
 ·exact ⟨rfl, e⟩
 ·rw [hk] at h2; cases h2
end
theorem sees_take {x : OSet} {L : List Itm} {i : Nat} {y : Itm} (hy : L[i]? = some y) : x.sees (L.take (i + 1)) = ((x.sees (L.take i)).1 || ((x.sees (L.take i)).2.see y).1, ((x.sees (L.take i)).2.see y).2) := by
 unfold OSet.sees
 rw [List.take_add_one, hy, Option.toList_some, List.foldl_append]
 rfl
theorem Pair2.Add_bad {s0 s : AS} {p q : Nat} {x y : OSet} {B : Nat} (h : Pair2 s0 s p q x y B) (hB : B ≤ 500) (k : Key) (d : Dot) (hc : ¬ (k.may = true ∧ d.may = true ∧ x.has d = false)) :
  ACalls Tryz.prog F_orset_Set_Add [.ptr (some (p, 0)), .agg (keyC k), .agg (dotC d)] s fun r s' => r = .tup [.slc none 0 0 true, .int .i64 2] ∧ Ext s s' := by
 obtain ⟨e0, F, G, h1, h2, h3, h4, h5⟩ := h
 exact h1.Add_bad hB k d hc
theorem Pair2.Remove_bad {s0 s : AS} {p q : Nat} {x y : OSet} {B : Nat} (h : Pair2 s0 s p q x y B) (hB : B ≤ 500) (k : Key) (hk : k.may = false) :
  ACalls Tryz.prog F_orset_Set_Remove [.ptr (some (p, 0)), .agg (keyC k)] s fun r s' => r = .tup [.slc none 0 0 true, .int .i64 2] ∧ Ext s s' := by
 obtain ⟨e0, F, G, h1, h2, h3, h4, h5⟩ := h
 exact h1.Remove_bad hB k hk
set_option maxRecDepth 100000 in
set_option maxHeartbeats 4000000 in
theorem do_ok {s0 s : AS} {p q : Nat} {x : OSet} {B : Nat} (h : Pair2 s0 s p q x x B) (a : A07) (ha : Act7 s0 a) (hB : B + 1 + a.items.length ≤ 450) :
  ACalls Tryz.prog F_law07ido [.ptr (some (p, 0)), .ptr (some (q, 0)), .agg (act7 a)] s fun r s' => r = .bool true ∧ ∃ x', Pair2 s0 s' p q x' x' (B + 1 + a.items.length) := by
 have hone : (act7 a).all AV.one = true := by simp only [act7, List.all_cons, List.all_nil, ha.one]; rfl
 refine ACalls.pre fun hw => q_law07ido _ _ _ _ _ ⟨hone, NewQ.intro hw rfl fun l1 s2 F2 => ?_⟩
 have h2 := h.ext F2.ext
 have l1new : s.h l1 = none := F2.no
 have c1 : At s2 l1 (act7 a) := F2.own.at
 refine ⟨fun vs s' => s' = s2 ∧ vs = [.bool a.key.may], ?_, a.key.t, by rw [c1.rd1]; rfl, ?_⟩
 rotate_left
 ·refine ACalls.use (refName_ok _ _) ?_
  rintro v s' ⟨rfl, rfl⟩ _
  refine ⟨_, rfl, bsplit.mk (fun h1 => ⟨a.key.d, by rw [c1.rd1]; rfl, ?_⟩) (fun h1 => ⟨rfl, by simp [Key.may, h1]⟩)⟩
  refine ACalls.use (refName_ok _ _) ?_
  rintro v s' ⟨rfl, rfl⟩ _
  exact ⟨_, rfl, rfl, by simp [Key.may, h1]⟩
 rintro b s5 ⟨rfl, hb⟩
 simp only [List.cons.injEq, AV.bool.injEq, and_true] at hb
 subst hb
 have hlp : l1 ∉ [p] := by
  simp only [List.mem_singleton]
  rintro rfl
  exact h.pnew.2 l1new
 have hlq : l1 ∉ [q] := by
  simp only [List.mem_singleton]
  rintro rfl
  exact h.qnew.2 l1new
 have kr : ∀ {s' : AS}, At s' l1 (act7 a) → rdc s' l1 1 2 = some (keyC a.key) := fun c => by rw [c.rdc (by simp [act7])]; rfl
 have dr : ∀ {s' : AS}, At s' l1 (act7 a) → rdc s' l1 3 2 = some (dotC a.dot) := fun c => by rw [c.rdc (by simp [act7])]; rfl
 have ar : ∀ {s' : AS}, At s' l1 (act7 a) → rd1 s' l1 5 = some a.av := fun c => by rw [c.rd1]; rfl
 have okx := h2.ok
 have nillen : ∀ s', alenB T Y_s_Item (.slc none 0 0 true) s' = some (.int .i64 0) := fun s' => by simp [alenB, u_s_Item]
 refine ⟨a.kind, by rw [c1.rd1]; rfl, bsplit.mk (fun hk1 => ?_) (fun hk1 => bsplit.mk (fun hk2 => ?_) (fun hk2 => bsplit.mk (fun hk3 => ?_) (fun hk3 => bsplit.mk (fun hk4 => ?_) (fun hk4 => ⟨rfl, x, h2.mono (by omega)⟩))))⟩
 ·
  refine ⟨_, kr c1, _, dr c1, ?_⟩
  have cond : ∀ {s10 : AS} {y : OSet} {B' : Nat} (J : List AV → AS → Prop), Pair2 s0 s10 p q y x B' → At s10 l1 (act7 a) → WFs s10 → (∀ s', Ext s10 s' → WFs s' → J [.bool !(a.key.may && a.dot.may && !x.has a.dot)] s') →
    bsplit (!a.key.may) (J [(.bool true)] s10) (RdL (rdc s10 l1 3 2) fun g24 => ACalls Tryz.prog F_ref04iMay [(.agg g24)] s10 fun v25 s26 => ∃ b27 : Bool, v25 = .bool b27 ∧ (bsplit (!b27) (J [(.bool true)] s26) (AsSome (some (q, 0)) fun l28 o29 => RdL (rdc s26 l1 3 2) fun g30 => ACalls Tryz.prog F_ref04iSet_Has [(.ptr (some (l28, o29))), (.agg g30)] s26 fun v31 s32 => ∃ b33 : Bool, v31 = .bool b33 ∧ (J [(.bool b33)] s32)))) := by
   intro s10 y B' J hp c10 w10 hJ
   refine bsplit.mk (fun hb => ?_) (fun hb => ⟨_, dr c10, ?_⟩)
   ·simp only [Bool.not_eq_true'] at hb
    have := hJ s10 (Ext.refl _) w10
    rw [hb] at this; exact this
   simp only [Bool.not_eq_false'] at hb
   refine ACalls.use (ref04iMay_ok _ _) ?_
   rintro v s26 ⟨rfl, e26⟩ w26
   refine ⟨_, rfl, bsplit.mk (fun hb2 => ?_) (fun hb2 => ⟨_, dr (c10.ext e26), ?_⟩)⟩
   ·simp only [Bool.not_eq_true'] at hb2
    have := hJ s26 e26 w26
    rw [hb, hb2] at this; exact this
   simp only [Bool.not_eq_false'] at hb2
   refine ACalls.use ((hp.ext e26).rHas okx (by omega) a.dot) ?_
   rintro v s32 ⟨rfl, e32⟩ w32
   refine ⟨_, rfl, ?_⟩
   have := hJ s32 (e26.trans e32) w32
   rw [hb, hb2] at this
   simpa using this
  by_cases hc : a.key.may = true ∧ a.dot.may = true ∧ x.has a.dot = false
  ·refine ACalls.use (h2.Add (by omega) a.key a.dot hc.1 hc.2.1 hc.2.2) ?_
   rintro v s10 ⟨v11, l, x', hx', kd, rfl, hs10, m10, p10⟩ w10
   have c10 : At s10 l1 (act7 a) := c1.mut m10 hlp
   refine ⟨_, _, rfl, fun vs s' => vs = [.bool false] ∧ Ext s10 s' ∧ WFs s', ?_, cond (fun vs s' => vs = [.bool false] ∧ Ext s10 s' ∧ WFs s') p10 c10 w10 fun s' e w => ⟨by rw [hc.1, hc.2.1, hc.2.2]; rfl, e, w⟩⟩
   rintro b s15 ⟨hb, e15, w15⟩
   obtain rfl : b = false := by simpa using hb
   have p15 := p10.ext e15
   refine bsplit.no rfl (bsplit.yes rfl ⟨_, kr (c10.ext e15), _, dr (c10.ext e15), ?_⟩)
   refine ACalls.use (p15.rAdd okx (by omega) a.key a.dot hc.1 hc.2.1) ?_
   rintro v19 s20 ⟨l', kd', hs20, m20, p20⟩ w20
   obtain rfl := kd'.uniq kd
   have hln := kd.len okx
   refine ACalls.use (SameItems_ok (p15.keepI (hs10.ext e15) m20) hs20 (by simp; omega)) ?_
   rintro v s22 ⟨rfl, rfl⟩ _
   refine ⟨_, rfl, by simp, x', ?_⟩
   rw [← hx'] at p20
   exact p20.mono (by omega)
  ·refine ACalls.use (h2.Add_bad (by omega) a.key a.dot hc) ?_
   rintro v s10 ⟨rfl, e10⟩ w10
   have p10 := h2.ext e10
   refine ⟨_, _, rfl, fun vs s' => vs = [.bool true] ∧ Ext s10 s' ∧ WFs s', ?_, cond (fun vs s' => vs = [.bool true] ∧ Ext s10 s' ∧ WFs s') p10 (c1.ext e10) w10 fun s' e w => ⟨?_, e, w⟩⟩
   ·rintro b s15 ⟨hb, e15, w15⟩
    obtain rfl : b = true := by simpa using hb
    exact bsplit.yes rfl (bsplit.yes rfl ⟨_, nillen _, rfl, x, (p10.ext e15).mono (by omega)⟩)
   ·congr 2
    cases h1 : a.key.may with
    | false => rfl
    | true =>
     cases h2 : a.dot.may with
     | false => rfl
     | true =>
      cases h3 : x.has a.dot with
      | true => rfl
      | false => exact absurd ⟨h1, h2, h3⟩ hc
 ·
  refine ⟨_, kr c1, ?_⟩
  cases hkm : a.key.may with
  | true =>
   refine ACalls.use (h2.Remove (by omega) a.key hkm) ?_
   rintro v s36 ⟨v37, l, x', hx', kd, rfl, hs36, m36, p36⟩ w36
   have c36 : At s36 l1 (act7 a) := c1.mut m36 hlp
   refine ⟨_, _, rfl, bsplit.no rfl (bsplit.yes rfl ⟨_, kr c36, ?_⟩)⟩
   refine ACalls.use (p36.rRemove okx (by omega) a.key) ?_
   rintro v41 s42 ⟨l', kd', hs42, m42, p42⟩ w42
   obtain rfl := kd'.uniq kd
   have hln := kd.len okx
   refine ACalls.use (SameItems_ok (p36.keepI hs36 m42) hs42 (by simp; omega)) ?_
   rintro v s22 ⟨rfl, rfl⟩ _
   refine ⟨_, rfl, by simp, x', ?_⟩
   rw [← hx'] at p42
   exact p42.mono (by omega)
  | false =>
   refine ACalls.use (h2.Remove_bad (by omega) a.key hkm) ?_
   rintro v s36 ⟨rfl, e36⟩ w36
   exact ⟨_, _, rfl, bsplit.yes rfl (bsplit.yes rfl ⟨_, nillen _, rfl, x, (h2.ext e36).mono (by omega)⟩)⟩
 ·
  have it2 := ha.it.ext h2.e
  refine ⟨a.av, ar c1, ?_⟩
  by_cases hall : ∀ i ∈ a.items, i.may = true
  ·refine ACalls.use (h2.See it2 (by omega) hall) ?_
   rintro v s48 ⟨x', hx', rfl, m48, p48⟩ w48
   have c48 : At s48 l1 (act7 a) := c1.mut m48 hlp
   refine ⟨_, _, rfl, fun vs s' => vs = [] ∧ Ext s48 s' ∧ WFs s', ?_, fun m vs s' => ∃ i : Nat, vs = [.int .i64 (i : Nat)] ∧ i ≤ a.items.length ∧ m = a.items.length - i ∧ Ext s48 s' ∧ WFs s', a.items.length, ⟨0, rfl, by omega, rfl, Ext.refl _, w48⟩, ?_⟩
   ·rintro s52 ⟨_, e52, w52⟩
    have p52 := p48.ext e52
    have c52 := c48.ext e52
    refine ⟨fun vs s' => vs = [.bool (x.sees a.items).1] ∧ Pair2 s0 s' p q x' x' (B + a.items.length), ?_, fun m vs s' => ∃ i : Nat, vs = [.bool (x.sees (a.items.take i)).1, .int .i64 (i : Nat)] ∧ i ≤ a.items.length ∧ m = a.items.length - i ∧ WFs s' ∧ At s' l1 (act7 a) ∧ Pair2 s0 s' p q x' (x.sees (a.items.take i)).2 (B + a.items.length), a.items.length, ⟨0, rfl, by omega, rfl, w52, c52, p52⟩, ?_⟩
    ·rintro b s55 ⟨hb, p55⟩
     obtain rfl : b = (x.sees a.items).1 := by simpa using hb
     exact bsplit.yes rfl ⟨by simp, x', p55.mono (by omega)⟩
    ·rintro m b n s61 ⟨i, hi, h6, rfl, w61, c61, p61⟩
     simp only [List.cons.injEq, AV.int.injEq, AV.bool.injEq, true_and, and_true] at hi
     obtain ⟨rfl, rfl⟩ := hi
     have it61 := ha.it.ext p61.e
     refine ⟨a.av, ar c61, _, it61.lenB u_s_Item _, bsplit.dec (fun hlt => ?_) (fun hge => ?_)⟩
     ·obtain ⟨y, hy⟩ := get_lt (l := a.items) (i := i) (by omega)
      obtain ⟨ly, oy, k8, k9⟩ := it61.ix (by decide) itemC_len u_s_Item z_Item hy
      have ok : OOk (x.sees (a.items.take i)).2 (B + (a.items.take i).length) := okx.sees _ fun j hj => hall j (List.mem_of_mem_take hj)
      have hti : (a.items.take i).length ≤ a.items.length := by rw [List.length_take]; omega
      refine ⟨a.av, ar c61, ly, oy, k8 _, _, (k9 _ (Ext.refl _)).2, ?_⟩
      refine ACalls.use (p61.rSee ok (by omega) y (hall y (List.mem_of_getElem? hy))) ?_
      rintro v s69 ⟨rfl, m69, p69⟩ w69
      have hst := sees_take (x := x) hy
      have c69 := c61.mut m69 hlq
      refine ⟨_, rfl, bsplit.mk (fun hb => ?_) (fun hb => ?_)⟩
      ·exact ⟨a.items.length - (i + 1), by omega, i + 1, by rw [wrap_i (by omega), hst, hb]; simp, by omega, rfl, w69, c69, by rw [hst]; exact p69⟩
      ·exact ⟨a.items.length - (i + 1), by omega, i + 1, by rw [wrap_i (by omega), hst, hb]; simp, by omega, rfl, w69, c69, by rw [hst]; exact p69⟩
     ·rw [List.take_of_length_le (by omega)] at p61 ⊢
      rw [← hx'] at p61
      exact ⟨rfl, p61⟩
   ·rintro m n s75 ⟨i, hi, h6, rfl, e75, w75⟩
    simp only [List.cons.injEq, AV.int.injEq, true_and, and_true] at hi
    subst hi
    have c75 := c48.ext e75
    have it75 := ha.it.ext (p48.e.trans e75)
    refine ⟨a.av, ar c75, _, it75.lenB u_s_Item _, bsplit.dec (fun hlt => ?_) (fun hge => ⟨rfl, e75, w75⟩)⟩
    obtain ⟨y, hy⟩ := get_lt (l := a.items) (i := i) (by omega)
    obtain ⟨ly, oy, k8, k9⟩ := it75.ix (by decide) itemC_len u_s_Item z_Item hy
    refine ⟨a.av, ar c75, ly, oy, k8 _, _, (k9 _ (Ext.refl _)).2, ?_⟩
    refine ACalls.use (ref07May_ok y _) ?_
    rintro v s83 ⟨rfl, e83⟩ w83
    exact ⟨_, rfl, bsplit.no (by rw [hall y (List.mem_of_getElem? hy)]; rfl) ⟨a.items.length - (i + 1), by omega, i + 1, by rw [wrap_i (by omega)]; rfl, by omega, rfl, e75.trans e83, w83⟩⟩
  ·refine ACalls.use (h2.See_bad it2 (by omega) hall) ?_
   rintro v s48 ⟨rfl, e48⟩ w48
   have p48 := h2.ext e48
   refine ⟨_, _, rfl, fun vs s' => False, fun s52 hf => hf.elim, fun m vs s' => ∃ i : Nat, vs = [.int .i64 (i : Nat)] ∧ i ≤ a.items.length ∧ m = a.items.length - i ∧ Ext s48 s' ∧ WFs s' ∧ ∀ (j : Nat) y, j < i → a.items[j]? = some y → y.may = true, a.items.length, ⟨0, rfl, by omega, rfl, Ext.refl _, w48, fun j y hj => by omega⟩, ?_⟩
   rintro m n s75 ⟨i, hi, h6, rfl, e75, w75, hgood⟩
   simp only [List.cons.injEq, AV.int.injEq, true_and, and_true] at hi
   subst hi
   have c75 := (c1.ext e48).ext e75
   have it75 := ha.it.ext (p48.e.trans e75)
   refine ⟨a.av, ar c75, _, it75.lenB u_s_Item _, bsplit.dec (fun hlt => ?_) (fun hge => ?_)⟩
   ·obtain ⟨y, hy⟩ := get_lt (l := a.items) (i := i) (by omega)
    obtain ⟨ly, oy, k8, k9⟩ := it75.ix (by decide) itemC_len u_s_Item z_Item hy
    refine ⟨a.av, ar c75, ly, oy, k8 _, _, (k9 _ (Ext.refl _)).2, ?_⟩
    refine ACalls.use (ref07May_ok y _) ?_
    rintro v s83 ⟨rfl, e83⟩ w83
    refine ⟨_, rfl, bsplit.mk (fun hb => bsplit.yes rfl ⟨rfl, x, (p48.ext (e75.trans e83)).mono (by omega)⟩) (fun hb => ?_)⟩
    refine ⟨a.items.length - (i + 1), by omega, i + 1, by rw [wrap_i (by omega)]; rfl, by omega, rfl, e75.trans e83, w83, fun j z hj hz => ?_⟩
    rcases Nat.lt_or_ge j i with h | h
    ·exact hgood j z h hz
    ·obtain rfl : j = i := by omega
     rw [hy] at hz; obtain rfl := Option.some.inj hz; simpa using hb
   ·refine hall fun y hy => ?_
    obtain ⟨j, hj⟩ := List.mem_iff_getElem?.1 hy
    have : j < a.items.length := by
     rcases Nat.lt_or_ge j a.items.length with h | h
     ·exact h
     ·rw [List.getElem?_eq_none h] at hj; cases hj
    exact hgood j y (by omega) hj
 ·
  refine ⟨_, dr c1, ?_⟩
  refine ACalls.use (h2.Collect a.dot) ?_
  rintro v s87 ⟨x', hx', rfl, p87, hkeep⟩ w87
  have c87 : At s87 l1 (act7 a) := hkeep _ _ c1
  refine ⟨_, rfl, _, dr c87, ?_⟩
  refine ACalls.use (ref04iMay_ok _ _) ?_
  rintro v s91 ⟨rfl, e91⟩ w91
  have p91 := p87.ext e91
  refine ⟨_, rfl, bsplit.mk (fun hb => ⟨?_, x', ?_⟩) (fun hb => ⟨_, dr (c87.ext e91), ?_⟩)⟩
  ·simp only [Bool.not_eq_true'] at hb
   simp [hb]
  ·simp only [Bool.not_eq_true'] at hb
   rw [hb] at hx'
   simp only [Bool.false_and, Bool.false_eq_true, if_false] at hx'
   subst hx'
   exact p91.mono (by omega)
  simp only [Bool.not_eq_false'] at hb
  rw [hb] at hx' ⊢
  simp only [Bool.true_and] at hx'
  refine ACalls.use (p91.rCollect okx (by omega) a.dot) ?_
  rintro v s95 ⟨rfl, p95⟩ w95
  rw [← hx'] at p95
  refine ⟨_, rfl, bsplit.mk (fun ht => ⟨?_, x', p95.mono (by omega)⟩) (fun ht => ⟨?_, x', p95.mono (by omega)⟩)⟩
  ·simp only [Bool.not_eq_true'] at ht; simp [ht]
  ·simp only [Bool.not_eq_false'] at ht; simp [ht]
end Go.Proofs.YtoklmpkpeanloaaGreat
end

section
namespace Go.Proofs.YtoklmpkpeanloaaGreat
open Go.Am Go.Minster Go.Minster2 Go.ChangeShapes Go.WideShapes Go.ChangeAt Go.RowKit
end Go.Proofs.YtoklmpkpeanloaaGreat
end

section
namespace Go.Proofs.YtoklmpkpeanloaaGreat
open Go.Am Go.Minster Go.Minster2 Go.ChangeShapes Go.WideShapes Go.ChangeAt Go.RowKit
structure Acts7 (s : AS) (v : AV) (l : List A07) : Prop where
 sl : Sl act7 6 s v l
 each : ∀ a ∈ l, Act7 s a
theorem act7_len (a : A07) : (act7 a).length = 6 := rfl
def kItem : List LK := [.int .i64, .int .u64, .str, .str, .bool]
set_option maxRecDepth 100000 in
theorem deep_act : deepT Tryz.prog 5 Y_minsterlaw07iAct = some [.fl (.int .i64), .fl .str, .fl .str, .fl (.int .i64), .fl (.int .u64), .sl kItem] := by kernel_rfl
set_option maxRecDepth 100000 in
theorem deepB_act : deepB Tryz.prog 5 Y_minsterlaw07iAct = true := by kernel_rfl
set_option maxRecDepth 100000 in
theorem pos_act : 1 ≤ Tryz.prog.bytesOf Y_minsterlaw07iAct := by
 have h : (decide (1 ≤ Tryz.prog.bytesOf Y_minsterlaw07iAct)) = true := by kernel_rfl
 exact of_decide_eq_true h
theorem items_of {w : World} {v : AV} (h : leaf2 w (.sl kItem) v) : v.one = true ∧ ∃ l, Sl itemC 5 (sW w) v l := by
 obtain ⟨h1, C, h2, h3, _⟩ := h
 refine ⟨h1, ?_⟩
 obtain ⟨l, e1, e2, e3⟩ := cells_dec (f := itemC) (Q := fun _ => True) C fun c hc => by
  obtain ⟨a, c1, rfl, ⟨r, rfl, _⟩, g1⟩ := (h3 c hc).cons
  obtain ⟨b, c2, rfl, ⟨n, rfl, _⟩, g2⟩ := g1.cons
  obtain ⟨b, c3, rfl, ⟨t, rfl, _⟩, g3⟩ := g2.cons
  obtain ⟨b, c4, rfl, ⟨u, rfl, _⟩, g4⟩ := g3.cons
  obtain ⟨b, c5, rfl, ⟨g, rfl⟩, g5⟩ := g4.cons
  obtain rfl := g5.nil
  exact ⟨⟨⟨r, n⟩, ⟨t, u⟩, g⟩, rfl, trivial⟩
 rw [e1, e2] at h2
 exact ⟨l, h2⟩
theorem sl_len_ok {α : Type} {f : α → List AV} {sz : Nat} {s : AS} {v : AV} {l : List α} (h : Sl f sz s v l) (hl : lenOk v) : l.length ≤ reachBytes := by
 rcases h with ⟨_, h, _⟩ | ⟨a, c, e, rfl, _⟩
 ·rw [h]; exact Nat.zero_le _
 ·exact hl _ _ _ _ rfl
set_option maxRecDepth 100000 in
theorem acts_arg {H : Type} {enc : TypeId × Value → H} {W : World} {base : Nat} {v : Value} (hv : Value.okWide Tryz.prog W .any base Y_s_minsterlaw07iAct v) (h : ∃ (d : DataW H) (p : List MemPlace), DataW.Trod enc Tryz.prog W 0 (fun _ => true) true Y_s_minsterlaw07iAct v d p ∧ light Tryz.prog Y_s_minsterlaw07iAct d) :
  ∃ l : List A07, Acts7 (sW W) (absV W.heap.size (MW W) v) l ∧ (∀ a ∈ l, a.items.length ≤ reachBytes) ∧ l.length ≤ reachBytes := by
 obtain ⟨d, p, h, hw⟩ := h
 obtain ⟨C, h1, h2, h3⟩ := slice_arg3 (d := 5) (hT.und _ _ u_s_minsterlaw07iAct) deep_act deepB_act (by kernel_rfl) (by simp) hv h hw
 obtain ⟨l, e1, e2, e3⟩ := cells_dec (f := act7) (Q := fun a => Act7 (sW W) a ∧ a.items.length ≤ reachBytes) C fun c hc => by
  obtain ⟨g0, hlen⟩ := h2 c hc
  obtain ⟨a, r1, rfl, ⟨k, rfl, _⟩, g1⟩ := cells2.cons g0
  obtain ⟨a, r2, rfl, ⟨t, rfl, _⟩, g2⟩ := cells2.cons g1
  obtain ⟨a, r3, rfl, ⟨u, rfl, _⟩, g3⟩ := cells2.cons g2
  obtain ⟨a, r4, rfl, ⟨r, rfl, _⟩, g4⟩ := cells2.cons g3
  obtain ⟨a, r5, rfl, ⟨n, rfl, _⟩, g5⟩ := cells2.cons g4
  obtain ⟨iv, r6, rfl, hi, g6⟩ := cells2.cons g5
  obtain rfl := cells2.nil g6
  obtain ⟨o1, li, hli⟩ := items_of hi
  exact ⟨⟨k, ⟨t, u⟩, ⟨r, n⟩, iv, li⟩, rfl, ⟨o1, hli⟩, sl_len_ok hli (hlen iv (by simp))⟩
 rw [e1, e2] at h1
 refine ⟨l, ⟨h1, fun a ha => (e3 a ha).1⟩, fun a ha => (e3 a ha).2, ?_⟩
 obtain ⟨fuel, ht⟩ := h
 have hve : v.cells.toList = [v] := by
  cases v with
  | agg l => exfalso; unfold Value.okWide at hv; rw [hT.und _ _ u_s_minsterlaw07iAct] at hv; simp only [Cell.okWide, hT.und _ _ u_s_minsterlaw07iAct, Cell.ok] at hv
  | _ => rfl
 rw [hve] at ht
 exact sl_len_ok h1 (len_slice (hT.und _ _ u_s_minsterlaw07iAct) pos_act ht hw)
def weigh (l : List A07) : Nat := (l.map fun a => a.items.length).sum
theorem weigh_take {l : List A07} {i : Nat} {a : A07} (h : l[i]? = some a) : weigh (l.take (i + 1)) = weigh (l.take i) + a.items.length := by
 unfold weigh
 rw [List.take_add_one, h, Option.toList_some, List.map_append, List.sum_append]; simp
theorem weigh_le : ∀ (l : List A07), (∀ a ∈ l, a.items.length ≤ reachBytes) → weigh l ≤ l.length * reachBytes
 | [], _ => by simp [weigh]
 | a :: l, h => by
  have := weigh_le l fun b hb => h b (by simp [hb])
  have h1 := h a (by simp)
  unfold weigh at this ⊢
  simp only [List.map_cons, List.sum_cons, List.length_cons, Nat.add_mul, Nat.one_mul]
  omega
theorem reach_val : reachBytes = 140737488351232 := rfl
theorem few7_ok {s : AS} {v : AV} {l : List A07} (h : Acts7 s v l) (hi : ∀ a ∈ l, a.items.length ≤ reachBytes) (hl : l.length ≤ reachBytes) :
  ACalls Tryz.prog F_law07ifew [v] s fun r s' => s' = s ∧ ∃ b, r = .bool b ∧ (b = true → l.length ≤ 100 ∧ weigh l ≤ 300) := by
 rw [reach_val] at hl
 refine q_law07ifew _ _ _ ⟨fun vs s' => s' = s ∧ ∃ n : Int, vs = [.int .i64 n] ∧ (l.length ≤ 100 → n = (weigh l : Nat)), ?_, fun m vs s' => ∃ (i : Nat) (n : Int), vs = [.int .i64 n, .int .i64 (i : Nat)] ∧ i ≤ l.length ∧ m = l.length - i ∧ s' = s ∧ (l.length ≤ 100 → n = (weigh (l.take i) : Nat)), l.length, ⟨0, 0, rfl, by omega, rfl, rfl, fun _ => by simp [weigh]⟩, ?_⟩
 ·rintro n s3 ⟨rfl, n', hn, hw⟩
  simp only [List.cons.injEq, AV.int.injEq, true_and, and_true] at hn
  subst hn
  refine ⟨_, h.sl.lenB u_s_minsterlaw07iAct _, bsplit.dec (fun h1 => ⟨rfl, _, rfl, fun h2 => ?_⟩) (fun h1 => ⟨rfl, _, rfl, by simp⟩)⟩
  simp only [decide_eq_true_eq] at h2
  have h3 : l.length ≤ 100 := by omega
  have := hw h3
  exact ⟨h3, by omega⟩
 ·rintro m n8 n9 s10 ⟨i, n, hin, h6, rfl, rfl, hw⟩
  simp only [List.cons.injEq, AV.int.injEq, true_and, and_true] at hin
  obtain ⟨rfl, rfl⟩ := hin
  refine ⟨_, h.sl.lenB u_s_minsterlaw07iAct _, bsplit.dec (fun hlt => ?_) (fun hge => ⟨rfl, n8, rfl, fun h1 => ?_⟩)⟩
  ·obtain ⟨a, ha⟩ := get_lt (l := l) (i := i) (by omega)
   obtain ⟨la, oa, k8, k9⟩ := h.sl.ix (by decide) act7_len u_s_minsterlaw07iAct z_minsterlaw07iAct ha
   have hai := List.mem_of_getElem? ha
   refine ⟨la, oa, k8 _, a.av, (k9 _ (Ext.refl _)).1 5 (by decide), _, (h.each a hai).it.lenB u_s_Item _, l.length - (i + 1), by omega, i + 1, _, by rw [wrap_i (n := (i : Int) + 1) (by omega)]; rfl, by omega, rfl, rfl, fun h1 => ?_⟩
   have hbnd := weigh_le (l.take i) fun b hb => hi b (List.mem_of_mem_take hb)
   have hti : (l.take i).length ≤ 100 := by rw [List.length_take]; omega
   have h2 := hi a hai
   rw [reach_val] at hbnd h2
   have h3 : weigh (l.take i) ≤ 100 * 140737488351232 := Nat.le_trans hbnd (Nat.mul_le_mul_right _ hti)
   rw [hw h1, wrap_i (by omega), weigh_take ha]
   omega
  ·rw [List.take_of_length_le (by omega)] at hw
   exact hw h1
end Go.Proofs.YtoklmpkpeanloaaGreat
end

section
namespace Go.Proofs.YtoklmpkpeanloaaGreat
open Go.Am Go.Minster Go.Minster2
section
variable {s0 s : AS} {p q : Nat} {x : OSet} {B : Nat} {F G : List Nat}
end
end Go.Proofs.YtoklmpkpeanloaaGreat
end

section
namespace Go.Am
end Go.Am
namespace Go.Proofs.YtoklmpkpeanloaaGreat
open Go.Am Go.Minster Go.Minster2
section
variable {s0 s s' : AS} {p q : Nat} {x y : OSet} {B : Nat}
end
theorem build_ref7 : abuild T Y_minsterref07iSet [] = some (.agg (zeros.map (.int .u64) ++ [.slc none 0 0 true, .slc none 0 0 true])) := by kernel_rfl
theorem start7 {s0 s : AS} (e0 : Ext s0 s) {K : Option (Nat × Nat) → Nat → AS → Prop} (hK : ∀ p q s', WFs s' → Ext s s' → Pair2 s0 s' p q OSet.zero OSet.zero 0 → K (some (p, 0)) q s') :
  ACalls Tryz.prog F_orset_New [] s fun v7 s8 => ∃ p9 : Option (Nat × Nat), v7 = .ptr p9 ∧ (RdG (abuild T Y_minsterref07iSet []) fun g10 => One1 g10 (NewQ (.cells g10 0 false) s8 fun l11 s12 => K p9 l11 s12)) := by
 refine ACalls.use (New_ok s) ?_
 rintro v s8 ⟨p, F, rfl, h1, h2, h3, e8⟩ w8
 refine ⟨_, rfl, _, build_ref7, by decide, NewQ.intro w8 rfl fun l s12 F12 => hK p l s12 F12.wf (e8.trans F12.ext) ⟨e0.trans (e8.trans F12.ext), F, [l], ⟨h1.ext F12.ext, OOk.zero, fun y hy => e0.none (h2 y hy), fun y hy hn => h3 y hy (F12.ext.none hn)⟩, ⟨COk.zero, (fun y hy => by cases hy), .slc none 0 0 true, .slc none 0 0 true, [], F12.own, ⟨rfl, by simp, Gro.nil⟩, ⟨rfl, by simp, Gro.nil⟩, Items.zero, by simp, by simp [labOf], by simp [labOf]⟩, ?_, ?_, ?_⟩⟩
 ·intro z hz; obtain rfl := List.mem_singleton.1 hz; exact e0.none (e8.none F12.no)
 ·intro z hz; obtain rfl := List.mem_singleton.1 hz; rw [F12.at]; simp
 ·intro z hz hg; obtain rfl := List.mem_singleton.1 hg; exact h3 z hz F12.no
end Go.Proofs.YtoklmpkpeanloaaGreat
end

section
namespace Go.Proofs.YtoklmpkpeanloaaGreat
open Go.Am Go.Minster Go.Minster2
end Go.Proofs.YtoklmpkpeanloaaGreat
end

section
set_option maxRecDepth 100000
set_option maxHeartbeats 4000000
namespace Go.Proofs.YtoklmpkpeanloaaGreat
open Go.Am
end Go.Proofs.YtoklmpkpeanloaaGreat
end

section
namespace Go.Proofs.YtoklmpkpeanloaaGreat
open Go.Am Go.Minster Go.Minster2
/-! ### plainly -/
theorem has_may {x : OSet} {d : Dot} (h : x.has d = true) : d.may = true := (hasD_iff.1 h).1
/-! ### at a set -/
section
variable {s0 s : AS} {F : List Nat} {p : Nat} {x : OSet} {B : Nat}
end
end Go.Proofs.YtoklmpkpeanloaaGreat
end

section
namespace Go.Proofs.YtoklmpkpeanloaaGreat
open Go.Am Go.Minster Go.Minster2
/-! ### plainly -/
section
variable {v : List Int} {ex : List Dot} {L : List Itm} {x : OSet}
end
/-! ### in memory -/
end Go.Proofs.YtoklmpkpeanloaaGreat
end

section
namespace Go.Proofs.YtoklmpkpeanloaaGreat
open Go.Am Go.Minster Go.Minster2
theorem nodup_of_map {α β : Type} (f : α → β) {l : List α} (h : (l.map f).Nodup) : l.Nodup := (List.pairwise_map.1 h).imp fun h e => h (by rw [e])
theorem weigh_take_le (l : List A07) (i : Nat) : weigh (l.take i) ≤ weigh l := by
 have : weigh l = weigh (l.take i) + weigh (l.drop i) := by
  unfold weigh
  rw [← List.sum_append, ← List.map_append, List.take_append_drop]
 omega
theorem acts_loop {s2 s14 : AS} {v : AV} {l : List A07} {p q : Nat} (a2 : Acts7 s2 v l) (hn : l.length ≤ 100) (hw : weigh l ≤ 300) (w14 : WFs s14) (P0 : Pair2 s2 s14 p q OSet.zero OSet.zero 0) {J : List AV → AS → Prop} (hJ : ∀ s' x, WFs s' → Pair2 s2 s' p q x x 400 → J [] s') :
  LoopQ fun I m => I m [(.int .i64 0)] s14 ∧ ∀ m' : Nat, ∀ n : Int, ∀ s : AS, I m' [(.int .i64 n)] s →
   RdI .i64 (alenB T Y_s_minsterlaw07iAct v s) fun n' => bsplit (decide ((n : Int) < n'))
    (IxQ (aindexAddr T Y_s_minsterlaw07iAct v (.int .i64 n)) fun l o => RdL (rdc s l o 6) fun g => ACalls Tryz.prog F_law07ido [(.ptr (some (p, 0))), (.ptr (some (q, 0))), (.agg g)] s fun v s' => ∃ b : Bool, v = .bool b ∧ (∃ m'', m'' < m' ∧ I m'' [(.int .i64 (IntKind.wrap .i64 (n + 1)))] s'))
    (J [] s) := by
 refine ⟨fun m vs s' => ∃ (i : Nat) (x : OSet), vs = [.int .i64 (i : Nat)] ∧ i ≤ l.length ∧ m = l.length - i ∧ WFs s' ∧ Pair2 s2 s' p q x x (i + weigh (l.take i)), l.length, ⟨0, _, rfl, by omega, rfl, w14, by simpa [weigh] using P0⟩, ?_⟩
 rintro m n s17 ⟨i, x, hin, h6, rfl, w17, P⟩
 simp only [List.cons.injEq, AV.int.injEq, true_and, and_true] at hin
 subst hin
 refine ⟨_, a2.sl.lenB u_s_minsterlaw07iAct _, bsplit.dec (fun hlt => ?_) (fun hge => hJ s17 x w17 (P.mono (by have := weigh_take_le l i; omega)))⟩
 obtain ⟨a, ha⟩ := get_lt (l := l) (i := i) (by omega)
 have hwt := weigh_take ha
 have hwl := weigh_take_le l (i + 1)
 obtain ⟨la, oa, k8, k9⟩ := a2.sl.ix (by decide) act7_len u_s_minsterlaw07iAct z_minsterlaw07iAct ha
 have hA := a2.each a (List.mem_of_getElem? ha)
 refine ⟨la, oa, k8 _, _, (k9 _ P.e).2, ?_⟩
 refine ACalls.use (do_ok P a hA (by omega)) ?_
 rintro v s28 ⟨rfl, x', P2⟩ w28
 exact ⟨_, rfl, l.length - (i + 1), by omega, i + 1, x', by rw [wrap_i (by omega)]; rfl, by omega, rfl, w28, P2.mono (by omega)⟩
end Go.Proofs.YtoklmpkpeanloaaGreat
end

section
namespace Go.Proofs.YtoklmpkpeanloaaGreat.SI
open Go.Am Go.Minster Go.Minster2 Go.Minster.SI
theorem ab1 {y i : Nat} (h : i ≤ y) : abound1 y (.int .i64 (i : Nat)) = some i := by
 have : (0 : Int) ≤ (i : Int) ∧ (i : Int) ≤ ((y : Nat) : Int) := by omega
 simp only [abound1, if_pos this, Int.toNat_natCast]
theorem asl_from {a o n c i : Nat} {e : Bool} (h1 : i < n) (h2 : n ≤ c) : aslice T Y_s_Item (.slc (some (a, o)) n c e) (some (.int .i64 (i : Nat))) none none = some (.slc (some (a, o + i * 5)) (n - i) (c - i) e) := by
 have h3 : ¬ c = i := by omega
 cases e <;> simp [aslice, u_s_Item, z_Item, abounds, aopt, ahigh, ab1 (show i ≤ n by omega), h2, h3]
theorem asl_to {a o n c i : Nat} {e : Bool} (h1 : i ≤ c) (h0 : 0 < c) : aslice T Y_s_Item (.slc (some (a, o)) n c e) none (some (.int .i64 (i : Nat))) none = some (.slc (some (a, o)) i c e) := by
 have : ¬ c = 0 := by omega
 cases e <;> simp [aslice, u_s_Item, z_Item, abounds, aopt, ahigh, ab1 h1, this]
theorem clear_ok {s : AS} {lo n c i m : Nat} {e : Bool} {l : List Itm} {rest : List AV} {g : Nat} (hw : WFs s) (hobj : s.h lo = some (.cells (l.flatMap itemC ++ rest) g false)) (hi : i < l.length) (hn : n = l.length - i) (ho : m = i * 5) {K : AS → Prop}
  (hk : ∀ s', (∃ rest', s'.h lo = some (.cells ((l.take i).flatMap itemC ++ rest') g false)) → WFs s' → Mut [lo] s s' → K s') : StQ (aclear T Y_s_Item (.slc (some (lo, m)) n c e) s) K := by
 subst hn; subst ho
 have hne : ¬ l.length - i = 0 := by omega
 have hrl : (rep (l.length - i) [AV.int .i64 0, AV.int .u64 0, AV.str [], AV.str [], AV.bool false]).length = (l.length - i) * 5 := by simp [rep]
 have e1 : aclear T Y_s_Item (.slc (some (lo, i * 5)) (l.length - i) c e) s = awr s lo (i * 5) (rep (l.length - i) [AV.int .i64 0, AV.int .u64 0, AV.str [], AV.str [], AV.bool false]) := by
  simp only [aclear, u_s_Item, if_neg hne, zr_Item, Option.bind_some, acells_agg]
  rfl
 rw [e1]
 refine StQ.awr hw hobj (by rw [hrl, List.length_append, dots_len]; omega) fun s' P => hk s' ⟨rep (l.length - i) [AV.int .i64 0, AV.int .u64 0, AV.str [], AV.str [], AV.bool false] ++ ((l.drop i).flatMap itemC ++ rest).drop (rep (l.length - i) [AV.int .i64 0, AV.int .u64 0, AV.str [], AV.str [], AV.bool false]).length, ?_⟩ P.wf P.mut
 have hsp : l.flatMap itemC ++ rest = (l.take i).flatMap itemC ++ ((l.drop i).flatMap itemC ++ rest) := by
  rw [← List.append_assoc, ← List.flatMap_append, List.take_append_drop]
 rw [P.at, hsp]
 have hl : ((l.take i).flatMap itemC).length = i * 5 := by rw [dots_len, List.length_take]; omega
 rw [← hl, wrs_app _ _ _ (by rw [hrl, List.length_append, dots_len, List.length_drop]; omega), List.append_assoc]
theorem el_of {l : List Itm} {i : Nat} {x : Itm} (h : l[i]? = some x) : el l i = x := by
 have hi : i < l.length := by
  rcases Nat.lt_or_ge i l.length with h1 | h1
  ·exact h1
  ·rw [List.getElem?_eq_none h1] at h; cases h
 have := el_get hi
 rw [h] at this; exact (Option.some.inj this).symm
section
variable {s0 s : AS} {a : AV} {l : List Itm} {g : FuncId} {cap : List AV} {P : Itm → Bool}
set_option maxRecDepth 100000 in
theorem DeleteFunc_ok (hN : ArrN s0 s a l) (hn : l.length ≤ 2 ^ 30) (hf : ∀ i s', Ext s0 s' → WFs s' → ACalls Tryz.prog g ([.agg (itemC i)] ++ cap) s' fun v s'' => v = .bool (P i) ∧ Ext s' s'') :
  ACalls Tryz.prog F_slices_DeleteFunc__s_Item_Item [a, .func g cap] s fun v s' => Ext s0 s' ∧ Sl itemC 5 s' v (l.filter fun i => !P i) := by
 refine q_slices_DeleteFunc__s_Item_Item _ _ _ _ ?_
 refine ACalls.use (IndexFunc_ok hN.dots (by omega) fun i s' e w => hf i s' (hN.1.trans e) w) ?_
 rintro v1 s2 ⟨e2, n, rfl, hres⟩ w2
 have E2 := hN.1.trans e2
 rcases hres with ⟨rfl, hany⟩ | ⟨k, rfl, hk, ⟨x0, hx0, hp0⟩, hbef⟩
 ·refine ⟨_, rfl, bsplit.yes rfl ⟨E2, ?_⟩⟩
  rw [List.filter_eq_self.2 fun i hi => by rw [List.any_eq_false] at hany; simpa using hany i hi]
  exact hN.dots.ext e2
 obtain ⟨_, ⟨rfl, _⟩ | ⟨la, rfl, hA, hla⟩⟩ := hN
 ·simp at hk
 refine ⟨_, rfl, bsplit.no (by simp) ?_⟩
 have A2 := hA.ext e2
 refine ⟨fun vs s' => ∃ (i : Nat) (l' : List Itm), vs = [.int .i64 (i : Nat)] ∧ i < l.length ∧ WFs s' ∧ Arr s' (.slc (some (la, 0)) l.length l.length false) la l' [] ∧ l'.length = l.length ∧ l'.take i = (l.filter fun i => !P i) ∧ Mut [la] s2 s', ?_,
  fun m vs s' => ∃ (i j : Nat) (l' : List Itm), vs = [.int .i64 (i : Nat), .int .i64 (j : Nat)] ∧ i < j ∧ j ≤ l.length ∧ m = l.length - j ∧ WFs s' ∧ Arr s' (.slc (some (la, 0)) l.length l.length false) la l' [] ∧ l'.length = l.length ∧ l'.take i = ((l.take j).filter fun i => !P i) ∧ l'.drop j = l.drop j ∧ Mut [la] s2 s', l.length - (k + 1),
  ⟨k, k + 1, l, by rw [wrap_i (by omega)]; rfl, by omega, by omega, rfl, w2, A2, rfl, ?_, rfl, Mut.refl _ _⟩, ?_⟩
 ·rintro n5 s6 ⟨i, l', hin, hi, w6, a6, hl', ht, m6⟩
  simp only [List.cons.injEq, AV.int.injEq, true_and, and_true] at hin
  subst hin
  obtain ⟨⟨c, e, _⟩, gg, hobj⟩ := a6
  refine ⟨_, asl_from hi (Nat.le_refl _), clear_ok (i := i) w6 hobj (by omega) (by omega) (by omega) fun s8 hs8 w8 m8 => ⟨_, asl_to (by omega) (by omega), ?_, ?_⟩⟩
  ·exact Ext.wr E2 hla (m6.trans m8)
  ·obtain ⟨rest', h8⟩ := hs8
   rw [← ht]
   have hlen : (l'.take i).length = i := by rw [List.length_take]; omega
   have := SlAt.mk (s := s8) (la := la) (o := 0) (n := (l'.take i).length) (c := l.length) (e := false) (sz := 5) ⟨_, _, h8⟩ (dots_len (l'.take i)) (by rw [List.drop_zero, ← dots_len (l'.take i), List.take_append_of_le_length (Nat.le_refl _), List.take_length]) (by omega)
   rw [hlen] at this
   show SlAt _ _ _ _ (l'.take i).length
   rw [hlen]; exact this
 ·have hh : l.take (k + 1) = l.take k ++ [x0] := by rw [List.take_add_one, hx0, Option.toList_some]
  rw [hh, List.filter_append, List.filter_eq_self.2 fun i hi => by
   obtain ⟨j, hj, hj2⟩ := List.mem_take_iff_getElem.1 hi
   rw [hbef j i (by omega) (by rw [List.getElem?_eq_getElem (by omega), hj2])]; rfl]
  simp [hp0]
 ·rintro m n13 n14 s15 ⟨i, j, l', hin, hij, hj, rfl, w15, a15, hl', ht, hd, m15⟩
  simp only [List.cons.injEq, AV.int.injEq, true_and, and_true] at hin
  obtain ⟨rfl, rfl⟩ := hin
  have hlen : alenB T Y_s_Item (.slc (some (la, 0)) l.length l.length false) s15 = some (.int .i64 (l.length : Nat)) := by simp [alenB, u_s_Item]
  refine ⟨_, hlen, bsplit.dec (fun hlt => ?_) (fun hge => ?_)⟩
  rotate_left
  ·rw [show l.take j = l from List.take_of_length_le (by omega)] at ht
   exact ⟨i, l', rfl, by omega, w15, a15, hl', ht, m15⟩
  obtain ⟨x, hx⟩ := get_lt (l := l) (i := j) (by omega)
  have hx' : l'[j]? = some x := by
   have h1 := congrArg (fun q => q[0]?) hd
   simp only [List.getElem?_drop, Nat.add_zero] at h1
   rw [h1, hx]
  have step := List.take_add_one (l := l) (i := j)
  rw [hx, Option.toList_some] at step
  have hrd := a15.rd (i := j) (by omega)
  rw [el_of hx'] at hrd
  refine ⟨_, _, a15.ix (by omega), _, hrd, NewSt w15 rfl rfl rfl fun l20 s22 F22 => ⟨_, F22.own.at.rdc (by simp [itemC]), ?_⟩⟩
  have E22 : Ext s0 s22 := (Ext.wr E2 hla m15).trans F22.ext
  refine ACalls.use (hf x s22 E22 F22.wf) ?_
  rintro v24 s25 ⟨rfl, e25⟩ w25
  have a25 := a15.ext (F22.ext.trans e25)
  have m25 : Mut [la] s2 s25 := m15.trans (F22.ext.trans e25).mut
  have hdrop : ∀ q : List Itm, q.drop j = l.drop j → q.drop (j + 1) = l.drop (j + 1) := by
   intro q hq
   have := congrArg (fun u => u.drop 1) hq
   simpa [List.drop_drop, Nat.add_comm] using this
  refine ⟨_, rfl, bsplit.mk (fun hb => ?_) (fun hb => ?_)⟩
  ·refine ⟨_, (F22.own.ext e25).at.rdc (by simp [itemC]), _, _, a25.ix (by omega), a25.wr w25 (by omega) x fun s30 a30 w30 m30 => ?_⟩
   refine ⟨l.length - (j + 1), by omega, i + 1, j + 1, l'.set i x, by rw [wrap_i (by omega), wrap_i (by omega)]; rfl, by omega, by omega, rfl, w30, a30, by rw [List.length_set]; exact hl', ?_, ?_, m25.trans m30⟩
   ·rw [step, List.filter_append, ← ht, List.take_add_one, List.getElem?_set, if_pos rfl, if_pos (by omega), Option.toList_some, List.take_set_of_le (Nat.le_refl _)]
    simp only [Bool.not_eq_true'] at hb
    simp [hb]
   ·rw [List.drop_set_of_lt (by omega)]; exact hdrop _ hd
  ·refine ⟨l.length - (j + 1), by omega, i, j + 1, l', by rw [wrap_i (by omega)]; rfl, by omega, by omega, rfl, w25, a25, hl', ?_, hdrop _ hd, m25⟩
   rw [step, List.filter_append, ← ht]
   simp only [Bool.not_eq_false'] at hb
   simp [hb]
end
end Go.Proofs.YtoklmpkpeanloaaGreat.SI
end

section
namespace Go.Proofs.YtoklmpkpeanloaaGreat
open Go.Am Go.Minster Go.Minster2
/-! ### buckets -/
def bkt (d : Dot) : Int := IntKind.wrap .i64 (Int.tmod (IntKind.wrap .u64 ((IntKind.wrap .u64 ((IntKind.wrap .u64 d.r) * 7)) + d.c)) 64)
def bucketOf (d : Dot) : Int := if d.may then bkt d else -1
theorem BucketOf_ok (d : Dot) (s : AS) : ACalls Tryz.prog F_orset_BucketOf [.agg (dotC d)] s fun v s' => v = .int .i64 (bucketOf d) ∧ Ext s s' := by
 refine ACalls.pre fun hw => q_orset_BucketOf _ _ _ ⟨rfl, NewQ.intro hw rfl fun l1 s2 F2 => ⟨_, F2.own.at.rdc (by simp [dotC]), ?_⟩⟩
 refine ACalls.use (ctx_May_ok d _) ?_
 rintro v s5 ⟨rfl, e5⟩ w5
 have c5 := (F2.own.ext e5).at
 refine ⟨_, rfl, bsplit.mk (fun hb => ⟨?_, F2.ext.trans e5⟩) (fun hb => ⟨d.r, by rw [c5.rd1]; rfl, d.c, by rw [c5.rd1]; rfl, by decide, ?_, F2.ext.trans e5⟩)⟩
 ·simp only [Bool.not_eq_true'] at hb
  simp [bucketOf, hb]
 ·simp only [Bool.not_eq_false'] at hb
  simp [bucketOf, hb, bkt]
theorem Bucket1_ok (i : Itm) {c : Nat} {n : Int} {s : AS} (hc : At s c [.int .i64 n]) : ACalls Tryz.prog F_orset_Set_Bucket_1 [.agg (itemC i), .ptr (some (c, 0))] s fun v s' => v = .bool (bucketOf i.dot != n) ∧ Ext s s' := by
 refine ACalls.pre fun hw => q_orset_Set_Bucket_1 _ _ _ _ ⟨rfl, NewQ.intro hw rfl fun l1 s2 F2 => ⟨fun _ _ _ _ => True, fun _ _ v => v = .int .i64 (bucketOf i.dot), fun _ _ _ _ _ _ h => h, _, F2.own.at.rdc (by simp [itemC]), fun s4 e4 w4 _ => ?_, ⟨_, rfl⟩, fun v8 hv => ⟨_, hv, n, by rw [(hc.ext F2.ext).rd1]; rfl, fun s13 e13 w13 _ => ⟨rfl, F2.ext.trans e13⟩⟩⟩⟩
 refine (BucketOf_ok i.dot s4).mono ?_
 rintro v s6 ⟨rfl, e6⟩
 exact ⟨_, rfl, e6, trivial, rfl⟩
section
variable {F G : List Nat} {s : AS} {p q : Nat} {x : OSet} {B : Nat}
theorem Bucket_ok (h : SetF F s p x) (o : OOk x B) (hB : B ≤ 1000) (n : Int) :
  ACalls Tryz.prog F_orset_Set_Bucket [.ptr (some (p, 0)), .int .i64 n] s fun r s' => Ext s s' ∧ ((¬ (0 ≤ n ∧ n < 64) ∧ r = .tup [.slc none 0 0 true, .int .i64 2]) ∨ (0 ≤ n ∧ n < 64) ∧ ∃ v I, r = .tup [v, .int .i64 0] ∧ Items x I ∧ Sl itemC 5 s' v (I.filter fun i => bucketOf i.dot == n)) := by
 refine ACalls.pre fun hw => q_orset_Set_Bucket _ _ _ _ (NewQ.intro hw rfl fun l1 s2 F2 => ?_)
 refine ACalls.use (there_ok (h.ext F2.ext)) ?_
 rintro v s4 ⟨rfl, rfl⟩ w4
 have c4 := F2.own.at
 refine ⟨_, rfl, bsplit.no rfl ⟨fun vs s' => s' = s4 ∧ vs = [.bool (decide (¬ (0 ≤ n ∧ n < 64)))], ?_, n, by rw [c4.rd1]; rfl, bsplit.dec (fun h1 => ⟨rfl, ?_⟩) (fun h1 => ⟨n, by rw [c4.rd1]; rfl, rfl, ?_⟩)⟩⟩
 ·rintro b s8 ⟨rfl, hb⟩
  obtain rfl : b = decide (¬ (0 ≤ n ∧ n < 64)) := by simpa using hb
  refine bsplit.dec (fun hb => ⟨F2.ext, .inl ⟨hb, rfl⟩⟩) (fun hb => ?_)
  have hb' := Classical.not_not.1 hb
  refine ACalls.use (Items_okN (h.ext F2.ext) o hB) ?_
  rintro v9 s10 ⟨I, hI, hN⟩ w10
  have hIl := hI.len o
  refine ACalls.use (SI.DeleteFunc_ok (P := fun i => bucketOf i.dot != n) hN (by omega) fun i s' e w => Bucket1_ok i (c4.ext e)) ?_
  rintro v11 s12 ⟨e12, hs⟩ w12
  refine ⟨F2.ext.trans e12, .inr ⟨hb', v11, I, rfl, hI, ?_⟩⟩
  have : (fun i : Itm => !(bucketOf i.dot != n)) = fun i => bucketOf i.dot == n := by funext i; simp [bne]
  rw [this] at hs; exact hs
 ·have : ¬ (0 ≤ n ∧ n < 64) := by omega
  simp [this]
 ·congr 2
  simp only [ge_iff_le]
  by_cases h2 : 64 ≤ n
  ·have : ¬ (0 ≤ n ∧ n < 64) := by omega
   simp [h2, this]
  ·have : (0 ≤ n ∧ n < 64) := by omega
   simp [h2, this]
end
/-! ### dests -/
structure Dst where
 dot : Dot
 dev : List UInt8
 deriving DecidableEq
def dstC (e : Dst) : List AV := [.int .i64 e.dot.r, .int .u64 e.dot.c, .str e.dev]
theorem dstC_len (e : Dst) : (dstC e).length = 3 := rfl
theorem dstC_one (e : Dst) : (dstC e).all AV.one = true := rfl
theorem sl_s_Dest : SlTy T Y_s_Dest Y_Dest 3 32 := ⟨u_s_Dest, z_Dest, b_Dest, ⟨_, _, zr_Dest, rfl, rfl⟩, by decide, by decide⟩
theorem tri_Dest : triples (T.und Y_Dest) = some [(false, Y_Dot, 0), (false, Y_string, 2)] := by kernel_rfl
theorem et_Dest : T.eqt Y_Dest = true := by kernel_rfl
theorem dst_eq (a b : Dst) : aeq T 100 Y_Dest (.agg (dstC a)) (.agg (dstC b)) = some (decide (a = b)) := by
 rw [aeq_tri tri_Dest et_Dest]
 have e1 : Am.part T Y_Dot (dstC a) 0 = some (.agg (dotC a.dot)) := by rw [part_a ag_Dot z_Dot]; rfl
 have e2 : Am.part T Y_Dot (dstC b) 0 = some (.agg (dotC b.dot)) := by rw [part_a ag_Dot z_Dot]; rfl
 have e3 : Am.part T Y_string (dstC a) 2 = some (.str a.dev) := by rw [part_s ag_string]; rfl
 have e4 : Am.part T Y_string (dstC b) 2 = some (.str b.dev) := by rw [part_s ag_string]; rfl
 simp only [eqTri, cond_false, e1, e2, e3, e4, Option.bind_some, dot_eqd 97, aeqStr u_string]
 cases a; cases b
 simp only [Dst.mk.injEq]
 rename_i d k d' k'
 by_cases h1 : d = d' <;> by_cases h2 : k = k' <;> simp [h1, h2]
theorem build_dst (d : Dot) (t : List UInt8) : abuild T Y_Dest [(0, .agg (dotC d)), (1, .str t)] = some (.agg (dstC ⟨d, t⟩)) := by kernel_rfl
structure Dests (x : OSet) (t : List UInt8) (L : List Dst) : Prop where
 ris : Rising (L.map Dst.dot)
 mem : ∀ e, e ∈ L ↔ x.live e.dot = some ⟨t, e.dev⟩
theorem Dests.uniq {x : OSet} {t : List UInt8} {L M : List Dst} (h : Dests x t L) (h' : Dests x t M) : L = M :=
 pw_uniq (r := fun a b => a.dot.lt b.dot = true) (fun a h => Dot.lt_irrefl _ h) (fun a b => Dot.lt_asym) (List.pairwise_map.1 h.ris) (List.pairwise_map.1 h'.ris) fun e => by rw [h.mem, h'.mem]
theorem Dests1_ok (d : Dot) (k : Key) {c : Nat} {t : List UInt8} {s : AS} (hc : At s c [.str t]) : ACalls Tryz.prog F_orset_Set_Dests_1 [.agg (dotC d), .agg (keyC k), .ptr (some (c, 0))] s fun v s' => v = .bool (k.t == t) ∧ Ext s s' := by
 refine ACalls.pre fun hw => q_orset_Set_Dests_1 _ _ _ _ _ ⟨rfl, NewQ.intro hw rfl fun l1 s2 F2 => ⟨rfl, NewQ.intro F2.wf rfl fun l3 s4 F4 => ?_⟩⟩
 have e4 := F2.ext.trans F4.ext
 exact ⟨k.t, by rw [F4.own.at.rd1]; rfl, t, by rw [(hc.ext e4).rd1]; rfl, rfl, e4⟩
section
variable {F G : List Nat} {s : AS} {p q : Nat} {x : OSet} {B : Nat}
theorem Dests_ok (h : SetF F s p x) (o : OOk x B) (hB : B ≤ 1000) (t : List UInt8) :
  ACalls Tryz.prog F_orset_Set_Dests [.ptr (some (p, 0)), .str t] s fun v s' => ∃ L, Dests x t L ∧ Sl dstC 3 s' v L ∧ Ext s s' := by
 obtain ⟨hb1, hb2⟩ := h.bnd o
 refine ACalls.pre fun hw => q_orset_Set_Dests _ _ _ _ (NewQ.intro hw rfl fun l1 s2 F2 => ?_)
 refine ACalls.use (there_ok (h.ext F2.ext)) ?_
 rintro v s4 ⟨rfl, rfl⟩ w4
 have c4 := F2.own.at
 refine ⟨_, rfl, bsplit.no rfl ?_⟩
 refine ACalls.use (dots_ok (P := fun _ k => k.t == t) (h.ext F2.ext) (by omega) fun d k s' e w => Dests1_ok d k (c4.ext e)) ?_
 rintro v6 s7 ⟨D, g7, hris, hD, hDl⟩ w7
 have h7 := h.ext (F2.ext.trans g7.chg.ext)
 have s7D := g7.sl dotC_len
 have key : ∀ d ∈ D, ∃ k, x.live d = some k ∧ k.t = t := by
  intro d hd
  have := (hD d).1 hd
  unfold OSet.held at this
  cases hx : x.live d with
  | none => rw [hx] at this; cases this
  | some k => rw [hx] at this; exact ⟨k, rfl, by simpa using this⟩
 let f : Dot → Dst := fun d => ⟨d, ((x.live d).getD ⟨[], []⟩).d⟩
 refine ⟨_, s7D.lenB u_s_Dot _, fun m vs s' => ∃ (i : Nat) (v : AV), vs = [v, .int .i64 (i : Nat)] ∧ i ≤ D.length ∧ m = D.length - i ∧ WFs s' ∧ GroN dstC 3 [] s7 s' v ((D.take i).map f), D.length, ⟨0, _, rfl, by omega, rfl, w7, by simpa using GroN.nil⟩, ?_⟩
 rintro m v12 n s14 ⟨i, v', hi, h6, rfl, w14, g14⟩
 simp only [List.cons.injEq, AV.int.injEq, true_and, and_true] at hi
 obtain ⟨rfl, rfl⟩ := hi
 refine bsplit.dec (fun hlt => ?_) (fun hge => ?_)
 ·obtain ⟨d, hx⟩ := get_lt (l := D) (i := i) (by omega)
  obtain ⟨la, oa, k8, k9⟩ := s7D.ix (by decide) dotC_len u_s_Dot z_Dot hx
  refine ⟨la, oa, k8 _, _, (k9 _ g14.chg.ext).2, NewSt w14 rfl rfl rfl fun l18 s20 F20 => ?_⟩
  have E20 := g14.chg.ext.trans F20.ext
  obtain ⟨_, _, _, pc, lm, tm, a, _, _, _, _, _, ⟨es, c, hm, hg, _⟩, _⟩ := h7.ext E20
  obtain ⟨k, hk, hkt⟩ := key d (List.mem_of_getElem? hx)
  have hlook : alookup T Y_m_Dot_Key (.map (some lm)) (.agg (dotC d)) false s20 = some (.agg (keyC k)) := by
   have := hm.find mp_live d false
   rw [hg, hk] at this
   exact this
  have hfd : f d = ⟨d, k.d⟩ := by simp [f, hk]
  have ht : (D.take (i + 1)).map f = (D.take i).map f ++ [⟨d, k.d⟩] := by rw [List.take_add_one, hx, Option.toList_some, List.map_append, ← hfd]; rfl
  have hl20 := F20.own.at
  refine ⟨_, hl20.rdc (by simp [dotC]), some lm, by rw [a.at.rd1]; rfl, _, hl20.rdc (by simp [dotC]), _, hlook, k.d, rfl, _, build_dst d k.d, ?_⟩
  refine GroN.append1 sl_s_Dest dstC_len dstC_one F20.wf (g14.step F20.ext) (by simp) ⟨d, k.d⟩ (by simp; omega) fun v' s' g' w' _ => ?_
  exact ⟨D.length - (i + 1), by omega, i + 1, v', by rw [wrap_i (by omega)]; rfl, by omega, rfl, w', by rw [ht]; exact g'⟩
 ·rw [List.take_of_length_le (by omega)] at g14
  refine ⟨D.map f, ⟨?_, fun e => ?_⟩, g14.sl dstC_len, F2.ext.trans (g7.chg.ext.trans g14.chg.ext)⟩
  ·rw [List.map_map]
   have : D.map (Dst.dot ∘ f) = D := by
    conv => rhs; rw [← List.map_id D]
    rfl
   rw [this]; exact hris
  ·rw [List.mem_map]
   constructor
   ·rintro ⟨d, hd, rfl⟩
    obtain ⟨k, hk, hkt⟩ := key d hd
    simp only [f, hk]
    cases k; simp only at hkt; subst hkt; rfl
   ·intro he
    refine ⟨e.dot, (hD _).2 (by simp [OSet.held, he]), ?_⟩
    simp only [f, he]
    rfl
theorem ref_Dests_ok (h : RefO G s q x) (o : OOk x B) (hB : B ≤ 1000) (t : List UInt8) :
  ACalls Tryz.prog F_ref07iSet_Dests [.ptr (some (q, 0)), .str t] s fun v s' => ∃ L, Dests x t L ∧ Sl dstC 3 s' v L ∧ Ext s s' := by
 refine q_ref07iSet_Dests _ _ _ _ ?_
 refine ACalls.use (ref_Live_ok h o hB) ?_
 rintro v1 s2 ⟨I, hI, g2⟩ w2
 have hIl := hI.len o
 have hLl : (liveI I).length ≤ I.length := List.length_filter_le _ _
 have s2I := g2.sl itemC_len
 let f : Itm → List Dst := fun i => if i.key.t = t then [⟨i.dot, i.key.d⟩] else []
 have hflen : ∀ l : List Itm, (l.flatMap f).length ≤ l.length := by
  intro l
  induction l with
  | nil => simp
  | cons a l ih =>
   have h1 : (f a).length ≤ 1 := by simp only [f]; split <;> simp
   rw [List.flatMap_cons, List.length_append, List.length_cons]
   omega
 refine ⟨fun m vs s' => ∃ (i : Nat) (v : AV), vs = [v, .int .i64 (i : Nat)] ∧ i ≤ (liveI I).length ∧ m = (liveI I).length - i ∧ WFs s' ∧ GroN dstC 3 [] s2 s' v (((liveI I).take i).flatMap f), (liveI I).length, ⟨0, _, rfl, by omega, rfl, w2, by simpa using GroN.nil⟩, ?_⟩
 rintro m v12 n s14 ⟨i, v', hi, h6, rfl, w14, g14⟩
 simp only [List.cons.injEq, AV.int.injEq, true_and, and_true] at hi
 obtain ⟨rfl, rfl⟩ := hi
 refine ⟨_, s2I.lenB u_s_Item _, bsplit.dec (fun hlt => ?_) (fun hge => ?_)⟩
 ·obtain ⟨j, hx⟩ := get_lt (l := liveI I) (i := i) (by omega)
  obtain ⟨la, oa, k8, k9⟩ := s2I.ix (by decide) itemC_len u_s_Item z_Item hx
  have step := List.take_add_one (l := liveI I) (i := i)
  rw [hx, Option.toList_some] at step
  have hk := k9 _ g14.chg.ext
  refine ⟨la, oa, k8 _, j.key.t, hk.1 2 (by decide), ?_⟩
  have hfl := hflen ((liveI I).take i)
  have htl := List.length_take_le i (liveI I)
  refine bsplit.mk (fun hb => ?_) (fun hb => ?_)
  ·have hb' : j.key.t = t := by simpa using hb
   refine ⟨la, oa, k8 _, _, rdc_pre hk.2 (by decide), la, oa, k8 _, j.key.d, hk.1 3 (by decide), _, build_dst j.dot j.key.d, ?_⟩
   refine GroN.append1 sl_s_Dest dstC_len dstC_one w14 g14 (by simp) ⟨j.dot, j.key.d⟩ (by omega) fun v' s' g' w' _ => ?_
   refine ⟨(liveI I).length - (i + 1), by omega, i + 1, v', by rw [wrap_i (by omega)]; rfl, by omega, rfl, w', ?_⟩
   rw [step, List.flatMap_append]
   simpa [f, hb'] using g'
  ·have hb' : ¬ j.key.t = t := by simpa using hb
   refine ⟨(liveI I).length - (i + 1), by omega, i + 1, v12, by rw [wrap_i (by omega)]; rfl, by omega, rfl, w14, ?_⟩
   rw [step, List.flatMap_append]
   simpa [f, hb'] using g14
 ·rw [List.take_of_length_le (by omega)] at g14
  have hris : Rising ((liveI I).map Itm.dot) := hI.ris.sublist (List.Sublist.map _ List.filter_sublist)
  refine ⟨(liveI I).flatMap f, ⟨?_, fun e => ?_⟩, g14.sl dstC_len, g2.chg.ext.trans g14.chg.ext⟩
  ·have : ∀ l : List Itm, (((l.flatMap f)).map Dst.dot).Sublist (l.map Itm.dot) := by
    intro l
    induction l with
    | nil => simp
    | cons a l ih =>
     simp only [List.flatMap_cons, List.map_append, List.map_cons, f] at ih ⊢
     split
     ·simpa using ih
     ·simpa using ih.trans (List.sublist_cons_self _ _)
   exact hris.sublist (this _)
  ·rw [List.mem_flatMap]
   constructor
   ·rintro ⟨j, hj, he⟩
    simp only [f] at he
    split at he
    ·rename_i hk
     obtain rfl := List.mem_singleton.1 he
     rw [((liveI_mem hI j).1 hj).2, ← hk]
    ·cases he
   ·intro he
    exact ⟨⟨e.dot, ⟨t, e.dev⟩, false⟩, (liveI_mem hI _).2 ⟨rfl, he⟩, by simp [f]⟩
theorem SameDests_ok {v v' : AV} {l l' : List Dst} (h : Sl dstC 3 s v l) (h' : Sl dstC 3 s v' l') (hn : l.length ≤ 2 ^ 40) : ACalls Tryz.prog F_ref07iSameDests [v, v'] s fun r s' => r = .bool (decide (l = l')) ∧ s' = s := by
 refine q_ref07iSameDests _ _ _ _ ⟨_, h.lenB u_s_Dest _, _, h'.lenB u_s_Dest _, bsplit.mk (fun hq => ?_) (fun hq => ?_)⟩
 ·refine ⟨?_, rfl⟩
  have hq' : ¬ (l.length : Int) = (l'.length : Int) := by simpa using hq
  have : l.length ≠ l'.length := by omega
  have : l ≠ l' := fun e => this (by rw [e])
  simp [this]
 ·have hl : l.length = l'.length := by
   have : (l.length : Int) = (l'.length : Int) := by simpa using hq
   omega
  refine ⟨fun m vs s' => ∃ i : Nat, vs = [.int .i64 (i : Nat)] ∧ i ≤ l.length ∧ m = l.length - i ∧ s' = s ∧ l.take i = l'.take i, l.length, ⟨0, rfl, by omega, rfl, rfl, rfl⟩, ?_⟩
  rintro m n s7 ⟨i, hi, h6, rfl, rfl, ht⟩
  simp only [List.cons.injEq, AV.int.injEq, true_and, and_true] at hi
  subst hi
  refine ⟨_, h.lenB u_s_Dest _, bsplit.dec (fun hlt => ?_) (fun hge => ⟨?_, rfl⟩)⟩
  ·obtain ⟨x, hx⟩ := get_lt (l := l) (i := i) (by omega)
   obtain ⟨y, hy⟩ := get_lt (l := l') (i := i) (by omega)
   obtain ⟨la, o, h8, h9⟩ := h.ix (by decide) dstC_len u_s_Dest z_Dest hx
   obtain ⟨la', o', h8', h9'⟩ := h'.ix (by decide) dstC_len u_s_Dest z_Dest hy
   refine ⟨la, o, h8 _, _, (h9 _ (Ext.refl _)).2, la', o', h8' _, _, (h9' _ (Ext.refl _)).2, _, dst_eq x y, bsplit.mk (fun hq => ?_) (fun hq => ?_)⟩
   ·refine ⟨?_, rfl⟩
    have hne : x ≠ y := by simpa using hq
    have : l ≠ l' := by rintro rfl; rw [hx] at hy; exact hne (Option.some.inj hy)
    simp [this]
   ·have he : x = y := by simpa using hq
    refine ⟨l.length - (i + 1), by omega, i + 1, by rw [wrap_i (by omega)]; rfl, by omega, rfl, rfl, ?_⟩
    rw [List.take_add_one, List.take_add_one, hx, hy, ht, he]
  ·rw [List.take_of_length_le (by omega), List.take_of_length_le (by omega)] at ht
   simp [ht]
theorem ref_IsGone_ok (h : RefO G s q x) (o : OOk x B) (hB : B ≤ 1000) (d : Dot) :
  ACalls Tryz.prog F_ref07iSet_IsGone [.ptr (some (q, 0)), .agg (dotC d)] s fun r s' => r = .bool (!(x.live d).isSome && x.has d) ∧ Ext s s' := by
 have hex := o.exlen
 obtain ⟨w, iw, I, a, c2, c3, hI, hr, hT⟩ := h.open
 have hlen := hI.len o
 refine ACalls.pre fun hw => q_ref07iSet_IsGone _ _ _ _ ⟨rfl, NewQ.intro hw rfl fun l1 s2 F2 => ⟨_, F2.own.at.rdc (by simp [dotC]), ?_⟩⟩
 refine ACalls.use (at_ok (a.ext F2.ext) h.ok.v.len ((c3.sl itemC_len).ext F2.ext) (by omega) d) ?_
 rintro v4 s5 ⟨e5, n, rfl, hat⟩ w5
 refine ⟨_, rfl, _, (F2.own.ext e5).at.rdc (by simp [dotC]), ?_⟩
 have E5 := F2.ext.trans e5
 refine ACalls.use (ref_Has_T (hT.ext E5) (by omega) d) ?_
 rintro v10 s11 ⟨rfl, e11⟩ w11
 have E11 := E5.trans e11
 have hhas : hasD x.v x.ex d = x.has d := rfl
 rw [hhas]
 refine ⟨_, rfl, bsplit.mk (fun hb => ?_) (fun hb => ⟨by rw [hb]; simp, E11⟩)⟩
 rcases hat with ⟨rfl, hno⟩ | ⟨k, rfl, i, hi, hid⟩
 ·refine bsplit.yes rfl ⟨?_, E11⟩
  have : x.live d = none := by
   cases hx : x.live d with
   | none => rfl
   | some k => exact absurd rfl (hno ⟨d, k, false⟩ ((hI.mem _).2 hx))
  rw [this, hb]; rfl
 ·have hs := (c3.sl itemC_len).ext E11
  obtain ⟨la, oa, k8, k9⟩ := hs.ix (by decide) itemC_len u_s_Item z_Item hi
  refine bsplit.no (by simp) ⟨iw, hr _ E11, la, oa, k8 _, i.gone, (k9 _ (Ext.refl _)).1 4 (by decide), ?_, E11⟩
  have hm := (hI.mem i).1 (List.mem_of_getElem? hi)
  unfold OSet.item at hm
  subst hid
  cases hg : i.gone with
  | true =>
   rw [hg] at hm
   rw [(o.tb _ hm.1).2, hb]; rfl
  | false =>
   rw [hg] at hm
   rw [hm]; rfl
end
end Go.Proofs.YtoklmpkpeanloaaGreat
end

section
namespace Go.Proofs.YtoklmpkpeanloaaGreat
open Go.Am Go.Minster Go.Minster2
def strC (t : List UInt8) : List AV := [.str t]
theorem strC_len (t : List UInt8) : (strC t).length = 1 := rfl
set_option maxRecDepth 100000 in
set_option maxHeartbeats 4000000 in
theorem orsetLooks_ok {s : AS} {av dv tv : AV} {l : List A07} {ds : List Dot} {ts : List (List UInt8)} {k : Key} (h : Acts7 s av l) (hi : ∀ a ∈ l, a.items.length ≤ reachBytes) (hl : l.length ≤ reachBytes) (hd : Dots s dv ds) (ht : Sl strC 1 s tv ts) :
  ACalls Tryz.prog F_law07iOrsetLooks [av, dv, tv, .agg (keyC k)] s fun r s' => r = .bool true := by
 refine ACalls.pre fun hw => q_law07iOrsetLooks _ _ _ _ _ _ ⟨rfl, NewQ.intro hw rfl fun l1 s2 F2 => ?_⟩
 have a2 : Acts7 s2 av l := ⟨h.sl.ext F2.ext, fun a ha => (h.each a ha).ext F2.ext⟩
 have d2 : Dots s2 dv ds := hd.ext F2.ext
 have t2 : Sl strC 1 s2 tv ts := ht.ext F2.ext
 have c2 : At s2 l1 (keyC k) := F2.own.at
 have kn : ∀ s', ACalls Tryz.prog F_law07iknown [] s' fun v4 s5 => ∃ b6 : Bool, v4 = .bool b6 ∧ (AV.bool b6 = .bool true) := by
  intro s'
  refine (known07_ok s').mono ?_
  rintro v s' ⟨rfl, _⟩
  exact ⟨_, rfl, rfl⟩
 refine ⟨fun vs s' => Ext s2 s' ∧ WFs s' ∧ ∃ b, vs = [.bool b] ∧ (b = false → l.length ≤ 100 ∧ weigh l ≤ 300 ∧ ds.length ≤ 30 ∧ ts.length ≤ 30), ?_, ?_⟩
 rotate_left
 ·refine ACalls.use (few7_ok a2 hi hl) ?_
  rintro r s110 ⟨rfl, b, rfl, hfew⟩ w2
  refine ⟨_, rfl, bsplit.mk (fun hb => ⟨Ext.refl _, w2, _, rfl, by simp⟩) (fun hb => ?_)⟩
  obtain ⟨hn, hw⟩ := hfew (by simpa using hb)
  refine ⟨_, d2.lenB u_s_Dot _, bsplit.dec (fun _ => ⟨Ext.refl _, w2, _, rfl, by simp⟩) (fun h1 => ⟨_, t2.lenB u_s_string _, Ext.refl _, w2, _, rfl, fun h2 => ⟨hn, hw, by omega, ?_⟩⟩)⟩
  simp only [decide_eq_false_iff_not] at h2
  omega
 rintro b s5 ⟨e5, w5, b', hb', hsm⟩
 obtain rfl : b = b' := by simpa using hb'
 refine bsplit.mk (fun hb => kn _) (fun hb => ?_)
 obtain ⟨hn, hwt, hnd, hnt⟩ := hsm hb
 refine start7 e5 fun p q s14 w14 e14 P0 => ?_
 refine ⟨fun vs s' => vs = [] ∧ WFs s' ∧ ∃ x, Pair2 s2 s' p q x x 400, ?_, acts_loop (J := fun vs s' => vs = [] ∧ WFs s' ∧ ∃ x, Pair2 s2 s' p q x x 400) a2 hn hwt w14 P0 fun s' x w P => ⟨rfl, w, x, P⟩⟩
 rintro s16 ⟨_, w16, x, e16, F, G, h1, h2, h3, h4, h5⟩
 have hS := h1.set
 have o := h1.ok
 obtain ⟨bl, bt⟩ := hS.bnd o
 replace c2 := c2.ext e16
 replace d2 := d2.ext e16
 replace t2 := t2.ext e16
 obtain ⟨w, iw, I, aq, iw2, iw3, hI, hr0, hT⟩ := h2.open
 have hr : ∀ s', Ext s16 s' → rd1 s' q 17 = some iw := fun s' e => by have := hr0 s' e; rwa [Nat.zero_add] at this
 have sI := iw3.sl itemC_len
 have hIl := hI.len o
 have hmay : ∀ i ∈ I, i.dot.may = true := fun i hi => has_may (item_has o ((hI.mem i).1 hi))
 refine ACalls.use (ref_Live_ok h2 o (by omega)) ?_
 rintro v17 s18 ⟨I', hI', g18⟩ w18
 obtain rfl := hI'.uniq hI
 have e18 := g18.chg.ext
 have sL := g18.sl itemC_len
 have hLl : (liveI I').length ≤ I'.length := List.length_filter_le _ _
 have hlm := liveI_mem hI
 refine ⟨fun vs s' => s' = s18 ∧ vs = [.bool (decide (∃ i ∈ liveI I', i.key = k))], ?_, fun m vs s' => ∃ (i : Nat), vs = [.bool (decide (∃ y ∈ (liveI I').take i, y.key = k)), .int .i64 (i : Nat)] ∧ i ≤ (liveI I').length ∧ m = (liveI I').length - i ∧ s' = s18, (liveI I').length, ⟨0, by simp, by omega, rfl, rfl⟩, ?_⟩
 rotate_left
 ·rintro m b n s252 ⟨i, hin, h6, rfl, rfl⟩
  simp only [List.cons.injEq, AV.int.injEq, AV.bool.injEq, true_and, and_true] at hin
  obtain ⟨rfl, rfl⟩ := hin
  refine ⟨_, sL.lenB u_s_Item _, bsplit.dec (fun hlt => ?_) (fun hge => ?_)⟩
  ·obtain ⟨j, hj⟩ := get_lt (l := liveI I') (i := i) (by omega)
   obtain ⟨la, oa, k8, k9⟩ := sL.ix (by decide) itemC_len u_s_Item z_Item hj
   have step := List.take_add_one (l := liveI I') (i := i)
   rw [hj, Option.toList_some] at step
   refine bsplit.dec (fun hb1 => ⟨(liveI I').length - (i + 1), by omega, i + 1, ?_, by omega, rfl, rfl⟩) (fun hb1 => ⟨la, oa, k8 _, _, rdc_mid ((k9 _ (Ext.refl _)).2) 2 2 (by decide), _, (c2.ext e18).rdc (by simp [keyC]), _, key_eq j.key k, (liveI I').length - (i + 1), by omega, i + 1, ?_, by omega, rfl, rfl⟩)
   ·rw [wrap_i (by omega), step]
    obtain ⟨y, hy, hyk⟩ := hb1
    have : ∃ y ∈ List.take i (liveI I') ++ [j], y.key = k := ⟨y, by simp [hy], hyk⟩
    simp only [this, decide_true]; rfl
   ·rw [wrap_i (by omega), step]
    have : (∃ y ∈ List.take i (liveI I') ++ [j], y.key = k) ↔ j.key = k := by
     constructor
     ·rintro ⟨y, hy, hyk⟩
      rcases List.mem_append.1 hy with hy | hy
      ·exact absurd ⟨y, hy, hyk⟩ hb1
      ·obtain rfl := List.mem_singleton.1 hy; exact hyk
     ·exact fun e => ⟨j, by simp, e⟩
    simp only [this]; rfl
  ·rw [List.take_of_length_le (by omega)]
   exact ⟨rfl, rfl⟩
 rintro b20 s21 ⟨rfl, hb20⟩
 obtain rfl : b20 = decide (∃ i ∈ liveI I', i.key = k) := by simpa using hb20
 refine ⟨fun vs s' => vs = [] ∧ WFs s' ∧ Ext s21 s', ?_, ?_⟩
 rotate_left
 ·
  refine ⟨fun _ _ _ _ => True, fun n _ v => (n = 2 → v = .bool (decide (∃ i ∈ liveI I', i.key = k))) ∧ (n = 7 → v = .bool k.may), fun _ _ _ _ _ _ h => h, _, (c2.ext e18).rdc (by simp [keyC]), fun s222 e222 w222 _ => ?_, ⟨.bool (decide (∃ i ∈ liveI I', i.key = k)), fun _ => rfl, by simp⟩, fun v226 hv => ?_⟩
  ·refine (Has_ok (hS.ext (e18.trans e222)) (by omega) k).mono ?_
   rintro r s224 ⟨⟨b, rfl, hb⟩, e224⟩
   refine ⟨_, rfl, e224, trivial, fun _ => ?_, by simp⟩
   congr 1
   rw [Bool.eq_iff_iff, hb, decide_eq_true_eq]
   constructor
   ·rintro ⟨d, hd⟩
    exact ⟨⟨d, k, false⟩, (hlm _).2 ⟨rfl, hd⟩, rfl⟩
   ·rintro ⟨i, hi, rfl⟩
    exact ⟨_, ((hlm i).1 hi).2⟩
  obtain rfl := hv.1 rfl
  refine ⟨_, rfl, bsplit.no (by simp) ⟨_, (c2.ext e18).rdc (by simp [keyC]), fun s231 e231 w231 _ => ?_, ⟨.bool k.may, by simp⟩, fun v235 hv2 => ?_⟩⟩
  ·refine (MayKey_ok k s231).mono ?_
   rintro v s' ⟨rfl, e⟩
   exact ⟨_, rfl, e, trivial, by simp⟩
  obtain rfl := hv2.2 rfl
  refine ⟨_, rfl, k.t, by rw [(c2.ext e18).rd1]; rfl, fun s238 e238 w238 _ => ?_⟩
  refine ACalls.use (refName_ok _ _) ?_
  rintro v s241 ⟨rfl, rfl⟩ w241
  refine ⟨_, rfl, bsplit.mk (fun hb1 => ⟨k.d, by rw [((c2.ext e18).ext e238).rd1]; rfl, ?_⟩) (fun hb1 => bsplit.no (by simp [Key.may, hb1]) ⟨rfl, w241, e238⟩)⟩
  refine ACalls.use (refName_ok _ _) ?_
  rintro v s245 ⟨rfl, rfl⟩ w245
  exact ⟨_, rfl, bsplit.no (by simp [Key.may, hb1]) ⟨rfl, w245, e238⟩⟩
 rintro s23 ⟨_, w23, e23⟩
 have E23 := e18.trans e23
 refine ⟨fun vs s' => vs = [] ∧ WFs s' ∧ Ext s23 s', ?_, ?_⟩
 rotate_left
 ·
  refine ⟨fun m vs s' => ∃ (i : Nat), vs = [.int .i64 (i : Nat)] ∧ i ≤ ds.length ∧ m = ds.length - i ∧ WFs s' ∧ Ext s23 s', ds.length, ⟨0, rfl, by omega, rfl, w23, Ext.refl _⟩, ?_⟩
  rintro m n s131 ⟨i, hin, h6, rfl, w131, e131⟩
  simp only [List.cons.injEq, AV.int.injEq, true_and, and_true] at hin
  subst hin
  have E131 := E23.trans e131
  refine ⟨_, d2.lenB u_s_Dot _, bsplit.dec (fun hlt => ?_) (fun hge => ⟨rfl, w131, e131⟩)⟩
  obtain ⟨d, hdi⟩ := get_lt (l := ds) (i := i) (by omega)
  obtain ⟨la, oa, k8, k9⟩ := d2.ix (by decide) dotC_len u_s_Dot z_Dot hdi
  have rdD : ∀ s', Ext s16 s' → rdc s' la oa 2 = some (dotC d) := fun s' e => (k9 _ e).2
  refine ⟨la, oa, k8 _, _, rdD _ E131, ?_⟩
  refine ACalls.use (Live_ok (hS.ext E131) d) ?_
  rintro v136 s137 ⟨rfl, e137⟩ w137
  refine ⟨_, _, rfl, ?_⟩
  refine NewSt w137 rfl rfl rfl fun l140 s142 F140 => ⟨_, key0_build, ?_⟩
  refine NewSt F140.wf rfl rfl rfl fun l144 s146 F144 => ?_
  have e146 := e137.trans (F140.ext.trans F144.ext)
  have E146 := E131.trans e146
  have c140 : At s146 l140 (keyC ((x.live d).getD ⟨[], []⟩)) := F140.own.at.ext F144.ext
  have o144 : Am.Own s146 l144 (keyC ⟨[], []⟩) := F144.own
  have hn146 : ∀ z ∈ [l144], s131.h z = none := by
   intro z hz
   obtain rfl := List.mem_singleton.1 hz
   exact e137.none (F140.ext.none F144.no)
  refine ⟨fun vs s' => vs = [.bool (x.live d).isSome] ∧ WFs s' ∧ Ext s131 s' ∧ At s' l140 (keyC ((x.live d).getD ⟨[], []⟩)) ∧ At s' l144 (keyC ((x.live d).getD ⟨[], []⟩)), ?_, ?_⟩
  rotate_left
  ·
   refine ⟨fun m vs s' => ∃ (j : Nat) (b : Bool) (kk : Key), vs = [.bool b, .int .i64 (j : Nat)] ∧ j ≤ (liveI I').length ∧ m = (liveI I').length - j ∧ WFs s' ∧ Mut [l144] s146 s' ∧ Am.Own s' l144 (keyC kk) ∧ ((b = true ∧ x.live d = some kk) ∨ (b = false ∧ kk = ⟨[], []⟩ ∧ ∀ y ∈ (liveI I').take j, y.dot ≠ d)), (liveI I').length, ⟨0, false, ⟨[], []⟩, rfl, by omega, rfl, F144.wf, Mut.refl _ _, o144, .inr ⟨rfl, rfl, by simp⟩⟩, ?_⟩
   rintro m b n s208 ⟨j, b', kk, hin, h7, rfl, w208, m208, o208, hcase⟩
   simp only [List.cons.injEq, AV.int.injEq, AV.bool.injEq, true_and, and_true] at hin
   obtain ⟨rfl, rfl⟩ := hin
   have e208 : Ext s131 s208 := Ext.wrL e146 hn146 m208
   have sL208 := sL.ext (e23.trans (e131.trans e208))
   refine ⟨_, sL208.lenB u_s_Item _, bsplit.dec (fun hlt2 => ?_) (fun hge2 => ?_)⟩
   ·obtain ⟨y, hy⟩ := get_lt (l := liveI I') (i := j) (by omega)
    have hyl := (hlm y).1 (List.mem_of_getElem? hy)
    obtain ⟨ly, oy, m8, m9⟩ := sL208.ix (by decide) itemC_len u_s_Item z_Item hy
    have step := List.take_add_one (l := liveI I') (i := j)
    rw [hy, Option.toList_some] at step
    refine ⟨ly, oy, m8 _, _, rdc_pre ((m9 _ (Ext.refl _)).2) (by decide), la, oa, k8 _, _, rdD _ (E131.trans e208), _, dot_eq y.dot d, bsplit.dec (fun he => ?_) (fun he => ?_)⟩
    ·refine ⟨ly, oy, m8 _, _, rdc_mid ((m9 _ (Ext.refl _)).2) 2 2 (by decide), ⟨rfl, rfl⟩, StQ.own w208 o208 (by simp [itemC, keyC]) fun s220 P220 => ?_⟩
     refine ⟨(liveI I').length - (j + 1), by omega, j + 1, true, y.key, by rw [wrap_i (by omega)]; rfl, by omega, rfl, P220.wf, m208.trans P220.mut, ?_, .inl ⟨rfl, by rw [← he]; exact hyl.2⟩⟩
     exact P220.at
    ·refine ⟨(liveI I').length - (j + 1), by omega, j + 1, b, kk, by rw [wrap_i (by omega)]; rfl, by omega, rfl, w208, m208, o208, ?_⟩
     rcases hcase with h | ⟨h1, h2, h3⟩
     ·exact .inl h
     ·refine .inr ⟨h1, h2, fun z hz => ?_⟩
      rw [step] at hz
      rcases List.mem_append.1 hz with hz | hz
      ·exact h3 z hz
      ·obtain rfl := List.mem_singleton.1 hz; exact he
   ·rw [List.take_of_length_le (by omega)] at hcase
    have c140' : At s208 l140 (keyC ((x.live d).getD ⟨[], []⟩)) := c140.mut m208 (by
     simp only [List.mem_singleton]
     rintro rfl
     have := F144.no
     rw [F140.at] at this; cases this)
    rcases hcase with ⟨rfl, hx⟩ | ⟨rfl, rfl, hx⟩
    ·refine ⟨by rw [hx]; rfl, w208, e208, c140', ?_⟩
     rw [hx]; exact o208.at
    ·have hx0 : x.live d = none := by
      cases hxd : x.live d with
      | none => rfl
      | some kk => exact absurd rfl (hx ⟨d, kk, false⟩ ((hlm _).2 ⟨rfl, hxd⟩))
     refine ⟨by rw [hx0]; rfl, w208, e208, c140', ?_⟩
     rw [hx0]; exact o208.at
  rintro b148 s149 ⟨hb148, w149, e149, a140, a144⟩
  obtain rfl : b148 = (x.live d).isSome := by simpa using hb148
  have E149 := E131.trans e149
  refine ⟨fun vs s' => vs = [.int .i64 (bucketOf d)] ∧ WFs s' ∧ Ext s149 s', ?_, ?_⟩
  rotate_left
  ·refine ⟨la, oa, k8 _, _, rdD _ E149, ?_⟩
   refine ACalls.use (ref04iMay_ok d _) ?_
   rintro v194 s195 ⟨rfl, e195⟩ w195
   have E195 := E149.trans e195
   refine ⟨_, rfl, bsplit.mk (fun hb1 => ⟨la, oa, k8 _, d.r, (k9 _ E195).1 0 (by decide), la, oa, k8 _, d.c, (k9 _ E195).1 1 (by decide), by decide, ?_, w195, e195⟩) (fun hb1 => ⟨by simp [bucketOf, hb1], w195, e195⟩)⟩
   simp [bucketOf, hb1, bkt]
  rintro n151 s152 ⟨hn151, w152, e152⟩
  obtain rfl : n151 = bucketOf d := by simpa using hn151
  have E152 := E149.trans e152
  refine ⟨fun _ _ _ _ => True, fun n _ v => (n = 14 → v = .bool (!(x.live d).isSome && x.has d)) ∧ (n = 20 → v = .bool (!(x.live d).isSome && x.has d)) ∧ (n = 28 → v = .int .i64 (bucketOf d)), fun _ _ _ _ _ _ h => h, _, (a140.ext e152).rdc (by simp [keyC]), _, (a144.ext e152).rdc (by simp [keyC]), _, key_eq _ _, bsplit.no (by simp) (bsplit.no (by simp) ⟨la, oa, k8 _, _, rdD _ E152, fun s163 e163 w163 _ => ?_, ⟨.bool (!(x.live d).isSome && x.has d), by simp⟩, fun v167 hv => ?_⟩)⟩
  ·refine (Gone_ok (hS.ext (E152.trans e163)) d).mono ?_
   rintro r s165 ⟨rfl, e165⟩
   exact ⟨_, rfl, e165, trivial, fun _ => rfl, by simp, by simp⟩
  obtain rfl := hv.1 rfl
  refine ⟨_, rfl, la, oa, k8 _, _, rdD _ E152, fun s172 e172 w172 _ => ?_, ⟨.bool (!(x.live d).isSome && x.has d), by simp⟩, fun v176 hv2 => ?_⟩
  ·refine (ref_IsGone_ok (h2.ext (E152.trans e172)) o (by omega) d).mono ?_
   rintro r s174 ⟨rfl, e174⟩
   exact ⟨_, rfl, e174, trivial, by simp, fun _ => rfl, by simp⟩
  obtain rfl := hv2.2.1 rfl
  refine ⟨_, rfl, bsplit.no (by simp) ⟨la, oa, k8 _, _, rdD _ E152, fun s183 e183 w183 _ => ?_, ⟨.int .i64 (bucketOf d), by simp⟩, fun v187 hv3 => ?_⟩⟩
  ·refine (BucketOf_ok d s183).mono ?_
   rintro r s185 ⟨rfl, e185⟩
   exact ⟨_, rfl, e185, trivial, by simp, by simp, fun _ => rfl⟩
  obtain rfl := hv3.2.2 rfl
  exact ⟨_, rfl, fun s189 e189 w189 _ => bsplit.no (by simp) ⟨ds.length - (i + 1), by omega, i + 1, by rw [wrap_i (by omega)]; rfl, by omega, rfl, w189, e131.trans (e149.trans (e152.trans e189))⟩⟩
 rintro s25 ⟨_, w25, e25⟩
 have E25 := E23.trans e25
 refine ⟨fun vs s' => vs = [] ∧ WFs s' ∧ Ext s25 s', ?_, ?_⟩
 rotate_left
 ·
  refine ⟨fun m vs s' => ∃ (i : Nat), vs = [.int .i64 (i : Nat)] ∧ i ≤ ts.length ∧ m = ts.length - i ∧ WFs s' ∧ Ext s25 s', ts.length, ⟨0, rfl, by omega, rfl, w25, Ext.refl _⟩, ?_⟩
  rintro m n s108 ⟨i, hin, h6, rfl, w108, e108⟩
  simp only [List.cons.injEq, AV.int.injEq, true_and, and_true] at hin
  subst hin
  have E108 := E25.trans e108
  refine ⟨_, t2.lenB u_s_string _, bsplit.dec (fun hlt => ?_) (fun hge => ⟨rfl, w108, e108⟩)⟩
  obtain ⟨t, hti⟩ := get_lt (l := ts) (i := i) (by omega)
  obtain ⟨la, oa, k8, k9⟩ := t2.ix (by decide) strC_len u_s_string z_string hti
  have rdT : rd1 s108 la oa = some (.str t) := (k9 _ E108).1 0 (by decide)
  refine ⟨fun n _ v s' => n = 5 → ∃ L, Dests x t L ∧ Sl dstC 3 s' v L, fun _ _ _ => True, fun _ _ _ _ _ e h hn => by obtain ⟨L, g1, g2⟩ := h hn; exact ⟨L, g1, g2.ext e⟩, la, oa, k8 _, t, rdT, fun s113 e113 w113 _ => ?_, ⟨.undef, trivial⟩, fun v116 _ => ⟨la, oa, k8 _, t, rdT, fun s120 e120 w120 hS5 => ?_⟩⟩
  ·refine (Dests_ok (hS.ext (E108.trans e113)) o (by omega) t).mono ?_
   rintro r s115 ⟨L, g1, g2, e115⟩
   exact ⟨e115, fun _ => ⟨L, g1, g2⟩, trivial⟩
  obtain ⟨L, g1, g2⟩ := hS5.1 rfl
  refine ACalls.use (ref_Dests_ok (h2.ext (E108.trans e120)) o (by omega) t) ?_
  rintro v122 s123 ⟨L', g1', g2', e123⟩ w123
  obtain rfl := g1'.uniq g1
  have hLn : L'.length ≤ 2 ^ 40 := by
   have hnd : (L'.map fun e => (⟨e.dot, ⟨t, e.dev⟩, false⟩ : Itm)).Nodup := by
    have := rising_nodup g1'.ris
    refine nodup_of_map Itm.dot ?_
    rw [List.map_map]
    exact this
   have hsub : ∀ e ∈ (L'.map fun e => (⟨e.dot, ⟨t, e.dev⟩, false⟩ : Itm)), e ∈ I' := by
    intro e he
    obtain ⟨u, hu, rfl⟩ := List.mem_map.1 he
    exact (hI.mem _).2 ((g1'.mem u).1 hu)
   have := nodup_len hnd hsub
   rw [List.length_map] at this
   omega
  refine ACalls.use (SameDests_ok (g2.ext e123) g2' hLn) ?_
  rintro v124 s125 ⟨rfl, rfl⟩ w125
  exact ⟨_, rfl, bsplit.no (by simp) ⟨ts.length - (i + 1), by omega, i + 1, by rw [wrap_i (by omega)]; rfl, by omega, rfl, w125, e108.trans (e120.trans e123)⟩⟩
 rintro s27 ⟨_, w27, e27⟩
 have E27 := E25.trans e27
 refine ⟨fun vs s' => ∃ v, vs = [v] ∧ WFs s' ∧ Ext s27 s' ∧ Sl dotC 2 s' v ((I'.filter fun i => i.gone).map Itm.dot), ?_, ?_⟩
 rotate_left
 ·
  refine ⟨fun m vs s' => ∃ (i : Nat) (v : AV), vs = [v, .int .i64 (i : Nat)] ∧ i ≤ I'.length ∧ m = I'.length - i ∧ WFs s' ∧ GroN dotC 2 [] s27 s' v (((I'.take i).filter fun i => i.gone).map Itm.dot), I'.length, ⟨0, _, rfl, by omega, rfl, w27, by simpa using GroN.nil⟩, ?_⟩
  rintro m v86 n s88 ⟨i, v', hin, h6, rfl, w88, g88⟩
  simp only [List.cons.injEq, AV.int.injEq, true_and, and_true] at hin
  obtain ⟨rfl, rfl⟩ := hin
  have E88 := E27.trans g88.chg.ext
  refine ⟨iw, hr _ E88, _, (sI.ext E88).lenB u_s_Item _, bsplit.dec (fun hlt => ?_) (fun hge => ?_)⟩
  ·obtain ⟨j, hj⟩ := get_lt (l := I') (i := i) (by omega)
   obtain ⟨la, oa, k8, k9⟩ := (sI.ext E88).ix (by decide) itemC_len u_s_Item z_Item hj
   have step := List.take_add_one (l := I') (i := i)
   rw [hj, Option.toList_some] at step
   have hfl := List.length_filter_le (fun i : Itm => i.gone) (I'.take i)
   have htl := List.length_take_le i I'
   refine ⟨iw, hr _ E88, la, oa, k8 _, j.gone, (k9 _ (Ext.refl _)).1 4 (by decide), bsplit.mk (fun hb1 => ?_) (fun hb1 => ?_)⟩
   ·refine ⟨iw, hr _ E88, la, oa, k8 _, _, rdc_pre ((k9 _ (Ext.refl _)).2) (by decide), ?_⟩
    refine GroN.append1 sl_s_Dot dotC_len dotC_one w88 g88 (by simp) j.dot (by rw [List.length_map]; omega) fun v' s' g' w' _ => ?_
    refine ⟨I'.length - (i + 1), by omega, i + 1, v', by rw [wrap_i (by omega)]; rfl, by omega, rfl, w', ?_⟩
    rw [step, List.filter_append, List.map_append]
    simpa [hb1] using g'
   ·refine ⟨I'.length - (i + 1), by omega, i + 1, v86, by rw [wrap_i (by omega)]; rfl, by omega, rfl, w88, ?_⟩
    rw [step, List.filter_append, List.map_append]
    simpa [hb1] using g88
  ·rw [List.take_of_length_le (by omega)] at g88
   exact ⟨v86, rfl, w88, g88.chg.ext, g88.sl dotC_len⟩
 rintro v29 s30 ⟨v, hv29, w30, e30, s29⟩
 obtain rfl : v29 = v := by simpa using hv29
 have E30 := E27.trans e30
 refine ACalls.use (Tombs_ok (hS.ext E30) (by omega)) ?_
 rintro v31 s32 ⟨tt, hA, tris, tmem, tlen⟩ w32
 have htt : tt = (I'.filter fun i => i.gone).map Itm.dot := by
  refine rising_uniq tris (hI.ris.sublist (List.Sublist.map _ List.filter_sublist)) fun d => ?_
  rw [tmem, List.mem_map]
  constructor
  ·intro hd
   exact ⟨goneI d, List.mem_filter.2 ⟨(hI.mem _).2 ⟨hd, rfl⟩, rfl⟩, rfl⟩
  ·rintro ⟨i, hi, rfl⟩
   obtain ⟨h1, h2⟩ := List.mem_filter.1 hi
   have := (hI.mem i).1 h1
   unfold OSet.item at this
   rw [h2] at this
   exact this.1
 refine ACalls.use (SameDots_ok hA.dots (s29.ext hA.1) (by omega)) ?_
 rintro v33 s34 ⟨rfl, rfl⟩ w34
 have E34 := E30.trans hA.1
 refine ⟨_, rfl, bsplit.no (by simp [htt]) ?_⟩
 refine ⟨fun m vs s' => ∃ (n : Int), vs = [.int .i64 n] ∧ -1 ≤ n ∧ n ≤ 65 ∧ m = (65 - n).toNat ∧ WFs s' ∧ Ext s16 s', 66, ⟨-1, rfl, by omega, by omega, rfl, w34, E34⟩, ?_⟩
 rintro m n s40 ⟨n', hin, hn1, hn2, rfl, w40, e40⟩
 obtain rfl : n = n' := by simpa using hin
 refine bsplit.dec (fun hle => ?_) (fun hge => kn _)
 refine ACalls.use (Bucket_ok (hS.ext e40) o (by omega) n) ?_
 have next : ∀ s', WFs s' → Ext s16 s' → ∃ m', m' < (65 - n).toNat ∧ ∃ (n2 : Int), [AV.int .i64 (IntKind.wrap .i64 (n + 1))] = [.int .i64 n2] ∧ -1 ≤ n2 ∧ n2 ≤ 65 ∧ m' = (65 - n2).toNat ∧ WFs s' ∧ Ext s16 s' :=
  fun s' w e => ⟨(65 - (n + 1)).toNat, by omega, n + 1, by rw [wrap_i (by omega)], by omega, by omega, rfl, w, e⟩
 rintro v41 s42 ⟨e42, ⟨hout, rfl⟩ | ⟨hin', v43, J, rfl, hJ, sJ⟩⟩ w42
 ·refine ⟨_, _, rfl, fun vs s' => vs = [.bool true] ∧ s' = s42, ?_, bsplit.dec (fun h => ⟨rfl, rfl⟩) (fun h => ⟨?_, rfl⟩)⟩
  ·rintro b46 s47 ⟨hb46, rfl⟩
   obtain rfl : b46 = true := by simpa using hb46
   exact bsplit.yes rfl (bsplit.no rfl (next _ w42 (e40.trans e42)))
  ·have : n = 64 := by omega
   rw [this]; rfl
 obtain rfl := hJ.uniq hI
 refine ⟨_, _, rfl, fun vs s' => vs = [.bool false] ∧ s' = s42, ?_, bsplit.dec (fun h => absurd h (by omega)) (fun h => ⟨?_, rfl⟩)⟩
 rotate_left
 ·have : ¬ n = 64 := by omega
  simp [this]
 rintro b46 s47 ⟨hb46, rfl⟩
 obtain rfl : b46 = false := by simpa using hb46
 have E42 := e40.trans e42
 refine bsplit.no rfl ⟨fun vs s' => ∃ v, vs = [v] ∧ WFs s' ∧ Ext s47 s' ∧ Sl itemC 5 s' v (J.filter fun i => bkt i.dot == n), ?_, ?_⟩
 ·rintro v49 s50 ⟨v, hv49, w50, e50, s49⟩
  obtain rfl : v49 = v := by simpa using hv49
  have hf : (J.filter fun i => bucketOf i.dot == n) = J.filter fun i => bkt i.dot == n := List.filter_congr fun i hi => by simp [bucketOf, hmay i hi]
  have hfl := List.length_filter_le (fun i : Itm => bucketOf i.dot == n) J
  refine bsplit.no rfl ?_
  refine ACalls.use (SameItems_ok (sJ.ext e50) s49 (by omega)) ?_
  rintro v51 s52 ⟨rfl, rfl⟩ w52
  exact ⟨_, rfl, bsplit.no (by simp [hf]) (next _ w52 (E42.trans e50))⟩
 ·refine ⟨fun m vs s' => ∃ (i : Nat) (v : AV), vs = [v, .int .i64 (i : Nat)] ∧ i ≤ J.length ∧ m = J.length - i ∧ WFs s' ∧ GroN itemC 5 [] s47 s' v ((J.take i).filter fun i => bkt i.dot == n), J.length, ⟨0, _, rfl, by omega, rfl, w42, by simpa using GroN.nil⟩, ?_⟩
  rintro m v57 n58 s59 ⟨i, v', hin, h6, rfl, w59, g59⟩
  simp only [List.cons.injEq, AV.int.injEq, true_and, and_true] at hin
  obtain ⟨rfl, rfl⟩ := hin
  have E59 := E42.trans g59.chg.ext
  refine ⟨iw, hr _ E59, _, (sI.ext E59).lenB u_s_Item _, bsplit.dec (fun hlt => ?_) (fun hge => ?_)⟩
  ·obtain ⟨j, hj⟩ := get_lt (l := J) (i := i) (by omega)
   obtain ⟨la, oa, k8, k9⟩ := (sI.ext E59).ix (by decide) itemC_len u_s_Item z_Item hj
   have step := List.take_add_one (l := J) (i := i)
   rw [hj, Option.toList_some] at step
   have hfl := List.length_filter_le (fun i : Itm => bkt i.dot == n) (J.take i)
   have htl := List.length_take_le i J
   refine ⟨iw, hr _ E59, la, oa, k8 _, _, rdc_pre ((k9 _ (Ext.refl _)).2) (by decide), ?_⟩
   refine NewSt w59 rfl rfl rfl fun l66 s68 F68 => ?_
   have c68 : At s68 l66 (dotC j.dot) := F68.own.at
   have E68 := E59.trans F68.ext
   have g68 := g59.step F68.ext
   refine ⟨j.dot.r, by rw [c68.rd1]; rfl, j.dot.c, by rw [c68.rd1]; rfl, by decide, bsplit.mk (fun hb1 => ?_) (fun hb1 => ?_)⟩
   ·have hb2 : (bkt j.dot == n) = true := hb1
    refine ⟨iw, hr _ E68, la, oa, k8 _, _, (k9 _ F68.ext).2, ?_⟩
    refine GroN.append1 sl_s_Item itemC_len itemC_one F68.wf g68 (by simp) j (by omega) fun v' s' g' w' _ => ?_
    refine ⟨J.length - (i + 1), by omega, i + 1, v', by rw [wrap_i (by omega)]; rfl, by omega, rfl, w', ?_⟩
    rw [step, List.filter_append]
    simpa [hb2] using g'
   ·have hb2 : (bkt j.dot == n) = false := hb1
    refine ⟨J.length - (i + 1), by omega, i + 1, v57, by rw [wrap_i (by omega)]; rfl, by omega, rfl, F68.wf, ?_⟩
    rw [step, List.filter_append]
    simpa [hb2] using g68
  ·rw [List.take_of_length_le (by omega)] at g59
   exact ⟨v57, rfl, w59, g59.chg.ext, g59.sl itemC_len⟩
end Go.Proofs.YtoklmpkpeanloaaGreat
end

section
namespace Go.Proofs.YtoklmpkpeanloaaGreat
open Go.Am Go.Minster Go.Minster2 Go.ChangeShapes Go.WideShapes Go.ChangeAt Go.RowKit
set_option maxRecDepth 100000 in
theorem flat_str : flatT Tryz.prog 5 Y_string = some [.str] := by kernel_rfl
set_option maxRecDepth 100000 in
theorem strs_arg {H : Type} {enc : TypeId × Value → H} {W : World} {base : Nat} {v : Value} (hv : Value.okWide Tryz.prog W .any base Y_s_string v) (h : ∃ (d : DataW H) (p : List MemPlace), DataW.Trod enc Tryz.prog W 0 (fun _ => true) true Y_s_string v d p) :
  ∃ l : List (List UInt8), Sl strC 1 (sW W) (absV W.heap.size (MW W) v) l := by
 obtain ⟨d, p, h⟩ := h
 obtain ⟨C, h1, h2, _⟩ := slice_arg (d := 5) (ks := [.str]) (hT.und _ _ u_s_string) flat_str (by kernel_rfl) (by decide) hv h
 obtain ⟨l, e1, e2, e3⟩ := cells_dec (f := strC) (Q := fun i => True) C fun c hc => by
  obtain ⟨a, c1, rfl, ⟨r, rfl, _⟩, g1⟩ := (h2 c hc).cons
  obtain rfl := g1.nil
  exact ⟨r, rfl, trivial⟩
 rw [e1, e2] at h1
 exact ⟨l, h1⟩
end Go.Proofs.YtoklmpkpeanloaaGreat
end
