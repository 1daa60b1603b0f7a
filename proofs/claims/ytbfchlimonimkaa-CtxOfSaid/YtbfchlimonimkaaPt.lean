/-
  What functions ask (printed by wip/tools/qprint.py).
-/
import Derived.Test.YtbfchlimonimkaaFn
import Derived.Test.YtbfchlimonimkaaTyn
import Derived.Test.YtbfchlimonimkaaAmQ3
import Derived.KernelRfl
set_option linter.unusedVariables false
set_option maxRecDepth 100000
set_option maxHeartbeats 4000000
namespace Go.Proofs.Ytbfchlimonimkaa
open Go.Am

/-- what minster/minsterlaw04.CtxPlays asks -/
def Q_law04iCtxPlays (a0 : AV) (a1 : AV) (s : AS) (R : AV → AS → Prop) : Prop :=
 JoinQ fun J1 =>
 (∀ b2 : Bool, ∀ s3 : AS, J1 [(.bool b2)] s3 →
 bsplit b2
 (ACalls Try.prog F_law04iknown [] s3 fun v4 s5 => ∃ b6 : Bool, v4 = .bool b6 ∧ (R (.bool b6) s5))
 (ACalls Try.prog F_ctx_New [] s3 fun v7 s8 => ∃ p9 : Option (Nat × Nat), v7 = .ptr p9 ∧ (RdG (abuild T Y_minsterref04iSet []) fun g10 => One1 g10 (NewQ (.cells g10 0 false) s8 fun l11 s12 => JoinQ fun J13 =>
 (∀ s14 : AS, J13 [] s14 →
 JoinQ fun J15 =>
 (∀ s16 : AS, J15 [] s16 →
 LoopQ fun I17 m18 => I17 m18 [(.int .i64 (-1))] s16 ∧
 ∀ m19 : Nat, ∀ n20 : Int, ∀ s21 : AS, I17 m19 [(.int .i64 n20)] s21 →
 bsplit (decide ((n20 : Int) < 19))
 (ACalls Try.prog F_ctx_Ctx_Next [(.ptr p9), (.int .i64 n20)] s21 fun v22 s23 => ∃ n24 : Int, ∃ n25 : Int, v22 = .tup [(.int .u64 n24), (.int .i64 n25)] ∧ (JoinQ fun J26 =>
 (∀ b27 : Bool, ∀ s28 : AS, J26 [(.bool b27)] s28 →
 bsplit b27
 (bsplit ((n25 : Int) != 2) (R (.bool false) s28) (bsplit ((n24 : Int) != 0)
 (R (.bool false) s28)
 (∃ m', m' < m19 ∧ I17 m' [(.int .i64 (IntKind.wrap .i64 (n20 + 1)))] s28)))
 (ACalls Try.prog F_ref04iSet_Next [(.ptr (some (l11, 0))), (.int .i64 n20)] s28 fun v29 s30 => ∃ n31 : Int, v29 = .int .u64 n31 ∧ (bsplit ((n31 : Int) == 4611686018427387904)
 (bsplit ((n25 : Int) != 5) (R (.bool false) s30) (bsplit ((n24 : Int) != 0)
 (R (.bool false) s30)
 (∃ m', m' < m19 ∧ I17 m' [(.int .i64 (IntKind.wrap .i64 (n20 + 1)))] s30)))
 (bsplit ((n25 : Int) != 0) (R (.bool false) s30) (bsplit ((n24 : Int) != (IntKind.wrap .u64 (n31 + 1)))
 (R (.bool false) s30)
 (∃ m', m' < m19 ∧ I17 m' [(.int .i64 (IntKind.wrap .i64 (n20 + 1)))] s30)))))) ∧
 (bsplit (decide ((n20 : Int) < 1)) (J26 [(.bool true)] s23) (J26 [(.bool (decide ((n20 : Int) > 16)))] s23))))
 (ACalls Try.prog F_law04iknown [] s21 fun v32 s33 => ∃ b34 : Bool, v32 = .bool b34 ∧ (R (.bool b34) s33))) ∧
 (LoopQ fun I35 m36 => I35 m36 [(.int .i64 0)] s14 ∧
 ∀ m37 : Nat, ∀ n38 : Int, ∀ s39 : AS, I35 m37 [(.int .i64 n38)] s39 →
 RdI .i64 (alenB T Y_s_Dot a1 s39) fun n40 => bsplit (decide ((n38 : Int) < n40))
 (DrawQ fun S V => IxQ (aindexAddr T Y_s_Dot a1 (.int .i64 n38)) fun l41 o42 => RdL (rdc s39 l41 o42 2) fun g43 => (∀ s44 : AS, Ext s39 s44 → WFs s44 → (True) → ACalls Try.prog F_ctx_Ctx_Has [(.ptr p9), (.agg g43)] s44 fun v45 s46 => ∃ b47 : Bool, v45 = .bool b47 ∧ ((Ext s44 s46 ∧ S 5 [(.func F_ctx_Ctx_Has []), (.ptr p9), (.agg g43)] (.bool b47) s46 ∧ V 5 [(.func F_ctx_Ctx_Has []), (.ptr p9), (.agg g43)] (.bool b47)))) ∧ (∃ v, V 5 [(.func F_ctx_Ctx_Has []), (.ptr p9), (.agg g43)] v) ∧ ∀ v48 : AV, V 5 [(.func F_ctx_Ctx_Has []), (.ptr p9), (.agg g43)] v48 → ∃ b49 : Bool, v48 = .bool b49 ∧ (IxQ (aindexAddr T Y_s_Dot a1 (.int .i64 n38)) fun l50 o51 => RdL (rdc s39 l50 o51 2) fun g52 => (∀ s53 : AS, Ext s39 s53 → WFs s53 → (S 5 [(.func F_ctx_Ctx_Has []), (.ptr p9), (.agg g43)] (.bool b49) s53 ∧ True) → ACalls Try.prog F_ref04iSet_Has [(.ptr (some (l11, 0))), (.agg g52)] s53 fun v54 s55 => ∃ b56 : Bool, v54 = .bool b56 ∧ ((Ext s53 s55 ∧ S 11 [(.func F_ref04iSet_Has []), (.ptr (some (l11, 0))), (.agg g52)] (.bool b56) s55 ∧ V 11 [(.func F_ref04iSet_Has []), (.ptr (some (l11, 0))), (.agg g52)] (.bool b56)))) ∧ (∃ v, V 11 [(.func F_ref04iSet_Has []), (.ptr (some (l11, 0))), (.agg g52)] v) ∧ ∀ v57 : AV, V 11 [(.func F_ref04iSet_Has []), (.ptr (some (l11, 0))), (.agg g52)] v57 → ∃ b58 : Bool, v57 = .bool b58 ∧ (bsplit (!((b49 : Bool) == b58)) (∀ s59 : AS, Ext s39 s59 → WFs s59 → (S 5 [(.func F_ctx_Ctx_Has []), (.ptr p9), (.agg g43)] (.bool b49) s59 ∧ (S 11 [(.func F_ref04iSet_Has []), (.ptr (some (l11, 0))), (.agg g52)] (.bool b58) s59 ∧ True)) → R (.bool false) s59) (bsplit (decide ((n38 : Int) > 0)) (IxQ (aindexAddr T Y_s_Dot a1 (.int .i64 (IntKind.wrap .i64 (n38 - 1)))) fun l61 o62 => RdL (rdc s39 l61 o62 2) fun g63 => IxQ (aindexAddr T Y_s_Dot a1 (.int .i64 n38)) fun l64 o65 => RdL (rdc s39 l64 o65 2) fun g66 => (∀ s67 : AS, Ext s39 s67 → WFs s67 → (S 5 [(.func F_ctx_Ctx_Has []), (.ptr p9), (.agg g43)] (.bool b49) s67 ∧ (S 11 [(.func F_ref04iSet_Has []), (.ptr (some (l11, 0))), (.agg g52)] (.bool b58) s67 ∧ True)) → ACalls Try.prog F_ctx_Less [(.agg g63), (.agg g66)] s67 fun v68 s69 => ∃ b70 : Bool, v68 = .bool b70 ∧ ((Ext s67 s69 ∧ S 26 [(.func F_ctx_Less []), (.agg g63), (.agg g66)] (.bool b70) s69 ∧ V 26 [(.func F_ctx_Less []), (.agg g63), (.agg g66)] (.bool b70)))) ∧ (∃ v, V 26 [(.func F_ctx_Less []), (.agg g63), (.agg g66)] v) ∧ ∀ v71 : AV, V 26 [(.func F_ctx_Less []), (.agg g63), (.agg g66)] v71 → ∃ b72 : Bool, v71 = .bool b72 ∧ (IxQ (aindexAddr T Y_s_Dot a1 (.int .i64 (IntKind.wrap .i64 (n38 - 1)))) fun l73 o74 => RdL (rdc s39 l73 o74 2) fun g75 => IxQ (aindexAddr T Y_s_Dot a1 (.int .i64 n38)) fun l76 o77 => RdL (rdc s39 l76 o77 2) fun g78 => ∀ s79 : AS, Ext s39 s79 → WFs s79 → (S 5 [(.func F_ctx_Ctx_Has []), (.ptr p9), (.agg g43)] (.bool b49) s79 ∧ (S 11 [(.func F_ref04iSet_Has []), (.ptr (some (l11, 0))), (.agg g52)] (.bool b58) s79 ∧ (S 26 [(.func F_ctx_Less []), (.agg g63), (.agg g66)] (.bool b72) s79 ∧ True))) → ACalls Try.prog F_ref04iLess [(.agg g75), (.agg g78)] s79 fun v81 s82 => ∃ b83 : Bool, v81 = .bool b83 ∧ (bsplit (!((b72 : Bool) == b83))
 (R (.bool false) s82)
 (∃ m', m' < m37 ∧ I35 m' [(.int .i64 (IntKind.wrap .i64 (n38 + 1)))] s82)))) (∀ s84 : AS, Ext s39 s84 → WFs s84 → (S 5 [(.func F_ctx_Ctx_Has []), (.ptr p9), (.agg g43)] (.bool b49) s84 ∧ (S 11 [(.func F_ref04iSet_Has []), (.ptr (some (l11, 0))), (.agg g52)] (.bool b58) s84 ∧ True)) → ∃ m', m' < m37 ∧ I35 m' [(.int .i64 (IntKind.wrap .i64 (n38 + 1)))] s84)))))
 (J15 [] s39))) ∧
 (LoopQ fun I86 m87 => I86 m87 [(.int .i64 0)] s12 ∧
 ∀ m88 : Nat, ∀ n89 : Int, ∀ s90 : AS, I86 m88 [(.int .i64 n89)] s90 →
 RdI .i64 (alenB T Y_s_Dot a0 s90) fun n91 => bsplit (decide ((n89 : Int) < n91))
 (IxQ (aindexAddr T Y_s_Dot a0 (.int .i64 n89)) fun l92 o93 => RdL (rdc s90 l92 o93 2) fun g94 => ACalls Try.prog F_ctx_Ctx_Add [(.ptr p9), (.agg g94)] s90 fun v95 s96 => ∃ b97 : Bool, ∃ n98 : Int, v95 = .tup [(.bool b97), (.int .i64 n98)] ∧ (IxQ (aindexAddr T Y_s_Dot a0 (.int .i64 n89)) fun l99 o100 => RdL (rdc s96 l99 o100 2) fun g101 => ACalls Try.prog F_ref04iMay [(.agg g101)] s96 fun v102 s103 => ∃ b104 : Bool, v102 = .bool b104 ∧ (bsplit (!b104)
 (bsplit ((n98 : Int) != 2) (R (.bool false) s103) (bsplit b97 (R (.bool false) s103) (IxQ (aindexAddr T Y_s_Dot a0 (.int .i64 n89)) fun l105 o106 => RdL (rdc s103 l105 o106 2) fun g107 => ACalls Try.prog F_ctx_May [(.agg g107)] s103 fun v108 s109 => ∃ b110 : Bool, v108 = .bool b110 ∧ (bsplit b110
 (R (.bool false) s109)
 (∃ m', m' < m88 ∧ I86 m' [(.int .i64 (IntKind.wrap .i64 (n89 + 1)))] s109)))))
 (bsplit ((n98 : Int) != 0) (R (.bool false) s103) (IxQ (aindexAddr T Y_s_Dot a0 (.int .i64 n89)) fun l111 o112 => RdL (rdc s103 l111 o112 2) fun g113 => ACalls Try.prog F_ctx_May [(.agg g113)] s103 fun v114 s115 => ∃ b116 : Bool, v114 = .bool b116 ∧ (bsplit (!b116) (R (.bool false) s115) (IxQ (aindexAddr T Y_s_Dot a0 (.int .i64 n89)) fun l117 o118 => RdL (rdc s115 l117 o118 2) fun g119 => ACalls Try.prog F_ref04iSet_Add [(.ptr (some (l11, 0))), (.agg g119)] s115 fun v120 s121 => ∃ b122 : Bool, v120 = .bool b122 ∧ (bsplit (!((b97 : Bool) == b122)) (R (.bool false) s121) (ACalls Try.prog F_law04isame [(.ptr p9), (.ptr (some (l11, 0)))] s121 fun v123 s124 => ∃ b125 : Bool, v123 = .bool b125 ∧ (bsplit (!b125)
 (R (.bool false) s124)
 (∃ m', m' < m88 ∧ I86 m' [(.int .i64 (IntKind.wrap .i64 (n89 + 1)))] s124)))))))))))
 (J13 [] s90)))))) ∧
 (RdI .i64 (alenB T Y_s_Dot a0 s) fun n126 => bsplit (decide ((n126 : Int) > 200)) (J1 [(.bool true)] s) (RdI .i64 (alenB T Y_s_Dot a1 s) fun n127 => J1 [(.bool (decide ((n127 : Int) > 200)))] s))

def A_law04iCtxPlays : QA := (.seq .leaf (.seq (.join [(22, .bool)] [(15, 22)] .leaf (.cond (.seq .leaf .leaf) .leaf)) (.seq .leaf (.join [] [(4, 4), (7, 9), (27, 85)] (.seq .leaf (.wrap (.loop [(7, .int .i64)] [(4, 4), (7, 9), (27, 85)] (.seq (.seq .leaf (.cond .leaf .leaf)) (.seq (.wrap (.seq .leaf (.seq (.seq .leaf (.cond (.seq (.seq .leaf (.cond (.seq .leaf .leaf) .leaf)) .leaf) .leaf)) (.seq .leaf (.cond (.seq .leaf .leaf) .leaf))))) .leaf))))) (.join [] [(4, 4), (10, 10), (86, 131)] (.seq .leaf (.wrap (.loop [(10, .int .i64)] [(4, 4), (10, 10), (86, 131)] (.seq (.seq .leaf (.cond .leaf .leaf)) (.seq (.wrap (.seq (.drawH 36 [[], [], [], [], [], [], [], [], [], [], [], [5], [], [], [], [], [], [], [], [], [], [], [], [], [], [], [5, 11], [], [], [], [], [], [], [], [], []] [5, 11, 26]) (.cond (.seq .leaf .leaf) .leaf))) .leaf))))) (.seq (.seq .leaf (.wrap (.loop [(11, .int .i64)] [(4, 4), (11, 14), (132, 172)] (.seq (.seq .leaf (.cond .leaf .leaf)) (.seq (.wrap (.seq .leaf (.seq (.join [(147, .bool)] [(142, 147)] .leaf (.cond (.seq (.seq .leaf (.cond (.seq .leaf .leaf) .leaf)) .leaf) .leaf)) (.seq .leaf (.seq (.seq .leaf (.cond (.seq (.seq .leaf (.cond (.seq .leaf .leaf) .leaf)) .leaf) .leaf)) (.seq .leaf (.cond (.seq .leaf .leaf) .leaf))))))) .leaf))))) (.seq .leaf .leaf)))))))

theorem q_law04iCtxPlays (a0 : AV) (a1 : AV) (s : AS) (R : AV → AS → Prop) (h : Q_law04iCtxPlays a0 a1 s R) : ACalls Try.prog F_law04iCtxPlays [a0, a1] s R :=
  ACalls.q (n := 174) (rs := [.tmp 4]) (A := A_law04iCtxPlays) hT hmx Try.func3 (by kernel_rfl) rfl rfl rfl (by kernel_rfl) (by kernel_rfl) h

/-- what minster/minsterlaw04.CtxOf asks -/
def Q_law04iCtxOf (a0 : List AV) (a1 : AV) (a2 : AV) (s : AS) (R : AV → AS → Prop) : Prop :=
 One1 a0 (NewQ (.cells a0 0 false) s fun l1 s2 => JoinQ fun J3 =>
 (∀ b4 : Bool, ∀ s5 : AS, J3 [(.bool b4)] s5 →
 bsplit b4
 (ACalls Try.prog F_law04iknown [] s5 fun v6 s7 => ∃ b8 : Bool, v6 = .bool b8 ∧ (R (.bool b8) s7))
 (Bd2 (aappend T Y_s_Dot Y_s_Dot (.slc none 0 0 true) a1 s5) fun v9 s10 => RdL (rdc s10 l1 0 16) fun g11 => ACalls Try.prog F_ctx_Of [(.agg g11), v9] s10 fun v12 s13 => ∃ p14 : Option (Nat × Nat), ∃ n15 : Int, v12 = .tup [(.ptr p14), (.int .i64 n15)] ∧ (RdL (rdc s13 l1 0 16) fun g16 => ACalls Try.prog F_ref04iOf [(.agg g16), a1] s13 fun v17 s18 => ∃ p19 : Option (Nat × Nat), ∃ b20 : Bool, v17 = .tup [(.ptr p19), (.bool b20)] ∧ (JoinQ fun J21 =>
 (∀ s22 : AS, J21 [] s22 →
 ACalls Try.prog F_law04iof [a2] s22 fun v23 s24 => ∃ p25 : Option (Nat × Nat), ∃ p26 : Option (Nat × Nat), v23 = .tup [(.ptr p25), (.ptr p26)] ∧ (ACalls Try.prog F_ctx_Ctx_Vector [(.ptr p25)] s24 fun v27 s28 => ∃ g29 : List AV, v27 = .agg g29 ∧ (ACalls Try.prog F_ctx_Ctx_Extra [(.ptr p25)] s28 fun v30 s31 => ACalls Try.prog F_ctx_Of [(.agg g29), v30] s31 fun v32 s33 => ∃ p34 : Option (Nat × Nat), ∃ n35 : Int, v32 = .tup [(.ptr p34), (.int .i64 n35)] ∧ (bsplit ((n35 : Int) == 0) (ACalls Try.prog F_ctx_Ctx_Same [(.ptr p34), (.ptr p25)] s33 fun v36 s37 => ∃ b38 : Bool, v36 = .bool b38 ∧ (bsplit b38 (ACalls Try.prog F_ctx_Ctx_Same [(.ptr p25), (.ptr p34)] s37 fun v39 s40 => ∃ b41 : Bool, v39 = .bool b41 ∧ (bsplit b41 (ACalls Try.prog F_law04iknown [] s40 fun v42 s43 => ∃ b44 : Bool, v42 = .bool b44 ∧ (R (.bool b44) s43)) (R (.bool false) s40))) (R (.bool false) s37))) (R (.bool false) s33))))) ∧
 (bsplit (!b20)
 (bsplit ((n15 : Int) != 2) (R (.bool false) s18) (RdO (aeq T 100 Y_p_ctx_Ctx (.ptr p14) (.ptr none)) fun b45 => bsplit (!b45)
 (R (.bool false) s18)
 (J21 [] s18)))
 (bsplit ((n15 : Int) != 0) (R (.bool false) s18) (ACalls Try.prog F_law04isame [(.ptr p14), (.ptr p19)] s18 fun v46 s47 => ∃ b48 : Bool, v46 = .bool b48 ∧ (bsplit (!b48)
 (R (.bool false) s47)
 (RdI .i64 (alenB T Y_s_Dot v9 s47) fun n49 => bsplit (decide ((n49 : Int) > 0))
 (IxQ (aindexAddr T Y_s_Dot v9 (.int .i64 0)) fun l50 o51 => RdI .u64 (rd1 s47 l50 (o51 + 1)) fun n52 => IxQ (aindexAddr T Y_s_Dot v9 (.int .i64 0)) fun l53 o54 => StQ (awr s47 l53 (o54 + 1) [(.int .u64 (IntKind.wrap .u64 (n52 + 1)))]) fun s55 => ACalls Try.prog F_law04isame [(.ptr p14), (.ptr p19)] s55 fun v56 s57 => ∃ b58 : Bool, v56 = .bool b58 ∧ (bsplit (!b58)
 (R (.bool false) s57)
 (J21 [] s57)))
 (J21 [] s47)))))))))) ∧
 (RdI .i64 (alenB T Y_s_Dot a1 s2) fun n59 => bsplit (decide ((n59 : Int) > 100)) (J3 [(.bool true)] s2) (RdI .i64 (alenB T Y_s_Dot a2 s2) fun n60 => J3 [(.bool (decide ((n60 : Int) > 100)))] s2)))

def A_law04iCtxOf : QA := (.seq .leaf (.seq (.join [(22, .bool)] [(15, 22)] .leaf (.cond (.seq .leaf .leaf) .leaf)) (.seq .leaf (.seq .leaf (.seq .leaf (.join [] [(6, 6), (38, 67)] (.seq .leaf (.cond (.seq .leaf (.cond (.seq .leaf .leaf) .leaf)) (.seq (.seq .leaf (.cond (.seq .leaf .leaf) .leaf)) (.seq .leaf (.cond (.seq .leaf (.seq .leaf (.cond (.seq .leaf .leaf) .leaf))) .leaf))))) (.seq .leaf (.seq .leaf (.seq .leaf .leaf)))))))))

theorem q_law04iCtxOf (a0 : List AV) (a1 : AV) (a2 : AV) (s : AS) (R : AV → AS → Prop) (h : Q_law04iCtxOf a0 a1 a2 s R) : ACalls Try.prog F_law04iCtxOf [(.agg a0), a1, a2] s R :=
  ACalls.q (n := 96) (rs := [.tmp 6]) (A := A_law04iCtxOf) hT hmx Try.func4 (by kernel_rfl) rfl rfl rfl (by kernel_rfl) (by kernel_rfl) h

/-- what minster/minsterlaw04.CtxJoins asks -/
def Q_law04iCtxJoins (a0 : AV) (a1 : AV) (a2 : AV) (s : AS) (R : AV → AS → Prop) : Prop :=
 JoinQ fun J1 =>
 (∀ b2 : Bool, ∀ s3 : AS, J1 [(.bool b2)] s3 →
 bsplit b2
 (ACalls Try.prog F_law04iknown [] s3 fun v4 s5 => ∃ b6 : Bool, v4 = .bool b6 ∧ (R (.bool b6) s5))
 (ACalls Try.prog F_law04iof [a0] s3 fun v7 s8 => ∃ p9 : Option (Nat × Nat), ∃ p10 : Option (Nat × Nat), v7 = .tup [(.ptr p9), (.ptr p10)] ∧ (ACalls Try.prog F_law04iof [a1] s8 fun v11 s12 => ∃ p13 : Option (Nat × Nat), ∃ p14 : Option (Nat × Nat), v11 = .tup [(.ptr p13), (.ptr p14)] ∧ (ACalls Try.prog F_law04iof [a2] s12 fun v15 s16 => ∃ p17 : Option (Nat × Nat), ∃ p18 : Option (Nat × Nat), v15 = .tup [(.ptr p17), (.ptr p18)] ∧ (ACalls Try.prog F_ctx_Ctx_Covers [(.ptr p9), (.ptr p13)] s16 fun v19 s20 => ∃ b21 : Bool, v19 = .bool b21 ∧ (ACalls Try.prog F_ref04iSet_Covers [(.ptr p10), (.ptr p14)] s20 fun v22 s23 => ∃ b24 : Bool, v22 = .bool b24 ∧ (bsplit (!((b21 : Bool) == b24)) (R (.bool false) s23) (ACalls Try.prog F_ctx_Ctx_Covers [(.ptr p13), (.ptr p9)] s23 fun v25 s26 => ∃ b27 : Bool, v25 = .bool b27 ∧ (ACalls Try.prog F_ref04iSet_Covers [(.ptr p14), (.ptr p10)] s26 fun v28 s29 => ∃ b30 : Bool, v28 = .bool b30 ∧ (bsplit (!((b27 : Bool) == b30)) (R (.bool false) s29) (ACalls Try.prog F_ctx_Ctx_Same [(.ptr p9), (.ptr p13)] s29 fun v31 s32 => ∃ b33 : Bool, v31 = .bool b33 ∧ (ACalls Try.prog F_ref04iSame [(.ptr p10), (.ptr p14)] s32 fun v34 s35 => ∃ b36 : Bool, v34 = .bool b36 ∧ (bsplit (!((b33 : Bool) == b36))
 (R (.bool false) s35)
 (ACalls Try.prog F_ctx_Ctx_Copy [(.ptr p9)] s35 fun v37 s38 => ∃ p39 : Option (Nat × Nat), v37 = .ptr p39 ∧ (ACalls Try.prog F_ctx_Ctx_Copy [(.ptr p13)] s38 fun v40 s41 => ∃ p42 : Option (Nat × Nat), v40 = .ptr p42 ∧ (RdO (aeq T 100 Y_p_ctx_Ctx (.ptr p39) (.ptr none)) fun b43 => bsplit b43 (R (.bool false) s41) (RdO (aeq T 100 Y_p_ctx_Ctx (.ptr p42) (.ptr none)) fun b44 => bsplit b44 (R (.bool false) s41) (ACalls Try.prog F_ctx_Ctx_Join [(.ptr p39), (.ptr p13)] s41 fun v45 s46 => ∃ n47 : Int, v45 = .int .i64 n47 ∧ (bsplit ((n47 : Int) != 0) (R (.bool false) s46) (ACalls Try.prog F_ctx_Ctx_Join [(.ptr p42), (.ptr p9)] s46 fun v48 s49 => ∃ n50 : Int, v48 = .int .i64 n50 ∧ (bsplit ((n50 : Int) != 0) (R (.bool false) s49) (ACalls Try.prog F_ctx_Ctx_Same [(.ptr p39), (.ptr p42)] s49 fun v51 s52 => ∃ b53 : Bool, v51 = .bool b53 ∧ (bsplit (!b53) (R (.bool false) s52) (ACalls Try.prog F_ctx_Ctx_Covers [(.ptr p39), (.ptr p9)] s52 fun v54 s55 => ∃ b56 : Bool, v54 = .bool b56 ∧ (bsplit (!b56) (R (.bool false) s55) (ACalls Try.prog F_ctx_Ctx_Covers [(.ptr p39), (.ptr p13)] s55 fun v57 s58 => ∃ b59 : Bool, v57 = .bool b59 ∧ (bsplit (!b59)
 (R (.bool false) s58)
 (ACalls Try.prog F_ref04iSet_Copy [(.ptr p10)] s58 fun v60 s61 => ∃ p62 : Option (Nat × Nat), v60 = .ptr p62 ∧ (ACalls Try.prog F_ref04iSet_Join [(.ptr p62), (.ptr p14)] s61 fun v63 s64 => v63 = .tup [] ∧ (ACalls Try.prog F_law04isame [(.ptr p39), (.ptr p62)] s64 fun v65 s66 => ∃ b67 : Bool, v65 = .bool b67 ∧ (bsplit (!b67) (R (.bool false) s66) (ACalls Try.prog F_ctx_Ctx_Join [(.ptr p39), (.ptr p13)] s66 fun v68 s69 => ∃ n70 : Int, v68 = .int .i64 n70 ∧ (bsplit ((n70 : Int) != 0) (R (.bool false) s69) (ACalls Try.prog F_law04isame [(.ptr p39), (.ptr p62)] s69 fun v71 s72 => ∃ b73 : Bool, v71 = .bool b73 ∧ (bsplit (!b73) (R (.bool false) s72) (ACalls Try.prog F_law04isame [(.ptr p9), (.ptr p10)] s72 fun v74 s75 => ∃ b76 : Bool, v74 = .bool b76 ∧ (bsplit (!b76) (R (.bool false) s75) (ACalls Try.prog F_law04isame [(.ptr p13), (.ptr p14)] s75 fun v77 s78 => ∃ b79 : Bool, v77 = .bool b79 ∧ (bsplit (!b79)
 (R (.bool false) s78)
 (ACalls Try.prog F_ref04iSet_Join [(.ptr p62), (.ptr p18)] s78 fun v80 s81 => v80 = .tup [] ∧ (ACalls Try.prog F_ctx_Ctx_Copy [(.ptr p17)] s81 fun v82 s83 => ∃ p84 : Option (Nat × Nat), v82 = .ptr p84 ∧ (ACalls Try.prog F_ctx_Ctx_Join [(.ptr p39), (.ptr p17)] s83 fun v85 s86 => ∃ n87 : Int, v85 = .int .i64 n87 ∧ (bsplit ((n87 : Int) == 0) (ACalls Try.prog F_ctx_Ctx_Join [(.ptr p42), (.ptr p17)] s86 fun v88 s89 => ∃ n90 : Int, v88 = .int .i64 n90 ∧ (bsplit ((n90 : Int) == 0) (RdO (aeq T 100 Y_p_ctx_Ctx (.ptr p84) (.ptr none)) fun b91 => bsplit (!b91) (ACalls Try.prog F_ctx_Ctx_Join [(.ptr p84), (.ptr p13)] s89 fun v92 s93 => ∃ n94 : Int, v92 = .int .i64 n94 ∧ (bsplit ((n94 : Int) == 0) (ACalls Try.prog F_ctx_Ctx_Join [(.ptr p84), (.ptr p9)] s93 fun v95 s96 => ∃ n97 : Int, v95 = .int .i64 n97 ∧ (bsplit ((n97 : Int) == 0) (ACalls Try.prog F_law04isame [(.ptr p39), (.ptr p62)] s96 fun v98 s99 => ∃ b100 : Bool, v98 = .bool b100 ∧ (bsplit b100 (ACalls Try.prog F_ctx_Ctx_Same [(.ptr p42), (.ptr p39)] s99 fun v101 s102 => ∃ b103 : Bool, v101 = .bool b103 ∧ (bsplit b103 (ACalls Try.prog F_ctx_Ctx_Same [(.ptr p84), (.ptr p39)] s102 fun v104 s105 => ∃ b106 : Bool, v104 = .bool b106 ∧ (bsplit b106 (ACalls Try.prog F_law04iknown [] s105 fun v107 s108 => ∃ b109 : Bool, v107 = .bool b109 ∧ (R (.bool b109) s108)) (R (.bool false) s105))) (R (.bool false) s102))) (R (.bool false) s99))) (R (.bool false) s96))) (R (.bool false) s93))) (R (.bool false) s89)) (R (.bool false) s89))) (R (.bool false) s86)))))))))))))))))))))))))))))))))))))))))))) ∧
 (RdI .i64 (alenB T Y_s_Dot a0 s) fun n110 => bsplit (decide ((n110 : Int) > 100)) (J1 [(.bool true)] s) (RdI .i64 (alenB T Y_s_Dot a1 s) fun n111 => bsplit (decide ((n111 : Int) > 100)) (J1 [(.bool true)] s) (RdI .i64 (alenB T Y_s_Dot a2 s) fun n112 => J1 [(.bool (decide ((n112 : Int) > 100)))] s)))

def A_law04iCtxJoins : QA := (.seq .leaf (.seq (.join [(29, .bool)] [(17, 29)] .leaf (.cond (.seq .leaf .leaf) .leaf)) (.seq .leaf (.seq .leaf (.seq .leaf (.seq (.seq .leaf (.cond (.seq .leaf .leaf) .leaf)) (.seq .leaf (.seq (.seq .leaf (.cond (.seq .leaf .leaf) .leaf)) (.seq .leaf (.seq .leaf (.seq (.seq .leaf (.cond (.seq .leaf .leaf) .leaf)) (.seq .leaf (.seq .leaf (.seq .leaf .leaf))))))))))))))

theorem q_law04iCtxJoins (a0 : AV) (a1 : AV) (a2 : AV) (s : AS) (R : AV → AS → Prop) (h : Q_law04iCtxJoins a0 a1 a2 s R) : ACalls Try.prog F_law04iCtxJoins [a0, a1, a2] s R :=
  ACalls.q (n := 193) (rs := [.tmp 6]) (A := A_law04iCtxJoins) hT hmx Try.func5 (by kernel_rfl) rfl rfl rfl (by kernel_rfl) (by kernel_rfl) h

/-- what minster/minsterlaw04.CtxOrder asks -/
def Q_law04iCtxOrder (a0 : AV) (a1 : AV) (a2 : AV) (s : AS) (R : AV → AS → Prop) : Prop :=
 JoinQ fun J1 =>
 (∀ b2 : Bool, ∀ s3 : AS, J1 [(.bool b2)] s3 →
 bsplit b2
 (ACalls Try.prog F_law04iknown [] s3 fun v4 s5 => ∃ b6 : Bool, v4 = .bool b6 ∧ (R (.bool b6) s5))
 (ACalls Try.prog F_law04iof [a0] s3 fun v7 s8 => ∃ p9 : Option (Nat × Nat), ∃ p10 : Option (Nat × Nat), v7 = .tup [(.ptr p9), (.ptr p10)] ∧ (ACalls Try.prog F_ctx_New [] s8 fun v11 s12 => ∃ p13 : Option (Nat × Nat), v11 = .ptr p13 ∧ (JoinQ fun J14 =>
 (∀ s15 : AS, J14 [] s15 →
 JoinQ fun J16 =>
 (∀ s17 : AS, J16 [] s17 →
 ACalls Try.prog F_law04iof [a2] s17 fun v18 s19 => ∃ p20 : Option (Nat × Nat), ∃ p21 : Option (Nat × Nat), v18 = .tup [(.ptr p20), (.ptr p21)] ∧ (JoinQ fun J22 =>
 (∀ b23 : Bool, ∀ s24 : AS, J22 [(.bool b23)] s24 →
 ACalls Try.prog F_ctx_Ctx_Same [(.ptr p9), (.ptr p13)] s24 fun v25 s26 => ∃ b27 : Bool, v25 = .bool b27 ∧ (bsplit b27 (ACalls Try.prog F_ctx_Ctx_Same [(.ptr p13), (.ptr p9)] s26 fun v28 s29 => ∃ b30 : Bool, v28 = .bool b30 ∧ (bsplit b30 (ACalls Try.prog F_ctx_Ctx_Covers [(.ptr p9), (.ptr p20)] s29 fun v31 s32 => ∃ b33 : Bool, v31 = .bool b33 ∧ (bsplit ((b33 : Bool) == b23) (ACalls Try.prog F_law04iknown [] s32 fun v34 s35 => ∃ b36 : Bool, v34 = .bool b36 ∧ (R (.bool b36) s35)) (R (.bool false) s32))) (R (.bool false) s29))) (R (.bool false) s26))) ∧
 (LoopQ fun I37 m38 => I37 m38 [(.bool true), (.int .i64 0)] s19 ∧
 ∀ m39 : Nat, ∀ b40 : Bool, ∀ n41 : Int, ∀ s42 : AS, I37 m39 [(.bool b40), (.int .i64 n41)] s42 →
 RdI .i64 (alenB T Y_s_Dot a2 s42) fun n43 => bsplit (decide ((n41 : Int) < n43))
 (bsplit b40 (IxQ (aindexAddr T Y_s_Dot a2 (.int .i64 n41)) fun l44 o45 => RdL (rdc s42 l44 o45 2) fun g46 => ACalls Try.prog F_ctx_Ctx_Has [(.ptr p9), (.agg g46)] s42 fun v47 s48 => ∃ b49 : Bool, v47 = .bool b49 ∧ (bsplit b49 (∃ m', m' < m39 ∧ I37 m' [(.bool true), (.int .i64 (IntKind.wrap .i64 (n41 + 1)))] s48) (IxQ (aindexAddr T Y_s_Dot a2 (.int .i64 n41)) fun l50 o51 => RdL (rdc s48 l50 o51 2) fun g52 => ACalls Try.prog F_ref04iMay [(.agg g52)] s48 fun v53 s54 => ∃ b55 : Bool, v53 = .bool b55 ∧ (∃ m', m' < m39 ∧ I37 m' [(.bool (!b55)), (.int .i64 (IntKind.wrap .i64 (n41 + 1)))] s54)))) (∃ m', m' < m39 ∧ I37 m' [(.bool false), (.int .i64 (IntKind.wrap .i64 (n41 + 1)))] s42))
 (J22 [(.bool b40)] s42)))) ∧
 (RdI .i64 (alenB T Y_s_Dot a0 s15) fun n56 => LoopQ fun I57 m58 => I57 m58 [(.int .i64 (IntKind.wrap .i64 (n56 - 1)))] s15 ∧
 ∀ m59 : Nat, ∀ n60 : Int, ∀ s61 : AS, I57 m59 [(.int .i64 n60)] s61 →
 bsplit (decide ((n60 : Int) ≥ 0))
 (IxQ (aindexAddr T Y_s_Dot a0 (.int .i64 n60)) fun l62 o63 => RdL (rdc s61 l62 o63 2) fun g64 => ACalls Try.prog F_ctx_Ctx_Add [(.ptr p13), (.agg g64)] s61 fun v65 s66 => ∃ b67 : Bool, ∃ n68 : Int, v65 = .tup [(.bool b67), (.int .i64 n68)] ∧ (∃ m', m' < m59 ∧ I57 m' [(.int .i64 (IntKind.wrap .i64 (n60 - 1)))] s66))
 (J16 [] s61))) ∧
 (LoopQ fun I69 m70 => I69 m70 [(.int .i64 0)] s12 ∧
 ∀ m71 : Nat, ∀ n72 : Int, ∀ s73 : AS, I69 m71 [(.int .i64 n72)] s73 →
 RdI .i64 (alenB T Y_s_int a1 s73) fun n74 => bsplit (decide ((n72 : Int) < n74)) (RdI .i64 (alenB T Y_s_Dot a0 s73) fun n75 => bsplit (decide ((n75 : Int) > 0))
 (IxQ (aindexAddr T Y_s_int a1 (.int .i64 n72)) fun l76 o77 => RdI .i64 (rd1 s73 l76 o77) fun n78 => RdI .i64 (alenB T Y_s_Dot a0 s73) fun n79 => NZ n79 (RdI .i64 (alenB T Y_s_Dot a0 s73) fun n80 => RdI .i64 (alenB T Y_s_Dot a0 s73) fun n81 => NZ n81 (IxQ (aindexAddr T Y_s_Dot a0 (.int .i64 (Int.tmod (IntKind.wrap .i64 ((Int.tmod n78 n79) + n80)) n81))) fun l82 o83 => RdL (rdc s73 l82 o83 2) fun g84 => ACalls Try.prog F_ctx_Ctx_Add [(.ptr p13), (.agg g84)] s73 fun v85 s86 => ∃ b87 : Bool, ∃ n88 : Int, v85 = .tup [(.bool b87), (.int .i64 n88)] ∧ (∃ m', m' < m71 ∧ I69 m' [(.int .i64 (IntKind.wrap .i64 (n72 + 1)))] s86))))
 (J14 [] s73)) (J14 [] s73)))))) ∧
 (RdI .i64 (alenB T Y_s_Dot a0 s) fun n89 => bsplit (decide ((n89 : Int) > 80)) (J1 [(.bool true)] s) (RdI .i64 (alenB T Y_s_int a1 s) fun n90 => bsplit (decide ((n90 : Int) > 160)) (J1 [(.bool true)] s) (RdI .i64 (alenB T Y_s_Dot a2 s) fun n91 => J1 [(.bool (decide ((n91 : Int) > 80)))] s)))

def A_law04iCtxOrder : QA := (.seq .leaf (.seq (.join [(28, .bool)] [(16, 28)] .leaf (.cond (.seq .leaf .leaf) .leaf)) (.seq .leaf (.seq .leaf (.join [] [(10, 10), (36, 64)] (.seq .leaf (.wrap (.loop [(10, .int .i64)] [(10, 10), (36, 64)] (.seq (.seq .leaf (.cond .leaf .leaf)) (.seq (.wrap .leaf) .leaf))))) (.join [] [(11, 11), (65, 77)] (.seq .leaf (.wrap (.loop [(11, .int .i64)] [(11, 11), (68, 77)] (.seq (.seq .leaf (.cond .leaf .leaf)) (.seq (.wrap .leaf) .leaf))))) (.seq .leaf (.seq .leaf (.join [(14, .bool)] [(14, 15), (83, 105)] (.seq .leaf (.wrap (.loop [(14, .bool), (15, .int .i64)] [(14, 15), (83, 105)] (.seq (.seq .leaf (.cond .leaf .leaf)) (.seq (.wrap .leaf) .leaf))))) (.seq .leaf .leaf))))))))))

theorem q_law04iCtxOrder (a0 : AV) (a1 : AV) (a2 : AV) (s : AS) (R : AV → AS → Prop) (h : Q_law04iCtxOrder a0 a1 a2 s R) : ACalls Try.prog F_law04iCtxOrder [a0, a1, a2] s R :=
  ACalls.q (n := 124) (rs := [.tmp 6]) (A := A_law04iCtxOrder) hT hmx Try.func7 (by kernel_rfl) rfl rfl rfl (by kernel_rfl) (by kernel_rfl) h

/-- what minster/minsterlaw04.CtxFull asks -/
def Q_law04iCtxFull (a0 : Int) (a1 : Int) (s : AS) (R : AV → AS → Prop) : Prop :=
 JoinQ fun J1 =>
 (∀ b2 : Bool, ∀ s3 : AS, J1 [(.bool b2)] s3 →
 bsplit b2
 (ACalls Try.prog F_law04iknown [] s3 fun v4 s5 => ∃ b6 : Bool, v4 = .bool b6 ∧ (R (.bool b6) s5))
 (JoinQ fun J7 =>
 (∀ v8 : AV, ∀ s9 : AS, J7 [v8] s9 →
 RdG (abuild T Y_Vector []) fun g10 => ACalls Try.prog F_ctx_Of [(.agg g10), v8] s9 fun v11 s12 => ∃ p13 : Option (Nat × Nat), ∃ n14 : Int, v11 = .tup [(.ptr p13), (.int .i64 n14)] ∧ (bsplit ((n14 : Int) != 0)
 (R (.bool false) s12)
 (ACalls Try.prog F_ctx_Ctx_Copy [(.ptr p13)] s12 fun v15 s16 => ∃ p17 : Option (Nat × Nat), v15 = .ptr p17 ∧ (RdG (abuild T Y_Dot [(0, (.int .i64 a0)), (1, (.int .u64 (IntKind.wrap .u64 (a1 + 9000))))]) fun g18 => NewQ (.cells [.int .i64 0, .int .u64 0] 0 false) s16 fun l19 s20 => OkC (some 2) g18 (StQ (awr s20 l19 0 g18) fun s21 => RdL (rdc s21 l19 0 2) fun g22 => ACalls Try.prog F_ctx_Ctx_Add [(.ptr p13), (.agg g22)] s21 fun v23 s24 => ∃ b25 : Bool, ∃ n26 : Int, v23 = .tup [(.bool b25), (.int .i64 n26)] ∧ (ACalls Try.prog F_ctx_New [] s24 fun v27 s28 => ∃ p29 : Option (Nat × Nat), v27 = .ptr p29 ∧ (RdL (rdc s28 l19 0 2) fun g30 => ACalls Try.prog F_ctx_Ctx_Add [(.ptr p29), (.agg g30)] s28 fun v31 s32 => ∃ b33 : Bool, ∃ n34 : Int, v31 = .tup [(.bool b33), (.int .i64 n34)] ∧ (ACalls Try.prog F_ctx_Ctx_Join [(.ptr p13), (.ptr p29)] s32 fun v35 s36 => ∃ n37 : Int, v35 = .int .i64 n37 ∧ (RdG (abuild T Y_Vector []) fun g38 => RdL (rdc s36 l19 0 2) fun g39 => RdL (absl T Y_s_Dot 1 [(0, (.agg g39))]) fun g40 => NewQ (.cells g40 0 false) s36 fun l41 s42 => Bd2 (aappend T Y_s_Dot Y_s_Dot v8 (.slc (some (l41, 0)) 1 1 true) s42) fun v43 s44 => ACalls Try.prog F_ctx_Of [(.agg g38), v43] s44 fun v45 s46 => ∃ p47 : Option (Nat × Nat), ∃ n48 : Int, v45 = .tup [(.ptr p47), (.int .i64 n48)] ∧ (RdG (abuild T Y_Dot [(0, (.int .i64 a0)), (1, (.int .u64 (IntKind.wrap .u64 (a1 + 2))))]) fun g49 => ACalls Try.prog F_ctx_Ctx_Add [(.ptr p13), (.agg g49)] s46 fun v50 s51 => ∃ b52 : Bool, ∃ n53 : Int, v50 = .tup [(.bool b52), (.int .i64 n53)] ∧ (bsplit ((n26 : Int) == 5) (bsplit ((n37 : Int) == 5) (bsplit ((n48 : Int) == 5) (ACalls Try.prog F_ctx_Ctx_Same [(.ptr p13), (.ptr p17)] s51 fun v54 s55 => ∃ b56 : Bool, v54 = .bool b56 ∧ (bsplit b56 (bsplit (!b52) (bsplit ((n53 : Int) == 0) (ACalls Try.prog F_law04iknown [] s55 fun v57 s58 => ∃ b59 : Bool, v57 = .bool b59 ∧ (R (.bool b59) s58)) (R (.bool false) s55)) (R (.bool false) s55)) (R (.bool false) s55))) (R (.bool false) s51)) (R (.bool false) s51)) (R (.bool false) s51)))))))))))) ∧
 (LoopQ fun I60 m61 => I60 m61 [(.slc none 0 0 true), (.int .i64 0)] s3 ∧
 ∀ m62 : Nat, ∀ v63 : AV, ∀ n64 : Int, ∀ s65 : AS, I60 m62 [v63, (.int .i64 n64)] s65 →
 bsplit (decide ((n64 : Int) < 4096))
 (RdG (abuild T Y_Dot [(0, (.int .i64 a0)), (1, (.int .u64 (IntKind.wrap .u64 ((IntKind.wrap .u64 (a1 + 2)) + (IntKind.wrap .u64 (2 * (IntKind.wrap .u64 n64)))))))]) fun g66 => RdL (absl T Y_s_Dot 1 [(0, (.agg g66))]) fun g67 => NewQ (.cells g67 0 false) s65 fun l68 s69 => Bd2 (aappend T Y_s_Dot Y_s_Dot v63 (.slc (some (l68, 0)) 1 1 true) s69) fun v70 s71 => ∃ m', m' < m62 ∧ I60 m' [v70, (.int .i64 (IntKind.wrap .i64 (n64 + 1)))] s71)
 (J7 [v63] s65)))) ∧
 (bsplit (decide ((a0 : Int) < 1)) (J1 [(.bool true)] s) (bsplit (decide ((a0 : Int) > 16)) (J1 [(.bool true)] s) (J1 [(.bool (decide ((a1 : Int) > 1152921504606846976)))] s)))

def A_law04iCtxFull : QA := (.seq .leaf (.seq (.join [(28, .bool)] [(19, 28)] .leaf (.cond (.seq .leaf .leaf) .leaf)) (.seq .leaf (.join [(5, .any)] [(5, 6), (30, 44)] (.seq .leaf (.wrap (.loop [(5, .any), (6, .int .i64)] [(5, 6), (30, 44)] (.seq (.seq .leaf (.cond .leaf .leaf)) (.seq (.wrap .leaf) .leaf))))) (.seq .leaf (.seq (.seq .leaf (.cond (.seq .leaf .leaf) .leaf)) (.seq .leaf (.seq .leaf (.seq .leaf (.seq .leaf (.seq .leaf (.seq .leaf (.seq .leaf (.seq .leaf (.seq .leaf .leaf)))))))))))))))

theorem q_law04iCtxFull (a0 : Int) (a1 : Int) (s : AS) (R : AV → AS → Prop) (h : Q_law04iCtxFull a0 a1 s R) : ACalls Try.prog F_law04iCtxFull [(.int .i64 a0), (.int .u64 a1)] s R :=
  ACalls.q (n := 116) (rs := [.tmp 4]) (A := A_law04iCtxFull) hT hmx Try.func8 (by kernel_rfl) rfl rfl rfl (by kernel_rfl) (by kernel_rfl) h

/-- what minster/minsterlaw14.StableNeeds asks -/
def Q_law14iStableNeeds (a0 : Int) (a1 : Int) (a2 : List AV) (a3 : AV) (s : AS) (R : AV → AS → Prop) : Prop :=
 One1 a2 (NewQ (.cells a2 0 false) s fun l1 s2 => JoinQ fun J3 =>
 (∀ b4 : Bool, ∀ s5 : AS, J3 [(.bool b4)] s5 →
 bsplit b4
 (ACalls Try.prog F_law14iknown [] s5 fun v6 s7 => ∃ b8 : Bool, v6 = .bool b8 ∧ (R (.bool b8) s7))
 (ACalls Try.prog F_stable_New [(.int .i64 a0), (.int .i64 a1)] s5 fun v9 s10 => ∃ p11 : Option (Nat × Nat), ∃ n12 : Int, v9 = .tup [(.ptr p11), (.int .i64 n12)] ∧ (bsplit ((n12 : Int) != 0)
 (R (.bool false) s10)
 (NewQ (.map [] 0 false) s10 fun l13 s14 => JoinQ fun J15 =>
 (∀ s16 : AS, J15 [] s16 →
 RdL (rdc s16 l1 0 2) fun g17 => ACalls Try.prog F_stable_Matrix_Stable [(.ptr p11), (.agg g17)] s16 fun v18 s19 => ∃ b20 : Bool, v18 = .bool b20 ∧ (RdI .i64 (alenB T Y_m_int_int (.map (some l13)) s19) fun n21 => bsplit ((b20 : Bool) == ((n21 : Int) == (IntKind.wrap .i64 (a0 - 1)))) (ACalls Try.prog F_law14iknown [] s19 fun v22 s23 => ∃ b24 : Bool, v22 = .bool b24 ∧ (R (.bool b24) s23)) (R (.bool false) s19))) ∧
 (LoopQ fun I25 m26 => I25 m26 [(.int .i64 0)] s14 ∧
 ∀ m27 : Nat, ∀ n28 : Int, ∀ s29 : AS, I25 m27 [(.int .i64 n28)] s29 →
 RdI .i64 (alenB T Y_s_int a3 s29) fun n30 => bsplit (decide ((n28 : Int) < n30))
 (RdL (rdc s29 l1 0 2) fun g31 => ACalls Try.prog F_stable_Matrix_Stable [(.ptr p11), (.agg g31)] s29 fun v32 s33 => ∃ b34 : Bool, v32 = .bool b34 ∧ (RdI .i64 (alenB T Y_m_int_int (.map (some l13)) s33) fun n35 => bsplit (!((b34 : Bool) == ((n35 : Int) == (IntKind.wrap .i64 (a0 - 1)))))
 (R (.bool false) s33)
 (IxQ (aindexAddr T Y_s_int a3 (.int .i64 n28)) fun l36 o37 => RdI .i64 (rd1 s33 l36 o37) fun n38 => NZ a0 (NZ a0 (bsplit ((IntKind.wrap .i64 (1 + (Int.tmod (IntKind.wrap .i64 ((Int.tmod n38 a0) + a0)) a0)) : Int) == a1)
 (∃ m', m' < m27 ∧ I25 m' [(.int .i64 (IntKind.wrap .i64 (n28 + 1)))] s33)
 (NZ 3 (bsplit ((Int.tmod n28 3 : Int) == 0)
 (DrawQ fun S V => RdL (rdc s33 l1 0 2) fun g39 => (∀ s40 : AS, Ext s33 s40 → WFs s40 → (True) → RdL (absl T Y_s_Dot 1 [(0, (.agg g39))]) fun g41 => NewQ (.cells g41 0 false) s40 fun l42 s43 => (Ext s40 s43 ∧ S 3 [(.agg g39)] (.slc (some (l42, 0)) 1 1 true) s43 ∧ V 3 [(.agg g39)] (.slc (some (l42, 0)) 1 1 true))) ∧ (∃ v, V 3 [(.agg g39)] v) ∧ ∀ v44 : AV, V 3 [(.agg g39)] v44 → (∀ s45 : AS, Ext s33 s45 → WFs s45 → (S 3 [(.agg g39)] v44 s45 ∧ True) → ACalls Try.prog F_law14iof [v44] s45 fun v46 s47 => ∃ p48 : Option (Nat × Nat), v46 = .ptr p48 ∧ ((Ext s45 s47 ∧ S 4 [(.func F_law14iof []), v44] (.ptr p48) s47 ∧ V 4 [(.func F_law14iof []), v44] (.ptr p48)))) ∧ (∃ v, V 4 [(.func F_law14iof []), v44] v) ∧ ∀ v49 : AV, V 4 [(.func F_law14iof []), v44] v49 → ∃ p50 : Option (Nat × Nat), v49 = .ptr p50 ∧ (RdL (rdc s33 l1 0 2) fun g51 => (∀ s52 : AS, Ext s33 s52 → WFs s52 → (True) → RdL (absl T Y_s_Dot 1 [(0, (.agg g51))]) fun g53 => NewQ (.cells g53 0 false) s52 fun l54 s55 => (Ext s52 s55 ∧ S 6 [(.agg g51)] (.slc (some (l54, 0)) 1 1 true) s55 ∧ V 6 [(.agg g51)] (.slc (some (l54, 0)) 1 1 true))) ∧ (∃ v, V 6 [(.agg g51)] v) ∧ ∀ v56 : AV, V 6 [(.agg g51)] v56 → ∀ s57 : AS, Ext s33 s57 → WFs s57 → (S 3 [(.agg g39)] v44 s57 ∧ (S 4 [(.func F_law14iof []), v44] (.ptr p50) s57 ∧ (S 6 [(.agg g51)] v56 s57 ∧ True))) → ACalls Try.prog F_stable_Matrix_Know [(.ptr p11), (.int .i64 (IntKind.wrap .i64 (1 + (Int.tmod (IntKind.wrap .i64 ((Int.tmod n38 a0) + a0)) a0)))), (.ptr p50), v56] s57 fun v59 s60 => ∃ n61 : Int, v59 = .int .i64 n61 ∧ (bsplit ((n61 : Int) != 0)
 (R (.bool false) s60)
 (∃ m', m' < m27 ∧ I25 m' [(.int .i64 (IntKind.wrap .i64 (n28 + 1)))] s60))))
 (RdL (rdc s33 l1 0 2) fun g62 => RdL (absl T Y_s_Dot 1 [(0, (.agg g62))]) fun g63 => NewQ (.cells g63 0 false) s33 fun l64 s65 => ACalls Try.prog F_law14iof [(.slc (some (l64, 0)) 1 1 true)] s65 fun v66 s67 => ∃ p68 : Option (Nat × Nat), v66 = .ptr p68 ∧ (ACalls Try.prog F_stable_Matrix_Know [(.ptr p11), (.int .i64 (IntKind.wrap .i64 (1 + (Int.tmod (IntKind.wrap .i64 ((Int.tmod n38 a0) + a0)) a0)))), (.ptr p68), (.slc none 0 0 true)] s67 fun v69 s70 => ∃ n71 : Int, v69 = .int .i64 n71 ∧ (bsplit ((n71 : Int) != 0)
 (R (.bool false) s70)
 (StQ (amapUpdate T Y_m_int_int (.map (some l13)) (.int .i64 (IntKind.wrap .i64 (1 + (Int.tmod (IntKind.wrap .i64 ((Int.tmod n38 a0) + a0)) a0)))) (.int .i64 1) s70) fun s72 => ∃ m', m' < m27 ∧ I25 m' [(.int .i64 (IntKind.wrap .i64 (n28 + 1)))] s72)))))))))))
 (J15 [] s29)))))) ∧
 (bsplit (decide ((a0 : Int) < 1)) (J3 [(.bool true)] s2) (bsplit (decide ((a0 : Int) > 16)) (J3 [(.bool true)] s2) (bsplit (decide ((a1 : Int) < 1)) (J3 [(.bool true)] s2) (bsplit (decide ((a1 : Int) > a0)) (J3 [(.bool true)] s2) (RdL (rdc s2 l1 0 2) fun g73 => ACalls Try.prog F_ref04iMay [(.agg g73)] s2 fun v74 s75 => ∃ b76 : Bool, v74 = .bool b76 ∧ (bsplit (!b76) (J3 [(.bool true)] s75) (RdI .i64 (alenB T Y_s_int a3 s75) fun n77 => J3 [(.bool (decide ((n77 : Int) > 60)))] s75))))))))

def A_law14iStableNeeds : QA := (.seq .leaf (.seq (.join [(38, .bool)] [(14, 38)] .leaf (.cond (.seq .leaf .leaf) .leaf)) (.seq .leaf (.seq (.seq .leaf (.cond (.seq .leaf .leaf) .leaf)) (.seq .leaf (.join [] [(8, 8), (12, 13), (49, 98)] (.seq .leaf (.wrap (.loop [(12, .int .i64)] [(8, 8), (12, 13), (49, 98)] (.seq (.seq .leaf (.cond .leaf .leaf)) (.seq (.wrap (.seq (.seq .leaf (.cond (.seq .leaf .leaf) .leaf)) (.seq .leaf (.seq (.seq .leaf (.cond .leaf .leaf)) (.seq (.seq .leaf (.cond (.seq (.seq (.drawH 7 [[], [], [], [], [3], [], []] [3, 4, 6]) (.cond (.seq .leaf .leaf) .leaf)) .leaf) .leaf)) (.seq (.seq .leaf (.cond (.seq .leaf .leaf) .leaf)) .leaf)))))) .leaf))))) (.seq .leaf .leaf)))))))

theorem q_law14iStableNeeds (a0 : Int) (a1 : Int) (a2 : List AV) (a3 : AV) (s : AS) (R : AV → AS → Prop) (h : Q_law14iStableNeeds a0 a1 a2 a3 s R) : ACalls Try.prog F_law14iStableNeeds [(.int .i64 a0), (.int .i64 a1), (.agg a2), a3] s R :=
  ACalls.q (n := 111) (rs := [.tmp 8]) (A := A_law14iStableNeeds) hT hmx Try.func9 (by kernel_rfl) rfl rfl rfl (by kernel_rfl) (by kernel_rfl) h

/-- what minster/minsterlaw14.StablePlays asks -/
def Q_law14iStablePlays (a0 : Int) (a1 : Int) (a2 : AV) (a3 : AV) (s : AS) (R : AV → AS → Prop) : Prop :=
 JoinQ fun J1 =>
 (∀ b2 : Bool, ∀ s3 : AS, J1 [(.bool b2)] s3 →
 bsplit b2
 (ACalls Try.prog F_law14iknown [] s3 fun v4 s5 => ∃ b6 : Bool, v4 = .bool b6 ∧ (R (.bool b6) s5))
 (ACalls Try.prog F_stable_New [(.int .i64 a0), (.int .i64 a1)] s3 fun v7 s8 => ∃ p9 : Option (Nat × Nat), ∃ n10 : Int, v7 = .tup [(.ptr p9), (.int .i64 n10)] ∧ (JoinQ fun J11 =>
 (∀ b12 : Bool, ∀ s13 : AS, J11 [(.bool b12)] s13 →
 bsplit b12
 (bsplit ((n10 : Int) == 2) (RdO (aeq T 100 Y_p_stable_Matrix (.ptr p9) (.ptr none)) fun b14 => bsplit b14 (ACalls Try.prog F_law14iknown [] s13 fun v15 s16 => ∃ b17 : Bool, v15 = .bool b17 ∧ (R (.bool b17) s16)) (R (.bool false) s13)) (R (.bool false) s13))
 (bsplit ((n10 : Int) != 0)
 (R (.bool false) s13)
 (NewQ (.cells [.int .u64 0, .int .u64 0, .int .u64 0, .int .u64 0, .int .u64 0, .int .u64 0, .int .u64 0, .int .u64 0, .int .u64 0, .int .u64 0, .int .u64 0, .int .u64 0, .int .u64 0, .int .u64 0, .int .u64 0, .int .u64 0, .int .u64 0, .int .u64 0, .int .u64 0, .int .u64 0, .int .u64 0, .int .u64 0, .int .u64 0, .int .u64 0, .int .u64 0, .int .u64 0, .int .u64 0, .int .u64 0, .int .u64 0, .int .u64 0, .int .u64 0, .int .u64 0, .int .u64 0, .int .u64 0, .int .u64 0, .int .u64 0, .int .u64 0, .int .u64 0, .int .u64 0, .int .u64 0, .int .u64 0, .int .u64 0, .int .u64 0, .int .u64 0, .int .u64 0, .int .u64 0, .int .u64 0, .int .u64 0, .int .u64 0, .int .u64 0, .int .u64 0, .int .u64 0, .int .u64 0, .int .u64 0, .int .u64 0, .int .u64 0, .int .u64 0, .int .u64 0, .int .u64 0, .int .u64 0, .int .u64 0, .int .u64 0, .int .u64 0, .int .u64 0, .int .u64 0, .int .u64 0, .int .u64 0, .int .u64 0, .int .u64 0, .int .u64 0, .int .u64 0, .int .u64 0, .int .u64 0, .int .u64 0, .int .u64 0, .int .u64 0, .int .u64 0, .int .u64 0, .int .u64 0, .int .u64 0, .int .u64 0, .int .u64 0, .int .u64 0, .int .u64 0, .int .u64 0, .int .u64 0, .int .u64 0, .int .u64 0, .int .u64 0, .int .u64 0, .int .u64 0, .int .u64 0, .int .u64 0, .int .u64 0, .int .u64 0, .int .u64 0, .int .u64 0, .int .u64 0, .int .u64 0, .int .u64 0, .int .u64 0, .int .u64 0, .int .u64 0, .int .u64 0, .int .u64 0, .int .u64 0, .int .u64 0, .int .u64 0, .int .u64 0, .int .u64 0, .int .u64 0, .int .u64 0, .int .u64 0, .int .u64 0, .int .u64 0, .int .u64 0, .int .u64 0, .int .u64 0, .int .u64 0, .int .u64 0, .int .u64 0, .int .u64 0, .int .u64 0, .int .u64 0, .int .u64 0, .int .u64 0, .int .u64 0, .int .u64 0, .int .u64 0, .int .u64 0, .int .u64 0, .int .u64 0, .int .u64 0, .int .u64 0, .int .u64 0, .int .u64 0, .int .u64 0, .int .u64 0, .int .u64 0, .int .u64 0, .int .u64 0, .int .u64 0, .int .u64 0, .int .u64 0, .int .u64 0, .int .u64 0, .int .u64 0, .int .u64 0, .int .u64 0, .int .u64 0, .int .u64 0, .int .u64 0, .int .u64 0, .int .u64 0, .int .u64 0, .int .u64 0, .int .u64 0, .int .u64 0, .int .u64 0, .int .u64 0, .int .u64 0, .int .u64 0, .int .u64 0, .int .u64 0, .int .u64 0, .int .u64 0, .int .u64 0, .int .u64 0, .int .u64 0, .int .u64 0, .int .u64 0, .int .u64 0, .int .u64 0, .int .u64 0, .int .u64 0, .int .u64 0, .int .u64 0, .int .u64 0, .int .u64 0, .int .u64 0, .int .u64 0, .int .u64 0, .int .u64 0, .int .u64 0, .int .u64 0, .int .u64 0, .int .u64 0, .int .u64 0, .int .u64 0, .int .u64 0, .int .u64 0, .int .u64 0, .int .u64 0, .int .u64 0, .int .u64 0, .int .u64 0, .int .u64 0, .int .u64 0, .int .u64 0, .int .u64 0, .int .u64 0, .int .u64 0, .int .u64 0, .int .u64 0, .int .u64 0, .int .u64 0, .int .u64 0, .int .u64 0, .int .u64 0, .int .u64 0, .int .u64 0, .int .u64 0, .int .u64 0, .int .u64 0, .int .u64 0, .int .u64 0, .int .u64 0, .int .u64 0, .int .u64 0, .int .u64 0, .int .u64 0, .int .u64 0, .int .u64 0, .int .u64 0, .int .u64 0, .int .u64 0, .int .u64 0, .int .u64 0, .int .u64 0, .int .u64 0, .int .u64 0, .int .u64 0, .int .u64 0, .int .u64 0, .int .u64 0, .int .u64 0, .int .u64 0, .int .u64 0, .int .u64 0, .int .u64 0, .int .u64 0, .int .u64 0, .int .u64 0, .int .u64 0, .int .u64 0, .int .u64 0, .int .u64 0, .int .u64 0, .int .u64 0, .int .u64 0, .int .u64 0, .int .u64 0, .int .u64 0, .int .u64 0, .int .u64 0, .int .u64 0, .int .u64 0, .int .u64 0, .int .u64 0, .int .u64 0, .int .u64 0, .int .u64 0, .int .u64 0, .int .u64 0, .int .u64 0, .int .u64 0, .int .u64 0, .int .u64 0, .int .u64 0, .int .u64 0, .int .u64 0, .int .u64 0] 0 false) s13 fun l18 s19 => JoinQ fun J20 =>
 (∀ s21 : AS, J20 [] s21 →
 NewQ (.cells [.int .u64 0, .int .u64 0, .int .u64 0, .int .u64 0, .int .u64 0, .int .u64 0, .int .u64 0, .int .u64 0, .int .u64 0, .int .u64 0, .int .u64 0, .int .u64 0, .int .u64 0, .int .u64 0, .int .u64 0, .int .u64 0] 0 false) s21 fun l22 s23 => JoinQ fun J24 =>
 (∀ s25 : AS, J24 [] s25 →
 DrawQ fun S V => (∀ s26 : AS, Ext s25 s26 → WFs s26 → (True) → ACalls Try.prog F_stable_Matrix_All [(.ptr p9)] s26 fun v27 s28 => ∃ g29 : List AV, v27 = .agg g29 ∧ ((Ext s26 s28 ∧ S 1 [(.func F_stable_Matrix_All []), (.ptr p9)] (.agg g29) s28 ∧ V 1 [(.func F_stable_Matrix_All []), (.ptr p9)] (.agg g29)))) ∧ (∃ v, V 1 [(.func F_stable_Matrix_All []), (.ptr p9)] v) ∧ ∀ v30 : AV, V 1 [(.func F_stable_Matrix_All []), (.ptr p9)] v30 → ∃ g31 : List AV, v30 = .agg g31 ∧ (RdL (rdc s25 l22 0 16) fun g32 => ∀ s33 : AS, Ext s25 s33 → WFs s33 → (S 1 [(.func F_stable_Matrix_All []), (.ptr p9)] (.agg g31) s33 ∧ True) → RdO (aeq T 100 Y_Vector (.agg g31) (.agg g32)) fun b35 => bsplit (!b35)
 (R (.bool false) s33)
 (LoopQ fun I36 m37 => I36 m37 [(.int .i64 0)] s33 ∧
 ∀ m38 : Nat, ∀ n39 : Int, ∀ s40 : AS, I36 m38 [(.int .i64 n39)] s40 →
 bsplit (decide ((n39 : Int) < 17))
 (DrawQ fun S V => (∀ s41 : AS, Ext s40 s41 → WFs s41 → (True) → ACalls Try.prog F_stable_Matrix_Of [(.ptr p9), (.int .i64 n39)] s41 fun v42 s43 => ∃ g44 : List AV, v42 = .agg g44 ∧ ((Ext s41 s43 ∧ S 2 [(.func F_stable_Matrix_Of []), (.ptr p9), (.int .i64 n39)] (.agg g44) s43 ∧ V 2 [(.func F_stable_Matrix_Of []), (.ptr p9), (.int .i64 n39)] (.agg g44)))) ∧ (∃ v, V 2 [(.func F_stable_Matrix_Of []), (.ptr p9), (.int .i64 n39)] v) ∧ ∀ v45 : AV, V 2 [(.func F_stable_Matrix_Of []), (.ptr p9), (.int .i64 n39)] v45 → ∃ g46 : List AV, v45 = .agg g46 ∧ (IxQ (aindexAddr T Y_a17iVector (.ptr (some (l18, 0))) (.int .i64 n39)) fun l47 o48 => RdL (rdc s40 l47 o48 16) fun g49 => ∀ s50 : AS, Ext s40 s50 → WFs s50 → (S 2 [(.func F_stable_Matrix_Of []), (.ptr p9), (.int .i64 n39)] (.agg g46) s50 ∧ True) → RdO (aeq T 100 Y_Vector (.agg g46) (.agg g49)) fun b52 => bsplit (!b52)
 (R (.bool false) s50)
 (∃ m', m' < m38 ∧ I36 m' [(.int .i64 (IntKind.wrap .i64 (n39 + 1)))] s50)))
 (ACalls Try.prog F_law14iknown [] s40 fun v53 s54 => ∃ b55 : Bool, v53 = .bool b55 ∧ (R (.bool b55) s54))))) ∧
 (LoopQ fun I56 m57 => I56 m57 [(.int .i64 0)] s23 ∧
 ∀ m58 : Nat, ∀ n59 : Int, ∀ s60 : AS, I56 m58 [(.int .i64 n59)] s60 →
 bsplit (decide ((n59 : Int) < 16)) (bsplit (decide ((a0 : Int) > 1))
 (LoopQ fun I61 m62 => I61 m62 [(.bool true), (.int .i64 1)] s60 ∧
 ∀ m63 : Nat, ∀ b64 : Bool, ∀ n65 : Int, ∀ s66 : AS, I61 m63 [(.bool b64), (.int .i64 n65)] s66 →
 bsplit (decide ((n65 : Int) ≤ a0))
 (JoinQ fun J67 =>
 (∀ b68 : Bool, ∀ s69 : AS, J67 [(.bool b68)] s69 →
 bsplit b68
 (IxQ (aindexAddr T Y_a17iVector (.ptr (some (l18, 0))) (.int .i64 n65)) fun l70 o71 => IxQ (aindexAddr T Y_Vector (.ptr (some (l70, o71))) (.int .i64 n59)) fun l72 o73 => RdI .u64 (rd1 s69 l72 o73) fun n74 => IxQ (aindexAddr T Y_Vector (.ptr (some (l22, 0))) (.int .i64 n59)) fun l75 o76 => StQ (awr s69 l75 o76 [(.int .u64 n74)]) fun s77 => ∃ m', m' < m63 ∧ I61 m' [(.bool false), (.int .i64 (IntKind.wrap .i64 (n65 + 1)))] s77)
 (∃ m', m' < m63 ∧ I61 m' [(.bool b64), (.int .i64 (IntKind.wrap .i64 (n65 + 1)))] s69)) ∧
 (bsplit ((n65 : Int) != a1) (bsplit b64 (J67 [(.bool true)] s66) (IxQ (aindexAddr T Y_a17iVector (.ptr (some (l18, 0))) (.int .i64 n65)) fun l78 o79 => IxQ (aindexAddr T Y_Vector (.ptr (some (l78, o79))) (.int .i64 n59)) fun l80 o81 => RdI .u64 (rd1 s66 l80 o81) fun n82 => IxQ (aindexAddr T Y_Vector (.ptr (some (l22, 0))) (.int .i64 n59)) fun l83 o84 => RdI .u64 (rd1 s66 l83 o84) fun n85 => J67 [(.bool (decide ((n82 : Int) < n85)))] s66)) (J67 [(.bool false)] s66)))
 (∃ m', m' < m58 ∧ I56 m' [(.int .i64 (IntKind.wrap .i64 (n59 + 1)))] s66))
 (J24 [] s60)) (J24 [] s60))) ∧
 (LoopQ fun I86 m87 => I86 m87 [(.int .i64 0)] s19 ∧
 ∀ m88 : Nat, ∀ n89 : Int, ∀ s90 : AS, I86 m88 [(.int .i64 n89)] s90 →
 RdI .i64 (alenB T Y_s_minsterlaw14iAct a2 s90) fun n91 => bsplit (decide ((n89 : Int) < n91))
 (IxQ (aindexAddr T Y_s_minsterlaw14iAct a2 (.int .i64 n89)) fun l92 o93 => RdL (rdc s90 l92 o93 20) fun g94 => NewQ (.cells [.int .i64 0, .int .i64 0, .slc none 0 0 true, .slc none 0 0 true, .int .u64 0, .int .u64 0, .int .u64 0, .int .u64 0, .int .u64 0, .int .u64 0, .int .u64 0, .int .u64 0, .int .u64 0, .int .u64 0, .int .u64 0, .int .u64 0, .int .u64 0, .int .u64 0, .int .u64 0, .int .u64 0] 0 false) s90 fun l95 s96 => OkC (some 20) g94 (StQ (awr s96 l95 0 g94) fun s97 => JoinQ fun J98 =>
 (∀ b99 : Bool, ∀ s100 : AS, J98 [(.bool b99)] s100 →
 JoinQ fun J101 =>
 (∀ s102 : AS, J101 [] s102 →
 ACalls Try.prog F_stable_Matrix_Copy [(.ptr p9)] s102 fun v103 s104 => ∃ p105 : Option (Nat × Nat), v103 = .ptr p105 ∧ (LoopQ fun I106 m107 => I106 m107 [(.int .i64 0)] s104 ∧
 ∀ m108 : Nat, ∀ n109 : Int, ∀ s110 : AS, I106 m108 [(.int .i64 n109)] s110 →
 RdI .i64 (alenB T Y_s_Dot a3 s110) fun n111 => bsplit (decide ((n109 : Int) < n111))
 (IxQ (aindexAddr T Y_s_Dot a3 (.int .i64 n109)) fun l112 o113 => RdL (rdc s110 l112 o113 2) fun g114 => ACalls Try.prog F_ref04iMay [(.agg g114)] s110 fun v115 s116 => ∃ b117 : Bool, v115 = .bool b117 ∧ (JoinQ fun J118 =>
 (∀ b119 : Bool, ∀ s120 : AS, J118 [(.bool b119)] s120 →
 IxQ (aindexAddr T Y_s_Dot a3 (.int .i64 n109)) fun l121 o122 => RdL (rdc s120 l121 o122 2) fun g123 => ACalls Try.prog F_stable_Matrix_Stable [(.ptr p9), (.agg g123)] s120 fun v124 s125 => ∃ b126 : Bool, v124 = .bool b126 ∧ (bsplit (!((b126 : Bool) == b119))
 (R (.bool false) s125)
 (∃ m', m' < m108 ∧ I106 m' [(.int .i64 (IntKind.wrap .i64 (n109 + 1)))] s125))) ∧
 (LoopQ fun I127 m128 => I127 m128 [(.bool b117), (.int .i64 (-1))] s116 ∧
 ∀ m129 : Nat, ∀ b130 : Bool, ∀ n131 : Int, ∀ s132 : AS, I127 m129 [(.bool b130), (.int .i64 n131)] s132 →
 bsplit (decide ((n131 : Int) < 18))
 (JoinQ fun J133 =>
 (∀ b134 : Bool, ∀ s135 : AS, J133 [(.bool b134)] s135 →
 IxQ (aindexAddr T Y_s_Dot a3 (.int .i64 n109)) fun l136 o137 => RdL (rdc s135 l136 o137 2) fun g138 => ACalls Try.prog F_stable_Matrix_Gone [(.ptr p9), (.int .i64 n131), (.agg g138)] s135 fun v139 s140 => ∃ b141 : Bool, v139 = .bool b141 ∧ (bsplit (!((b141 : Bool) == b134)) (R (.bool false) s140) (IxQ (aindexAddr T Y_s_Dot a3 (.int .i64 n109)) fun l142 o143 => RdL (rdc s140 l142 o143 2) fun g144 => ACalls Try.prog F_stable_Matrix_Gone [(.ptr p105), (.int .i64 n131), (.agg g144)] s140 fun v145 s146 => ∃ b147 : Bool, v145 = .bool b147 ∧ (bsplit (!((b147 : Bool) == b134))
 (R (.bool false) s146)
 (JoinQ fun J148 =>
 (∀ b149 : Bool, ∀ s150 : AS, J148 [(.bool b149)] s150 →
 bsplit b149
 (bsplit b130 (∃ m', m' < m129 ∧ I127 m' [(.bool b134), (.int .i64 (IntKind.wrap .i64 (n131 + 1)))] s150) (∃ m', m' < m129 ∧ I127 m' [(.bool false), (.int .i64 (IntKind.wrap .i64 (n131 + 1)))] s150))
 (∃ m', m' < m129 ∧ I127 m' [(.bool b130), (.int .i64 (IntKind.wrap .i64 (n131 + 1)))] s150)) ∧
 (bsplit (decide ((n131 : Int) ≥ 1)) (bsplit (decide ((n131 : Int) ≤ a0)) (J148 [(.bool ((n131 : Int) != a1))] s146) (J148 [(.bool false)] s146)) (J148 [(.bool false)] s146))))))) ∧
 (bsplit (decide ((n131 : Int) ≥ 1)) (bsplit (decide ((n131 : Int) ≤ a0)) (bsplit ((n131 : Int) != a1) (RdA (aslice T Y_s_minsterlaw14iAct a2 none (some (.int .i64 (IntKind.wrap .i64 (n89 + 1)))) none) fun v151 => IxQ (aindexAddr T Y_s_Dot a3 (.int .i64 n109)) fun l152 o153 => RdL (rdc s132 l152 o153 2) fun g154 => ACalls Try.prog F_law14igone [v151, (.int .i64 n131), (.agg g154)] s132 fun v155 s156 => ∃ b157 : Bool, v155 = .bool b157 ∧ (J133 [(.bool b157)] s156)) (J133 [(.bool false)] s132)) (J133 [(.bool false)] s132)) (J133 [(.bool false)] s132)))
 (J118 [(.bool b130)] s132))))
 (∃ m', m' < m88 ∧ I86 m' [(.int .i64 (IntKind.wrap .i64 (n89 + 1)))] s110))) ∧
 (RdI .i64 (rd1 s100 l95 0) fun n158 => bsplit ((n158 : Int) == 1)
 (DrawQ fun S V => RdI .i64 (rd1 s100 l95 1) fun n159 => RdA (rd1 s100 l95 2) fun v160 => (∀ s161 : AS, Ext s100 s161 → WFs s161 → (True) → ACalls Try.prog F_law14iof [v160] s161 fun v162 s163 => ∃ p164 : Option (Nat × Nat), v162 = .ptr p164 ∧ ((Ext s161 s163 ∧ S 5 [(.func F_law14iof []), v160] (.ptr p164) s163 ∧ V 5 [(.func F_law14iof []), v160] (.ptr p164)))) ∧ (∃ v, V 5 [(.func F_law14iof []), v160] v) ∧ ∀ v165 : AV, V 5 [(.func F_law14iof []), v160] v165 → ∃ p166 : Option (Nat × Nat), v165 = .ptr p166 ∧ (RdA (rd1 s100 l95 3) fun v167 => ∀ s168 : AS, Ext s100 s168 → WFs s168 → (S 5 [(.func F_law14iof []), v160] (.ptr p166) s168 ∧ True) → ACalls Try.prog F_stable_Matrix_Know [(.ptr p9), (.int .i64 n159), (.ptr p166), v167] s168 fun v170 s171 => ∃ n172 : Int, v170 = .int .i64 n172 ∧ (JoinQ fun J173 =>
 (∀ b174 : Bool, ∀ s175 : AS, J173 [(.bool b174)] s175 →
 bsplit (!((b174 : Bool) == ((n172 : Int) == 0))) (R (.bool false) s175) (bsplit (!b174) (bsplit ((n172 : Int) != 2)
 (R (.bool false) s175)
 (J101 [] s175)) (J101 [] s175))) ∧
 (bsplit b99 (RdL (rdc s171 l95 0 20) fun g176 => ACalls Try.prog F_law14imay [(.agg g176)] s171 fun v177 s178 => ∃ b179 : Bool, v177 = .bool b179 ∧ (J173 [(.bool b179)] s178)) (J173 [(.bool false)] s171)))))
 (bsplit ((n158 : Int) == 2)
 (RdI .i64 (rd1 s100 l95 1) fun n180 => RdL (rdc s100 l95 4 16) fun g181 => ACalls Try.prog F_stable_Matrix_Have [(.ptr p9), (.int .i64 n180), (.agg g181)] s100 fun v182 s183 => ∃ n184 : Int, v182 = .int .i64 n184 ∧ (JoinQ fun J185 =>
 (∀ s186 : AS, J185 [] s186 →
 LoopQ fun I187 m188 => I187 m188 [(.int .i64 0)] s186 ∧
 ∀ m189 : Nat, ∀ n190 : Int, ∀ s191 : AS, I187 m189 [(.int .i64 n190)] s191 →
 bsplit (decide ((n190 : Int) < 16)) (bsplit b99
 (IxQ (aindexAddr T Y_Vector (.ptr (some (l95, 4))) (.int .i64 n190)) fun l192 o193 => RdI .u64 (rd1 s191 l192 o193) fun n194 => RdI .i64 (rd1 s191 l95 1) fun n195 => IxQ (aindexAddr T Y_a17iVector (.ptr (some (l18, 0))) (.int .i64 n195)) fun l196 o197 => IxQ (aindexAddr T Y_Vector (.ptr (some (l196, o197))) (.int .i64 n190)) fun l198 o199 => RdI .u64 (rd1 s191 l198 o199) fun n200 => bsplit (decide ((n194 : Int) > n200))
 (RdI .i64 (rd1 s191 l95 1) fun n201 => IxQ (aindexAddr T Y_Vector (.ptr (some (l95, 4))) (.int .i64 n190)) fun l202 o203 => RdI .u64 (rd1 s191 l202 o203) fun n204 => IxQ (aindexAddr T Y_a17iVector (.ptr (some (l18, 0))) (.int .i64 n201)) fun l205 o206 => IxQ (aindexAddr T Y_Vector (.ptr (some (l205, o206))) (.int .i64 n190)) fun l207 o208 => StQ (awr s191 l207 o208 [(.int .u64 n204)]) fun s209 => ∃ m', m' < m189 ∧ I187 m' [(.int .i64 (IntKind.wrap .i64 (n190 + 1)))] s209)
 (∃ m', m' < m189 ∧ I187 m' [(.int .i64 (IntKind.wrap .i64 (n190 + 1)))] s191))
 (J101 [] s191)) (J101 [] s191)) ∧
 (bsplit (!((b99 : Bool) == ((n184 : Int) == 0))) (R (.bool false) s183) (bsplit (!b99) (bsplit ((n184 : Int) != 2)
 (R (.bool false) s183)
 (J185 [] s183)) (J185 [] s183)))))
 (J101 [] s100)))) ∧
 (RdI .i64 (rd1 s97 l95 1) fun n210 => bsplit (decide ((n210 : Int) ≥ 1)) (RdI .i64 (rd1 s97 l95 1) fun n211 => bsplit (decide ((n211 : Int) ≤ a0)) (RdI .i64 (rd1 s97 l95 1) fun n212 => J98 [(.bool ((n212 : Int) != a1))] s97) (J98 [(.bool false)] s97)) (J98 [(.bool false)] s97))))
 (J20 [] s90))))) ∧
 (bsplit (decide ((a0 : Int) < 1)) (J11 [(.bool true)] s8) (bsplit (decide ((a0 : Int) > 16)) (J11 [(.bool true)] s8) (bsplit (decide ((a1 : Int) < 1)) (J11 [(.bool true)] s8) (J11 [(.bool (decide ((a1 : Int) > a0)))] s8))))))) ∧
 (ACalls Try.prog F_law14ifew [a2] s fun v213 s214 => ∃ b215 : Bool, v213 = .bool b215 ∧ (bsplit (!b215) (J1 [(.bool true)] s214) (RdI .i64 (alenB T Y_s_Dot a3 s214) fun n216 => J1 [(.bool (decide ((n216 : Int) > 40)))] s214)))

def A_law14iStablePlays : QA := (.seq .leaf (.seq (.join [(36, .bool)] [(29, 36)] .leaf (.cond (.seq .leaf .leaf) .leaf)) (.seq .leaf (.seq (.join [(58, .bool)] [(44, 58)] .leaf (.cond (.seq .leaf .leaf) .leaf)) (.seq (.seq .leaf (.cond (.seq .leaf .leaf) .leaf)) (.seq .leaf (.join [] [(8, 8), (12, 23), (70, 256)] (.seq .leaf (.wrap (.loop [(12, .int .i64)] [(8, 8), (12, 23), (70, 256)] (.seq (.seq .leaf (.cond .leaf .leaf)) (.seq (.wrap (.seq .leaf (.join [(14, .bool)] [(14, 14), (80, 94)] .leaf (.join [] [(8, 8), (15, 18), (95, 171)] (.seq .leaf (.wrap (.seq .leaf (.cond (.seq (.drawH 8 [[], [], [], [], [], [], [], []] [5]) (.join [(16, .bool)] [(16, 16), (108, 112)] .leaf (.seq .leaf (.cond (.seq .leaf .leaf) .leaf)))) (.seq .leaf (.cond (.seq .leaf (.join [] [(8, 8), (133, 144)] (.seq .leaf (.cond (.seq .leaf .leaf) .leaf)) (.seq .leaf (.wrap (.loop [(18, .int .i64)] [(18, 18), (145, 171)] (.seq (.seq .leaf (.cond .leaf .leaf)) (.seq (.wrap (.seq (.draw 10) (.cond (.draw 8) .leaf))) .leaf))))))) .leaf)))))) (.seq .leaf (.seq .leaf (.wrap (.loop [(20, .int .i64)] [(8, 8), (20, 23), (174, 256)] (.seq (.seq .leaf (.cond .leaf .leaf)) (.seq (.wrap (.seq .leaf (.join [(21, .bool)] [(8, 8), (21, 23), (185, 248)] (.seq .leaf (.wrap (.loop [(21, .bool), (22, .int .i64)] [(8, 8), (21, 23), (185, 248)] (.seq (.seq .leaf (.cond .leaf .leaf)) (.seq (.wrap (.join [(23, .bool)] [(23, 23), (189, 212)] (.draw 22) (.seq (.seq .leaf (.cond (.seq .leaf .leaf) .leaf)) (.join [(244, .bool)] [(233, 244)] .leaf (.cond .leaf .leaf))))) .leaf))))) (.seq .leaf (.cond (.seq .leaf .leaf) .leaf))))) .leaf)))))))))) .leaf))))) (.seq .leaf (.join [] [(25, 27), (257, 293)] (.seq .leaf (.wrap (.loop [(25, .int .i64)] [(25, 27), (257, 293)] (.seq (.seq .leaf (.cond .leaf .leaf)) (.seq (.wrap (.seq .leaf (.seq .leaf (.wrap (.loop [(26, .bool), (27, .int .i64)] [(26, 27), (265, 293)] (.seq (.seq .leaf (.cond .leaf .leaf)) (.seq (.wrap (.join [(286, .bool)] [(270, 286)] (.draw 14) (.cond (.seq .leaf .leaf) .leaf))) .leaf))))))) .leaf))))) (.seq (.seq (.drawH 3 [[], [], []] [1]) (.cond (.seq .leaf .leaf) .leaf)) (.seq (.seq .leaf (.wrap (.loop [(28, .int .i64)] [(8, 8), (28, 28), (298, 308)] (.seq (.seq .leaf (.cond .leaf .leaf)) (.seq (.wrap (.seq (.drawH 6 [[], [], [], [], [], []] [2]) (.cond (.seq .leaf .leaf) .leaf))) .leaf))))) (.seq .leaf .leaf))))))))))))

theorem q_law14iStablePlays (a0 : Int) (a1 : Int) (a2 : AV) (a3 : AV) (s : AS) (R : AV → AS → Prop) (h : Q_law14iStablePlays a0 a1 a2 a3 s R) : ACalls Try.prog F_law14iStablePlays [(.int .i64 a0), (.int .i64 a1), a2, a3] s R :=
  ACalls.q (n := 310) (rs := [.tmp 8]) (A := A_law14iStablePlays) hT hmx Try.func10 (by kernel_rfl) rfl rfl rfl (by kernel_rfl) (by kernel_rfl) h

/-- what minster/minsterlaw14.StableGrows asks -/
def Q_law14iStableGrows (a0 : Int) (a1 : AV) (a2 : AV) (a3 : AV) (s : AS) (R : AV → AS → Prop) : Prop :=
 JoinQ fun J1 =>
 (∀ b2 : Bool, ∀ s3 : AS, J1 [(.bool b2)] s3 →
 bsplit b2
 (ACalls Try.prog F_law14iknown [] s3 fun v4 s5 => ∃ b6 : Bool, v4 = .bool b6 ∧ (R (.bool b6) s5))
 (ACalls Try.prog F_stable_New [(.int .i64 a0), (.int .i64 1)] s3 fun v7 s8 => ∃ p9 : Option (Nat × Nat), ∃ n10 : Int, v7 = .tup [(.ptr p9), (.int .i64 n10)] ∧ (ACalls Try.prog F_stable_New [(.int .i64 a0), (.int .i64 1)] s8 fun v11 s12 => ∃ p13 : Option (Nat × Nat), ∃ n14 : Int, v11 = .tup [(.ptr p13), (.int .i64 n14)] ∧ (JoinQ fun J15 =>
 (∀ b16 : Bool, ∀ s17 : AS, J15 [(.bool b16)] s17 →
 bsplit b16
 (bsplit ((n10 : Int) == n14) (ACalls Try.prog F_law14iknown [] s17 fun v18 s19 => ∃ b20 : Bool, v18 = .bool b20 ∧ (R (.bool b20) s19)) (R (.bool false) s17))
 (JoinQ fun J21 =>
 (∀ s22 : AS, J21 [] s22 →
 JoinQ fun J23 =>
 (∀ s24 : AS, J23 [] s24 →
 JoinQ fun J25 =>
 (∀ s26 : AS, J25 [] s26 →
 JoinQ fun J27 =>
 (∀ s28 : AS, J27 [] s28 →
 ACalls Try.prog F_stable_Matrix_All [(.ptr p9)] s28 fun v29 s30 => ∃ g31 : List AV, v29 = .agg g31 ∧ (ACalls Try.prog F_stable_Matrix_All [(.ptr p13)] s30 fun v32 s33 => ∃ g34 : List AV, v32 = .agg g34 ∧ (RdO (aeq T 100 Y_Vector (.agg g31) (.agg g34)) fun b35 => bsplit b35 (ACalls Try.prog F_law14iknown [] s33 fun v36 s37 => ∃ b38 : Bool, v36 = .bool b38 ∧ (R (.bool b38) s37)) (R (.bool false) s33)))) ∧
 (LoopQ fun I39 m40 => I39 m40 [(.int .i64 0)] s26 ∧
 ∀ m41 : Nat, ∀ n42 : Int, ∀ s43 : AS, I39 m41 [(.int .i64 n42)] s43 →
 RdI .i64 (alenB T Y_s_Dot a3 s43) fun n44 => bsplit (decide ((n42 : Int) < n44))
 (LoopQ fun I45 m46 => I45 m46 [(.int .i64 1)] s43 ∧
 ∀ m47 : Nat, ∀ n48 : Int, ∀ s49 : AS, I45 m47 [(.int .i64 n48)] s49 →
 bsplit (decide ((n48 : Int) ≤ 16))
 (DrawQ fun S V => IxQ (aindexAddr T Y_s_Dot a3 (.int .i64 n42)) fun l50 o51 => RdL (rdc s49 l50 o51 2) fun g52 => (∀ s53 : AS, Ext s49 s53 → WFs s53 → (True) → ACalls Try.prog F_stable_Matrix_Gone [(.ptr p9), (.int .i64 n48), (.agg g52)] s53 fun v54 s55 => ∃ b56 : Bool, v54 = .bool b56 ∧ ((Ext s53 s55 ∧ S 6 [(.func F_stable_Matrix_Gone []), (.ptr p9), (.int .i64 n48), (.agg g52)] (.bool b56) s55 ∧ V 6 [(.func F_stable_Matrix_Gone []), (.ptr p9), (.int .i64 n48), (.agg g52)] (.bool b56)))) ∧ (∃ v, V 6 [(.func F_stable_Matrix_Gone []), (.ptr p9), (.int .i64 n48), (.agg g52)] v) ∧ ∀ v57 : AV, V 6 [(.func F_stable_Matrix_Gone []), (.ptr p9), (.int .i64 n48), (.agg g52)] v57 → ∃ b58 : Bool, v57 = .bool b58 ∧ (IxQ (aindexAddr T Y_s_Dot a3 (.int .i64 n42)) fun l59 o60 => RdL (rdc s49 l59 o60 2) fun g61 => ∀ s62 : AS, Ext s49 s62 → WFs s62 → (S 6 [(.func F_stable_Matrix_Gone []), (.ptr p9), (.int .i64 n48), (.agg g52)] (.bool b58) s62 ∧ True) → ACalls Try.prog F_stable_Matrix_Gone [(.ptr p13), (.int .i64 n48), (.agg g61)] s62 fun v64 s65 => ∃ b66 : Bool, v64 = .bool b66 ∧ (bsplit (!((b58 : Bool) == b66))
 (R (.bool false) s65)
 (∃ m', m' < m47 ∧ I45 m' [(.int .i64 (IntKind.wrap .i64 (n48 + 1)))] s65))))
 (∃ m', m' < m41 ∧ I39 m' [(.int .i64 (IntKind.wrap .i64 (n42 + 1)))] s49))
 (J27 [] s43))) ∧
 (RdI .i64 (alenB T Y_s_minsterlaw14iAct a1 s24) fun n67 => LoopQ fun I68 m69 => I68 m69 [(.int .i64 (IntKind.wrap .i64 (n67 - 1)))] s24 ∧
 ∀ m70 : Nat, ∀ n71 : Int, ∀ s72 : AS, I68 m70 [(.int .i64 n71)] s72 →
 bsplit (decide ((n71 : Int) ≥ 0))
 (IxQ (aindexAddr T Y_s_minsterlaw14iAct a1 (.int .i64 n71)) fun l73 o74 => RdL (rdc s72 l73 o74 20) fun g75 => ACalls Try.prog F_law14iStableGrows_1 [(.ptr p13), (.agg g75)] s72 fun v76 s77 => v76 = .tup [] ∧ (∃ m', m' < m70 ∧ I68 m' [(.int .i64 (IntKind.wrap .i64 (n71 - 1)))] s77))
 (J25 [] s72))) ∧
 (LoopQ fun I78 m79 => I78 m79 [(.int .i64 0)] s22 ∧
 ∀ m80 : Nat, ∀ n81 : Int, ∀ s82 : AS, I78 m80 [(.int .i64 n81)] s82 →
 RdI .i64 (alenB T Y_s_int a2 s82) fun n83 => bsplit (decide ((n81 : Int) < n83)) (RdI .i64 (alenB T Y_s_minsterlaw14iAct a1 s82) fun n84 => bsplit (decide ((n84 : Int) > 0))
 (IxQ (aindexAddr T Y_s_int a2 (.int .i64 n81)) fun l85 o86 => RdI .i64 (rd1 s82 l85 o86) fun n87 => RdI .i64 (alenB T Y_s_minsterlaw14iAct a1 s82) fun n88 => NZ n88 (RdI .i64 (alenB T Y_s_minsterlaw14iAct a1 s82) fun n89 => RdI .i64 (alenB T Y_s_minsterlaw14iAct a1 s82) fun n90 => NZ n90 (IxQ (aindexAddr T Y_s_minsterlaw14iAct a1 (.int .i64 (Int.tmod (IntKind.wrap .i64 ((Int.tmod n87 n88) + n89)) n90))) fun l91 o92 => RdL (rdc s82 l91 o92 20) fun g93 => ACalls Try.prog F_law14iStableGrows_1 [(.ptr p13), (.agg g93)] s82 fun v94 s95 => v94 = .tup [] ∧ (∃ m', m' < m80 ∧ I78 m' [(.int .i64 (IntKind.wrap .i64 (n81 + 1)))] s95))))
 (J23 [] s82)) (J23 [] s82))) ∧
 (LoopQ fun I96 m97 => I96 m97 [(.int .i64 0)] s17 ∧
 ∀ m98 : Nat, ∀ n99 : Int, ∀ s100 : AS, I96 m98 [(.int .i64 n99)] s100 →
 RdI .i64 (alenB T Y_s_minsterlaw14iAct a1 s100) fun n101 => bsplit (decide ((n99 : Int) < n101))
 (ACalls Try.prog F_stable_Matrix_Copy [(.ptr p9)] s100 fun v102 s103 => ∃ p104 : Option (Nat × Nat), v102 = .ptr p104 ∧ (IxQ (aindexAddr T Y_s_minsterlaw14iAct a1 (.int .i64 n99)) fun l105 o106 => RdL (rdc s103 l105 o106 20) fun g107 => ACalls Try.prog F_law14iStableGrows_1 [(.ptr p9), (.agg g107)] s103 fun v108 s109 => v108 = .tup [] ∧ (JoinQ fun J110 =>
 (∀ s111 : AS, J110 [] s111 →
 LoopQ fun I112 m113 => I112 m113 [(.int .i64 1)] s111 ∧
 ∀ m114 : Nat, ∀ n115 : Int, ∀ s116 : AS, I112 m114 [(.int .i64 n115)] s116 →
 bsplit (decide ((n115 : Int) ≤ 16))
 (ACalls Try.prog F_stable_Matrix_Of [(.ptr p104), (.int .i64 n115)] s116 fun v117 s118 => ∃ g119 : List AV, v117 = .agg g119 ∧ (ACalls Try.prog F_stable_Matrix_Of [(.ptr p9), (.int .i64 n115)] s118 fun v120 s121 => ∃ g122 : List AV, v120 = .agg g122 ∧ (NewQ (.cells [.int .u64 0, .int .u64 0, .int .u64 0, .int .u64 0, .int .u64 0, .int .u64 0, .int .u64 0, .int .u64 0, .int .u64 0, .int .u64 0, .int .u64 0, .int .u64 0, .int .u64 0, .int .u64 0, .int .u64 0, .int .u64 0] 0 false) s121 fun l123 s124 => NewQ (.cells [.int .u64 0, .int .u64 0, .int .u64 0, .int .u64 0, .int .u64 0, .int .u64 0, .int .u64 0, .int .u64 0, .int .u64 0, .int .u64 0, .int .u64 0, .int .u64 0, .int .u64 0, .int .u64 0, .int .u64 0, .int .u64 0] 0 false) s124 fun l125 s126 => OkC (some 16) g119 (StQ (awr s126 l123 0 g119) fun s127 => OkC (some 16) g122 (StQ (awr s127 l125 0 g122) fun s128 => LoopQ fun I129 m130 => I129 m130 [(.int .i64 0)] s128 ∧
 ∀ m131 : Nat, ∀ n132 : Int, ∀ s133 : AS, I129 m131 [(.int .i64 n132)] s133 →
 bsplit (decide ((n132 : Int) < 16))
 (IxQ (aindexAddr T Y_Vector (.ptr (some (l123, 0))) (.int .i64 n132)) fun l134 o135 => RdI .u64 (rd1 s133 l134 o135) fun n136 => IxQ (aindexAddr T Y_Vector (.ptr (some (l125, 0))) (.int .i64 n132)) fun l137 o138 => RdI .u64 (rd1 s133 l137 o138) fun n139 => bsplit (decide ((n136 : Int) > n139))
 (R (.bool false) s133)
 (∃ m', m' < m131 ∧ I129 m' [(.int .i64 (IntKind.wrap .i64 (n132 + 1)))] s133))
 (∃ m', m' < m114 ∧ I112 m' [(.int .i64 (IntKind.wrap .i64 (n115 + 1)))] s133))))))
 (∃ m', m' < m98 ∧ I96 m' [(.int .i64 (IntKind.wrap .i64 (n99 + 1)))] s116)) ∧
 (LoopQ fun I140 m141 => I140 m141 [(.int .i64 0)] s109 ∧
 ∀ m142 : Nat, ∀ n143 : Int, ∀ s144 : AS, I140 m142 [(.int .i64 n143)] s144 →
 RdI .i64 (alenB T Y_s_Dot a3 s144) fun n145 => bsplit (decide ((n143 : Int) < n145))
 (IxQ (aindexAddr T Y_s_Dot a3 (.int .i64 n143)) fun l146 o147 => RdL (rdc s144 l146 o147 2) fun g148 => ACalls Try.prog F_stable_Matrix_Stable [(.ptr p104), (.agg g148)] s144 fun v149 s150 => ∃ b151 : Bool, v149 = .bool b151 ∧ (bsplit b151 (IxQ (aindexAddr T Y_s_Dot a3 (.int .i64 n143)) fun l152 o153 => RdL (rdc s150 l152 o153 2) fun g154 => ACalls Try.prog F_stable_Matrix_Stable [(.ptr p9), (.agg g154)] s150 fun v155 s156 => ∃ b157 : Bool, v155 = .bool b157 ∧ (bsplit (!b157)
 (R (.bool false) s156)
 (∃ m', m' < m142 ∧ I140 m' [(.int .i64 (IntKind.wrap .i64 (n143 + 1)))] s156))) (∃ m', m' < m142 ∧ I140 m' [(.int .i64 (IntKind.wrap .i64 (n143 + 1)))] s150)))
 (J110 [] s144)))))
 (J21 [] s100)))) ∧
 (bsplit ((n10 : Int) != 0) (J15 [(.bool true)] s12) (J15 [(.bool ((n14 : Int) != 0))] s12)))))) ∧
 (ACalls Try.prog F_law14ifew [a1] s fun v158 s159 => ∃ b160 : Bool, v158 = .bool b160 ∧ (bsplit (!b160) (J1 [(.bool true)] s159) (RdI .i64 (alenB T Y_s_int a2 s159) fun n161 => bsplit (decide ((n161 : Int) > 80)) (J1 [(.bool true)] s159) (RdI .i64 (alenB T Y_s_Dot a3 s159) fun n162 => J1 [(.bool (decide ((n162 : Int) > 40)))] s159))))

def A_law14iStableGrows : QA := (.seq .leaf (.seq (.join [(37, .bool)] [(25, 37)] .leaf (.cond (.seq .leaf .leaf) .leaf)) (.seq .leaf (.seq .leaf (.seq (.join [(54, .bool)] [(49, 54)] .leaf (.cond (.seq .leaf .leaf) .leaf)) (.seq .leaf (.join [] [(8, 8), (14, 20), (61, 117)] (.seq .leaf (.wrap (.loop [(14, .int .i64)] [(8, 8), (14, 20), (61, 117)] (.seq (.seq .leaf (.cond .leaf .leaf)) (.seq (.wrap (.seq .leaf (.seq .leaf (.join [] [(8, 8), (16, 16), (76, 96)] (.seq .leaf (.wrap (.loop [(16, .int .i64)] [(8, 8), (16, 16), (76, 96)] (.seq (.seq .leaf (.cond .leaf .leaf)) (.seq (.wrap (.seq .leaf (.cond (.seq .leaf .leaf) .leaf))) .leaf))))) (.seq .leaf (.wrap (.loop [(17, .int .i64)] [(8, 8), (17, 20), (97, 117)] (.seq (.seq .leaf (.cond .leaf .leaf)) (.seq (.wrap (.seq .leaf (.seq .leaf (.wrap (.loop [(20, .int .i64)] [(8, 8), (20, 20), (107, 117)] (.seq (.seq .leaf (.cond .leaf .leaf)) (.seq (.wrap (.seq (.draw 6) (.cond (.seq .leaf .leaf) .leaf))) .leaf))))))) .leaf))))))))) .leaf))))) (.join [] [(21, 21), (118, 147)] (.seq .leaf (.wrap (.loop [(21, .int .i64)] [(21, 21), (118, 147)] (.seq (.seq .leaf (.cond .leaf .leaf)) (.seq (.wrap .leaf) .leaf))))) (.join [] [(22, 22), (148, 161)] (.seq .leaf (.wrap (.loop [(22, .int .i64)] [(22, 22), (151, 161)] (.seq (.seq .leaf (.cond .leaf .leaf)) (.seq (.wrap .leaf) .leaf))))) (.join [] [(8, 8), (23, 24), (162, 186)] (.seq .leaf (.wrap (.loop [(23, .int .i64)] [(8, 8), (23, 24), (162, 186)] (.seq (.seq .leaf (.cond .leaf .leaf)) (.seq (.wrap (.seq .leaf (.wrap (.loop [(24, .int .i64)] [(8, 8), (24, 24), (168, 186)] (.seq (.seq .leaf (.cond .leaf .leaf)) (.seq (.wrap (.seq (.drawH 13 [[], [], [], [], [], [], [], [], [], [], [], [], []] [6]) (.cond (.seq .leaf .leaf) .leaf))) .leaf)))))) .leaf))))) (.seq .leaf .leaf)))))))))))

theorem q_law14iStableGrows (a0 : Int) (a1 : AV) (a2 : AV) (a3 : AV) (s : AS) (R : AV → AS → Prop) (h : Q_law14iStableGrows a0 a1 a2 a3 s R) : ACalls Try.prog F_law14iStableGrows [(.int .i64 a0), a1, a2, a3] s R :=
  ACalls.q (n := 195) (rs := [.tmp 8]) (A := A_law14iStableGrows) hT hmx Try.func11 (by kernel_rfl) rfl rfl rfl (by kernel_rfl) (by kernel_rfl) h

/-- what minster/ctx.New asks -/
def Q_ctx_New  (s : AS) (R : AV → AS → Prop) : Prop :=
 RdG (abuild T Y_ctx_Ctx [(2, (.bool true))]) fun g1 => One1 g1 (NewQ (.cells g1 0 false) s fun l2 s3 => R (.ptr (some (l2, 0))) s3)

def A_ctx_New : QA := (.seq .leaf (.seq .leaf .leaf))

theorem q_ctx_New  (s : AS) (R : AV → AS → Prop) (h : Q_ctx_New  s R) : ACalls Try.prog F_ctx_New [] s R :=
  ACalls.q (n := 3) (rs := [.tmp 0]) (A := A_ctx_New) hT hmx Try.func14 (by kernel_rfl) rfl rfl rfl (by kernel_rfl) (by kernel_rfl) h

/-- what (*minster/ctx.Ctx).Add asks -/
def Q_ctx_Ctx_Add (a0 : Option (Nat × Nat)) (a1 : List AV) (s : AS) (R : AV → AS → Prop) : Prop :=
 One1 a1 (NewQ (.cells a1 0 false) s fun l1 s2 => ACalls Try.prog F_ctx_Ctx_there [(.ptr a0)] s2 fun v3 s4 => ∃ b5 : Bool, v3 = .bool b5 ∧ (bsplit (!b5)
 (R (.tup [(.bool false), (.int .i64 1)]) s4)
 (RdL (rdc s4 l1 0 2) fun g6 => ACalls Try.prog F_ctx_May [(.agg g6)] s4 fun v7 s8 => ∃ b9 : Bool, v7 = .bool b9 ∧ (bsplit (!b9)
 (R (.tup [(.bool false), (.int .i64 2)]) s8)
 (RdL (rdc s8 l1 0 2) fun g10 => ACalls Try.prog F_ctx_Ctx_Has [(.ptr a0), (.agg g10)] s8 fun v11 s12 => ∃ b13 : Bool, v11 = .bool b13 ∧ (bsplit b13
 (R (.tup [(.bool false), (.int .i64 0)]) s12)
 (AsSome a0 fun l14 o15 => RdL (rdc s12 l14 o15 18) fun g16 => NewQ (.cells [.int .u64 0, .int .u64 0, .int .u64 0, .int .u64 0, .int .u64 0, .int .u64 0, .int .u64 0, .int .u64 0, .int .u64 0, .int .u64 0, .int .u64 0, .int .u64 0, .int .u64 0, .int .u64 0, .int .u64 0, .int .u64 0, .slc none 0 0 true, .bool false] 0 false) s12 fun l17 s18 => OkC (some 18) g16 (StQ (awr s18 l17 0 g16) fun s19 => DrawQ fun S V => AsSome a0 fun l20 o21 => RdA (rd1 s19 l20 (o21 + 16)) fun v22 => RdL (rdc s19 l1 0 2) fun g23 => (∀ s24 : AS, Ext s19 s24 → WFs s24 → (True) → ACalls Try.prog F_slices_BinarySearchFunc__s_Dot_Dot_Dot [v22, (.agg g23), (.func F_ctx_order [])] s24 fun v25 s26 => ∃ n27 : Int, ∃ b28 : Bool, v25 = .tup [(.int .i64 n27), (.bool b28)] ∧ ((Ext s24 s26 ∧ S 5 [(.func F_slices_BinarySearchFunc__s_Dot_Dot_Dot []), v22, (.agg g23), (.func F_ctx_order [])] (.tup [(.int .i64 n27), (.bool b28)]) s26 ∧ V 5 [(.func F_slices_BinarySearchFunc__s_Dot_Dot_Dot []), v22, (.agg g23), (.func F_ctx_order [])] (.tup [(.int .i64 n27), (.bool b28)])))) ∧ (∃ v, V 5 [(.func F_slices_BinarySearchFunc__s_Dot_Dot_Dot []), v22, (.agg g23), (.func F_ctx_order [])] v) ∧ ∀ v29 : AV, V 5 [(.func F_slices_BinarySearchFunc__s_Dot_Dot_Dot []), v22, (.agg g23), (.func F_ctx_order [])] v29 → ∃ n30 : Int, ∃ b31 : Bool, v29 = .tup [(.int .i64 n30), (.bool b31)] ∧ (∀ s32 : AS, Ext s19 s32 → WFs s32 → (S 5 [(.func F_slices_BinarySearchFunc__s_Dot_Dot_Dot []), v22, (.agg g23), (.func F_ctx_order [])] (.tup [(.int .i64 n30), (.bool b31)]) s32 ∧ True) → DrawQ fun S V => AsSome a0 fun l34 o35 => RdA (rd1 s32 l34 (o35 + 16)) fun v36 => (∀ s37 : AS, Ext s32 s37 → WFs s37 → (True) → ACalls Try.prog F_slices_Clone__s_Dot_Dot [v36] s37 fun v38 s39 => (Ext s37 s39 ∧ S 4 [(.func F_slices_Clone__s_Dot_Dot []), v36] v38 s39 ∧ V 4 [(.func F_slices_Clone__s_Dot_Dot []), v36] v38)) ∧ (∃ v, V 4 [(.func F_slices_Clone__s_Dot_Dot []), v36] v) ∧ ∀ v40 : AV, V 4 [(.func F_slices_Clone__s_Dot_Dot []), v36] v40 → RdL (rdc s32 l1 0 2) fun g41 => (∀ s42 : AS, Ext s32 s42 → WFs s42 → (True) → RdL (absl T Y_s_Dot 1 [(0, (.agg g41))]) fun g43 => NewQ (.cells g43 0 false) s42 fun l44 s45 => (Ext s42 s45 ∧ S 7 [(.agg g41)] (.slc (some (l44, 0)) 1 1 true) s45 ∧ V 7 [(.agg g41)] (.slc (some (l44, 0)) 1 1 true))) ∧ (∃ v, V 7 [(.agg g41)] v) ∧ ∀ v46 : AV, V 7 [(.agg g41)] v46 → ∀ s47 : AS, Ext s32 s47 → WFs s47 → (S 4 [(.func F_slices_Clone__s_Dot_Dot []), v36] v40 s47 ∧ (S 7 [(.agg g41)] v46 s47 ∧ True)) → ACalls Try.prog F_slices_Insert__s_Dot_Dot [v40, (.int .i64 n30), v46] s47 fun v49 s50 => qstore T Y_s_Dot s50 l17 16 v49 fun s51 => ACalls Try.prog F_ctx_Ctx_compact [(.ptr (some (l17, 0)))] s51 fun v52 s53 => v52 = .tup [] ∧ (RdA (rd1 s53 l17 16) fun v54 => RdI .i64 (alenB T Y_s_Dot v54 s53) fun n55 => bsplit (decide ((n55 : Int) > 4096))
 (R (.tup [(.bool false), (.int .i64 5)]) s53)
 (RdL (rdc s53 l17 0 18) fun g56 => AsSome a0 fun l57 o58 => OkC (some 18) g56 (StQ (awr s53 l57 o58 g56) fun s59 => R (.tup [(.bool true), (.int .i64 0)]) s59))))))))))))

def A_ctx_Ctx_Add : QA := (.seq .leaf (.seq (.wrap (.seq .leaf (.cond (.seq .leaf .leaf) (.seq .leaf (.cond (.seq .leaf .leaf) (.seq .leaf (.cond (.seq .leaf .leaf) .leaf))))))) (.seq .leaf (.seq (.drawH 10 [[], [], [], [], [], [], [], [], [], []] [5]) (.seq (.drawH 8 [[], [], [], [], [], [], [], []] [4, 7]) (.seq .leaf (.seq (.seq .leaf (.cond (.seq .leaf .leaf) .leaf)) (.seq .leaf (.seq .leaf .leaf)))))))))

theorem q_ctx_Ctx_Add (a0 : Option (Nat × Nat)) (a1 : List AV) (s : AS) (R : AV → AS → Prop) (h : Q_ctx_Ctx_Add a0 a1 s R) : ACalls Try.prog F_ctx_Ctx_Add [(.ptr a0), (.agg a1)] s R :=
  ACalls.q (n := 51) (rs := [.tmp 4, .tmp 5]) (A := A_ctx_Ctx_Add) hT hmx Try.func15 (by kernel_rfl) rfl rfl rfl (by kernel_rfl) (by kernel_rfl) h

/-- what minster/minsterref04.May asks -/
def Q_ref04iMay (a0 : List AV) (s : AS) (R : AV → AS → Prop) : Prop :=
 One1 a0 (NewQ (.cells a0 0 false) s fun l1 s2 => RdI .i64 (rd1 s2 l1 0) fun n3 => bsplit (decide ((n3 : Int) ≥ 1)) (RdI .i64 (rd1 s2 l1 0) fun n4 => bsplit (decide ((n4 : Int) ≤ 16)) (RdI .u64 (rd1 s2 l1 1) fun n5 => bsplit (decide ((n5 : Int) ≥ 1)) (RdI .u64 (rd1 s2 l1 1) fun n6 => R (.bool (decide ((n6 : Int) ≤ 4611686018427387904))) s2) (R (.bool false) s2)) (R (.bool false) s2)) (R (.bool false) s2))

def A_ref04iMay : QA := (.seq .leaf (.seq .leaf .leaf))

theorem q_ref04iMay (a0 : List AV) (s : AS) (R : AV → AS → Prop) (h : Q_ref04iMay a0 s R) : ACalls Try.prog F_ref04iMay [(.agg a0)] s R :=
  ACalls.q (n := 21) (rs := [.tmp 2]) (A := A_ref04iMay) hT hmx Try.func16 (by kernel_rfl) rfl rfl rfl (by kernel_rfl) (by kernel_rfl) h

/-- what minster/ctx.May asks -/
def Q_ctx_May (a0 : List AV) (s : AS) (R : AV → AS → Prop) : Prop :=
 One1 a0 (NewQ (.cells a0 0 false) s fun l1 s2 => RdI .i64 (rd1 s2 l1 0) fun n3 => bsplit (decide ((n3 : Int) ≥ 1)) (RdI .i64 (rd1 s2 l1 0) fun n4 => bsplit (decide ((n4 : Int) ≤ 16)) (RdI .u64 (rd1 s2 l1 1) fun n5 => bsplit (decide ((n5 : Int) ≥ 1)) (RdI .u64 (rd1 s2 l1 1) fun n6 => R (.bool (decide ((n6 : Int) ≤ 4611686018427387904))) s2) (R (.bool false) s2)) (R (.bool false) s2)) (R (.bool false) s2))

def A_ctx_May : QA := (.seq .leaf (.seq .leaf .leaf))

theorem q_ctx_May (a0 : List AV) (s : AS) (R : AV → AS → Prop) (h : Q_ctx_May a0 s R) : ACalls Try.prog F_ctx_May [(.agg a0)] s R :=
  ACalls.q (n := 21) (rs := [.tmp 2]) (A := A_ctx_May) hT hmx Try.func17 (by kernel_rfl) rfl rfl rfl (by kernel_rfl) (by kernel_rfl) h

/-- what (*minster/minsterref04.Set).Add asks -/
def Q_ref04iSet_Add (a0 : Option (Nat × Nat)) (a1 : List AV) (s : AS) (R : AV → AS → Prop) : Prop :=
 One1 a1 (NewQ (.cells a1 0 false) s fun l1 s2 => RdL (rdc s2 l1 0 2) fun g3 => ACalls Try.prog F_ref04iSet_Has [(.ptr a0), (.agg g3)] s2 fun v4 s5 => ∃ b6 : Bool, v4 = .bool b6 ∧ (bsplit b6
 (R (.bool false) s5)
 (JoinQ fun J7 =>
 (∀ v8 : AV, ∀ n9 : Int, ∀ s10 : AS, J7 [v8, (.int .i64 n9)] s10 →
 RdL (rdc s10 l1 0 2) fun g11 => RdL (absl T Y_s_Dot 1 [(0, (.agg g11))]) fun g12 => NewQ (.cells g12 0 false) s10 fun l13 s14 => Bd2 (aappend T Y_s_Dot Y_s_Dot v8 (.slc (some (l13, 0)) 1 1 true) s14) fun v15 s16 => AsSome a0 fun l17 o18 => RdA (rd1 s16 l17 (o18 + 16)) fun v19 => RdA (aslice T Y_s_Dot v19 (some (.int .i64 n9)) none none) fun v20 => Bd2 (aappend T Y_s_Dot Y_s_Dot v15 v20 s16) fun v21 s22 => AsSome a0 fun l23 o24 => qstore T Y_s_Dot s22 l23 (o24 + 16) v21 fun s25 => ACalls Try.prog F_ref04iSet_compact [(.ptr a0)] s25 fun v26 s27 => v26 = .tup [] ∧ (R (.bool true) s27)) ∧
 (LoopQ fun I28 m29 => I28 m29 [(.slc none 0 0 true), (.int .i64 0)] s5 ∧
 ∀ m30 : Nat, ∀ v31 : AV, ∀ n32 : Int, ∀ s33 : AS, I28 m30 [v31, (.int .i64 n32)] s33 →
 AsSome a0 fun l34 o35 => RdA (rd1 s33 l34 (o35 + 16)) fun v36 => RdI .i64 (alenB T Y_s_Dot v36 s33) fun n37 => bsplit (decide ((n32 : Int) < n37)) (AsSome a0 fun l38 o39 => RdA (rd1 s33 l38 (o39 + 16)) fun v40 => IxQ (aindexAddr T Y_s_Dot v40 (.int .i64 n32)) fun l41 o42 => RdL (rdc s33 l41 o42 2) fun g43 => RdL (rdc s33 l1 0 2) fun g44 => ACalls Try.prog F_ref04iLess [(.agg g43), (.agg g44)] s33 fun v45 s46 => ∃ b47 : Bool, v45 = .bool b47 ∧ (bsplit b47
 (AsSome a0 fun l48 o49 => RdA (rd1 s46 l48 (o49 + 16)) fun v50 => IxQ (aindexAddr T Y_s_Dot v50 (.int .i64 n32)) fun l51 o52 => RdL (rdc s46 l51 o52 2) fun g53 => RdL (absl T Y_s_Dot 1 [(0, (.agg g53))]) fun g54 => NewQ (.cells g54 0 false) s46 fun l55 s56 => Bd2 (aappend T Y_s_Dot Y_s_Dot v31 (.slc (some (l55, 0)) 1 1 true) s56) fun v57 s58 => ∃ m', m' < m30 ∧ I28 m' [v57, (.int .i64 (IntKind.wrap .i64 (n32 + 1)))] s58)
 (J7 [v31, (.int .i64 n32)] s46))) (J7 [v31, (.int .i64 n32)] s33)))))

def A_ref04iSet_Add : QA := (.seq .leaf (.seq (.seq .leaf (.cond (.seq .leaf .leaf) .leaf)) (.seq .leaf (.seq .leaf (.join [(5, .any), (6, .int .i64)] [(5, 6), (10, 39)] (.wrap (.loop [(5, .any), (6, .int .i64)] [(5, 6), (10, 39)] (.seq (.seq (.draw 16) (.cond .leaf .leaf)) (.seq (.wrap .leaf) .leaf)))) (.seq .leaf (.seq .leaf (.seq .leaf (.seq .leaf .leaf)))))))))

theorem q_ref04iSet_Add (a0 : Option (Nat × Nat)) (a1 : List AV) (s : AS) (R : AV → AS → Prop) (h : Q_ref04iSet_Add a0 a1 s R) : ACalls Try.prog F_ref04iSet_Add [(.ptr a0), (.agg a1)] s R :=
  ACalls.q (n := 57) (rs := [.tmp 4]) (A := A_ref04iSet_Add) hT hmx Try.func18 (by kernel_rfl) rfl rfl rfl (by kernel_rfl) (by kernel_rfl) h

/-- what minster/minsterlaw04.same asks -/
def Q_law04isame (a0 : Option (Nat × Nat)) (a1 : Option (Nat × Nat)) (s : AS) (R : AV → AS → Prop) : Prop :=
 DrawQ fun S V => RdO (aeq T 100 Y_p_ctx_Ctx (.ptr a0) (.ptr none)) fun b1 => bsplit (!b1) ((∀ s2 : AS, Ext s s2 → WFs s2 → (True) → ACalls Try.prog F_ctx_Ctx_Vector [(.ptr a0)] s2 fun v3 s4 => ∃ g5 : List AV, v3 = .agg g5 ∧ ((Ext s2 s4 ∧ S 4 [(.func F_ctx_Ctx_Vector []), (.ptr a0)] (.agg g5) s4 ∧ V 4 [(.func F_ctx_Ctx_Vector []), (.ptr a0)] (.agg g5)))) ∧ (∃ v, V 4 [(.func F_ctx_Ctx_Vector []), (.ptr a0)] v) ∧ ∀ v6 : AV, V 4 [(.func F_ctx_Ctx_Vector []), (.ptr a0)] v6 → ∃ g7 : List AV, v6 = .agg g7 ∧ (AsSome a1 fun l8 o9 => RdL (rdc s l8 o9 16) fun g10 => RdO (aeq T 100 Y_Vector (.agg g7) (.agg g10)) fun b11 => bsplit b11 ((∀ s12 : AS, Ext s s12 → WFs s12 → (S 4 [(.func F_ctx_Ctx_Vector []), (.ptr a0)] (.agg g7) s12 ∧ True) → ACalls Try.prog F_ctx_Ctx_Extra [(.ptr a0)] s12 fun v13 s14 => (Ext s12 s14 ∧ S 13 [(.func F_ctx_Ctx_Extra []), (.ptr a0)] v13 s14 ∧ V 13 [(.func F_ctx_Ctx_Extra []), (.ptr a0)] v13)) ∧ (∃ v, V 13 [(.func F_ctx_Ctx_Extra []), (.ptr a0)] v) ∧ ∀ v15 : AV, V 13 [(.func F_ctx_Ctx_Extra []), (.ptr a0)] v15 → AsSome a1 fun l16 o17 => RdA (rd1 s l16 (o17 + 16)) fun v18 => ∀ s19 : AS, Ext s s19 → WFs s19 → (S 4 [(.func F_ctx_Ctx_Vector []), (.ptr a0)] (.agg g7) s19 ∧ (S 13 [(.func F_ctx_Ctx_Extra []), (.ptr a0)] v15 s19 ∧ True)) → ACalls Try.prog F_ref04iSameDots [v15, v18] s19 fun v21 s22 => ∃ b23 : Bool, v21 = .bool b23 ∧ (R (.bool b23) s22)) (∀ s24 : AS, Ext s s24 → WFs s24 → (S 4 [(.func F_ctx_Ctx_Vector []), (.ptr a0)] (.agg g7) s24 ∧ True) → R (.bool false) s24))) (∀ s26 : AS, Ext s s26 → WFs s26 → (True) → R (.bool false) s26)

def A_law04isame : QA := (.seq .leaf (.seq (.drawH 18 [[], [], [], [], [], [], [], [], [], [], [], [], [], [4], [], [], [], []] [4, 13]) .leaf))

theorem q_law04isame (a0 : Option (Nat × Nat)) (a1 : Option (Nat × Nat)) (s : AS) (R : AV → AS → Prop) (h : Q_law04isame a0 a1 s R) : ACalls Try.prog F_law04isame [(.ptr a0), (.ptr a1)] s R :=
  ACalls.q (n := 25) (rs := [.tmp 4]) (A := A_law04isame) hT hmx Try.func19 (by kernel_rfl) rfl rfl rfl (by kernel_rfl) (by kernel_rfl) h

/-- what (*minster/ctx.Ctx).Has asks -/
def Q_ctx_Ctx_Has (a0 : Option (Nat × Nat)) (a1 : List AV) (s : AS) (R : AV → AS → Prop) : Prop :=
 One1 a1 (NewQ (.cells a1 0 false) s fun l1 s2 => ACalls Try.prog F_ctx_Ctx_there [(.ptr a0)] s2 fun v3 s4 => ∃ b5 : Bool, v3 = .bool b5 ∧ (bsplit (!b5) (R (.bool false) s4) (RdL (rdc s4 l1 0 2) fun g6 => ACalls Try.prog F_ctx_May [(.agg g6)] s4 fun v7 s8 => ∃ b9 : Bool, v7 = .bool b9 ∧ (bsplit (!b9)
 (R (.bool false) s8)
 (DrawQ fun S V => AsSome a0 fun l10 o11 => RdA (rd1 s8 l10 (o11 + 16)) fun v12 => RdL (rdc s8 l1 0 2) fun g13 => (∀ s14 : AS, Ext s8 s14 → WFs s14 → (True) → ACalls Try.prog F_slices_BinarySearchFunc__s_Dot_Dot_Dot [v12, (.agg g13), (.func F_ctx_order [])] s14 fun v15 s16 => ∃ n17 : Int, ∃ b18 : Bool, v15 = .tup [(.int .i64 n17), (.bool b18)] ∧ ((Ext s14 s16 ∧ S 5 [(.func F_slices_BinarySearchFunc__s_Dot_Dot_Dot []), v12, (.agg g13), (.func F_ctx_order [])] (.tup [(.int .i64 n17), (.bool b18)]) s16 ∧ V 5 [(.func F_slices_BinarySearchFunc__s_Dot_Dot_Dot []), v12, (.agg g13), (.func F_ctx_order [])] (.tup [(.int .i64 n17), (.bool b18)])))) ∧ (∃ v, V 5 [(.func F_slices_BinarySearchFunc__s_Dot_Dot_Dot []), v12, (.agg g13), (.func F_ctx_order [])] v) ∧ ∀ v19 : AV, V 5 [(.func F_slices_BinarySearchFunc__s_Dot_Dot_Dot []), v12, (.agg g13), (.func F_ctx_order [])] v19 → ∃ n20 : Int, ∃ b21 : Bool, v19 = .tup [(.int .i64 n20), (.bool b21)] ∧ (∀ s22 : AS, Ext s8 s22 → WFs s22 → (S 5 [(.func F_slices_BinarySearchFunc__s_Dot_Dot_Dot []), v12, (.agg g13), (.func F_ctx_order [])] (.tup [(.int .i64 n20), (.bool b21)]) s22 ∧ True) → bsplit b21 (R (.bool true) s22) (RdI .u64 (rd1 s22 l1 1) fun n24 => RdI .i64 (rd1 s22 l1 0) fun n25 => AsSome a0 fun l26 o27 => IxQ (aindexAddr T Y_Vector (.ptr (some (l26, o27))) (.int .i64 (IntKind.wrap .i64 (n25 - 1)))) fun l28 o29 => RdI .u64 (rd1 s22 l28 o29) fun n30 => R (.bool (decide ((n24 : Int) ≤ n30))) s22)))))))

def A_ctx_Ctx_Has : QA := (.seq .leaf (.seq (.seq .leaf (.cond (.seq .leaf .leaf) .leaf)) (.seq (.drawH 10 [[], [], [], [], [], [], [], [], [], []] [5]) (.seq (.draw 12) .leaf))))

theorem q_ctx_Ctx_Has (a0 : Option (Nat × Nat)) (a1 : List AV) (s : AS) (R : AV → AS → Prop) (h : Q_ctx_Ctx_Has a0 a1 s R) : ACalls Try.prog F_ctx_Ctx_Has [(.ptr a0), (.agg a1)] s R :=
  ACalls.q (n := 38) (rs := [.tmp 4]) (A := A_ctx_Ctx_Has) hT hmx Try.func20 (by kernel_rfl) rfl rfl rfl (by kernel_rfl) (by kernel_rfl) h

/-- what (*minster/minsterref04.Set).Has asks -/
def Q_ref04iSet_Has (a0 : Option (Nat × Nat)) (a1 : List AV) (s : AS) (R : AV → AS → Prop) : Prop :=
 One1 a1 (NewQ (.cells a1 0 false) s fun l1 s2 => RdL (rdc s2 l1 0 2) fun g3 => ACalls Try.prog F_ref04iMay [(.agg g3)] s2 fun v4 s5 => ∃ b6 : Bool, v4 = .bool b6 ∧ (bsplit (!b6)
 (R (.bool false) s5)
 (JoinQ fun J7 =>
 (∀ s8 : AS, J7 [] s8 →
 RdI .u64 (rd1 s8 l1 1) fun n9 => RdI .i64 (rd1 s8 l1 0) fun n10 => AsSome a0 fun l11 o12 => IxQ (aindexAddr T Y_a16iuint64 (.ptr (some (l11, o12))) (.int .i64 (IntKind.wrap .i64 (n10 - 1)))) fun l13 o14 => RdI .u64 (rd1 s8 l13 o14) fun n15 => R (.bool (decide ((n9 : Int) ≤ n15))) s8) ∧
 (LoopQ fun I16 m17 => I16 m17 [(.int .i64 0)] s5 ∧
 ∀ m18 : Nat, ∀ n19 : Int, ∀ s20 : AS, I16 m18 [(.int .i64 n19)] s20 →
 AsSome a0 fun l21 o22 => RdA (rd1 s20 l21 (o22 + 16)) fun v23 => RdI .i64 (alenB T Y_s_Dot v23 s20) fun n24 => bsplit (decide ((n19 : Int) < n24))
 (AsSome a0 fun l25 o26 => RdA (rd1 s20 l25 (o26 + 16)) fun v27 => IxQ (aindexAddr T Y_s_Dot v27 (.int .i64 n19)) fun l28 o29 => RdL (rdc s20 l28 o29 2) fun g30 => RdL (rdc s20 l1 0 2) fun g31 => RdO (aeq T 100 Y_Dot (.agg g30) (.agg g31)) fun b32 => bsplit b32
 (R (.bool true) s20)
 (∃ m', m' < m18 ∧ I16 m' [(.int .i64 (IntKind.wrap .i64 (n19 + 1)))] s20))
 (J7 [] s20)))))

def A_ref04iSet_Has : QA := (.seq .leaf (.seq (.seq .leaf (.cond (.seq .leaf .leaf) .leaf)) (.join [] [(4, 5), (9, 26)] (.seq .leaf (.wrap (.loop [(5, .int .i64)] [(4, 5), (9, 26)] (.seq (.seq .leaf (.cond .leaf .leaf)) (.seq (.wrap (.seq (.draw 8) (.cond (.seq .leaf .leaf) .leaf))) .leaf))))) (.seq (.draw 10) .leaf))))

theorem q_ref04iSet_Has (a0 : Option (Nat × Nat)) (a1 : List AV) (s : AS) (R : AV → AS → Prop) (h : Q_ref04iSet_Has a0 a1 s R) : ACalls Try.prog F_ref04iSet_Has [(.ptr a0), (.agg a1)] s R :=
  ACalls.q (n := 38) (rs := [.tmp 4]) (A := A_ref04iSet_Has) hT hmx Try.func21 (by kernel_rfl) rfl rfl rfl (by kernel_rfl) (by kernel_rfl) h

/-- what minster/ctx.Less asks -/
def Q_ctx_Less (a0 : List AV) (a1 : List AV) (s : AS) (R : AV → AS → Prop) : Prop :=
 One1 a0 (NewQ (.cells a0 0 false) s fun l1 s2 => One1 a1 (NewQ (.cells a1 0 false) s2 fun l3 s4 => RdL (rdc s4 l1 0 2) fun g5 => RdL (rdc s4 l3 0 2) fun g6 => ACalls Try.prog F_ctx_order [(.agg g5), (.agg g6)] s4 fun v7 s8 => ∃ n9 : Int, v7 = .int .i64 n9 ∧ (R (.bool (decide ((n9 : Int) < 0))) s8)))

def A_ctx_Less : QA := (.seq .leaf (.seq .leaf .leaf))

theorem q_ctx_Less (a0 : List AV) (a1 : List AV) (s : AS) (R : AV → AS → Prop) (h : Q_ctx_Less a0 a1 s R) : ACalls Try.prog F_ctx_Less [(.agg a0), (.agg a1)] s R :=
  ACalls.q (n := 9) (rs := [.tmp 4]) (A := A_ctx_Less) hT hmx Try.func22 (by kernel_rfl) rfl rfl rfl (by kernel_rfl) (by kernel_rfl) h

/-- what minster/minsterref04.Less asks -/
def Q_ref04iLess (a0 : List AV) (a1 : List AV) (s : AS) (R : AV → AS → Prop) : Prop :=
 One1 a0 (NewQ (.cells a0 0 false) s fun l1 s2 => One1 a1 (NewQ (.cells a1 0 false) s2 fun l3 s4 => RdI .i64 (rd1 s4 l1 0) fun n5 => RdI .i64 (rd1 s4 l3 0) fun n6 => bsplit (decide ((n5 : Int) < n6)) (R (.bool true) s4) (RdI .i64 (rd1 s4 l1 0) fun n7 => RdI .i64 (rd1 s4 l3 0) fun n8 => bsplit ((n7 : Int) == n8) (RdI .u64 (rd1 s4 l1 1) fun n9 => RdI .u64 (rd1 s4 l3 1) fun n10 => R (.bool (decide ((n9 : Int) < n10))) s4) (R (.bool false) s4))))

def A_ref04iLess : QA := (.seq .leaf (.seq .leaf .leaf))

theorem q_ref04iLess (a0 : List AV) (a1 : List AV) (s : AS) (R : AV → AS → Prop) (h : Q_ref04iLess a0 a1 s R) : ACalls Try.prog F_ref04iLess [(.agg a0), (.agg a1)] s R :=
  ACalls.q (n := 24) (rs := [.tmp 4]) (A := A_ref04iLess) hT hmx Try.func23 (by kernel_rfl) rfl rfl rfl (by kernel_rfl) (by kernel_rfl) h

/-- what (*minster/ctx.Ctx).Next asks -/
def Q_ctx_Ctx_Next (a0 : Option (Nat × Nat)) (a1 : Int) (s : AS) (R : AV → AS → Prop) : Prop :=
 ACalls Try.prog F_ctx_Ctx_there [(.ptr a0)] s fun v1 s2 => ∃ b3 : Bool, v1 = .bool b3 ∧ (bsplit (!b3)
 (R (.tup [(.int .u64 0), (.int .i64 1)]) s2)
 (JoinQ fun J4 =>
 (∀ b5 : Bool, ∀ s6 : AS, J4 [(.bool b5)] s6 →
 bsplit b5
 (R (.tup [(.int .u64 0), (.int .i64 2)]) s6)
 (AsSome a0 fun l7 o8 => IxQ (aindexAddr T Y_Vector (.ptr (some (l7, o8))) (.int .i64 (IntKind.wrap .i64 (a1 - 1)))) fun l9 o10 => RdI .u64 (rd1 s6 l9 o10) fun n11 => JoinQ fun J12 =>
 (∀ n13 : Int, ∀ s14 : AS, J12 [(.int .u64 n13)] s14 →
 bsplit (decide ((n13 : Int) ≥ 4611686018427387904))
 (R (.tup [(.int .u64 0), (.int .i64 5)]) s14)
 (R (.tup [(.int .u64 (IntKind.wrap .u64 (n13 + 1))), (.int .i64 0)]) s14)) ∧
 (AsSome a0 fun l15 o16 => RdA (rd1 s6 l15 (o16 + 16)) fun v17 => RdI .i64 (alenB T Y_s_Dot v17 s6) fun n18 => LoopQ fun I19 m20 => I19 m20 [(.int .u64 n11), (.int .i64 0)] s6 ∧
 ∀ m21 : Nat, ∀ n22 : Int, ∀ n23 : Int, ∀ s24 : AS, I19 m21 [(.int .u64 n22), (.int .i64 n23)] s24 →
 bsplit (decide ((n23 : Int) < n18))
 (IxQ (aindexAddr T Y_s_Dot v17 (.int .i64 n23)) fun l25 o26 => RdL (rdc s24 l25 o26 2) fun g27 => NewQ (.cells [.int .i64 0, .int .u64 0] 0 false) s24 fun l28 s29 => OkC (some 2) g27 (StQ (awr s29 l28 0 g27) fun s30 => RdI .i64 (rd1 s30 l28 0) fun n31 => bsplit ((n31 : Int) == a1)
 (RdI .u64 (rd1 s30 l28 1) fun n32 => RdI .u64 (amax true [(.int .u64 n22), (.int .u64 n32)]) fun n33 => ∃ m', m' < m21 ∧ I19 m' [(.int .u64 n33), (.int .i64 (IntKind.wrap .i64 (n23 + 1)))] s30)
 (∃ m', m' < m21 ∧ I19 m' [(.int .u64 n22), (.int .i64 (IntKind.wrap .i64 (n23 + 1)))] s30)))
 (J12 [(.int .u64 n22)] s24)))) ∧
 (bsplit (decide ((a1 : Int) < 1)) (J4 [(.bool true)] s2) (J4 [(.bool (decide ((a1 : Int) > 16)))] s2))))

def A_ctx_Ctx_Next : QA := (.seq .leaf (.seq (.wrap (.seq .leaf (.cond (.seq .leaf .leaf) (.join [(13, .bool)] [(13, 19)] .leaf (.cond (.seq .leaf .leaf) .leaf))))) (.seq .leaf (.join [(6, .int .u64)] [(6, 6), (8, 8), (27, 44)] (.seq .leaf (.wrap (.loop [(6, .int .u64), (32, .int .i64)] [(6, 6), (8, 8), (32, 44)] (.seq .leaf (.seq (.cond .leaf .leaf) (.seq (.wrap (.seq .leaf (.seq .leaf (.cond .leaf .leaf)))) .leaf)))))) (.seq (.seq .leaf (.cond (.seq .leaf .leaf) .leaf)) (.seq .leaf .leaf))))))

theorem q_ctx_Ctx_Next (a0 : Option (Nat × Nat)) (a1 : Int) (s : AS) (R : AV → AS → Prop) (h : Q_ctx_Ctx_Next a0 a1 s R) : ACalls Try.prog F_ctx_Ctx_Next [(.ptr a0), (.int .i64 a1)] s R :=
  ACalls.q (n := 49) (rs := [.tmp 4, .tmp 5]) (A := A_ctx_Ctx_Next) hT hmx Try.func24 (by kernel_rfl) rfl rfl rfl (by kernel_rfl) (by kernel_rfl) h

/-- what (*minster/minsterref04.Set).Next asks -/
def Q_ref04iSet_Next (a0 : Option (Nat × Nat)) (a1 : Int) (s : AS) (R : AV → AS → Prop) : Prop :=
 AsSome a0 fun l1 o2 => IxQ (aindexAddr T Y_a16iuint64 (.ptr (some (l1, o2))) (.int .i64 (IntKind.wrap .i64 (a1 - 1)))) fun l3 o4 => RdI .u64 (rd1 s l3 o4) fun n5 => LoopQ fun I6 m7 => I6 m7 [(.int .u64 n5), (.int .i64 0)] s ∧
 ∀ m8 : Nat, ∀ n9 : Int, ∀ n10 : Int, ∀ s11 : AS, I6 m8 [(.int .u64 n9), (.int .i64 n10)] s11 →
 AsSome a0 fun l12 o13 => RdA (rd1 s11 l12 (o13 + 16)) fun v14 => RdI .i64 (alenB T Y_s_Dot v14 s11) fun n15 => bsplit (decide ((n10 : Int) < n15))
 (JoinQ fun J16 =>
 (∀ b17 : Bool, ∀ s18 : AS, J16 [(.bool b17)] s18 →
 bsplit b17
 (AsSome a0 fun l19 o20 => RdA (rd1 s18 l19 (o20 + 16)) fun v21 => IxQ (aindexAddr T Y_s_Dot v21 (.int .i64 n10)) fun l22 o23 => RdI .u64 (rd1 s18 l22 (o23 + 1)) fun n24 => ∃ m', m' < m8 ∧ I6 m' [(.int .u64 n24), (.int .i64 (IntKind.wrap .i64 (n10 + 1)))] s18)
 (∃ m', m' < m8 ∧ I6 m' [(.int .u64 n9), (.int .i64 (IntKind.wrap .i64 (n10 + 1)))] s18)) ∧
 (AsSome a0 fun l25 o26 => RdA (rd1 s11 l25 (o26 + 16)) fun v27 => IxQ (aindexAddr T Y_s_Dot v27 (.int .i64 n10)) fun l28 o29 => RdI .i64 (rd1 s11 l28 o29) fun n30 => bsplit ((n30 : Int) == a1) (AsSome a0 fun l31 o32 => RdA (rd1 s11 l31 (o32 + 16)) fun v33 => IxQ (aindexAddr T Y_s_Dot v33 (.int .i64 n10)) fun l34 o35 => RdI .u64 (rd1 s11 l34 (o35 + 1)) fun n36 => J16 [(.bool (decide ((n36 : Int) > n9)))] s11) (J16 [(.bool false)] s11)))
 (R (.int .u64 n9) s11)

def A_ref04iSet_Next : QA := (.seq .leaf (.seq .leaf (.seq (.seq .leaf (.wrap (.loop [(5, .int .u64), (6, .int .i64)] [(5, 6), (14, 52)] (.seq (.seq .leaf (.cond .leaf .leaf)) (.seq (.wrap (.join [(44, .bool)] [(23, 44)] .leaf (.cond .leaf .leaf))) .leaf))))) (.seq .leaf .leaf))))

theorem q_ref04iSet_Next (a0 : Option (Nat × Nat)) (a1 : Int) (s : AS) (R : AV → AS → Prop) (h : Q_ref04iSet_Next a0 a1 s R) : ACalls Try.prog F_ref04iSet_Next [(.ptr a0), (.int .i64 a1)] s R :=
  ACalls.q (n := 54) (rs := [.tmp 4]) (A := A_ref04iSet_Next) hT hmx Try.func25 (by kernel_rfl) rfl rfl rfl (by kernel_rfl) (by kernel_rfl) h

/-- what minster/ctx.Of asks -/
def Q_ctx_Of (a0 : List AV) (a1 : AV) (s : AS) (R : AV → AS → Prop) : Prop :=
 One1 a0 (NewQ (.cells a0 0 false) s fun l1 s2 => JoinQ fun J3 =>
 (∀ s4 : AS, J3 [] s4 →
 JoinQ fun J5 =>
 (∀ s6 : AS, J5 [] s6 →
 RdI .i64 (alenB T Y_s_Dot a1 s6) fun n7 => bsplit (decide ((n7 : Int) > 4096))
 (R (.tup [(.ptr none), (.int .i64 5)]) s6)
 (DrawQ fun S V => RdL (rdc s6 l1 0 16) fun g8 => (∀ s9 : AS, Ext s6 s9 → WFs s9 → (True) → ACalls Try.prog F_slices_Clone__s_Dot_Dot [a1] s9 fun v10 s11 => (Ext s9 s11 ∧ S 2 [(.func F_slices_Clone__s_Dot_Dot []), a1] v10 s11 ∧ V 2 [(.func F_slices_Clone__s_Dot_Dot []), a1] v10)) ∧ (∃ v, V 2 [(.func F_slices_Clone__s_Dot_Dot []), a1] v) ∧ ∀ v12 : AV, V 2 [(.func F_slices_Clone__s_Dot_Dot []), a1] v12 → ∀ s13 : AS, Ext s6 s13 → WFs s13 → (S 2 [(.func F_slices_Clone__s_Dot_Dot []), a1] v12 s13 ∧ True) → RdG (abuild T Y_ctx_Ctx [(0, (.agg g8)), (1, v12), (2, (.bool true))]) fun g15 => One1 g15 (NewQ (.cells g15 0 false) s13 fun l16 s17 => R (.tup [(.ptr (some (l16, 0))), (.int .i64 0)]) s17))) ∧
 (RdI .i64 (alenB T Y_s_Dot a1 s4) fun n18 => LoopQ fun I19 m20 => I19 m20 [(.int .i64 0)] s4 ∧
 ∀ m21 : Nat, ∀ n22 : Int, ∀ s23 : AS, I19 m21 [(.int .i64 n22)] s23 →
 bsplit (decide ((n22 : Int) < n18))
 (IxQ (aindexAddr T Y_s_Dot a1 (.int .i64 n22)) fun l24 o25 => RdL (rdc s23 l24 o25 2) fun g26 => NewQ (.cells [.int .i64 0, .int .u64 0] 0 false) s23 fun l27 s28 => OkC (some 2) g26 (StQ (awr s28 l27 0 g26) fun s29 => JoinQ fun J30 =>
 (∀ b31 : Bool, ∀ s32 : AS, J30 [(.bool b31)] s32 →
 bsplit b31
 (R (.tup [(.ptr none), (.int .i64 2)]) s32)
 (∃ m', m' < m21 ∧ I19 m' [(.int .i64 (IntKind.wrap .i64 (n22 + 1)))] s32)) ∧
 (DrawQ fun S V => RdL (rdc s29 l27 0 2) fun g33 => (∀ s34 : AS, Ext s29 s34 → WFs s34 → (True) → ACalls Try.prog F_ctx_May [(.agg g33)] s34 fun v35 s36 => ∃ b37 : Bool, v35 = .bool b37 ∧ ((Ext s34 s36 ∧ S 1 [(.func F_ctx_May []), (.agg g33)] (.bool b37) s36 ∧ V 1 [(.func F_ctx_May []), (.agg g33)] (.bool b37)))) ∧ (∃ v, V 1 [(.func F_ctx_May []), (.agg g33)] v) ∧ ∀ v38 : AV, V 1 [(.func F_ctx_May []), (.agg g33)] v38 → ∃ b39 : Bool, v38 = .bool b39 ∧ (bsplit (!b39) (∀ s40 : AS, Ext s29 s40 → WFs s40 → (S 1 [(.func F_ctx_May []), (.agg g33)] (.bool b39) s40 ∧ True) → J30 [(.bool true)] s40) (bsplit (decide ((n22 : Int) > 0)) (IxQ (aindexAddr T Y_s_Dot a1 (.int .i64 (IntKind.wrap .i64 (n22 - 1)))) fun l42 o43 => RdL (rdc s29 l42 o43 2) fun g44 => RdL (rdc s29 l27 0 2) fun g45 => (∀ s46 : AS, Ext s29 s46 → WFs s46 → (S 1 [(.func F_ctx_May []), (.agg g33)] (.bool b39) s46 ∧ True) → ACalls Try.prog F_ctx_Less [(.agg g44), (.agg g45)] s46 fun v47 s48 => ∃ b49 : Bool, v47 = .bool b49 ∧ ((Ext s46 s48 ∧ S 13 [(.func F_ctx_Less []), (.agg g44), (.agg g45)] (.bool b49) s48 ∧ V 13 [(.func F_ctx_Less []), (.agg g44), (.agg g45)] (.bool b49)))) ∧ (∃ v, V 13 [(.func F_ctx_Less []), (.agg g44), (.agg g45)] v) ∧ ∀ v50 : AV, V 13 [(.func F_ctx_Less []), (.agg g44), (.agg g45)] v50 → ∃ b51 : Bool, v50 = .bool b51 ∧ (bsplit (!b51) (∀ s52 : AS, Ext s29 s52 → WFs s52 → (S 1 [(.func F_ctx_May []), (.agg g33)] (.bool b39) s52 ∧ (S 13 [(.func F_ctx_Less []), (.agg g44), (.agg g45)] (.bool b51) s52 ∧ True)) → J30 [(.bool true)] s52) (RdI .u64 (rd1 s29 l27 1) fun n54 => RdI .i64 (rd1 s29 l27 0) fun n55 => IxQ (aindexAddr T Y_Vector (.ptr (some (l1, 0))) (.int .i64 (IntKind.wrap .i64 (n55 - 1)))) fun l56 o57 => RdI .u64 (rd1 s29 l56 o57) fun n58 => ∀ s59 : AS, Ext s29 s59 → WFs s59 → (S 1 [(.func F_ctx_May []), (.agg g33)] (.bool b39) s59 ∧ (S 13 [(.func F_ctx_Less []), (.agg g44), (.agg g45)] (.bool b51) s59 ∧ True)) → J30 [(.bool (decide ((n54 : Int) ≤ (IntKind.wrap .u64 (n58 + 1)))))] s59))) (RdI .u64 (rd1 s29 l27 1) fun n61 => RdI .i64 (rd1 s29 l27 0) fun n62 => IxQ (aindexAddr T Y_Vector (.ptr (some (l1, 0))) (.int .i64 (IntKind.wrap .i64 (n62 - 1)))) fun l63 o64 => RdI .u64 (rd1 s29 l63 o64) fun n65 => ∀ s66 : AS, Ext s29 s66 → WFs s66 → (S 1 [(.func F_ctx_May []), (.agg g33)] (.bool b39) s66 ∧ True) → J30 [(.bool (decide ((n61 : Int) ≤ (IntKind.wrap .u64 (n65 + 1)))))] s66))))))
 (J5 [] s23))) ∧
 (RdL (rdc s2 l1 0 16) fun g68 => LoopQ fun I69 m70 => I69 m70 [(.int .i64 0)] s2 ∧
 ∀ m71 : Nat, ∀ n72 : Int, ∀ s73 : AS, I69 m71 [(.int .i64 n72)] s73 →
 bsplit (decide ((n72 : Int) < 16))
 (RdI .u64 (aindex T Y_Vector (.agg g68) (.int .i64 n72)) fun n74 => bsplit (decide ((n74 : Int) > 4611686018427387904))
 (R (.tup [(.ptr none), (.int .i64 2)]) s73)
 (∃ m', m' < m71 ∧ I69 m' [(.int .i64 (IntKind.wrap .i64 (n72 + 1)))] s73))
 (J3 [] s73)))

def A_ctx_Of : QA := (.seq .leaf (.join [] [(4, 5), (7, 7), (10, 16)] (.seq .leaf (.wrap (.loop [(11, .int .i64)] [(4, 5), (7, 7), (11, 16)] (.seq .leaf (.seq (.cond .leaf .leaf) (.seq (.wrap (.seq .leaf (.seq .leaf (.cond (.seq .leaf .leaf) .leaf)))) .leaf)))))) (.join [] [(4, 5), (8, 9), (17, 52)] (.seq .leaf (.wrap (.loop [(19, .int .i64)] [(4, 5), (8, 9), (19, 52)] (.seq .leaf (.seq (.cond .leaf .leaf) (.seq (.wrap (.seq .leaf (.join [(51, .bool)] [(24, 51)] (.drawH 26 [[], [], [], [], [], [], [], [], [], [], [], [], [], [1], [], [], [], [], [], [], [], [], [], [], [], []] [1, 13]) (.cond (.seq .leaf .leaf) .leaf)))) .leaf)))))) (.seq (.seq .leaf (.cond (.seq .leaf .leaf) .leaf)) (.seq (.drawH 3 [[], [], []] [2]) .leaf)))))

theorem q_ctx_Of (a0 : List AV) (a1 : AV) (s : AS) (R : AV → AS → Prop) (h : Q_ctx_Of a0 a1 s R) : ACalls Try.prog F_ctx_Of [(.agg a0), a1] s R :=
  ACalls.q (n := 61) (rs := [.tmp 4, .tmp 5]) (A := A_ctx_Of) hT hmx Try.func26 (by kernel_rfl) rfl rfl rfl (by kernel_rfl) (by kernel_rfl) h

/-- what minster/minsterref04.Of asks -/
def Q_ref04iOf (a0 : List AV) (a1 : AV) (s : AS) (R : AV → AS → Prop) : Prop :=
 One1 a0 (NewQ (.cells a0 0 false) s fun l1 s2 => JoinQ fun J3 =>
 (∀ s4 : AS, J3 [] s4 →
 JoinQ fun J5 =>
 (∀ s6 : AS, J5 [] s6 →
 RdL (rdc s6 l1 0 16) fun g7 => RdG (abuild T Y_minsterref04iSet [(0, (.agg g7)), (1, a1)]) fun g8 => One1 g8 (NewQ (.cells g8 0 false) s6 fun l9 s10 => R (.tup [(.ptr (some (l9, 0))), (.bool true)]) s10)) ∧
 (LoopQ fun I11 m12 => I11 m12 [(.int .i64 0)] s4 ∧
 ∀ m13 : Nat, ∀ n14 : Int, ∀ s15 : AS, I11 m13 [(.int .i64 n14)] s15 →
 RdI .i64 (alenB T Y_s_Dot a1 s15) fun n16 => bsplit (decide ((n14 : Int) < n16))
 (JoinQ fun J17 =>
 (∀ b18 : Bool, ∀ s19 : AS, J17 [(.bool b18)] s19 →
 bsplit b18
 (R (.tup [(.ptr none), (.bool false)]) s19)
 (∃ m', m' < m13 ∧ I11 m' [(.int .i64 (IntKind.wrap .i64 (n14 + 1)))] s19)) ∧
 (DrawQ fun S V => IxQ (aindexAddr T Y_s_Dot a1 (.int .i64 n14)) fun l20 o21 => RdL (rdc s15 l20 o21 2) fun g22 => (∀ s23 : AS, Ext s15 s23 → WFs s23 → (True) → ACalls Try.prog F_ref04iMay [(.agg g22)] s23 fun v24 s25 => ∃ b26 : Bool, v24 = .bool b26 ∧ ((Ext s23 s25 ∧ S 4 [(.func F_ref04iMay []), (.agg g22)] (.bool b26) s25 ∧ V 4 [(.func F_ref04iMay []), (.agg g22)] (.bool b26)))) ∧ (∃ v, V 4 [(.func F_ref04iMay []), (.agg g22)] v) ∧ ∀ v27 : AV, V 4 [(.func F_ref04iMay []), (.agg g22)] v27 → ∃ b28 : Bool, v27 = .bool b28 ∧ (bsplit (!b28) (∀ s29 : AS, Ext s15 s29 → WFs s29 → (S 4 [(.func F_ref04iMay []), (.agg g22)] (.bool b28) s29 ∧ True) → J17 [(.bool true)] s29) (bsplit (decide ((n14 : Int) > 0)) (IxQ (aindexAddr T Y_s_Dot a1 (.int .i64 (IntKind.wrap .i64 (n14 - 1)))) fun l31 o32 => RdL (rdc s15 l31 o32 2) fun g33 => IxQ (aindexAddr T Y_s_Dot a1 (.int .i64 n14)) fun l34 o35 => RdL (rdc s15 l34 o35 2) fun g36 => (∀ s37 : AS, Ext s15 s37 → WFs s37 → (S 4 [(.func F_ref04iMay []), (.agg g22)] (.bool b28) s37 ∧ True) → ACalls Try.prog F_ref04iLess [(.agg g33), (.agg g36)] s37 fun v38 s39 => ∃ b40 : Bool, v38 = .bool b40 ∧ ((Ext s37 s39 ∧ S 19 [(.func F_ref04iLess []), (.agg g33), (.agg g36)] (.bool b40) s39 ∧ V 19 [(.func F_ref04iLess []), (.agg g33), (.agg g36)] (.bool b40)))) ∧ (∃ v, V 19 [(.func F_ref04iLess []), (.agg g33), (.agg g36)] v) ∧ ∀ v41 : AV, V 19 [(.func F_ref04iLess []), (.agg g33), (.agg g36)] v41 → ∃ b42 : Bool, v41 = .bool b42 ∧ (bsplit (!b42) (∀ s43 : AS, Ext s15 s43 → WFs s43 → (S 4 [(.func F_ref04iMay []), (.agg g22)] (.bool b28) s43 ∧ (S 19 [(.func F_ref04iLess []), (.agg g33), (.agg g36)] (.bool b42) s43 ∧ True)) → J17 [(.bool true)] s43) (IxQ (aindexAddr T Y_s_Dot a1 (.int .i64 n14)) fun l45 o46 => RdI .u64 (rd1 s15 l45 (o46 + 1)) fun n47 => IxQ (aindexAddr T Y_s_Dot a1 (.int .i64 n14)) fun l48 o49 => RdI .i64 (rd1 s15 l48 o49) fun n50 => IxQ (aindexAddr T Y_Vector (.ptr (some (l1, 0))) (.int .i64 (IntKind.wrap .i64 (n50 - 1)))) fun l51 o52 => RdI .u64 (rd1 s15 l51 o52) fun n53 => ∀ s54 : AS, Ext s15 s54 → WFs s54 → (S 4 [(.func F_ref04iMay []), (.agg g22)] (.bool b28) s54 ∧ (S 19 [(.func F_ref04iLess []), (.agg g33), (.agg g36)] (.bool b42) s54 ∧ True)) → J17 [(.bool (decide ((n47 : Int) ≤ (IntKind.wrap .u64 (n53 + 1)))))] s54))) (IxQ (aindexAddr T Y_s_Dot a1 (.int .i64 n14)) fun l56 o57 => RdI .u64 (rd1 s15 l56 (o57 + 1)) fun n58 => IxQ (aindexAddr T Y_s_Dot a1 (.int .i64 n14)) fun l59 o60 => RdI .i64 (rd1 s15 l59 o60) fun n61 => IxQ (aindexAddr T Y_Vector (.ptr (some (l1, 0))) (.int .i64 (IntKind.wrap .i64 (n61 - 1)))) fun l62 o63 => RdI .u64 (rd1 s15 l62 o63) fun n64 => ∀ s65 : AS, Ext s15 s65 → WFs s65 → (S 4 [(.func F_ref04iMay []), (.agg g22)] (.bool b28) s65 ∧ True) → J17 [(.bool (decide ((n58 : Int) ≤ (IntKind.wrap .u64 (n64 + 1)))))] s65)))))
 (J5 [] s15))) ∧
 (LoopQ fun I67 m68 => I67 m68 [(.int .i64 0)] s2 ∧
 ∀ m69 : Nat, ∀ n70 : Int, ∀ s71 : AS, I67 m69 [(.int .i64 n70)] s71 →
 bsplit (decide ((n70 : Int) < 16))
 (IxQ (aindexAddr T Y_Vector (.ptr (some (l1, 0))) (.int .i64 n70)) fun l72 o73 => RdI .u64 (rd1 s71 l72 o73) fun n74 => bsplit (decide ((n74 : Int) > 4611686018427387904))
 (R (.tup [(.ptr none), (.bool false)]) s71)
 (∃ m', m' < m69 ∧ I67 m' [(.int .i64 (IntKind.wrap .i64 (n70 + 1)))] s71))
 (J3 [] s71)))

def A_ref04iOf : QA := (.seq .leaf (.join [] [(4, 6), (8, 15)] (.seq .leaf (.wrap (.loop [(6, .int .i64)] [(4, 6), (8, 15)] (.seq (.seq .leaf (.cond .leaf .leaf)) (.seq (.wrap (.seq .leaf (.cond (.seq .leaf .leaf) .leaf))) .leaf))))) (.join [] [(4, 5), (7, 7), (16, 61)] (.seq .leaf (.wrap (.loop [(7, .int .i64)] [(4, 5), (7, 7), (16, 61)] (.seq (.seq .leaf (.cond .leaf .leaf)) (.seq (.wrap (.join [(61, .bool)] [(22, 61)] (.drawH 38 [[], [], [], [], [], [], [], [], [], [], [], [], [], [], [], [], [], [], [], [4], [], [], [], [], [], [], [], [], [], [], [], [], [], [], [], [], [], []] [4, 19]) (.cond (.seq .leaf .leaf) .leaf))) .leaf))))) (.seq .leaf .leaf))))

theorem q_ref04iOf (a0 : List AV) (a1 : AV) (s : AS) (R : AV → AS → Prop) (h : Q_ref04iOf a0 a1 s R) : ACalls Try.prog F_ref04iOf [(.agg a0), a1] s R :=
  ACalls.q (n := 66) (rs := [.tmp 4, .tmp 5]) (A := A_ref04iOf) hT hmx Try.func27 (by kernel_rfl) rfl rfl rfl (by kernel_rfl) (by kernel_rfl) h

/-- what minster/minsterlaw04.of asks -/
def Q_law04iof (a0 : AV) (s : AS) (R : AV → AS → Prop) : Prop :=
 ACalls Try.prog F_ctx_New [] s fun v1 s2 => ∃ p3 : Option (Nat × Nat), v1 = .ptr p3 ∧ (RdG (abuild T Y_minsterref04iSet []) fun g4 => One1 g4 (NewQ (.cells g4 0 false) s2 fun l5 s6 => JoinQ fun J7 =>
 (∀ s8 : AS, J7 [] s8 →
 R (.tup [(.ptr p3), (.ptr (some (l5, 0)))]) s8) ∧
 (LoopQ fun I9 m10 => I9 m10 [(.int .i64 0)] s6 ∧
 ∀ m11 : Nat, ∀ n12 : Int, ∀ s13 : AS, I9 m11 [(.int .i64 n12)] s13 →
 RdI .i64 (alenB T Y_s_Dot a0 s13) fun n14 => bsplit (decide ((n12 : Int) < n14))
 (IxQ (aindexAddr T Y_s_Dot a0 (.int .i64 n12)) fun l15 o16 => RdL (rdc s13 l15 o16 2) fun g17 => ACalls Try.prog F_ref04iMay [(.agg g17)] s13 fun v18 s19 => ∃ b20 : Bool, v18 = .bool b20 ∧ (bsplit b20
 (IxQ (aindexAddr T Y_s_Dot a0 (.int .i64 n12)) fun l21 o22 => RdL (rdc s19 l21 o22 2) fun g23 => ACalls Try.prog F_ctx_Ctx_Add [(.ptr p3), (.agg g23)] s19 fun v24 s25 => ∃ b26 : Bool, ∃ n27 : Int, v24 = .tup [(.bool b26), (.int .i64 n27)] ∧ (IxQ (aindexAddr T Y_s_Dot a0 (.int .i64 n12)) fun l28 o29 => RdL (rdc s25 l28 o29 2) fun g30 => ACalls Try.prog F_ref04iSet_Add [(.ptr (some (l5, 0))), (.agg g30)] s25 fun v31 s32 => ∃ b33 : Bool, v31 = .bool b33 ∧ (∃ m', m' < m11 ∧ I9 m' [(.int .i64 (IntKind.wrap .i64 (n12 + 1)))] s32)))
 (∃ m', m' < m11 ∧ I9 m' [(.int .i64 (IntKind.wrap .i64 (n12 + 1)))] s19)))
 (J7 [] s13))))

def A_law04iof : QA := (.seq .leaf (.seq .leaf (.join [] [(6, 6), (10, 32)] (.seq .leaf (.wrap (.loop [(6, .int .i64)] [(6, 6), (10, 32)] (.seq (.seq .leaf (.cond .leaf .leaf)) (.seq (.wrap (.seq .leaf (.cond (.seq .leaf .leaf) .leaf))) .leaf))))) (.seq .leaf .leaf))))

theorem q_law04iof (a0 : AV) (s : AS) (R : AV → AS → Prop) (h : Q_law04iof a0 s R) : ACalls Try.prog F_law04iof [a0] s R :=
  ACalls.q (n := 35) (rs := [.tmp 2, .tmp 3]) (A := A_law04iof) hT hmx Try.func28 (by kernel_rfl) rfl rfl rfl (by kernel_rfl) (by kernel_rfl) h

/-- what (*minster/ctx.Ctx).Vector asks -/
def Q_ctx_Ctx_Vector (a0 : Option (Nat × Nat)) (s : AS) (R : AV → AS → Prop) : Prop :=
 NewQ (.cells [.int .u64 0, .int .u64 0, .int .u64 0, .int .u64 0, .int .u64 0, .int .u64 0, .int .u64 0, .int .u64 0, .int .u64 0, .int .u64 0, .int .u64 0, .int .u64 0, .int .u64 0, .int .u64 0, .int .u64 0, .int .u64 0] 0 false) s fun l1 s2 => ACalls Try.prog F_ctx_Ctx_there [(.ptr a0)] s2 fun v3 s4 => ∃ b5 : Bool, v3 = .bool b5 ∧ (bsplit (!b5)
 (RdG (abuild T Y_Vector []) fun g6 => OkC (some 16) g6 (StQ (awr s4 l1 0 g6) fun s7 => RdL (rdc s7 l1 0 16) fun g8 => R (.agg g8) s7))
 (AsSome a0 fun l9 o10 => RdL (rdc s4 l9 o10 16) fun g11 => OkC (some 16) g11 (StQ (awr s4 l1 0 g11) fun s12 => RdL (rdc s12 l1 0 16) fun g13 => R (.agg g13) s12)))

def A_ctx_Ctx_Vector : QA := (.seq .leaf (.seq (.seq .leaf (.cond (.seq .leaf .leaf) .leaf)) (.seq .leaf .leaf)))

theorem q_ctx_Ctx_Vector (a0 : Option (Nat × Nat)) (s : AS) (R : AV → AS → Prop) (h : Q_ctx_Ctx_Vector a0 s R) : ACalls Try.prog F_ctx_Ctx_Vector [(.ptr a0)] s R :=
  ACalls.q (n := 11) (rs := [.cell 2 43]) (A := A_ctx_Ctx_Vector) hT hmx Try.func29 (by kernel_rfl) rfl rfl rfl (by kernel_rfl) (by kernel_rfl) h

/-- what (*minster/ctx.Ctx).Extra asks -/
def Q_ctx_Ctx_Extra (a0 : Option (Nat × Nat)) (s : AS) (R : AV → AS → Prop) : Prop :=
 ACalls Try.prog F_ctx_Ctx_there [(.ptr a0)] s fun v1 s2 => ∃ b3 : Bool, v1 = .bool b3 ∧ (bsplit (!b3)
 (R (.slc none 0 0 true) s2)
 (AsSome a0 fun l4 o5 => RdA (rd1 s2 l4 (o5 + 16)) fun v6 => ACalls Try.prog F_slices_Clone__s_Dot_Dot [v6] s2 fun v7 s8 => R v7 s8))

def A_ctx_Ctx_Extra : QA := (.seq .leaf (.seq (.seq .leaf (.cond (.seq .leaf .leaf) .leaf)) (.seq .leaf .leaf)))

theorem q_ctx_Ctx_Extra (a0 : Option (Nat × Nat)) (s : AS) (R : AV → AS → Prop) (h : Q_ctx_Ctx_Extra a0 s R) : ACalls Try.prog F_ctx_Ctx_Extra [(.ptr a0)] s R :=
  ACalls.q (n := 11) (rs := [.tmp 2]) (A := A_ctx_Ctx_Extra) hT hmx Try.func30 (by kernel_rfl) rfl rfl rfl (by kernel_rfl) (by kernel_rfl) h

/-- what (*minster/ctx.Ctx).Same asks -/
def Q_ctx_Ctx_Same (a0 : Option (Nat × Nat)) (a1 : Option (Nat × Nat)) (s : AS) (R : AV → AS → Prop) : Prop :=
 JoinQ fun J1 =>
 (∀ b2 : Bool, ∀ s3 : AS, J1 [(.bool b2)] s3 →
 bsplit b2
 (ACalls Try.prog F_ctx_Ctx_there [(.ptr a0)] s3 fun v4 s5 => ∃ b6 : Bool, v4 = .bool b6 ∧ (ACalls Try.prog F_ctx_Ctx_there [(.ptr a1)] s5 fun v7 s8 => ∃ b9 : Bool, v7 = .bool b9 ∧ (R (.bool ((b6 : Bool) == b9)) s8)))
 (AsSome a0 fun l10 o11 => RdL (rdc s3 l10 o11 16) fun g12 => AsSome a1 fun l13 o14 => RdL (rdc s3 l13 o14 16) fun g15 => RdO (aeq T 100 Y_Vector (.agg g12) (.agg g15)) fun b16 => bsplit b16 (AsSome a0 fun l17 o18 => RdA (rd1 s3 l17 (o18 + 16)) fun v19 => AsSome a1 fun l20 o21 => RdA (rd1 s3 l20 (o21 + 16)) fun v22 => ACalls Try.prog F_slices_Equal__s_Dot_Dot [v19, v22] s3 fun v23 s24 => ∃ b25 : Bool, v23 = .bool b25 ∧ (R (.bool b25) s24)) (R (.bool false) s3))) ∧
 (ACalls Try.prog F_ctx_Ctx_there [(.ptr a0)] s fun v26 s27 => ∃ b28 : Bool, v26 = .bool b28 ∧ (bsplit (!b28) (J1 [(.bool true)] s27) (ACalls Try.prog F_ctx_Ctx_there [(.ptr a1)] s27 fun v29 s30 => ∃ b31 : Bool, v29 = .bool b31 ∧ (J1 [(.bool (!b31))] s30))))

def A_ctx_Ctx_Same : QA := (.seq .leaf (.seq (.join [(12, .bool)] [(5, 12)] .leaf (.cond (.seq .leaf .leaf) .leaf)) (.seq (.draw 18) .leaf)))

theorem q_ctx_Ctx_Same (a0 : Option (Nat × Nat)) (a1 : Option (Nat × Nat)) (s : AS) (R : AV → AS → Prop) (h : Q_ctx_Ctx_Same a0 a1 s R) : ACalls Try.prog F_ctx_Ctx_Same [(.ptr a0), (.ptr a1)] s R :=
  ACalls.q (n := 38) (rs := [.tmp 4]) (A := A_ctx_Ctx_Same) hT hmx Try.func31 (by kernel_rfl) rfl rfl rfl (by kernel_rfl) (by kernel_rfl) h

/-- what (*minster/ctx.Ctx).Covers asks -/
def Q_ctx_Ctx_Covers (a0 : Option (Nat × Nat)) (a1 : Option (Nat × Nat)) (s : AS) (R : AV → AS → Prop) : Prop :=
 ACalls Try.prog F_ctx_Ctx_there [(.ptr a1)] s fun v1 s2 => ∃ b3 : Bool, v1 = .bool b3 ∧ (bsplit (!b3)
 (R (.bool true) s2)
 (ACalls Try.prog F_ctx_Ctx_there [(.ptr a0)] s2 fun v4 s5 => ∃ b6 : Bool, v4 = .bool b6 ∧ (bsplit (!b6)
 (AsSome a1 fun l7 o8 => RdL (rdc s5 l7 o8 16) fun g9 => RdG (abuild T Y_Vector []) fun g10 => RdO (aeq T 100 Y_Vector (.agg g9) (.agg g10)) fun b11 => bsplit b11 (AsSome a1 fun l12 o13 => RdA (rd1 s5 l12 (o13 + 16)) fun v14 => RdI .i64 (alenB T Y_s_Dot v14 s5) fun n15 => R (.bool ((n15 : Int) == 0)) s5) (R (.bool false) s5))
 (ACalls Try.prog F_ctx_Ctx_Copy [(.ptr a0)] s5 fun v16 s17 => ∃ p18 : Option (Nat × Nat), v16 = .ptr p18 ∧ (ACalls Try.prog F_ctx_Ctx_Join [(.ptr p18), (.ptr a1)] s17 fun v19 s20 => ∃ n21 : Int, v19 = .int .i64 n21 ∧ (bsplit ((n21 : Int) == 0) (ACalls Try.prog F_ctx_Ctx_Same [(.ptr p18), (.ptr a0)] s20 fun v22 s23 => ∃ b24 : Bool, v22 = .bool b24 ∧ (R (.bool b24) s23)) (R (.bool false) s20)))))))

def A_ctx_Ctx_Covers : QA := (.seq .leaf (.seq (.seq .leaf (.cond (.seq .leaf .leaf) .leaf)) (.seq (.seq .leaf (.cond (.seq .leaf .leaf) .leaf)) (.seq .leaf (.seq .leaf .leaf)))))

theorem q_ctx_Ctx_Covers (a0 : Option (Nat × Nat)) (a1 : Option (Nat × Nat)) (s : AS) (R : AV → AS → Prop) (h : Q_ctx_Ctx_Covers a0 a1 s R) : ACalls Try.prog F_ctx_Ctx_Covers [(.ptr a0), (.ptr a1)] s R :=
  ACalls.q (n := 37) (rs := [.tmp 4]) (A := A_ctx_Ctx_Covers) hT hmx Try.func32 (by kernel_rfl) rfl rfl rfl (by kernel_rfl) (by kernel_rfl) h

/-- what (*minster/minsterref04.Set).Covers asks -/
def Q_ref04iSet_Covers (a0 : Option (Nat × Nat)) (a1 : Option (Nat × Nat)) (s : AS) (R : AV → AS → Prop) : Prop :=
 ACalls Try.prog F_ref04iSet_Copy [(.ptr a0)] s fun v1 s2 => ∃ p3 : Option (Nat × Nat), v1 = .ptr p3 ∧ (ACalls Try.prog F_ref04iSet_Join [(.ptr p3), (.ptr a1)] s2 fun v4 s5 => v4 = .tup [] ∧ (ACalls Try.prog F_ref04iSame [(.ptr p3), (.ptr a0)] s5 fun v6 s7 => ∃ b8 : Bool, v6 = .bool b8 ∧ (R (.bool b8) s7)))

def A_ref04iSet_Covers : QA := (.seq .leaf (.seq .leaf (.seq .leaf (.seq .leaf .leaf))))

theorem q_ref04iSet_Covers (a0 : Option (Nat × Nat)) (a1 : Option (Nat × Nat)) (s : AS) (R : AV → AS → Prop) (h : Q_ref04iSet_Covers a0 a1 s R) : ACalls Try.prog F_ref04iSet_Covers [(.ptr a0), (.ptr a1)] s R :=
  ACalls.q (n := 14) (rs := [.tmp 4]) (A := A_ref04iSet_Covers) hT hmx Try.func33 (by kernel_rfl) rfl rfl rfl (by kernel_rfl) (by kernel_rfl) h

/-- what minster/minsterref04.Same asks -/
def Q_ref04iSame (a0 : Option (Nat × Nat)) (a1 : Option (Nat × Nat)) (s : AS) (R : AV → AS → Prop) : Prop :=
 AsSome a0 fun l1 o2 => RdL (rdc s l1 o2 16) fun g3 => AsSome a1 fun l4 o5 => RdL (rdc s l4 o5 16) fun g6 => RdO (aeq T 100 Y_a16iuint64 (.agg g3) (.agg g6)) fun b7 => bsplit b7 (AsSome a0 fun l8 o9 => RdA (rd1 s l8 (o9 + 16)) fun v10 => AsSome a1 fun l11 o12 => RdA (rd1 s l11 (o12 + 16)) fun v13 => ACalls Try.prog F_ref04iSameDots [v10, v13] s fun v14 s15 => ∃ b16 : Bool, v14 = .bool b16 ∧ (R (.bool b16) s15)) (R (.bool false) s)

def A_ref04iSame : QA := (.seq .leaf (.seq (.draw 18) .leaf))

theorem q_ref04iSame (a0 : Option (Nat × Nat)) (a1 : Option (Nat × Nat)) (s : AS) (R : AV → AS → Prop) (h : Q_ref04iSame a0 a1 s R) : ACalls Try.prog F_ref04iSame [(.ptr a0), (.ptr a1)] s R :=
  ACalls.q (n := 25) (rs := [.tmp 4]) (A := A_ref04iSame) hT hmx Try.func34 (by kernel_rfl) rfl rfl rfl (by kernel_rfl) (by kernel_rfl) h

/-- what (*minster/ctx.Ctx).Copy asks -/
def Q_ctx_Ctx_Copy (a0 : Option (Nat × Nat)) (s : AS) (R : AV → AS → Prop) : Prop :=
 ACalls Try.prog F_ctx_Ctx_there [(.ptr a0)] s fun v1 s2 => ∃ b3 : Bool, v1 = .bool b3 ∧ (bsplit (!b3)
 (R (.ptr none) s2)
 (DrawQ fun S V => AsSome a0 fun l4 o5 => RdL (rdc s2 l4 o5 16) fun g6 => AsSome a0 fun l7 o8 => RdA (rd1 s2 l7 (o8 + 16)) fun v9 => (∀ s10 : AS, Ext s2 s10 → WFs s10 → (True) → ACalls Try.prog F_slices_Clone__s_Dot_Dot [v9] s10 fun v11 s12 => (Ext s10 s12 ∧ S 8 [(.func F_slices_Clone__s_Dot_Dot []), v9] v11 s12 ∧ V 8 [(.func F_slices_Clone__s_Dot_Dot []), v9] v11)) ∧ (∃ v, V 8 [(.func F_slices_Clone__s_Dot_Dot []), v9] v) ∧ ∀ v13 : AV, V 8 [(.func F_slices_Clone__s_Dot_Dot []), v9] v13 → ∀ s14 : AS, Ext s2 s14 → WFs s14 → (S 8 [(.func F_slices_Clone__s_Dot_Dot []), v9] v13 s14 ∧ True) → RdG (abuild T Y_ctx_Ctx [(0, (.agg g6)), (1, v13), (2, (.bool true))]) fun g16 => One1 g16 (NewQ (.cells g16 0 false) s14 fun l17 s18 => R (.ptr (some (l17, 0))) s18)))

def A_ctx_Ctx_Copy : QA := (.seq .leaf (.seq (.seq .leaf (.cond (.seq .leaf .leaf) .leaf)) (.seq (.drawH 9 [[], [], [], [], [], [], [], [], []] [8]) .leaf)))

theorem q_ctx_Ctx_Copy (a0 : Option (Nat × Nat)) (s : AS) (R : AV → AS → Prop) (h : Q_ctx_Ctx_Copy a0 s R) : ACalls Try.prog F_ctx_Ctx_Copy [(.ptr a0)] s R :=
  ACalls.q (n := 17) (rs := [.tmp 2]) (A := A_ctx_Ctx_Copy) hT hmx Try.func35 (by kernel_rfl) rfl rfl rfl (by kernel_rfl) (by kernel_rfl) h

-- NOT PRINTED 36 (*minster/ctx.Ctx).Join: AsP tup
/-- what (*minster/minsterref04.Set).Copy asks -/
def Q_ref04iSet_Copy (a0 : Option (Nat × Nat)) (s : AS) (R : AV → AS → Prop) : Prop :=
 DrawQ fun S V => AsSome a0 fun l1 o2 => RdL (rdc s l1 o2 16) fun g3 => AsSome a0 fun l4 o5 => RdA (rd1 s l4 (o5 + 16)) fun v6 => (∀ s7 : AS, Ext s s7 → WFs s7 → (True) → Bd2 (aappend T Y_s_Dot Y_s_Dot (.slc none 0 0 true) v6 s7) fun v8 s9 => (Ext s7 s9 ∧ S 8 [(.slc none 0 0 true), v6] v8 s9 ∧ V 8 [(.slc none 0 0 true), v6] v8)) ∧ (∃ v, V 8 [(.slc none 0 0 true), v6] v) ∧ ∀ v10 : AV, V 8 [(.slc none 0 0 true), v6] v10 → ∀ s11 : AS, Ext s s11 → WFs s11 → (S 8 [(.slc none 0 0 true), v6] v10 s11 ∧ True) → RdG (abuild T Y_minsterref04iSet [(0, (.agg g3)), (1, v10)]) fun g13 => One1 g13 (NewQ (.cells g13 0 false) s11 fun l14 s15 => R (.ptr (some (l14, 0))) s15)

def A_ref04iSet_Copy : QA := (.seq .leaf (.seq (.drawH 9 [[], [], [], [], [], [], [], [], []] [8]) .leaf))

theorem q_ref04iSet_Copy (a0 : Option (Nat × Nat)) (s : AS) (R : AV → AS → Prop) (h : Q_ref04iSet_Copy a0 s R) : ACalls Try.prog F_ref04iSet_Copy [(.ptr a0)] s R :=
  ACalls.q (n := 14) (rs := [.tmp 2]) (A := A_ref04iSet_Copy) hT hmx Try.func37 (by kernel_rfl) rfl rfl rfl (by kernel_rfl) (by kernel_rfl) h

/-- what (*minster/minsterref04.Set).Join asks -/
def Q_ref04iSet_Join (a0 : Option (Nat × Nat)) (a1 : Option (Nat × Nat)) (s : AS) (R : AV → AS → Prop) : Prop :=
 JoinQ fun J1 =>
 (∀ s2 : AS, J1 [] s2 →
 ACalls Try.prog F_ref04iSet_compact [(.ptr a0)] s2 fun v3 s4 => v3 = .tup [] ∧ (LoopQ fun I5 m6 => I5 m6 [(.int .i64 0)] s4 ∧
 ∀ m7 : Nat, ∀ n8 : Int, ∀ s9 : AS, I5 m7 [(.int .i64 n8)] s9 →
 AsSome a1 fun l10 o11 => RdA (rd1 s9 l10 (o11 + 16)) fun v12 => RdI .i64 (alenB T Y_s_Dot v12 s9) fun n13 => bsplit (decide ((n8 : Int) < n13))
 (AsSome a1 fun l14 o15 => RdA (rd1 s9 l14 (o15 + 16)) fun v16 => IxQ (aindexAddr T Y_s_Dot v16 (.int .i64 n8)) fun l17 o18 => RdL (rdc s9 l17 o18 2) fun g19 => ACalls Try.prog F_ref04iSet_Add [(.ptr a0), (.agg g19)] s9 fun v20 s21 => ∃ b22 : Bool, v20 = .bool b22 ∧ (∃ m', m' < m7 ∧ I5 m' [(.int .i64 (IntKind.wrap .i64 (n8 + 1)))] s21))
 (R (.tup []) s9))) ∧
 (LoopQ fun I23 m24 => I23 m24 [(.int .i64 0)] s ∧
 ∀ m25 : Nat, ∀ n26 : Int, ∀ s27 : AS, I23 m25 [(.int .i64 n26)] s27 →
 bsplit (decide ((n26 : Int) < 16))
 (AsSome a1 fun l28 o29 => IxQ (aindexAddr T Y_a16iuint64 (.ptr (some (l28, o29))) (.int .i64 n26)) fun l30 o31 => RdI .u64 (rd1 s27 l30 o31) fun n32 => AsSome a0 fun l33 o34 => IxQ (aindexAddr T Y_a16iuint64 (.ptr (some (l33, o34))) (.int .i64 n26)) fun l35 o36 => RdI .u64 (rd1 s27 l35 o36) fun n37 => bsplit (decide ((n32 : Int) > n37))
 (AsSome a1 fun l38 o39 => IxQ (aindexAddr T Y_a16iuint64 (.ptr (some (l38, o39))) (.int .i64 n26)) fun l40 o41 => RdI .u64 (rd1 s27 l40 o41) fun n42 => AsSome a0 fun l43 o44 => IxQ (aindexAddr T Y_a16iuint64 (.ptr (some (l43, o44))) (.int .i64 n26)) fun l45 o46 => StQ (awr s27 l45 o46 [(.int .u64 n42)]) fun s47 => ∃ m', m' < m25 ∧ I23 m' [(.int .i64 (IntKind.wrap .i64 (n26 + 1)))] s47)
 (∃ m', m' < m25 ∧ I23 m' [(.int .i64 (IntKind.wrap .i64 (n26 + 1)))] s27))
 (J1 [] s27))

def A_ref04iSet_Join : QA := (.join [] [(4, 4), (6, 33)] (.seq .leaf (.wrap (.loop [(4, .int .i64)] [(4, 4), (6, 33)] (.seq (.seq .leaf (.cond .leaf .leaf)) (.seq (.wrap (.seq (.draw 12) (.cond (.draw 10) .leaf))) .leaf))))) (.seq .leaf (.seq .leaf (.wrap (.loop [(5, .int .i64)] [(5, 5), (36, 53)] (.seq (.seq .leaf (.cond .leaf .leaf)) (.seq (.wrap .leaf) .leaf)))))))

theorem q_ref04iSet_Join (a0 : Option (Nat × Nat)) (a1 : Option (Nat × Nat)) (s : AS) (R : AV → AS → Prop) (h : Q_ref04iSet_Join a0 a1 s R) : ACalls Try.prog F_ref04iSet_Join [(.ptr a0), (.ptr a1)] s R :=
  ACalls.q (n := 54) (rs := []) (A := A_ref04iSet_Join) hT hmx Try.func38 (by kernel_rfl) rfl rfl rfl (by kernel_rfl) (by kernel_rfl) h

/-- what minster/stable.New asks -/
def Q_stable_New (a0 : Int) (a1 : Int) (s : AS) (R : AV → AS → Prop) : Prop :=
 JoinQ fun J1 =>
 (∀ b2 : Bool, ∀ s3 : AS, J1 [(.bool b2)] s3 →
 bsplit b2
 (R (.tup [(.ptr none), (.int .i64 2)]) s3)
 (NewQ (.map [] 0 false) s3 fun l4 s5 => RdG (abuild T Y_stable_Matrix [(0, (.int .i64 a0)), (1, (.int .i64 a1)), (2, (.map (some l4)))]) fun g6 => One1 g6 (NewQ (.cells g6 0 false) s5 fun l7 s8 => R (.tup [(.ptr (some (l7, 0))), (.int .i64 0)]) s8))) ∧
 (bsplit (decide ((a0 : Int) < 1)) (J1 [(.bool true)] s) (bsplit (decide ((a0 : Int) > 16)) (J1 [(.bool true)] s) (bsplit (decide ((a1 : Int) < 1)) (J1 [(.bool true)] s) (J1 [(.bool (decide ((a1 : Int) > a0)))] s))))

def A_stable_New : QA := (.seq .leaf (.seq (.join [(20, .bool)] [(6, 20)] .leaf (.cond (.seq .leaf .leaf) .leaf)) (.seq .leaf .leaf)))

theorem q_stable_New (a0 : Int) (a1 : Int) (s : AS) (R : AV → AS → Prop) (h : Q_stable_New a0 a1 s R) : ACalls Try.prog F_stable_New [(.int .i64 a0), (.int .i64 a1)] s R :=
  ACalls.q (n := 26) (rs := [.tmp 4, .tmp 5]) (A := A_stable_New) hT hmx Try.func40 (by kernel_rfl) rfl rfl rfl (by kernel_rfl) (by kernel_rfl) h

/-- what (*minster/stable.Matrix).Stable asks -/
def Q_stable_Matrix_Stable (a0 : Option (Nat × Nat)) (a1 : List AV) (s : AS) (R : AV → AS → Prop) : Prop :=
 One1 a1 (NewQ (.cells a1 0 false) s fun l1 s2 => ACalls Try.prog F_stable_Matrix_there [(.ptr a0)] s2 fun v3 s4 => ∃ b5 : Bool, v3 = .bool b5 ∧ (bsplit (!b5) (R (.bool false) s4) (RdL (rdc s4 l1 0 2) fun g6 => ACalls Try.prog F_ctx_May [(.agg g6)] s4 fun v7 s8 => ∃ b9 : Bool, v7 = .bool b9 ∧ (bsplit (!b9)
 (R (.bool false) s8)
 (LoopQ fun I10 m11 => I10 m11 [(.int .i64 1)] s8 ∧
 ∀ m12 : Nat, ∀ n13 : Int, ∀ s14 : AS, I10 m12 [(.int .i64 n13)] s14 →
 AsSome a0 fun l15 o16 => RdI .i64 (rd1 s14 l15 o16) fun n17 => bsplit (decide ((n13 : Int) ≤ n17))
 (AsSome a0 fun l18 o19 => RdI .i64 (rd1 s14 l18 (o19 + 1)) fun n20 => bsplit ((n13 : Int) != n20) (RdL (rdc s14 l1 0 2) fun g21 => ACalls Try.prog F_stable_Matrix_Gone [(.ptr a0), (.int .i64 n13), (.agg g21)] s14 fun v22 s23 => ∃ b24 : Bool, v22 = .bool b24 ∧ (bsplit (!b24)
 (R (.bool false) s23)
 (∃ m', m' < m12 ∧ I10 m' [(.int .i64 (IntKind.wrap .i64 (n13 + 1)))] s23))) (∃ m', m' < m12 ∧ I10 m' [(.int .i64 (IntKind.wrap .i64 (n13 + 1)))] s14))
 (R (.bool true) s14))))))

def A_stable_Matrix_Stable : QA := (.seq .leaf (.seq (.seq .leaf (.cond (.seq .leaf .leaf) .leaf)) (.seq (.seq .leaf (.wrap (.loop [(5, .int .i64)] [(4, 5), (14, 34)] (.seq (.seq .leaf (.cond .leaf .leaf)) (.seq (.wrap (.seq .leaf (.cond (.seq .leaf .leaf) .leaf))) .leaf))))) (.seq .leaf .leaf))))

theorem q_stable_Matrix_Stable (a0 : Option (Nat × Nat)) (a1 : List AV) (s : AS) (R : AV → AS → Prop) (h : Q_stable_Matrix_Stable a0 a1 s R) : ACalls Try.prog F_stable_Matrix_Stable [(.ptr a0), (.agg a1)] s R :=
  ACalls.q (n := 35) (rs := [.tmp 4]) (A := A_stable_Matrix_Stable) hT hmx Try.func41 (by kernel_rfl) rfl rfl rfl (by kernel_rfl) (by kernel_rfl) h

-- NOT PRINTED 42 (*minster/stable.Matrix).Know: op next
/-- what minster/minsterlaw14.of asks -/
def Q_law14iof (a0 : AV) (s : AS) (R : AV → AS → Prop) : Prop :=
 ACalls Try.prog F_ctx_New [] s fun v1 s2 => ∃ p3 : Option (Nat × Nat), v1 = .ptr p3 ∧ (LoopQ fun I4 m5 => I4 m5 [(.int .i64 0)] s2 ∧
 ∀ m6 : Nat, ∀ n7 : Int, ∀ s8 : AS, I4 m6 [(.int .i64 n7)] s8 →
 RdI .i64 (alenB T Y_s_Dot a0 s8) fun n9 => bsplit (decide ((n7 : Int) < n9))
 (IxQ (aindexAddr T Y_s_Dot a0 (.int .i64 n7)) fun l10 o11 => RdL (rdc s8 l10 o11 2) fun g12 => ACalls Try.prog F_ctx_Ctx_Add [(.ptr p3), (.agg g12)] s8 fun v13 s14 => ∃ b15 : Bool, ∃ n16 : Int, v13 = .tup [(.bool b15), (.int .i64 n16)] ∧ (∃ m', m' < m6 ∧ I4 m' [(.int .i64 (IntKind.wrap .i64 (n7 + 1)))] s14))
 (R (.ptr p3) s8))

def A_law14iof : QA := (.seq .leaf (.seq .leaf (.seq (.seq .leaf (.wrap (.loop [(4, .int .i64)] [(4, 4), (6, 17)] (.seq (.seq .leaf (.cond .leaf .leaf)) (.seq (.wrap .leaf) .leaf))))) (.seq .leaf .leaf))))

theorem q_law14iof (a0 : AV) (s : AS) (R : AV → AS → Prop) (h : Q_law14iof a0 s R) : ACalls Try.prog F_law14iof [a0] s R :=
  ACalls.q (n := 19) (rs := [.tmp 2]) (A := A_law14iof) hT hmx Try.func43 (by kernel_rfl) rfl rfl rfl (by kernel_rfl) (by kernel_rfl) h

/-- what minster/minsterlaw14.few asks -/
def Q_law14ifew (a0 : AV) (s : AS) (R : AV → AS → Prop) : Prop :=
 JoinQ fun J1 =>
 (∀ s2 : AS, J1 [] s2 →
 RdI .i64 (alenB T Y_s_minsterlaw14iAct a0 s2) fun n3 => R (.bool (decide ((n3 : Int) ≤ 40))) s2) ∧
 (LoopQ fun I4 m5 => I4 m5 [(.int .i64 0)] s ∧
 ∀ m6 : Nat, ∀ n7 : Int, ∀ s8 : AS, I4 m6 [(.int .i64 n7)] s8 →
 RdI .i64 (alenB T Y_s_minsterlaw14iAct a0 s8) fun n9 => bsplit (decide ((n7 : Int) < n9))
 (IxQ (aindexAddr T Y_s_minsterlaw14iAct a0 (.int .i64 n7)) fun l10 o11 => RdA (rd1 s8 l10 (o11 + 2)) fun v12 => RdI .i64 (alenB T Y_s_Dot v12 s8) fun n13 => bsplit (decide ((n13 : Int) > 40)) (R (.bool false) s8) (IxQ (aindexAddr T Y_s_minsterlaw14iAct a0 (.int .i64 n7)) fun l14 o15 => RdA (rd1 s8 l14 (o15 + 3)) fun v16 => RdI .i64 (alenB T Y_s_Dot v16 s8) fun n17 => bsplit (decide ((n17 : Int) > 40))
 (R (.bool false) s8)
 (∃ m', m' < m6 ∧ I4 m' [(.int .i64 (IntKind.wrap .i64 (n7 + 1)))] s8)))
 (J1 [] s8))

def A_law14ifew : QA := (.seq .leaf (.join [] [(2, 25)] (.seq .leaf (.wrap (.loop [(3, .int .i64)] [(2, 25)] (.seq (.seq .leaf (.cond .leaf .leaf)) (.seq (.wrap (.seq .leaf (.cond (.seq .leaf .leaf) .leaf))) .leaf))))) (.seq .leaf .leaf)))

theorem q_law14ifew (a0 : AV) (s : AS) (R : AV → AS → Prop) (h : Q_law14ifew a0 s R) : ACalls Try.prog F_law14ifew [a0] s R :=
  ACalls.q (n := 29) (rs := [.tmp 2]) (A := A_law14ifew) hT hmx Try.func44 (by kernel_rfl) rfl rfl rfl (by kernel_rfl) (by kernel_rfl) h

/-- what minster/minsterlaw14.may asks -/
def Q_law14imay (a0 : List AV) (s : AS) (R : AV → AS → Prop) : Prop :=
 One1 a0 (NewQ (.cells a0 0 false) s fun l1 s2 => LoopQ fun I3 m4 => I3 m4 [(.int .i64 0)] s2 ∧
 ∀ m5 : Nat, ∀ n6 : Int, ∀ s7 : AS, I3 m5 [(.int .i64 n6)] s7 →
 RdA (rd1 s7 l1 3) fun v8 => RdI .i64 (alenB T Y_s_Dot v8 s7) fun n9 => bsplit (decide ((n6 : Int) < n9))
 (JoinQ fun J10 =>
 (∀ b11 : Bool, ∀ s12 : AS, J10 [(.bool b11)] s12 →
 bsplit (!b11) (R (.bool false) s12) (bsplit (decide ((n6 : Int) > 0)) (RdA (rd1 s12 l1 3) fun v13 => IxQ (aindexAddr T Y_s_Dot v13 (.int .i64 (IntKind.wrap .i64 (n6 - 1)))) fun l14 o15 => RdL (rdc s12 l14 o15 2) fun g16 => RdA (rd1 s12 l1 3) fun v17 => IxQ (aindexAddr T Y_s_Dot v17 (.int .i64 n6)) fun l18 o19 => RdL (rdc s12 l18 o19 2) fun g20 => ACalls Try.prog F_ref04iLess [(.agg g16), (.agg g20)] s12 fun v21 s22 => ∃ b23 : Bool, v21 = .bool b23 ∧ (bsplit (!b23)
 (R (.bool false) s22)
 (∃ m', m' < m5 ∧ I3 m' [(.int .i64 (IntKind.wrap .i64 (n6 + 1)))] s22))) (∃ m', m' < m5 ∧ I3 m' [(.int .i64 (IntKind.wrap .i64 (n6 + 1)))] s12))) ∧
 (LoopQ fun I24 m25 => I24 m25 [(.bool false), (.int .i64 0)] s7 ∧
 ∀ m26 : Nat, ∀ b27 : Bool, ∀ n28 : Int, ∀ s29 : AS, I24 m26 [(.bool b27), (.int .i64 n28)] s29 →
 RdA (rd1 s29 l1 2) fun v30 => RdI .i64 (alenB T Y_s_Dot v30 s29) fun n31 => bsplit (decide ((n28 : Int) < n31))
 (bsplit b27 (∃ m', m' < m26 ∧ I24 m' [(.bool true), (.int .i64 (IntKind.wrap .i64 (n28 + 1)))] s29) (RdA (rd1 s29 l1 2) fun v32 => IxQ (aindexAddr T Y_s_Dot v32 (.int .i64 n28)) fun l33 o34 => RdL (rdc s29 l33 o34 2) fun g35 => RdA (rd1 s29 l1 3) fun v36 => IxQ (aindexAddr T Y_s_Dot v36 (.int .i64 n6)) fun l37 o38 => RdL (rdc s29 l37 o38 2) fun g39 => RdO (aeq T 100 Y_Dot (.agg g35) (.agg g39)) fun b40 => bsplit b40 (RdA (rd1 s29 l1 3) fun v41 => IxQ (aindexAddr T Y_s_Dot v41 (.int .i64 n6)) fun l42 o43 => RdL (rdc s29 l42 o43 2) fun g44 => ACalls Try.prog F_ref04iMay [(.agg g44)] s29 fun v45 s46 => ∃ b47 : Bool, v45 = .bool b47 ∧ (∃ m', m' < m26 ∧ I24 m' [(.bool b47), (.int .i64 (IntKind.wrap .i64 (n28 + 1)))] s46)) (∃ m', m' < m26 ∧ I24 m' [(.bool false), (.int .i64 (IntKind.wrap .i64 (n28 + 1)))] s29)))
 (J10 [(.bool b27)] s29)))
 (R (.bool true) s7))

def A_law14imay : QA := (.seq .leaf (.seq (.seq .leaf (.wrap (.loop [(3, .int .i64)] [(2, 62)] (.seq (.seq .leaf (.cond .leaf .leaf)) (.seq (.wrap (.seq .leaf (.join [(4, .bool)] [(4, 5), (13, 41)] (.seq .leaf (.wrap (.loop [(4, .bool), (5, .int .i64)] [(4, 5), (13, 41)] (.seq (.seq .leaf (.cond .leaf .leaf)) (.seq (.wrap (.draw 17)) .leaf))))) (.seq (.draw 17) (.cond (.seq .leaf .leaf) .leaf))))) .leaf))))) (.seq .leaf .leaf)))

theorem q_law14imay (a0 : List AV) (s : AS) (R : AV → AS → Prop) (h : Q_law14imay a0 s R) : ACalls Try.prog F_law14imay [(.agg a0)] s R :=
  ACalls.q (n := 63) (rs := [.tmp 2]) (A := A_law14imay) hT hmx Try.func45 (by kernel_rfl) rfl rfl rfl (by kernel_rfl) (by kernel_rfl) h

/-- what (*minster/stable.Matrix).Have asks -/
def Q_stable_Matrix_Have (a0 : Option (Nat × Nat)) (a1 : Int) (a2 : List AV) (s : AS) (R : AV → AS → Prop) : Prop :=
 One1 a2 (NewQ (.cells a2 0 false) s fun l1 s2 => ACalls Try.prog F_stable_Matrix_there [(.ptr a0)] s2 fun v3 s4 => ∃ b5 : Bool, v3 = .bool b5 ∧ (bsplit (!b5)
 (R (.int .i64 1) s4)
 (ACalls Try.prog F_stable_Matrix_other [(.ptr a0), (.int .i64 a1)] s4 fun v6 s7 => ∃ b8 : Bool, v6 = .bool b8 ∧ (bsplit (!b8)
 (R (.int .i64 2) s7)
 (RdL (rdc s7 l1 0 16) fun g9 => LoopQ fun I10 m11 => I10 m11 [(.int .i64 0)] s7 ∧
 ∀ m12 : Nat, ∀ n13 : Int, ∀ s14 : AS, I10 m12 [(.int .i64 n13)] s14 →
 bsplit (decide ((n13 : Int) < 16))
 (RdI .u64 (aindex T Y_Vector (.agg g9) (.int .i64 n13)) fun n15 => AsSome a0 fun l16 o17 => IxQ (aindexAddr T Y_a16iVector (.ptr (some (l16, (o17 + 3)))) (.int .i64 (IntKind.wrap .i64 (a1 - 1)))) fun l18 o19 => IxQ (aindexAddr T Y_Vector (.ptr (some (l18, o19))) (.int .i64 n13)) fun l20 o21 => RdI .u64 (rd1 s14 l20 o21) fun n22 => RdI .u64 (amax true [(.int .u64 n22), (.int .u64 n15)]) fun n23 => AsSome a0 fun l24 o25 => IxQ (aindexAddr T Y_a16iVector (.ptr (some (l24, (o25 + 3)))) (.int .i64 (IntKind.wrap .i64 (a1 - 1)))) fun l26 o27 => IxQ (aindexAddr T Y_Vector (.ptr (some (l26, o27))) (.int .i64 n13)) fun l28 o29 => StQ (awr s14 l28 o29 [(.int .u64 n23)]) fun s30 => ∃ m', m' < m12 ∧ I10 m' [(.int .i64 (IntKind.wrap .i64 (n13 + 1)))] s30)
 (R (.int .i64 0) s14))))))

def A_stable_Matrix_Have : QA := (.seq .leaf (.seq (.wrap (.seq .leaf (.cond (.seq .leaf .leaf) (.seq .leaf (.cond (.seq .leaf .leaf) .leaf))))) (.seq (.seq .leaf (.wrap (.loop [(19, .int .i64)] [(7, 8), (19, 42)] (.seq .leaf (.seq (.cond .leaf .leaf) (.seq (.wrap (.seq .leaf (.draw 18))) .leaf)))))) (.seq .leaf .leaf))))

theorem q_stable_Matrix_Have (a0 : Option (Nat × Nat)) (a1 : Int) (a2 : List AV) (s : AS) (R : AV → AS → Prop) (h : Q_stable_Matrix_Have a0 a1 a2 s R) : ACalls Try.prog F_stable_Matrix_Have [(.ptr a0), (.int .i64 a1), (.agg a2)] s R :=
  ACalls.q (n := 43) (rs := [.tmp 6]) (A := A_stable_Matrix_Have) hT hmx Try.func46 (by kernel_rfl) rfl rfl rfl (by kernel_rfl) (by kernel_rfl) h

-- NOT PRINTED 47 (*minster/stable.Matrix).Copy: op next
/-- what minster/minsterlaw14.gone asks -/
def Q_law14igone (a0 : AV) (a1 : Int) (a2 : List AV) (s : AS) (R : AV → AS → Prop) : Prop :=
 One1 a2 (NewQ (.cells a2 0 false) s fun l1 s2 => LoopQ fun I3 m4 => I3 m4 [(.int .i64 0)] s2 ∧
 ∀ m5 : Nat, ∀ n6 : Int, ∀ s7 : AS, I3 m5 [(.int .i64 n6)] s7 →
 RdI .i64 (alenB T Y_s_minsterlaw14iAct a0 s7) fun n8 => bsplit (decide ((n6 : Int) < n8))
 (IxQ (aindexAddr T Y_s_minsterlaw14iAct a0 (.int .i64 n6)) fun l9 o10 => RdI .i64 (rd1 s7 l9 o10) fun n11 => bsplit ((n11 : Int) != 1) (∃ m', m' < m5 ∧ I3 m' [(.int .i64 (IntKind.wrap .i64 (n6 + 1)))] s7) (IxQ (aindexAddr T Y_s_minsterlaw14iAct a0 (.int .i64 n6)) fun l12 o13 => RdI .i64 (rd1 s7 l12 (o13 + 1)) fun n14 => bsplit ((n14 : Int) != a1) (∃ m', m' < m5 ∧ I3 m' [(.int .i64 (IntKind.wrap .i64 (n6 + 1)))] s7) (IxQ (aindexAddr T Y_s_minsterlaw14iAct a0 (.int .i64 n6)) fun l15 o16 => RdL (rdc s7 l15 o16 20) fun g17 => ACalls Try.prog F_law14imay [(.agg g17)] s7 fun v18 s19 => ∃ b20 : Bool, v18 = .bool b20 ∧ (bsplit (!b20)
 (∃ m', m' < m5 ∧ I3 m' [(.int .i64 (IntKind.wrap .i64 (n6 + 1)))] s19)
 (JoinQ fun J21 =>
 (∀ b22 : Bool, ∀ s23 : AS, J21 [(.bool b22)] s23 →
 JoinQ fun J24 =>
 (∀ b25 : Bool, ∀ s26 : AS, J24 [(.bool b25)] s26 →
 bsplit b22 (bsplit (!b25)
 (R (.bool true) s26)
 (∃ m', m' < m5 ∧ I3 m' [(.int .i64 (IntKind.wrap .i64 (n6 + 1)))] s26)) (∃ m', m' < m5 ∧ I3 m' [(.int .i64 (IntKind.wrap .i64 (n6 + 1)))] s26)) ∧
 (LoopQ fun I27 m28 => I27 m28 [(.bool false), (.int .i64 0)] s23 ∧
 ∀ m29 : Nat, ∀ b30 : Bool, ∀ n31 : Int, ∀ s32 : AS, I27 m29 [(.bool b30), (.int .i64 n31)] s32 →
 IxQ (aindexAddr T Y_s_minsterlaw14iAct a0 (.int .i64 n6)) fun l33 o34 => RdA (rd1 s32 l33 (o34 + 3)) fun v35 => RdI .i64 (alenB T Y_s_Dot v35 s32) fun n36 => bsplit (decide ((n31 : Int) < n36))
 (bsplit b30 (∃ m', m' < m29 ∧ I27 m' [(.bool true), (.int .i64 (IntKind.wrap .i64 (n31 + 1)))] s32) (IxQ (aindexAddr T Y_s_minsterlaw14iAct a0 (.int .i64 n6)) fun l37 o38 => RdA (rd1 s32 l37 (o38 + 3)) fun v39 => IxQ (aindexAddr T Y_s_Dot v39 (.int .i64 n31)) fun l40 o41 => RdL (rdc s32 l40 o41 2) fun g42 => RdL (rdc s32 l1 0 2) fun g43 => RdO (aeq T 100 Y_Dot (.agg g42) (.agg g43)) fun b44 => ∃ m', m' < m29 ∧ I27 m' [(.bool b44), (.int .i64 (IntKind.wrap .i64 (n31 + 1)))] s32))
 (J24 [(.bool b30)] s32))) ∧
 (LoopQ fun I45 m46 => I45 m46 [(.bool false), (.int .i64 0)] s19 ∧
 ∀ m47 : Nat, ∀ b48 : Bool, ∀ n49 : Int, ∀ s50 : AS, I45 m47 [(.bool b48), (.int .i64 n49)] s50 →
 IxQ (aindexAddr T Y_s_minsterlaw14iAct a0 (.int .i64 n6)) fun l51 o52 => RdA (rd1 s50 l51 (o52 + 2)) fun v53 => RdI .i64 (alenB T Y_s_Dot v53 s50) fun n54 => bsplit (decide ((n49 : Int) < n54))
 (bsplit b48 (∃ m', m' < m47 ∧ I45 m' [(.bool true), (.int .i64 (IntKind.wrap .i64 (n49 + 1)))] s50) (IxQ (aindexAddr T Y_s_minsterlaw14iAct a0 (.int .i64 n6)) fun l55 o56 => RdA (rd1 s50 l55 (o56 + 2)) fun v57 => IxQ (aindexAddr T Y_s_Dot v57 (.int .i64 n49)) fun l58 o59 => RdL (rdc s50 l58 o59 2) fun g60 => RdL (rdc s50 l1 0 2) fun g61 => RdO (aeq T 100 Y_Dot (.agg g60) (.agg g61)) fun b62 => bsplit b62 (RdL (rdc s50 l1 0 2) fun g63 => ACalls Try.prog F_ref04iMay [(.agg g63)] s50 fun v64 s65 => ∃ b66 : Bool, v64 = .bool b66 ∧ (∃ m', m' < m47 ∧ I45 m' [(.bool b66), (.int .i64 (IntKind.wrap .i64 (n49 + 1)))] s65)) (∃ m', m' < m47 ∧ I45 m' [(.bool false), (.int .i64 (IntKind.wrap .i64 (n49 + 1)))] s50)))
 (J21 [(.bool b48)] s50)))))))
 (R (.bool false) s7))

def A_law14igone : QA := (.seq .leaf (.seq (.seq .leaf (.wrap (.loop [(7, .int .i64)] [(6, 95)] (.seq (.seq .leaf (.cond .leaf .leaf)) (.seq (.wrap (.seq (.seq .leaf (.cond .leaf .leaf)) (.seq .leaf (.join [(8, .bool)] [(8, 8), (10, 10), (41, 67)] (.seq .leaf (.wrap (.loop [(8, .bool), (10, .int .i64)] [(8, 8), (10, 10), (41, 67)] (.seq (.seq .leaf (.cond .leaf .leaf)) (.seq (.wrap (.draw 11)) .leaf))))) (.join [(9, .bool)] [(9, 9), (11, 11), (68, 90)] (.seq .leaf (.wrap (.loop [(9, .bool), (11, .int .i64)] [(9, 9), (11, 11), (68, 90)] (.seq (.seq .leaf (.cond .leaf .leaf)) (.seq (.wrap (.draw 11)) .leaf))))) (.seq .leaf (.cond (.seq .leaf .leaf) .leaf))))))) .leaf))))) (.seq .leaf .leaf)))

theorem q_law14igone (a0 : AV) (a1 : Int) (a2 : List AV) (s : AS) (R : AV → AS → Prop) (h : Q_law14igone a0 a1 a2 s R) : ACalls Try.prog F_law14igone [a0, (.int .i64 a1), (.agg a2)] s R :=
  ACalls.q (n := 96) (rs := [.tmp 6]) (A := A_law14igone) hT hmx Try.func48 (by kernel_rfl) rfl rfl rfl (by kernel_rfl) (by kernel_rfl) h

/-- what (*minster/stable.Matrix).Gone asks -/
def Q_stable_Matrix_Gone (a0 : Option (Nat × Nat)) (a1 : Int) (a2 : List AV) (s : AS) (R : AV → AS → Prop) : Prop :=
 One1 a2 (NewQ (.cells a2 0 false) s fun l1 s2 => ACalls Try.prog F_stable_Matrix_there [(.ptr a0)] s2 fun v3 s4 => ∃ b5 : Bool, v3 = .bool b5 ∧ (bsplit (!b5) (R (.bool false) s4) (AsSome a0 fun l6 o7 => RdM (rd1 s4 l6 (o7 + 2)) fun r8 => RdP (alookup T Y_m_int_p_stable_view (.map r8) (.int .i64 a1) false s4) fun p9 => RdO (aeq T 100 Y_p_stable_view (.ptr p9) (.ptr none)) fun b10 => bsplit b10
 (R (.bool false) s4)
 (DrawQ fun S V => AsSome a0 fun l11 o12 => RdM (rd1 s4 l11 (o12 + 2)) fun r13 => RdP (alookup T Y_m_int_p_stable_view (.map r13) (.int .i64 a1) false s4) fun p14 => AsSome p14 fun l15 o16 => RdP (rd1 s4 l15 o16) fun p17 => RdL (rdc s4 l1 0 2) fun g18 => (∀ s19 : AS, Ext s4 s19 → WFs s19 → (True) → ACalls Try.prog F_ctx_Ctx_Has [(.ptr p17), (.agg g18)] s19 fun v20 s21 => ∃ b22 : Bool, v20 = .bool b22 ∧ ((Ext s19 s21 ∧ S 10 [(.func F_ctx_Ctx_Has []), (.ptr p17), (.agg g18)] (.bool b22) s21 ∧ V 10 [(.func F_ctx_Ctx_Has []), (.ptr p17), (.agg g18)] (.bool b22)))) ∧ (∃ v, V 10 [(.func F_ctx_Ctx_Has []), (.ptr p17), (.agg g18)] v) ∧ ∀ v23 : AV, V 10 [(.func F_ctx_Ctx_Has []), (.ptr p17), (.agg g18)] v23 → ∃ b24 : Bool, v23 = .bool b24 ∧ (bsplit b24 (AsSome a0 fun l25 o26 => RdM (rd1 s4 l25 (o26 + 2)) fun r27 => RdP (alookup T Y_m_int_p_stable_view (.map r27) (.int .i64 a1) false s4) fun p28 => AsSome p28 fun l29 o30 => RdM (rd1 s4 l29 (o30 + 1)) fun r31 => RdL (rdc s4 l1 0 2) fun g32 => ∀ s33 : AS, Ext s4 s33 → WFs s33 → (S 10 [(.func F_ctx_Ctx_Has []), (.ptr p17), (.agg g18)] (.bool b24) s33 ∧ True) → RdG (alookup T Y_m_Dot_struct__is_bool__ (.map r31) (.agg g32) false s33) fun g35 => RdB (g35[0]?) fun b36 => R (.bool (!b36)) s33) (∀ s37 : AS, Ext s4 s37 → WFs s37 → (S 10 [(.func F_ctx_Ctx_Has []), (.ptr p17), (.agg g18)] (.bool b24) s37 ∧ True) → R (.bool false) s37))))))

def A_stable_Matrix_Gone : QA := (.seq .leaf (.seq (.seq .leaf (.cond (.seq .leaf .leaf) .leaf)) (.seq (.drawH 22 [[], [], [], [], [], [], [], [], [], [], [], [], [], [], [], [], [], [], [], [], [], []] [10]) .leaf)))

theorem q_stable_Matrix_Gone (a0 : Option (Nat × Nat)) (a1 : Int) (a2 : List AV) (s : AS) (R : AV → AS → Prop) (h : Q_stable_Matrix_Gone a0 a1 a2 s R) : ACalls Try.prog F_stable_Matrix_Gone [(.ptr a0), (.int .i64 a1), (.agg a2)] s R :=
  ACalls.q (n := 45) (rs := [.tmp 6]) (A := A_stable_Matrix_Gone) hT hmx Try.func49 (by kernel_rfl) rfl rfl rfl (by kernel_rfl) (by kernel_rfl) h

/-- what (*minster/stable.Matrix).All asks -/
def Q_stable_Matrix_All (a0 : Option (Nat × Nat)) (s : AS) (R : AV → AS → Prop) : Prop :=
 NewQ (.cells [.int .u64 0, .int .u64 0, .int .u64 0, .int .u64 0, .int .u64 0, .int .u64 0, .int .u64 0, .int .u64 0, .int .u64 0, .int .u64 0, .int .u64 0, .int .u64 0, .int .u64 0, .int .u64 0, .int .u64 0, .int .u64 0] 0 false) s fun l1 s2 => JoinQ fun J3 =>
 (∀ b4 : Bool, ∀ s5 : AS, J3 [(.bool b4)] s5 →
 bsplit b4
 (RdG (abuild T Y_Vector []) fun g6 => OkC (some 16) g6 (StQ (awr s5 l1 0 g6) fun s7 => RdL (rdc s7 l1 0 16) fun g8 => R (.agg g8) s7))
 (NewQ (.cells [.int .u64 0, .int .u64 0, .int .u64 0, .int .u64 0, .int .u64 0, .int .u64 0, .int .u64 0, .int .u64 0, .int .u64 0, .int .u64 0, .int .u64 0, .int .u64 0, .int .u64 0, .int .u64 0, .int .u64 0, .int .u64 0] 0 false) s5 fun l9 s10 => LoopQ fun I11 m12 => I11 m12 [(.int .i64 0)] s10 ∧
 ∀ m13 : Nat, ∀ n14 : Int, ∀ s15 : AS, I11 m13 [(.int .i64 n14)] s15 →
 bsplit (decide ((n14 : Int) < 16))
 (JoinQ fun J16 =>
 (∀ v17 : AV, ∀ s18 : AS, J16 [v17] s18 →
 ACalls Try.prog F_slices_Min__s_uint64iuint64 [v17] s18 fun v19 s20 => ∃ n21 : Int, v19 = .int .u64 n21 ∧ (IxQ (aindexAddr T Y_Vector (.ptr (some (l9, 0))) (.int .i64 n14)) fun l22 o23 => StQ (awr s20 l22 o23 [(.int .u64 n21)]) fun s24 => ∃ m', m' < m13 ∧ I11 m' [(.int .i64 (IntKind.wrap .i64 (n14 + 1)))] s24)) ∧
 (LoopQ fun I25 m26 => I25 m26 [(.slc none 0 0 true), (.int .i64 1)] s15 ∧
 ∀ m27 : Nat, ∀ v28 : AV, ∀ n29 : Int, ∀ s30 : AS, I25 m27 [v28, (.int .i64 n29)] s30 →
 AsSome a0 fun l31 o32 => RdI .i64 (rd1 s30 l31 o32) fun n33 => bsplit (decide ((n29 : Int) ≤ n33))
 (AsSome a0 fun l34 o35 => RdI .i64 (rd1 s30 l34 (o35 + 1)) fun n36 => bsplit ((n29 : Int) != n36)
 (AsSome a0 fun l37 o38 => IxQ (aindexAddr T Y_a16iVector (.ptr (some (l37, (o38 + 3)))) (.int .i64 (IntKind.wrap .i64 (n29 - 1)))) fun l39 o40 => IxQ (aindexAddr T Y_Vector (.ptr (some (l39, o40))) (.int .i64 n14)) fun l41 o42 => RdI .u64 (rd1 s30 l41 o42) fun n43 => RdL (absl T Y_s_uint64 1 [(0, (.int .u64 n43))]) fun g44 => NewQ (.cells g44 0 false) s30 fun l45 s46 => Bd2 (aappend T Y_s_uint64 Y_s_uint64 v28 (.slc (some (l45, 0)) 1 1 true) s46) fun v47 s48 => ∃ m', m' < m27 ∧ I25 m' [v47, (.int .i64 (IntKind.wrap .i64 (n29 + 1)))] s48)
 (∃ m', m' < m27 ∧ I25 m' [v28, (.int .i64 (IntKind.wrap .i64 (n29 + 1)))] s30))
 (J16 [v28] s30)))
 (RdL (rdc s15 l9 0 16) fun g49 => OkC (some 16) g49 (StQ (awr s15 l1 0 g49) fun s50 => RdL (rdc s50 l1 0 16) fun g51 => R (.agg g51) s50)))) ∧
 (ACalls Try.prog F_stable_Matrix_there [(.ptr a0)] s2 fun v52 s53 => ∃ b54 : Bool, v52 = .bool b54 ∧ (bsplit (!b54) (J3 [(.bool true)] s53) (AsSome a0 fun l55 o56 => RdI .i64 (rd1 s53 l55 o56) fun n57 => J3 [(.bool ((n57 : Int) == 1))] s53)))

def A_stable_Matrix_All : QA := (.seq .leaf (.seq (.join [(16, .bool)] [(7, 16)] .leaf (.cond (.seq .leaf .leaf) .leaf)) (.seq .leaf (.seq (.seq .leaf (.wrap (.loop [(18, .int .i64)] [(4, 6), (18, 51)] (.seq .leaf (.seq (.cond .leaf .leaf) (.seq (.wrap (.seq .leaf (.seq .leaf (.join [(5, .any)] [(5, 6), (21, 46)] (.seq .leaf (.wrap (.loop [(5, .any), (6, .int .i64)] [(5, 6), (21, 46)] (.seq (.seq .leaf (.cond .leaf .leaf)) (.seq (.wrap (.seq .leaf (.cond .leaf .leaf))) .leaf))))) .leaf)))) .leaf)))))) (.seq .leaf .leaf)))))

theorem q_stable_Matrix_All (a0 : Option (Nat × Nat)) (s : AS) (R : AV → AS → Prop) (h : Q_stable_Matrix_All a0 s R) : ACalls Try.prog F_stable_Matrix_All [(.ptr a0)] s R :=
  ACalls.q (n := 53) (rs := [.cell 2 43]) (A := A_stable_Matrix_All) hT hmx Try.func50 (by kernel_rfl) rfl rfl rfl (by kernel_rfl) (by kernel_rfl) h

/-- what (*minster/stable.Matrix).Of asks -/
def Q_stable_Matrix_Of (a0 : Option (Nat × Nat)) (a1 : Int) (s : AS) (R : AV → AS → Prop) : Prop :=
 NewQ (.cells [.int .u64 0, .int .u64 0, .int .u64 0, .int .u64 0, .int .u64 0, .int .u64 0, .int .u64 0, .int .u64 0, .int .u64 0, .int .u64 0, .int .u64 0, .int .u64 0, .int .u64 0, .int .u64 0, .int .u64 0, .int .u64 0] 0 false) s fun l1 s2 => JoinQ fun J3 =>
 (∀ b4 : Bool, ∀ s5 : AS, J3 [(.bool b4)] s5 →
 bsplit b4
 (RdG (abuild T Y_Vector []) fun g6 => OkC (some 16) g6 (StQ (awr s5 l1 0 g6) fun s7 => RdL (rdc s7 l1 0 16) fun g8 => R (.agg g8) s7))
 (AsSome a0 fun l9 o10 => IxQ (aindexAddr T Y_a16iVector (.ptr (some (l9, (o10 + 3)))) (.int .i64 (IntKind.wrap .i64 (a1 - 1)))) fun l11 o12 => RdL (rdc s5 l11 o12 16) fun g13 => OkC (some 16) g13 (StQ (awr s5 l1 0 g13) fun s14 => RdL (rdc s14 l1 0 16) fun g15 => R (.agg g15) s14))) ∧
 (ACalls Try.prog F_stable_Matrix_there [(.ptr a0)] s2 fun v16 s17 => ∃ b18 : Bool, v16 = .bool b18 ∧ (bsplit (!b18) (J3 [(.bool true)] s17) (ACalls Try.prog F_stable_Matrix_other [(.ptr a0), (.int .i64 a1)] s17 fun v19 s20 => ∃ b21 : Bool, v19 = .bool b21 ∧ (J3 [(.bool (!b21))] s20))))

def A_stable_Matrix_Of : QA := (.seq .leaf (.seq (.join [(13, .bool)] [(5, 13)] .leaf (.cond (.seq .leaf .leaf) .leaf)) (.seq .leaf .leaf)))

theorem q_stable_Matrix_Of (a0 : Option (Nat × Nat)) (a1 : Int) (s : AS) (R : AV → AS → Prop) (h : Q_stable_Matrix_Of a0 a1 s R) : ACalls Try.prog F_stable_Matrix_Of [(.ptr a0), (.int .i64 a1)] s R :=
  ACalls.q (n := 22) (rs := [.cell 4 43]) (A := A_stable_Matrix_Of) hT hmx Try.func51 (by kernel_rfl) rfl rfl rfl (by kernel_rfl) (by kernel_rfl) h

/-- what minster/minsterlaw14.StableGrows$1 asks -/
def Q_law14iStableGrows_1 (a0 : Option (Nat × Nat)) (a1 : List AV) (s : AS) (R : AV → AS → Prop) : Prop :=
 One1 a1 (NewQ (.cells a1 0 false) s fun l1 s2 => RdI .i64 (rd1 s2 l1 0) fun n3 => bsplit ((n3 : Int) == 1)
 (DrawQ fun S V => RdI .i64 (rd1 s2 l1 1) fun n4 => RdA (rd1 s2 l1 2) fun v5 => (∀ s6 : AS, Ext s2 s6 → WFs s6 → (True) → ACalls Try.prog F_law14iof [v5] s6 fun v7 s8 => ∃ p9 : Option (Nat × Nat), v7 = .ptr p9 ∧ ((Ext s6 s8 ∧ S 5 [(.func F_law14iof []), v5] (.ptr p9) s8 ∧ V 5 [(.func F_law14iof []), v5] (.ptr p9)))) ∧ (∃ v, V 5 [(.func F_law14iof []), v5] v) ∧ ∀ v10 : AV, V 5 [(.func F_law14iof []), v5] v10 → ∃ p11 : Option (Nat × Nat), v10 = .ptr p11 ∧ (RdA (rd1 s2 l1 3) fun v12 => ∀ s13 : AS, Ext s2 s13 → WFs s13 → (S 5 [(.func F_law14iof []), v5] (.ptr p11) s13 ∧ True) → ACalls Try.prog F_stable_Matrix_Know [(.ptr a0), (.int .i64 n4), (.ptr p11), v12] s13 fun v15 s16 => ∃ n17 : Int, v15 = .int .i64 n17 ∧ (R (.tup []) s16)))
 (RdI .i64 (rd1 s2 l1 0) fun n18 => bsplit ((n18 : Int) == 2)
 (RdI .i64 (rd1 s2 l1 1) fun n19 => RdL (rdc s2 l1 4 16) fun g20 => ACalls Try.prog F_stable_Matrix_Have [(.ptr a0), (.int .i64 n19), (.agg g20)] s2 fun v21 s22 => ∃ n23 : Int, v21 = .int .i64 n23 ∧ (R (.tup []) s22))
 (R (.tup []) s2)))

def A_law14iStableGrows_1 : QA := (.seq .leaf (.seq .leaf (.cond (.drawH 8 [[], [], [], [], [], [], [], []] [5]) (.seq .leaf (.cond .leaf .leaf)))))

theorem q_law14iStableGrows_1 (a0 : Option (Nat × Nat)) (a1 : List AV) (s : AS) (R : AV → AS → Prop) (h : Q_law14iStableGrows_1 a0 a1 s R) : ACalls Try.prog F_law14iStableGrows_1 [(.ptr a0), (.agg a1)] s R :=
  ACalls.q (n := 25) (rs := []) (A := A_law14iStableGrows_1) hT hmx Try.func52 (by kernel_rfl) rfl rfl rfl (by kernel_rfl) (by kernel_rfl) h

/-- what (*minster/ctx.Ctx).there asks -/
def Q_ctx_Ctx_there (a0 : Option (Nat × Nat)) (s : AS) (R : AV → AS → Prop) : Prop :=
 RdO (aeq T 100 Y_p_ctx_Ctx (.ptr a0) (.ptr none)) fun b1 => bsplit (!b1) (AsSome a0 fun l2 o3 => RdB (rd1 s l2 (o3 + 17)) fun b4 => R (.bool b4) s) (R (.bool false) s)

def A_ctx_Ctx_there : QA := (.seq .leaf (.seq .leaf .leaf))

theorem q_ctx_Ctx_there (a0 : Option (Nat × Nat)) (s : AS) (R : AV → AS → Prop) (h : Q_ctx_Ctx_there a0 s R) : ACalls Try.prog F_ctx_Ctx_there [(.ptr a0)] s R :=
  ACalls.q (n := 11) (rs := [.tmp 2]) (A := A_ctx_Ctx_there) hT hmx Try.func53 (by kernel_rfl) rfl rfl rfl (by kernel_rfl) (by kernel_rfl) h

/-- what slices.BinarySearchFunc[[]minster/api.Dot,minster/api.Dot,minster/api.Dot] asks -/
def Q_slices_BinarySearchFunc__s_Dot_Dot_Dot (a0 : AV) (a1 : List AV) (a2 : AV) (s : AS) (R : AV → AS → Prop) : Prop :=
 One1 a1 (NewQ (.cells a1 0 false) s fun l1 s2 => RdI .i64 (alenB T Y_s_Dot a0 s2) fun n3 => JoinQ fun J4 =>
 (∀ n5 : Int, ∀ s6 : AS, J4 [(.int .i64 n5)] s6 →
 DrawQ fun S V => bsplit (decide ((n5 : Int) < n3)) (IxQ (aindexAddr T Y_s_Dot a0 (.int .i64 n5)) fun l7 o8 => RdL (rdc s6 l7 o8 2) fun g9 => RdL (rdc s6 l1 0 2) fun g10 => (∀ s11 : AS, Ext s6 s11 → WFs s11 → (True) → ACallV Try.prog a2 [(.agg g9), (.agg g10)] s11 fun v12 s13 => ∃ n14 : Int, v12 = .int .i64 n14 ∧ ((Ext s11 s13 ∧ S 11 [a2, (.agg g9), (.agg g10)] (.int .i64 n14) s13 ∧ V 11 [a2, (.agg g9), (.agg g10)] (.int .i64 n14)))) ∧ (∃ v, V 11 [a2, (.agg g9), (.agg g10)] v) ∧ ∀ v15 : AV, V 11 [a2, (.agg g9), (.agg g10)] v15 → ∃ n16 : Int, v15 = .int .i64 n16 ∧ (∀ s17 : AS, Ext s6 s17 → WFs s17 → (S 11 [a2, (.agg g9), (.agg g10)] (.int .i64 n16) s17 ∧ True) → R (.tup [(.int .i64 n5), (.bool ((n16 : Int) == 0))]) s17)) (∀ s19 : AS, Ext s6 s19 → WFs s19 → (True) → R (.tup [(.int .i64 n5), (.bool false)]) s19)) ∧
 (LoopQ fun I21 m22 => I21 m22 [(.int .i64 0), (.int .i64 n3)] s2 ∧
 ∀ m23 : Nat, ∀ n24 : Int, ∀ n25 : Int, ∀ s26 : AS, I21 m23 [(.int .i64 n24), (.int .i64 n25)] s26 →
 bsplit (decide ((n24 : Int) < n25))
 (NN 1 (IxQ (aindexAddr T Y_s_Dot a0 (.int .i64 (IntKind.wrap .i64 (Int.fdiv (IntKind.wrap .u64 (IntKind.wrap .i64 (n24 + n25))) (2 ^ min (Int.toNat 1) (IntKind.bits .u64)))))) fun l27 o28 => RdL (rdc s26 l27 o28 2) fun g29 => RdL (rdc s26 l1 0 2) fun g30 => ACallV Try.prog a2 [(.agg g29), (.agg g30)] s26 fun v31 s32 => ∃ n33 : Int, v31 = .int .i64 n33 ∧ (bsplit (decide ((n33 : Int) < 0))
 (∃ m', m' < m23 ∧ I21 m' [(.int .i64 (IntKind.wrap .i64 ((IntKind.wrap .i64 (Int.fdiv (IntKind.wrap .u64 (IntKind.wrap .i64 (n24 + n25))) (2 ^ min (Int.toNat 1) (IntKind.bits .u64)))) + 1))), (.int .i64 n25)] s32)
 (∃ m', m' < m23 ∧ I21 m' [(.int .i64 n24), (.int .i64 (IntKind.wrap .i64 (Int.fdiv (IntKind.wrap .u64 (IntKind.wrap .i64 (n24 + n25))) (2 ^ min (Int.toNat 1) (IntKind.bits .u64)))))] s32))))
 (J4 [(.int .i64 n24)] s26)))

def A_slices_BinarySearchFunc__s_Dot_Dot_Dot : QA := (.seq .leaf (.seq .leaf (.seq .leaf (.join [(9, .int .i64)] [(9, 11), (15, 34)] (.wrap (.loop [(9, .int .i64), (10, .int .i64)] [(9, 11), (15, 34)] (.seq (.seq .leaf (.cond .leaf .leaf)) (.wrap (.seq .leaf (.seq (.draw 6) (.cond .leaf .leaf))))))) (.seq (.drawH 15 [[], [], [], [], [], [], [], [], [], [], [], [], [], [], []] [11]) .leaf)))))

theorem q_slices_BinarySearchFunc__s_Dot_Dot_Dot (a0 : AV) (a1 : List AV) (a2 : AV) (s : AS) (R : AV → AS → Prop) (h : Q_slices_BinarySearchFunc__s_Dot_Dot_Dot a0 a1 a2 s R) : ACalls Try.prog F_slices_BinarySearchFunc__s_Dot_Dot_Dot [a0, (.agg a1), a2] s R :=
  ACalls.q (n := 49) (rs := [.tmp 6, .tmp 7]) (A := A_slices_BinarySearchFunc__s_Dot_Dot_Dot) hT hmx Try.func54 (by kernel_rfl) rfl rfl rfl (by kernel_rfl) (by kernel_rfl) h

/-- what minster/ctx.order asks -/
def Q_ctx_order (a0 : List AV) (a1 : List AV) (s : AS) (R : AV → AS → Prop) : Prop :=
 One1 a0 (NewQ (.cells a0 0 false) s fun l1 s2 => One1 a1 (NewQ (.cells a1 0 false) s2 fun l3 s4 => DrawQ fun S V => RdI .i64 (rd1 s4 l1 0) fun n5 => RdI .i64 (rd1 s4 l3 0) fun n6 => (∀ s7 : AS, Ext s4 s7 → WFs s7 → (True) → ACalls Try.prog F_cmp_Compare__int [(.int .i64 n5), (.int .i64 n6)] s7 fun v8 s9 => ∃ n10 : Int, v8 = .int .i64 n10 ∧ ((Ext s7 s9 ∧ S 4 [(.func F_cmp_Compare__int []), (.int .i64 n5), (.int .i64 n6)] (.int .i64 n10) s9 ∧ V 4 [(.func F_cmp_Compare__int []), (.int .i64 n5), (.int .i64 n6)] (.int .i64 n10)))) ∧ (∃ v, V 4 [(.func F_cmp_Compare__int []), (.int .i64 n5), (.int .i64 n6)] v) ∧ ∀ v11 : AV, V 4 [(.func F_cmp_Compare__int []), (.int .i64 n5), (.int .i64 n6)] v11 → ∃ n12 : Int, v11 = .int .i64 n12 ∧ (RdI .u64 (rd1 s4 l1 1) fun n13 => RdI .u64 (rd1 s4 l3 1) fun n14 => ∀ s15 : AS, Ext s4 s15 → WFs s15 → (S 4 [(.func F_cmp_Compare__int []), (.int .i64 n5), (.int .i64 n6)] (.int .i64 n12) s15 ∧ True) → ACalls Try.prog F_cmp_Compare__uint64 [(.int .u64 n13), (.int .u64 n14)] s15 fun v17 s18 => ∃ n19 : Int, v17 = .int .i64 n19 ∧ (RdL (absl T Y_s_int 2 [(0, (.int .i64 n12)), (1, (.int .i64 n19))]) fun g20 => NewQ (.cells g20 0 false) s18 fun l21 s22 => ACalls Try.prog F_cmp_Or__int [(.slc (some (l21, 0)) 2 2 true)] s22 fun v23 s24 => ∃ n25 : Int, v23 = .int .i64 n25 ∧ (R (.int .i64 n25) s24)))))

def A_ctx_order : QA := (.seq .leaf (.seq (.drawH 9 [[], [], [], [], [], [], [], [], []] [4]) .leaf))

theorem q_ctx_order (a0 : List AV) (a1 : List AV) (s : AS) (R : AV → AS → Prop) (h : Q_ctx_order a0 a1 s R) : ACalls Try.prog F_ctx_order [(.agg a0), (.agg a1)] s R :=
  ACalls.q (n := 17) (rs := [.tmp 4]) (A := A_ctx_order) hT hmx Try.func55 (by kernel_rfl) rfl rfl rfl (by kernel_rfl) (by kernel_rfl) h

/-- what slices.Insert[[]minster/api.Dot,minster/api.Dot] asks -/
def Q_slices_Insert__s_Dot_Dot (a0 : AV) (a1 : Int) (a2 : AV) (s : AS) (R : AV → AS → Prop) : Prop :=
 RdA (aslice T Y_s_Dot a0 (some (.int .i64 a1)) none none) fun v1 => RdI .i64 (alenB T Y_s_Dot a2 s) fun n2 => bsplit ((n2 : Int) == 0)
 (R a0 s)
 (RdI .i64 (alenB T Y_s_Dot a0 s) fun n3 => bsplit ((a1 : Int) == n3)
 (Bd2 (aappend T Y_s_Dot Y_s_Dot a0 a2 s) fun v4 s5 => R v4 s5)
 (RdI .i64 (acapB T Y_s_Dot a0) fun n6 => bsplit (decide ((IntKind.wrap .i64 (n3 + n2) : Int) > n6))
 (RdA (aslice T Y_s_Dot a0 none (some (.int .i64 a1)) none) fun v7 => Bd2 (aappend T Y_s_Dot Y_int v7 (.int .i64 (IntKind.wrap .i64 ((IntKind.wrap .i64 (n3 + n2)) - a1))) s) fun v8 s9 => RdA (aslice T Y_s_Dot v8 (some (.int .i64 a1)) none none) fun v10 => Bd2 (acopy T Y_s_Dot v10 a2 s9) fun v11 s12 => RdA (aslice T Y_s_Dot v8 (some (.int .i64 (IntKind.wrap .i64 (a1 + n2)))) none none) fun v13 => RdA (aslice T Y_s_Dot a0 (some (.int .i64 a1)) none none) fun v14 => Bd2 (acopy T Y_s_Dot v13 v14 s12) fun v15 s16 => R v8 s16)
 (RdA (aslice T Y_s_Dot a0 none (some (.int .i64 (IntKind.wrap .i64 (n3 + n2)))) none) fun v17 => RdA (aslice T Y_s_Dot v17 (some (.int .i64 (IntKind.wrap .i64 (a1 + n2)))) none none) fun v18 => ACalls Try.prog F_slices_overlaps__Dot [a2, v18] s fun v19 s20 => ∃ b21 : Bool, v19 = .bool b21 ∧ (bsplit (!b21)
 (RdA (aslice T Y_s_Dot v17 (some (.int .i64 (IntKind.wrap .i64 (a1 + n2)))) none none) fun v22 => RdA (aslice T Y_s_Dot v17 (some (.int .i64 a1)) none none) fun v23 => Bd2 (acopy T Y_s_Dot v22 v23 s20) fun v24 s25 => RdA (aslice T Y_s_Dot v17 (some (.int .i64 a1)) none none) fun v26 => Bd2 (acopy T Y_s_Dot v26 a2 s25) fun v27 s28 => R v17 s28)
 (RdA (aslice T Y_s_Dot v17 (some (.int .i64 n3)) none none) fun v29 => Bd2 (acopy T Y_s_Dot v29 a2 s20) fun v30 s31 => RdA (aslice T Y_s_Dot v17 (some (.int .i64 a1)) none none) fun v32 => ACalls Try.prog F_slices_rotateRight__Dot [v32, (.int .i64 n2)] s31 fun v33 s34 => v33 = .tup [] ∧ (R v17 s34))))))

def A_slices_Insert__s_Dot_Dot : QA := (.seq .leaf (.seq .leaf (.seq .leaf (.seq (.seq .leaf (.cond (.seq .leaf .leaf) .leaf)) (.seq .leaf (.seq (.seq .leaf (.cond (.seq .leaf .leaf) .leaf)) (.seq (.seq .leaf (.cond (.seq .leaf (.seq .leaf (.seq (.draw 8) (.seq .leaf .leaf)))) .leaf)) (.seq .leaf (.seq (.seq .leaf (.cond (.seq (.draw 8) (.seq .leaf (.seq .leaf .leaf))) .leaf)) (.seq .leaf (.seq .leaf (.seq .leaf .leaf))))))))))))

theorem q_slices_Insert__s_Dot_Dot (a0 : AV) (a1 : Int) (a2 : AV) (s : AS) (R : AV → AS → Prop) (h : Q_slices_Insert__s_Dot_Dot a0 a1 a2 s R) : ACalls Try.prog F_slices_Insert__s_Dot_Dot [a0, (.int .i64 a1), a2] s R :=
  ACalls.q (n := 95) (rs := [.tmp 6]) (A := A_slices_Insert__s_Dot_Dot) hT hmx Try.func56 (by kernel_rfl) rfl rfl rfl (by kernel_rfl) (by kernel_rfl) h

/-- what slices.Clone[[]minster/api.Dot,minster/api.Dot] asks -/
def Q_slices_Clone__s_Dot_Dot (a0 : AV) (s : AS) (R : AV → AS → Prop) : Prop :=
 RdO (eqQ T Y_s_Dot true a0 (.slc none 0 0 true)) fun b1 => bsplit b1
 (R (.slc none 0 0 true) s)
 (RdL (absl T Y_s_Dot 0 []) fun g2 => NewQ (.cells g2 0 false) s fun l3 s4 => Bd2 (aappend T Y_s_Dot Y_s_Dot (.slc (some (l3, 0)) 0 0 true) a0 s4) fun v5 s6 => R v5 s6)

def A_slices_Clone__s_Dot_Dot : QA := (.seq .leaf (.seq (.seq .leaf (.cond (.seq .leaf .leaf) .leaf)) (.seq .leaf .leaf)))

theorem q_slices_Clone__s_Dot_Dot (a0 : AV) (s : AS) (R : AV → AS → Prop) (h : Q_slices_Clone__s_Dot_Dot a0 s R) : ACalls Try.prog F_slices_Clone__s_Dot_Dot [a0] s R :=
  ACalls.q (n := 8) (rs := [.tmp 2]) (A := A_slices_Clone__s_Dot_Dot) hT hmx Try.func57 (by kernel_rfl) rfl rfl rfl (by kernel_rfl) (by kernel_rfl) h

/-- what (*minster/ctx.Ctx).compact asks -/
def Q_ctx_Ctx_compact (a0 : Option (Nat × Nat)) (s : AS) (R : AV → AS → Prop) : Prop :=
 JoinQ fun J1 =>
 (∀ v2 : AV, ∀ s3 : AS, J1 [v2] s3 →
 AsSome a0 fun l4 o5 => qstore T Y_s_Dot s3 l4 (o5 + 16) v2 fun s6 => R (.tup []) s6) ∧
 (AsSome a0 fun l7 o8 => RdA (rd1 s l7 (o8 + 16)) fun v9 => RdI .i64 (alenB T Y_s_Dot v9 s) fun n10 => LoopQ fun I11 m12 => I11 m12 [(.slc none 0 0 true), (.int .i64 0)] s ∧
 ∀ m13 : Nat, ∀ v14 : AV, ∀ n15 : Int, ∀ s16 : AS, I11 m13 [v14, (.int .i64 n15)] s16 →
 bsplit (decide ((n15 : Int) < n10))
 (IxQ (aindexAddr T Y_s_Dot v9 (.int .i64 n15)) fun l17 o18 => RdL (rdc s16 l17 o18 2) fun g19 => NewQ (.cells [.int .i64 0, .int .u64 0] 0 false) s16 fun l20 s21 => OkC (some 2) g19 (StQ (awr s21 l20 0 g19) fun s22 => RdI .i64 (rd1 s22 l20 0) fun n23 => AsSome a0 fun l24 o25 => IxQ (aindexAddr T Y_Vector (.ptr (some (l24, o25))) (.int .i64 (IntKind.wrap .i64 (n23 - 1)))) fun l26 o27 => RdI .u64 (rd1 s22 l20 1) fun n28 => RdI .u64 (rd1 s22 l26 o27) fun n29 => bsplit (decide ((n28 : Int) ≤ n29))
 (∃ m', m' < m13 ∧ I11 m' [v14, (.int .i64 (IntKind.wrap .i64 (n15 + 1)))] s22)
 (RdI .u64 (rd1 s22 l20 1) fun n30 => RdI .u64 (rd1 s22 l26 o27) fun n31 => bsplit ((n30 : Int) == (IntKind.wrap .u64 (n31 + 1)))
 (RdI .u64 (rd1 s22 l20 1) fun n32 => StQ (awr s22 l26 o27 [(.int .u64 n32)]) fun s33 => ∃ m', m' < m13 ∧ I11 m' [v14, (.int .i64 (IntKind.wrap .i64 (n15 + 1)))] s33)
 (RdL (rdc s22 l20 0 2) fun g34 => RdL (absl T Y_s_Dot 1 [(0, (.agg g34))]) fun g35 => NewQ (.cells g35 0 false) s22 fun l36 s37 => Bd2 (aappend T Y_s_Dot Y_s_Dot v14 (.slc (some (l36, 0)) 1 1 true) s37) fun v38 s39 => ∃ m', m' < m13 ∧ I11 m' [v38, (.int .i64 (IntKind.wrap .i64 (n15 + 1)))] s39))))
 (J1 [v14] s16))

def A_ctx_Ctx_compact : QA := (.wrap (.seq .leaf (.seq .leaf (.join [(2, .any)] [(2, 2), (4, 45)] (.seq .leaf (.wrap (.loop [(2, .any), (11, .int .i64)] [(2, 2), (4, 5), (11, 45)] (.seq .leaf (.seq (.cond .leaf .leaf) (.seq (.wrap (.seq .leaf (.seq (.seq (.draw 6) (.wrap (.seq (.draw 5) (.cond .leaf (.seq (.draw 6) (.cond (.seq .leaf .leaf) .leaf)))))) .leaf))) .leaf)))))) .leaf))))

theorem q_ctx_Ctx_compact (a0 : Option (Nat × Nat)) (s : AS) (R : AV → AS → Prop) (h : Q_ctx_Ctx_compact a0 s R) : ACalls Try.prog F_ctx_Ctx_compact [(.ptr a0)] s R :=
  ACalls.q (n := 50) (rs := []) (A := A_ctx_Ctx_compact) hT hmx Try.func58 (by kernel_rfl) rfl rfl rfl (by kernel_rfl) (by kernel_rfl) h

/-- what (*minster/minsterref04.Set).compact asks -/
def Q_ref04iSet_compact (a0 : Option (Nat × Nat)) (s : AS) (R : AV → AS → Prop) : Prop :=
 JoinQ fun J1 =>
 (∀ v2 : AV, ∀ s3 : AS, J1 [v2] s3 →
 AsSome a0 fun l4 o5 => qstore T Y_s_Dot s3 l4 (o5 + 16) v2 fun s6 => R (.tup []) s6) ∧
 (LoopQ fun I7 m8 => I7 m8 [(.slc none 0 0 true), (.int .i64 0)] s ∧
 ∀ m9 : Nat, ∀ v10 : AV, ∀ n11 : Int, ∀ s12 : AS, I7 m9 [v10, (.int .i64 n11)] s12 →
 AsSome a0 fun l13 o14 => RdA (rd1 s12 l13 (o14 + 16)) fun v15 => RdI .i64 (alenB T Y_s_Dot v15 s12) fun n16 => bsplit (decide ((n11 : Int) < n16))
 (AsSome a0 fun l17 o18 => RdA (rd1 s12 l17 (o18 + 16)) fun v19 => IxQ (aindexAddr T Y_s_Dot v19 (.int .i64 n11)) fun l20 o21 => RdL (rdc s12 l20 o21 2) fun g22 => NewQ (.cells [.int .i64 0, .int .u64 0] 0 false) s12 fun l23 s24 => OkC (some 2) g22 (StQ (awr s24 l23 0 g22) fun s25 => RdI .u64 (rd1 s25 l23 1) fun n26 => RdI .i64 (rd1 s25 l23 0) fun n27 => AsSome a0 fun l28 o29 => IxQ (aindexAddr T Y_a16iuint64 (.ptr (some (l28, o29))) (.int .i64 (IntKind.wrap .i64 (n27 - 1)))) fun l30 o31 => RdI .u64 (rd1 s25 l30 o31) fun n32 => bsplit ((n26 : Int) == (IntKind.wrap .u64 (n32 + 1)))
 (RdI .i64 (rd1 s25 l23 0) fun n33 => RdI .u64 (rd1 s25 l23 1) fun n34 => AsSome a0 fun l35 o36 => IxQ (aindexAddr T Y_a16iuint64 (.ptr (some (l35, o36))) (.int .i64 (IntKind.wrap .i64 (n33 - 1)))) fun l37 o38 => StQ (awr s25 l37 o38 [(.int .u64 n34)]) fun s39 => ∃ m', m' < m9 ∧ I7 m' [v10, (.int .i64 (IntKind.wrap .i64 (n11 + 1)))] s39)
 (RdI .u64 (rd1 s25 l23 1) fun n40 => RdI .i64 (rd1 s25 l23 0) fun n41 => AsSome a0 fun l42 o43 => IxQ (aindexAddr T Y_a16iuint64 (.ptr (some (l42, o43))) (.int .i64 (IntKind.wrap .i64 (n41 - 1)))) fun l44 o45 => RdI .u64 (rd1 s25 l44 o45) fun n46 => bsplit (decide ((n40 : Int) > n46))
 (RdL (rdc s25 l23 0 2) fun g47 => RdL (absl T Y_s_Dot 1 [(0, (.agg g47))]) fun g48 => NewQ (.cells g48 0 false) s25 fun l49 s50 => Bd2 (aappend T Y_s_Dot Y_s_Dot v10 (.slc (some (l49, 0)) 1 1 true) s50) fun v51 s52 => ∃ m', m' < m9 ∧ I7 m' [v51, (.int .i64 (IntKind.wrap .i64 (n11 + 1)))] s52)
 (∃ m', m' < m9 ∧ I7 m' [v10, (.int .i64 (IntKind.wrap .i64 (n11 + 1)))] s25))))
 (J1 [v10] s12))

def A_ref04iSet_compact : QA := (.seq .leaf (.join [(2, .any)] [(2, 56)] (.seq .leaf (.wrap (.loop [(2, .any), (3, .int .i64)] [(2, 56)] (.seq (.seq .leaf (.cond .leaf .leaf)) (.seq (.wrap (.seq .leaf (.seq (.draw 11) (.cond (.draw 8) (.seq (.draw 10) (.cond .leaf .leaf)))))) .leaf))))) .leaf))

theorem q_ref04iSet_compact (a0 : Option (Nat × Nat)) (s : AS) (R : AV → AS → Prop) (h : Q_ref04iSet_compact a0 s R) : ACalls Try.prog F_ref04iSet_compact [(.ptr a0)] s R :=
  ACalls.q (n := 61) (rs := []) (A := A_ref04iSet_compact) hT hmx Try.func59 (by kernel_rfl) rfl rfl rfl (by kernel_rfl) (by kernel_rfl) h

/-- what minster/minsterref04.SameDots asks -/
def Q_ref04iSameDots (a0 : AV) (a1 : AV) (s : AS) (R : AV → AS → Prop) : Prop :=
 RdI .i64 (alenB T Y_s_Dot a0 s) fun n1 => RdI .i64 (alenB T Y_s_Dot a1 s) fun n2 => bsplit ((n1 : Int) != n2)
 (R (.bool false) s)
 (LoopQ fun I3 m4 => I3 m4 [(.int .i64 0)] s ∧
 ∀ m5 : Nat, ∀ n6 : Int, ∀ s7 : AS, I3 m5 [(.int .i64 n6)] s7 →
 RdI .i64 (alenB T Y_s_Dot a0 s7) fun n8 => bsplit (decide ((n6 : Int) < n8))
 (IxQ (aindexAddr T Y_s_Dot a0 (.int .i64 n6)) fun l9 o10 => RdL (rdc s7 l9 o10 2) fun g11 => IxQ (aindexAddr T Y_s_Dot a1 (.int .i64 n6)) fun l12 o13 => RdL (rdc s7 l12 o13 2) fun g14 => RdO (aeq T 100 Y_Dot (.agg g11) (.agg g14)) fun b15 => bsplit (!b15)
 (R (.bool false) s7)
 (∃ m', m' < m5 ∧ I3 m' [(.int .i64 (IntKind.wrap .i64 (n6 + 1)))] s7))
 (R (.bool true) s7))

def A_ref04iSameDots : QA := (.seq .leaf (.seq (.seq .leaf (.cond (.seq .leaf .leaf) .leaf)) (.seq (.seq .leaf (.wrap (.loop [(5, .int .i64)] [(4, 5), (11, 25)] (.seq (.seq .leaf (.cond .leaf .leaf)) (.seq (.wrap (.seq (.draw 8) (.cond (.seq .leaf .leaf) .leaf))) .leaf))))) (.seq .leaf .leaf))))

theorem q_ref04iSameDots (a0 : AV) (a1 : AV) (s : AS) (R : AV → AS → Prop) (h : Q_ref04iSameDots a0 a1 s R) : ACalls Try.prog F_ref04iSameDots [a0, a1] s R :=
  ACalls.q (n := 26) (rs := [.tmp 4]) (A := A_ref04iSameDots) hT hmx Try.func60 (by kernel_rfl) rfl rfl rfl (by kernel_rfl) (by kernel_rfl) h

/-- what slices.Equal[[]minster/api.Dot,minster/api.Dot] asks -/
def Q_slices_Equal__s_Dot_Dot (a0 : AV) (a1 : AV) (s : AS) (R : AV → AS → Prop) : Prop :=
 RdI .i64 (alenB T Y_s_Dot a0 s) fun n1 => RdI .i64 (alenB T Y_s_Dot a1 s) fun n2 => bsplit ((n1 : Int) != n2)
 (R (.bool false) s)
 (RdI .i64 (alenB T Y_s_Dot a0 s) fun n3 => LoopQ fun I4 m5 => I4 m5 [(.int .i64 0)] s ∧
 ∀ m6 : Nat, ∀ n7 : Int, ∀ s8 : AS, I4 m6 [(.int .i64 n7)] s8 →
 bsplit (decide ((n7 : Int) < n3))
 (IxQ (aindexAddr T Y_s_Dot a0 (.int .i64 n7)) fun l9 o10 => RdL (rdc s8 l9 o10 2) fun g11 => IxQ (aindexAddr T Y_s_Dot a1 (.int .i64 n7)) fun l12 o13 => RdL (rdc s8 l12 o13 2) fun g14 => RdO (aeq T 100 Y_Dot (.agg g11) (.agg g14)) fun b15 => bsplit (!b15)
 (R (.bool false) s8)
 (∃ m', m' < m6 ∧ I4 m' [(.int .i64 (IntKind.wrap .i64 (n7 + 1)))] s8))
 (R (.bool true) s8))

def A_slices_Equal__s_Dot_Dot : QA := (.seq .leaf (.seq (.seq .leaf (.cond (.seq .leaf .leaf) .leaf)) (.seq (.seq .leaf (.wrap (.loop [(13, .int .i64)] [(4, 5), (13, 25)] (.seq .leaf (.seq (.cond .leaf .leaf) (.seq (.wrap (.seq .leaf (.seq (.draw 8) (.cond (.seq .leaf .leaf) .leaf)))) .leaf)))))) (.seq .leaf .leaf))))

theorem q_slices_Equal__s_Dot_Dot (a0 : AV) (a1 : AV) (s : AS) (R : AV → AS → Prop) (h : Q_slices_Equal__s_Dot_Dot a0 a1 s R) : ACalls Try.prog F_slices_Equal__s_Dot_Dot [a0, a1] s R :=
  ACalls.q (n := 26) (rs := [.tmp 4]) (A := A_slices_Equal__s_Dot_Dot) hT hmx Try.func61 (by kernel_rfl) rfl rfl rfl (by kernel_rfl) (by kernel_rfl) h

/-- what slices.Concat[[]minster/api.Dot,minster/api.Dot] asks -/
def Q_slices_Concat__s_Dot_Dot (a0 : AV) (s : AS) (R : AV → AS → Prop) : Prop :=
 JoinQ fun J1 =>
 (∀ n2 : Int, ∀ s3 : AS, J1 [(.int .i64 n2)] s3 →
 ACalls Try.prog F_slices_Grow__s_Dot_Dot [(.slc none 0 0 true), (.int .i64 n2)] s3 fun v4 s5 => RdI .i64 (alenB T Y_s__Dot a0 s5) fun n6 => LoopQ fun I7 m8 => I7 m8 [v4, (.int .i64 0)] s5 ∧
 ∀ m9 : Nat, ∀ v10 : AV, ∀ n11 : Int, ∀ s12 : AS, I7 m9 [v10, (.int .i64 n11)] s12 →
 bsplit (decide ((n11 : Int) < n6))
 (IxQ (aindexAddr T Y_s__Dot a0 (.int .i64 n11)) fun l13 o14 => RdA (rd1 s12 l13 o14) fun v15 => Bd2 (aappend T Y_s_Dot Y_s_Dot v10 v15 s12) fun v16 s17 => ∃ m', m' < m9 ∧ I7 m' [v16, (.int .i64 (IntKind.wrap .i64 (n11 + 1)))] s17)
 (R v10 s12)) ∧
 (RdI .i64 (alenB T Y_s__Dot a0 s) fun n18 => LoopQ fun I19 m20 => I19 m20 [(.int .i64 0), (.int .i64 0)] s ∧
 ∀ m21 : Nat, ∀ n22 : Int, ∀ n23 : Int, ∀ s24 : AS, I19 m21 [(.int .i64 n22), (.int .i64 n23)] s24 →
 bsplit (decide ((n23 : Int) < n18))
 (IxQ (aindexAddr T Y_s__Dot a0 (.int .i64 n23)) fun l25 o26 => RdA (rd1 s24 l25 o26) fun v27 => RdI .i64 (alenB T Y_s_Dot v27 s24) fun n28 => bsplit (decide ((IntKind.wrap .i64 (n22 + n28) : Int) < 0))
 (False)
 (∃ m', m' < m21 ∧ I19 m' [(.int .i64 (IntKind.wrap .i64 (n22 + n28))), (.int .i64 (IntKind.wrap .i64 (n23 + 1)))] s24))
 (J1 [(.int .i64 n22)] s24))

def A_slices_Concat__s_Dot_Dot : QA := (.seq .leaf (.seq .leaf (.join [(3, .int .i64)] [(3, 3), (5, 5), (9, 22)] (.seq .leaf (.wrap (.loop [(3, .int .i64), (11, .int .i64)] [(3, 3), (5, 5), (11, 22)] (.seq .leaf (.seq (.cond .leaf .leaf) (.seq (.wrap (.seq .leaf (.seq .leaf (.seq .leaf (.cond .leaf .leaf))))) .leaf)))))) (.seq .leaf (.seq (.seq .leaf (.wrap (.loop [(6, .any), (27, .int .i64)] [(6, 6), (8, 8), (27, 34)] (.seq .leaf (.seq (.cond .leaf .leaf) (.seq (.wrap (.seq .leaf .leaf)) .leaf)))))) (.seq .leaf .leaf))))))

theorem q_slices_Concat__s_Dot_Dot (a0 : AV) (s : AS) (R : AV → AS → Prop) (h : Q_slices_Concat__s_Dot_Dot a0 s R) : ACalls Try.prog F_slices_Concat__s_Dot_Dot [a0] s R :=
  ACalls.q (n := 36) (rs := [.tmp 2]) (A := A_slices_Concat__s_Dot_Dot) hT hmx Try.func62 (by kernel_rfl) rfl rfl rfl (by kernel_rfl) (by kernel_rfl) h

/-- what slices.SortFunc[[]minster/api.Dot,minster/api.Dot] asks -/
def Q_slices_SortFunc__s_Dot_Dot (a0 : AV) (a1 : AV) (s : AS) (R : AV → AS → Prop) : Prop :=
 RdI .i64 (alenB T Y_s_Dot a0 s) fun n1 => ACalls Try.prog F_math_bits_Len [(.int .u64 (IntKind.wrap .u64 n1))] s fun v2 s3 => ∃ n4 : Int, v2 = .int .i64 n4 ∧ (ACalls Try.prog F_slices_pdqsortCmpFunc__Dot [a0, (.int .i64 0), (.int .i64 n1), (.int .i64 n4), a1] s3 fun v5 s6 => v5 = .tup [] ∧ (R (.tup []) s6))

def A_slices_SortFunc__s_Dot_Dot : QA := (.seq .leaf .leaf)

theorem q_slices_SortFunc__s_Dot_Dot (a0 : AV) (a1 : AV) (s : AS) (R : AV → AS → Prop) (h : Q_slices_SortFunc__s_Dot_Dot a0 a1 s R) : ACalls Try.prog F_slices_SortFunc__s_Dot_Dot [a0, a1] s R :=
  ACalls.q (n := 14) (rs := []) (A := A_slices_SortFunc__s_Dot_Dot) hT hmx Try.func63 (by kernel_rfl) rfl rfl rfl (by kernel_rfl) (by kernel_rfl) h

/-- what slices.Compact[[]minster/api.Dot,minster/api.Dot] asks -/
def Q_slices_Compact__s_Dot_Dot (a0 : AV) (s : AS) (R : AV → AS → Prop) : Prop :=
 RdI .i64 (alenB T Y_s_Dot a0 s) fun n1 => bsplit (decide ((n1 : Int) < 2))
 (R a0 s)
 (LoopQ fun I2 m3 => I2 m3 [(.int .i64 1)] s ∧
 ∀ m4 : Nat, ∀ n5 : Int, ∀ s6 : AS, I2 m4 [(.int .i64 n5)] s6 →
 RdI .i64 (alenB T Y_s_Dot a0 s6) fun n7 => bsplit (decide ((n5 : Int) < n7))
 (IxQ (aindexAddr T Y_s_Dot a0 (.int .i64 n5)) fun l8 o9 => RdL (rdc s6 l8 o9 2) fun g10 => IxQ (aindexAddr T Y_s_Dot a0 (.int .i64 (IntKind.wrap .i64 (n5 - 1)))) fun l11 o12 => RdL (rdc s6 l11 o12 2) fun g13 => RdO (aeq T 100 Y_Dot (.agg g10) (.agg g13)) fun b14 => bsplit b14
 (RdA (aslice T Y_s_Dot a0 (some (.int .i64 n5)) none none) fun v15 => JoinQ fun J16 =>
 (∀ n17 : Int, ∀ s18 : AS, J16 [(.int .i64 n17)] s18 →
 RdA (aslice T Y_s_Dot a0 (some (.int .i64 n17)) none none) fun v19 => StQ (aclear T Y_s_Dot v19 s18) fun s20 => RdA (aslice T Y_s_Dot a0 none (some (.int .i64 n17)) none) fun v21 => R v21 s20) ∧
 (LoopQ fun I22 m23 => I22 m23 [(.int .i64 n5), (.int .i64 1)] s6 ∧
 ∀ m24 : Nat, ∀ n25 : Int, ∀ n26 : Int, ∀ s27 : AS, I22 m24 [(.int .i64 n25), (.int .i64 n26)] s27 →
 RdI .i64 (alenB T Y_s_Dot v15 s27) fun n28 => bsplit (decide ((n26 : Int) < n28))
 (IxQ (aindexAddr T Y_s_Dot v15 (.int .i64 n26)) fun l29 o30 => RdL (rdc s27 l29 o30 2) fun g31 => IxQ (aindexAddr T Y_s_Dot v15 (.int .i64 (IntKind.wrap .i64 (n26 - 1)))) fun l32 o33 => RdL (rdc s27 l32 o33 2) fun g34 => RdO (aeq T 100 Y_Dot (.agg g31) (.agg g34)) fun b35 => bsplit (!b35)
 (IxQ (aindexAddr T Y_s_Dot v15 (.int .i64 n26)) fun l36 o37 => RdL (rdc s27 l36 o37 2) fun g38 => IxQ (aindexAddr T Y_s_Dot a0 (.int .i64 n25)) fun l39 o40 => OkC (some 2) g38 (StQ (awr s27 l39 o40 g38) fun s41 => ∃ m', m' < m24 ∧ I22 m' [(.int .i64 (IntKind.wrap .i64 (n25 + 1))), (.int .i64 (IntKind.wrap .i64 (n26 + 1)))] s41))
 (∃ m', m' < m24 ∧ I22 m' [(.int .i64 n25), (.int .i64 (IntKind.wrap .i64 (n26 + 1)))] s27))
 (J16 [(.int .i64 n25)] s27)))
 (∃ m', m' < m4 ∧ I2 m' [(.int .i64 (IntKind.wrap .i64 (n5 + 1)))] s6))
 (R a0 s6))

def A_slices_Compact__s_Dot_Dot : QA := (.seq .leaf (.seq (.seq .leaf (.cond (.seq .leaf .leaf) .leaf)) (.seq (.seq .leaf (.wrap (.loop [(3, .int .i64)] [(2, 5), (10, 59)] (.seq (.seq .leaf (.cond .leaf .leaf)) (.seq (.wrap (.seq (.draw 9) (.cond (.seq .leaf (.join [(3, .int .i64)] [(3, 3), (5, 5), (29, 53)] (.seq .leaf (.wrap (.loop [(3, .int .i64), (5, .int .i64)] [(3, 3), (5, 5), (29, 53)] (.seq (.seq .leaf (.cond .leaf .leaf)) (.seq (.wrap (.seq (.draw 9) (.cond (.seq .leaf .leaf) .leaf))) .leaf))))) (.seq .leaf (.seq .leaf .leaf)))) .leaf))) .leaf))))) (.seq .leaf .leaf))))

theorem q_slices_Compact__s_Dot_Dot (a0 : AV) (s : AS) (R : AV → AS → Prop) (h : Q_slices_Compact__s_Dot_Dot a0 s R) : ACalls Try.prog F_slices_Compact__s_Dot_Dot [a0] s R :=
  ACalls.q (n := 61) (rs := [.tmp 2]) (A := A_slices_Compact__s_Dot_Dot) hT hmx Try.func64 (by kernel_rfl) rfl rfl rfl (by kernel_rfl) (by kernel_rfl) h

/-- what (*minster/stable.Matrix).there asks -/
def Q_stable_Matrix_there (a0 : Option (Nat × Nat)) (s : AS) (R : AV → AS → Prop) : Prop :=
 RdO (aeq T 100 Y_p_stable_Matrix (.ptr a0) (.ptr none)) fun b1 => bsplit (!b1) (AsSome a0 fun l2 o3 => RdM (rd1 s l2 (o3 + 2)) fun r4 => RdO (aeq T 100 Y_m_int_p_stable_view (.map r4) (.map none)) fun b5 => R (.bool (!b5)) s) (R (.bool false) s)

def A_stable_Matrix_there : QA := (.seq .leaf (.seq .leaf .leaf))

theorem q_stable_Matrix_there (a0 : Option (Nat × Nat)) (s : AS) (R : AV → AS → Prop) (h : Q_stable_Matrix_there a0 s R) : ACalls Try.prog F_stable_Matrix_there [(.ptr a0)] s R :=
  ACalls.q (n := 12) (rs := [.tmp 2]) (A := A_stable_Matrix_there) hT hmx Try.func65 (by kernel_rfl) rfl rfl rfl (by kernel_rfl) (by kernel_rfl) h

/-- what (*minster/stable.Matrix).other asks -/
def Q_stable_Matrix_other (a0 : Option (Nat × Nat)) (a1 : Int) (s : AS) (R : AV → AS → Prop) : Prop :=
 bsplit (decide ((a1 : Int) ≥ 1)) (AsSome a0 fun l1 o2 => RdI .i64 (rd1 s l1 o2) fun n3 => bsplit (decide ((a1 : Int) ≤ n3)) (AsSome a0 fun l4 o5 => RdI .i64 (rd1 s l4 (o5 + 1)) fun n6 => R (.bool ((a1 : Int) != n6)) s) (R (.bool false) s)) (R (.bool false) s)

def A_stable_Matrix_other : QA := (.seq .leaf (.seq .leaf .leaf))

theorem q_stable_Matrix_other (a0 : Option (Nat × Nat)) (a1 : Int) (s : AS) (R : AV → AS → Prop) (h : Q_stable_Matrix_other a0 a1 s R) : ACalls Try.prog F_stable_Matrix_other [(.ptr a0), (.int .i64 a1)] s R :=
  ACalls.q (n := 23) (rs := [.tmp 4]) (A := A_stable_Matrix_other) hT hmx Try.func66 (by kernel_rfl) rfl rfl rfl (by kernel_rfl) (by kernel_rfl) h

/-- what slices.Min[[]uint64,uint64] asks -/
def Q_slices_Min__s_uint64iuint64 (a0 : AV) (s : AS) (R : AV → AS → Prop) : Prop :=
 RdI .i64 (alenB T Y_s_uint64 a0 s) fun n1 => bsplit (decide ((n1 : Int) < 1))
 (False)
 (IxQ (aindexAddr T Y_s_uint64 a0 (.int .i64 0)) fun l2 o3 => RdI .u64 (rd1 s l2 o3) fun n4 => LoopQ fun I5 m6 => I5 m6 [(.int .u64 n4), (.int .i64 1)] s ∧
 ∀ m7 : Nat, ∀ n8 : Int, ∀ n9 : Int, ∀ s10 : AS, I5 m7 [(.int .u64 n8), (.int .i64 n9)] s10 →
 RdI .i64 (alenB T Y_s_uint64 a0 s10) fun n11 => bsplit (decide ((n9 : Int) < n11))
 (IxQ (aindexAddr T Y_s_uint64 a0 (.int .i64 n9)) fun l12 o13 => RdI .u64 (rd1 s10 l12 o13) fun n14 => RdI .u64 (amax false [(.int .u64 n8), (.int .u64 n14)]) fun n15 => ∃ m', m' < m7 ∧ I5 m' [(.int .u64 n15), (.int .i64 (IntKind.wrap .i64 (n9 + 1)))] s10)
 (R (.int .u64 n8) s10))

def A_slices_Min__s_uint64iuint64 : QA := (.seq .leaf (.seq (.seq .leaf (.cond .leaf .leaf)) (.seq .leaf (.seq (.seq .leaf (.wrap (.loop [(3, .int .u64), (4, .int .i64)] [(3, 4), (12, 23)] (.seq (.seq .leaf (.cond .leaf .leaf)) (.seq (.wrap .leaf) .leaf))))) (.seq .leaf .leaf)))))

theorem q_slices_Min__s_uint64iuint64 (a0 : AV) (s : AS) (R : AV → AS → Prop) (h : Q_slices_Min__s_uint64iuint64 a0 s R) : ACalls Try.prog F_slices_Min__s_uint64iuint64 [a0] s R :=
  ACalls.q (n := 25) (rs := [.tmp 2]) (A := A_slices_Min__s_uint64iuint64) hT hmx Try.func67 (by kernel_rfl) rfl rfl rfl (by kernel_rfl) (by kernel_rfl) h

/-- what cmp.Or[int] asks -/
def Q_cmp_Or__int (a0 : AV) (s : AS) (R : AV → AS → Prop) : Prop :=
 RdI .i64 (alenB T Y_s_int a0 s) fun n1 => LoopQ fun I2 m3 => I2 m3 [(.int .i64 0)] s ∧
 ∀ m4 : Nat, ∀ n5 : Int, ∀ s6 : AS, I2 m4 [(.int .i64 n5)] s6 →
 bsplit (decide ((n5 : Int) < n1))
 (IxQ (aindexAddr T Y_s_int a0 (.int .i64 n5)) fun l7 o8 => RdI .i64 (rd1 s6 l7 o8) fun n9 => bsplit ((n9 : Int) != 0)
 (R (.int .i64 n9) s6)
 (∃ m', m' < m4 ∧ I2 m' [(.int .i64 (IntKind.wrap .i64 (n5 + 1)))] s6))
 (R (.int .i64 0) s6)

def A_cmp_Or__int : QA := (.seq .leaf (.seq .leaf (.seq (.seq .leaf (.wrap (.loop [(8, .int .i64)] [(2, 2), (5, 5), (8, 16)] (.seq .leaf (.seq (.cond .leaf .leaf) (.seq (.wrap (.seq .leaf (.seq .leaf (.cond (.seq .leaf .leaf) .leaf)))) .leaf)))))) (.seq .leaf .leaf))))

theorem q_cmp_Or__int (a0 : AV) (s : AS) (R : AV → AS → Prop) (h : Q_cmp_Or__int a0 s R) : ACalls Try.prog F_cmp_Or__int [a0] s R :=
  ACalls.q (n := 18) (rs := [.tmp 2]) (A := A_cmp_Or__int) hT hmx Try.func68 (by kernel_rfl) rfl rfl rfl (by kernel_rfl) (by kernel_rfl) h

/-- what cmp.Compare[int] asks -/
def Q_cmp_Compare__int (a0 : Int) (a1 : Int) (s : AS) (R : AV → AS → Prop) : Prop :=
 ACalls Try.prog F_cmp_isNaN__int [(.int .i64 a0)] s fun v1 s2 => ∃ b3 : Bool, v1 = .bool b3 ∧ (ACalls Try.prog F_cmp_isNaN__int [(.int .i64 a1)] s2 fun v4 s5 => ∃ b6 : Bool, v4 = .bool b6 ∧ (bsplit b3
 (bsplit b6
 (R (.int .i64 0) s5)
 (R (.int .i64 (-1)) s5))
 (bsplit b6
 (R (.int .i64 1) s5)
 (bsplit (decide ((a0 : Int) < a1))
 (R (.int .i64 (-1)) s5)
 (bsplit (decide ((a0 : Int) > a1))
 (R (.int .i64 1) s5)
 (R (.int .i64 0) s5))))))

def A_cmp_Compare__int : QA := (.seq .leaf (.seq .leaf (.seq .leaf (.seq (.seq .leaf (.cond (.seq (.seq .leaf (.cond (.seq .leaf .leaf) .leaf)) (.seq .leaf .leaf)) .leaf)) (.seq (.seq .leaf (.cond (.seq .leaf .leaf) .leaf)) (.seq (.seq .leaf (.cond (.seq .leaf .leaf) .leaf)) (.seq (.seq .leaf (.cond (.seq .leaf .leaf) .leaf)) (.seq .leaf .leaf))))))))

theorem q_cmp_Compare__int (a0 : Int) (a1 : Int) (s : AS) (R : AV → AS → Prop) (h : Q_cmp_Compare__int a0 a1 s R) : ACalls Try.prog F_cmp_Compare__int [(.int .i64 a0), (.int .i64 a1)] s R :=
  ACalls.q (n := 20) (rs := [.tmp 4]) (A := A_cmp_Compare__int) hT hmx Try.func69 (by kernel_rfl) rfl rfl rfl (by kernel_rfl) (by kernel_rfl) h

/-- what cmp.Compare[uint64] asks -/
def Q_cmp_Compare__uint64 (a0 : Int) (a1 : Int) (s : AS) (R : AV → AS → Prop) : Prop :=
 ACalls Try.prog F_cmp_isNaN__uint64 [(.int .u64 a0)] s fun v1 s2 => ∃ b3 : Bool, v1 = .bool b3 ∧ (ACalls Try.prog F_cmp_isNaN__uint64 [(.int .u64 a1)] s2 fun v4 s5 => ∃ b6 : Bool, v4 = .bool b6 ∧ (bsplit b3
 (bsplit b6
 (R (.int .i64 0) s5)
 (R (.int .i64 (-1)) s5))
 (bsplit b6
 (R (.int .i64 1) s5)
 (bsplit (decide ((a0 : Int) < a1))
 (R (.int .i64 (-1)) s5)
 (bsplit (decide ((a0 : Int) > a1))
 (R (.int .i64 1) s5)
 (R (.int .i64 0) s5))))))

def A_cmp_Compare__uint64 : QA := (.seq .leaf (.seq .leaf (.seq .leaf (.seq (.seq .leaf (.cond (.seq (.seq .leaf (.cond (.seq .leaf .leaf) .leaf)) (.seq .leaf .leaf)) .leaf)) (.seq (.seq .leaf (.cond (.seq .leaf .leaf) .leaf)) (.seq (.seq .leaf (.cond (.seq .leaf .leaf) .leaf)) (.seq (.seq .leaf (.cond (.seq .leaf .leaf) .leaf)) (.seq .leaf .leaf))))))))

theorem q_cmp_Compare__uint64 (a0 : Int) (a1 : Int) (s : AS) (R : AV → AS → Prop) (h : Q_cmp_Compare__uint64 a0 a1 s R) : ACalls Try.prog F_cmp_Compare__uint64 [(.int .u64 a0), (.int .u64 a1)] s R :=
  ACalls.q (n := 20) (rs := [.tmp 4]) (A := A_cmp_Compare__uint64) hT hmx Try.func70 (by kernel_rfl) rfl rfl rfl (by kernel_rfl) (by kernel_rfl) h

-- NO BODY 71 slices.overlaps[minster/api.Dot]
/-- what slices.rotateRight[minster/api.Dot] asks -/
def Q_slices_rotateRight__Dot (a0 : AV) (a1 : Int) (s : AS) (R : AV → AS → Prop) : Prop :=
 RdI .i64 (alenB T Y_s_Dot a0 s) fun n1 => ACalls Try.prog F_slices_rotateLeft__Dot [a0, (.int .i64 (IntKind.wrap .i64 (n1 - a1)))] s fun v2 s3 => v2 = .tup [] ∧ (R (.tup []) s3)

def A_slices_rotateRight__Dot : QA := .leaf

theorem q_slices_rotateRight__Dot (a0 : AV) (a1 : Int) (s : AS) (R : AV → AS → Prop) (h : Q_slices_rotateRight__Dot a0 a1 s R) : ACalls Try.prog F_slices_rotateRight__Dot [a0, (.int .i64 a1)] s R :=
  ACalls.q (n := 10) (rs := []) (A := A_slices_rotateRight__Dot) hT hmx Try.func72 (by kernel_rfl) rfl rfl rfl (by kernel_rfl) (by kernel_rfl) h

/-- what slices.Grow[[]minster/api.Dot,minster/api.Dot] asks -/
def Q_slices_Grow__s_Dot_Dot (a0 : AV) (a1 : Int) (s : AS) (R : AV → AS → Prop) : Prop :=
 bsplit (decide ((a1 : Int) < 0))
 (False)
 (RdI .i64 (acapB T Y_s_Dot a0) fun n1 => RdI .i64 (alenB T Y_s_Dot a0 s) fun n2 => bsplit (decide ((IntKind.wrap .i64 (a1 - (IntKind.wrap .i64 (n1 - n2))) : Int) > 0))
 (RdI .i64 (acapB T Y_s_Dot a0) fun n3 => RdA (aslice T Y_s_Dot a0 none (some (.int .i64 n3)) none) fun v4 => Bd2 (aappend T Y_s_Dot Y_int v4 (.int .i64 (IntKind.wrap .i64 (a1 - (IntKind.wrap .i64 (n1 - n2))))) s) fun v5 s6 => RdI .i64 (alenB T Y_s_Dot a0 s6) fun n7 => RdA (aslice T Y_s_Dot v5 none (some (.int .i64 n7)) none) fun v8 => R v8 s6)
 (R a0 s))

def A_slices_Grow__s_Dot_Dot : QA := (.seq .leaf (.seq (.seq .leaf (.cond .leaf .leaf)) (.seq (.seq .leaf (.seq .leaf (.cond .leaf .leaf))) (.seq .leaf .leaf))))

theorem q_slices_Grow__s_Dot_Dot (a0 : AV) (a1 : Int) (s : AS) (R : AV → AS → Prop) (h : Q_slices_Grow__s_Dot_Dot a0 a1 s R) : ACalls Try.prog F_slices_Grow__s_Dot_Dot [a0, (.int .i64 a1)] s R :=
  ACalls.q (n := 27) (rs := [.tmp 4]) (A := A_slices_Grow__s_Dot_Dot) hT hmx Try.func73 (by kernel_rfl) rfl rfl rfl (by kernel_rfl) (by kernel_rfl) h

/-- what slices.pdqsortCmpFunc[minster/api.Dot] asks -/
def Q_slices_pdqsortCmpFunc__Dot (a0 : AV) (a1 : Int) (a2 : Int) (a3 : Int) (a4 : AV) (s : AS) (R : AV → AS → Prop) : Prop :=
 LoopQ fun I1 m2 => I1 m2 [(.int .i64 a1), (.int .i64 a2), (.int .i64 a3), (.bool true), (.bool true)] s ∧
 ∀ m3 : Nat, ∀ n4 : Int, ∀ n5 : Int, ∀ n6 : Int, ∀ b7 : Bool, ∀ b8 : Bool, ∀ s9 : AS, I1 m3 [(.int .i64 n4), (.int .i64 n5), (.int .i64 n6), (.bool b7), (.bool b8)] s9 →
 bsplit (decide ((IntKind.wrap .i64 (n5 - n4) : Int) ≤ 12))
 (ACalls Try.prog F_slices_insertionSortCmpFunc__Dot [a0, (.int .i64 n4), (.int .i64 n5), a4] s9 fun v10 s11 => v10 = .tup [] ∧ (R (.tup []) s11))
 (bsplit ((n6 : Int) == 0)
 (ACalls Try.prog F_slices_heapSortCmpFunc__Dot [a0, (.int .i64 n4), (.int .i64 n5), a4] s9 fun v12 s13 => v12 = .tup [] ∧ (R (.tup []) s13))
 (JoinQ fun J14 =>
 (∀ n15 : Int, ∀ s16 : AS, J14 [(.int .i64 n15)] s16 →
 ACalls Try.prog F_slices_choosePivotCmpFunc__Dot [a0, (.int .i64 n4), (.int .i64 n5), a4] s16 fun v17 s18 => ∃ n19 : Int, ∃ n20 : Int, v17 = .tup [(.int .i64 n19), (.int .i64 n20)] ∧ (JoinQ fun J21 =>
 (∀ n22 : Int, ∀ n23 : Int, ∀ s24 : AS, J21 [(.int .i64 n22), (.int .i64 n23)] s24 →
 JoinQ fun J25 =>
 (∀ s26 : AS, J25 [] s26 →
 JoinQ fun J27 =>
 (∀ b28 : Bool, ∀ s29 : AS, J27 [(.bool b28)] s29 →
 bsplit b28
 (ACalls Try.prog F_slices_partitionEqualCmpFunc__Dot [a0, (.int .i64 n4), (.int .i64 n5), (.int .i64 n22), a4] s29 fun v30 s31 => ∃ n32 : Int, v30 = .int .i64 n32 ∧ (∃ m', m' < m3 ∧ I1 m' [(.int .i64 n32), (.int .i64 n5), (.int .i64 n15), (.bool b7), (.bool b8)] s31))
 (ACalls Try.prog F_slices_partitionCmpFunc__Dot [a0, (.int .i64 n4), (.int .i64 n5), (.int .i64 n22), a4] s29 fun v33 s34 => ∃ n35 : Int, ∃ b36 : Bool, v33 = .tup [(.int .i64 n35), (.bool b36)] ∧ (NZ 8 (bsplit (decide ((IntKind.wrap .i64 (n35 - n4) : Int) < (IntKind.wrap .i64 (n5 - n35))))
 (ACalls Try.prog F_slices_pdqsortCmpFunc__Dot [a0, (.int .i64 n4), (.int .i64 n35), (.int .i64 n15), a4] s34 fun v37 s38 => v37 = .tup [] ∧ (∃ m', m' < m3 ∧ I1 m' [(.int .i64 (IntKind.wrap .i64 (n35 + 1))), (.int .i64 n5), (.int .i64 n15), (.bool (decide ((IntKind.wrap .i64 (n35 - n4) : Int) ≥ (IntKind.wrap .i64 (Int.tdiv (IntKind.wrap .i64 (n5 - n4)) 8))))), (.bool b36)] s38))
 (ACalls Try.prog F_slices_pdqsortCmpFunc__Dot [a0, (.int .i64 (IntKind.wrap .i64 (n35 + 1))), (.int .i64 n5), (.int .i64 n15), a4] s34 fun v39 s40 => v39 = .tup [] ∧ (∃ m', m' < m3 ∧ I1 m' [(.int .i64 n4), (.int .i64 n35), (.int .i64 n15), (.bool (decide ((IntKind.wrap .i64 (n5 - n35) : Int) ≥ (IntKind.wrap .i64 (Int.tdiv (IntKind.wrap .i64 (n5 - n4)) 8))))), (.bool b36)] s40)))))) ∧
 (bsplit (decide ((n4 : Int) > 0)) (IxQ (aindexAddr T Y_s_Dot a0 (.int .i64 (IntKind.wrap .i64 (n4 - 1)))) fun l41 o42 => RdL (rdc s26 l41 o42 2) fun g43 => IxQ (aindexAddr T Y_s_Dot a0 (.int .i64 n22)) fun l44 o45 => RdL (rdc s26 l44 o45 2) fun g46 => ACallV Try.prog a4 [(.agg g43), (.agg g46)] s26 fun v47 s48 => ∃ n49 : Int, v47 = .int .i64 n49 ∧ (J27 [(.bool (!(decide ((n49 : Int) < 0))))] s48)) (J27 [(.bool false)] s26))) ∧
 (JoinQ fun J50 =>
 (∀ b51 : Bool, ∀ s52 : AS, J50 [(.bool b51)] s52 →
 bsplit b51
 (ACalls Try.prog F_slices_partialInsertionSortCmpFunc__Dot [a0, (.int .i64 n4), (.int .i64 n5), a4] s52 fun v53 s54 => ∃ b55 : Bool, v53 = .bool b55 ∧ (bsplit b55
 (R (.tup []) s54)
 (J25 [] s54)))
 (J25 [] s52)) ∧
 (bsplit b7 (bsplit b8 (J50 [(.bool ((n23 : Int) == 1))] s24) (J50 [(.bool false)] s24)) (J50 [(.bool false)] s24)))) ∧
 (bsplit ((n20 : Int) == 2)
 (ACalls Try.prog F_slices_reverseRangeCmpFunc__Dot [a0, (.int .i64 n4), (.int .i64 n5), a4] s18 fun v56 s57 => v56 = .tup [] ∧ (J21 [(.int .i64 (IntKind.wrap .i64 ((IntKind.wrap .i64 (n5 - 1)) - (IntKind.wrap .i64 (n19 - n4))))), (.int .i64 1)] s57))
 (J21 [(.int .i64 n19), (.int .i64 n20)] s18)))) ∧
 (bsplit (!b7)
 (ACalls Try.prog F_slices_breakPatternsCmpFunc__Dot [a0, (.int .i64 n4), (.int .i64 n5), a4] s9 fun v58 s59 => v58 = .tup [] ∧ (J14 [(.int .i64 (IntKind.wrap .i64 (n6 - 1)))] s59))
 (J14 [(.int .i64 n6)] s9))))

def A_slices_pdqsortCmpFunc__Dot : QA := (.seq .leaf (.seq .leaf (.wrap (.loop [(1, .int .i64), (2, .int .i64), (3, .int .i64), (10, .bool), (11, .bool)] [(1, 3), (10, 147)] (.wrap (.seq .leaf (.seq (.seq .leaf (.cond (.seq .leaf .leaf) .leaf)) (.seq (.seq .leaf (.cond (.seq .leaf .leaf) .leaf)) (.join [(3, .int .i64)] [(3, 3), (38, 46)] (.seq .leaf (.cond (.seq .leaf .leaf) .leaf)) (.seq .leaf (.join [(13, .int .i64), (14, .int .i64)] [(13, 14), (55, 67)] (.seq .leaf (.cond (.seq .leaf (.seq .leaf .leaf)) .leaf)) (.join [] [(68, 80)] (.join [(75, .bool)] [(68, 75)] .leaf (.cond (.seq .leaf (.cond .leaf .leaf)) .leaf)) (.seq (.join [(97, .bool)] [(81, 97)] (.draw 13) (.cond (.seq .leaf (.seq .leaf .leaf)) .leaf)) (.seq .leaf (.seq .leaf (.seq .leaf (.seq .leaf (.seq .leaf (.cond (.seq .leaf (.seq .leaf .leaf)) (.seq .leaf (.seq .leaf .leaf)))))))))))))))))))))

theorem q_slices_pdqsortCmpFunc__Dot (a0 : AV) (a1 : Int) (a2 : Int) (a3 : Int) (a4 : AV) (s : AS) (R : AV → AS → Prop) (h : Q_slices_pdqsortCmpFunc__Dot a0 a1 a2 a3 a4 s R) : ACalls Try.prog F_slices_pdqsortCmpFunc__Dot [a0, (.int .i64 a1), (.int .i64 a2), (.int .i64 a3), a4] s R :=
  ACalls.q (n := 148) (rs := []) (A := A_slices_pdqsortCmpFunc__Dot) hT hmx Try.func74 (by kernel_rfl) rfl rfl rfl (by kernel_rfl) (by kernel_rfl) h

/-- what math/bits.Len asks -/
def Q_math_bits_Len (a0 : Int) (s : AS) (R : AV → AS → Prop) : Prop :=
 ACalls Try.prog F_math_bits_Len64 [(.int .u64 a0)] s fun v1 s2 => ∃ n3 : Int, v1 = .int .i64 n3 ∧ (R (.int .i64 n3) s2)

def A_math_bits_Len : QA := (.seq .leaf (.seq (.cond (.seq .leaf .leaf) .leaf) (.seq .leaf .leaf)))

theorem q_math_bits_Len (a0 : Int) (s : AS) (R : AV → AS → Prop) (h : Q_math_bits_Len a0 s R) : ACalls Try.prog F_math_bits_Len [(.int .u64 a0)] s R :=
  ACalls.q (n := 8) (rs := [.tmp 2]) (A := A_math_bits_Len) hT hmx Try.func75 (by kernel_rfl) rfl rfl rfl (by kernel_rfl) (by kernel_rfl) h

/-- what cmp.isNaN[int] asks -/
def Q_cmp_isNaN__int (a0 : Int) (s : AS) (R : AV → AS → Prop) : Prop :=
 R (.bool ((a0 : Int) != a0)) s

def A_cmp_isNaN__int : QA := (.seq .leaf (.seq .leaf .leaf))

theorem q_cmp_isNaN__int (a0 : Int) (s : AS) (R : AV → AS → Prop) (h : Q_cmp_isNaN__int a0 s R) : ACalls Try.prog F_cmp_isNaN__int [(.int .i64 a0)] s R :=
  ACalls.q (n := 6) (rs := [.tmp 2]) (A := A_cmp_isNaN__int) hT hmx Try.func76 (by kernel_rfl) rfl rfl rfl (by kernel_rfl) (by kernel_rfl) h

/-- what cmp.isNaN[uint64] asks -/
def Q_cmp_isNaN__uint64 (a0 : Int) (s : AS) (R : AV → AS → Prop) : Prop :=
 R (.bool ((a0 : Int) != a0)) s

def A_cmp_isNaN__uint64 : QA := (.seq .leaf (.seq .leaf .leaf))

theorem q_cmp_isNaN__uint64 (a0 : Int) (s : AS) (R : AV → AS → Prop) (h : Q_cmp_isNaN__uint64 a0 s R) : ACalls Try.prog F_cmp_isNaN__uint64 [(.int .u64 a0)] s R :=
  ACalls.q (n := 6) (rs := [.tmp 2]) (A := A_cmp_isNaN__uint64) hT hmx Try.func77 (by kernel_rfl) rfl rfl rfl (by kernel_rfl) (by kernel_rfl) h

/-- what slices.rotateLeft[minster/api.Dot] asks -/
def Q_slices_rotateLeft__Dot (a0 : AV) (a1 : Int) (s : AS) (R : AV → AS → Prop) : Prop :=
 RdA (aslice T Y_s_Dot a0 none (some (.int .i64 a1)) none) fun v1 => ACalls Try.prog F_slices_Reverse__s_Dot_Dot [v1] s fun v2 s3 => v2 = .tup [] ∧ (RdA (aslice T Y_s_Dot a0 (some (.int .i64 a1)) none none) fun v4 => ACalls Try.prog F_slices_Reverse__s_Dot_Dot [v4] s3 fun v5 s6 => v5 = .tup [] ∧ (ACalls Try.prog F_slices_Reverse__s_Dot_Dot [a0] s6 fun v7 s8 => v7 = .tup [] ∧ (R (.tup []) s8)))

def A_slices_rotateLeft__Dot : QA := (.seq .leaf (.seq .leaf .leaf))

theorem q_slices_rotateLeft__Dot (a0 : AV) (a1 : Int) (s : AS) (R : AV → AS → Prop) (h : Q_slices_rotateLeft__Dot a0 a1 s R) : ACalls Try.prog F_slices_rotateLeft__Dot [a0, (.int .i64 a1)] s R :=
  ACalls.q (n := 14) (rs := []) (A := A_slices_rotateLeft__Dot) hT hmx Try.func78 (by kernel_rfl) rfl rfl rfl (by kernel_rfl) (by kernel_rfl) h

/-- what slices.insertionSortCmpFunc[minster/api.Dot] asks -/
def Q_slices_insertionSortCmpFunc__Dot (a0 : AV) (a1 : Int) (a2 : Int) (a3 : AV) (s : AS) (R : AV → AS → Prop) : Prop :=
 LoopQ fun I1 m2 => I1 m2 [(.int .i64 (IntKind.wrap .i64 (a1 + 1)))] s ∧
 ∀ m3 : Nat, ∀ n4 : Int, ∀ s5 : AS, I1 m3 [(.int .i64 n4)] s5 →
 bsplit (decide ((n4 : Int) < a2))
 (LoopQ fun I6 m7 => I6 m7 [(.int .i64 n4)] s5 ∧
 ∀ m8 : Nat, ∀ n9 : Int, ∀ s10 : AS, I6 m8 [(.int .i64 n9)] s10 →
 bsplit (decide ((n9 : Int) > a1)) (IxQ (aindexAddr T Y_s_Dot a0 (.int .i64 n9)) fun l11 o12 => RdL (rdc s10 l11 o12 2) fun g13 => IxQ (aindexAddr T Y_s_Dot a0 (.int .i64 (IntKind.wrap .i64 (n9 - 1)))) fun l14 o15 => RdL (rdc s10 l14 o15 2) fun g16 => ACallV Try.prog a3 [(.agg g13), (.agg g16)] s10 fun v17 s18 => ∃ n19 : Int, v17 = .int .i64 n19 ∧ (bsplit (decide ((n19 : Int) < 0))
 (DrawQ fun S V => IxQ (aindexAddr T Y_s_Dot a0 (.int .i64 (IntKind.wrap .i64 (n9 - 1)))) fun l20 o21 => RdL (rdc s18 l20 o21 2) fun g22 => IxQ (aindexAddr T Y_s_Dot a0 (.int .i64 n9)) fun l23 o24 => RdL (rdc s18 l23 o24 2) fun g25 => IxQ (aindexAddr T Y_s_Dot a0 (.int .i64 n9)) fun l26 o27 => (∀ s28 : AS, Ext s18 s28 → WFs s28 → (True) → OkC (some 2) g22 (StQ (awr s28 l26 o27 g22) fun s29 => (Ext s28 s29 ∧ S 15 [(.ptr (some (l26, o27))), (.agg g22)] (.tup []) s29 ∧ V 15 [(.ptr (some (l26, o27))), (.agg g22)] (.tup [])))) ∧ (∃ v, V 15 [(.ptr (some (l26, o27))), (.agg g22)] v) ∧ ∀ v30 : AV, V 15 [(.ptr (some (l26, o27))), (.agg g22)] v30 → v30 = .tup [] ∧ (∀ s31 : AS, Ext s18 s31 → WFs s31 → (S 15 [(.ptr (some (l26, o27))), (.agg g22)] (.tup []) s31 ∧ True) → IxQ (aindexAddr T Y_s_Dot a0 (.int .i64 (IntKind.wrap .i64 (n9 - 1)))) fun l33 o34 => OkC (some 2) g25 (StQ (awr s31 l33 o34 g25) fun s35 => ∃ m', m' < m8 ∧ I6 m' [(.int .i64 (IntKind.wrap .i64 (n9 - 1)))] s35)))
 (∃ m', m' < m3 ∧ I1 m' [(.int .i64 (IntKind.wrap .i64 (n4 + 1)))] s18))) (∃ m', m' < m3 ∧ I1 m' [(.int .i64 (IntKind.wrap .i64 (n4 + 1)))] s10))
 (R (.tup []) s5)

def A_slices_insertionSortCmpFunc__Dot : QA := (.seq .leaf (.wrap (.loop [(8, .int .i64)] [(8, 9), (12, 52)] (.seq (.seq .leaf (.cond .leaf .leaf)) (.seq (.wrap (.seq .leaf (.wrap (.loop [(9, .int .i64)] [(9, 9), (18, 52)] (.seq (.seq (.draw 14) (.cond .leaf .leaf)) (.seq (.wrap (.drawH 16 [[], [], [], [], [], [], [], [], [], [], [], [], [], [], [], []] [15])) .leaf)))))) .leaf)))))

theorem q_slices_insertionSortCmpFunc__Dot (a0 : AV) (a1 : Int) (a2 : Int) (a3 : AV) (s : AS) (R : AV → AS → Prop) (h : Q_slices_insertionSortCmpFunc__Dot a0 a1 a2 a3 s R) : ACalls Try.prog F_slices_insertionSortCmpFunc__Dot [a0, (.int .i64 a1), (.int .i64 a2), a3] s R :=
  ACalls.q (n := 53) (rs := []) (A := A_slices_insertionSortCmpFunc__Dot) hT hmx Try.func79 (by kernel_rfl) rfl rfl rfl (by kernel_rfl) (by kernel_rfl) h

/-- what slices.heapSortCmpFunc[minster/api.Dot] asks -/
def Q_slices_heapSortCmpFunc__Dot (a0 : AV) (a1 : Int) (a2 : Int) (a3 : AV) (s : AS) (R : AV → AS → Prop) : Prop :=
 JoinQ fun J1 =>
 (∀ s2 : AS, J1 [] s2 →
 LoopQ fun I3 m4 => I3 m4 [(.int .i64 (IntKind.wrap .i64 ((IntKind.wrap .i64 (a2 - a1)) - 1)))] s2 ∧
 ∀ m5 : Nat, ∀ n6 : Int, ∀ s7 : AS, I3 m5 [(.int .i64 n6)] s7 →
 bsplit (decide ((n6 : Int) ≥ 0))
 (DrawQ fun S V => IxQ (aindexAddr T Y_s_Dot a0 (.int .i64 (IntKind.wrap .i64 (a1 + n6)))) fun l8 o9 => RdL (rdc s7 l8 o9 2) fun g10 => IxQ (aindexAddr T Y_s_Dot a0 (.int .i64 a1)) fun l11 o12 => RdL (rdc s7 l11 o12 2) fun g13 => IxQ (aindexAddr T Y_s_Dot a0 (.int .i64 a1)) fun l14 o15 => (∀ s16 : AS, Ext s7 s16 → WFs s16 → (True) → OkC (some 2) g10 (StQ (awr s16 l14 o15 g10) fun s17 => (Ext s16 s17 ∧ S 17 [(.ptr (some (l14, o15))), (.agg g10)] (.tup []) s17 ∧ V 17 [(.ptr (some (l14, o15))), (.agg g10)] (.tup [])))) ∧ (∃ v, V 17 [(.ptr (some (l14, o15))), (.agg g10)] v) ∧ ∀ v18 : AV, V 17 [(.ptr (some (l14, o15))), (.agg g10)] v18 → v18 = .tup [] ∧ (∀ s19 : AS, Ext s7 s19 → WFs s19 → (S 17 [(.ptr (some (l14, o15))), (.agg g10)] (.tup []) s19 ∧ True) → IxQ (aindexAddr T Y_s_Dot a0 (.int .i64 (IntKind.wrap .i64 (a1 + n6)))) fun l21 o22 => OkC (some 2) g13 (StQ (awr s19 l21 o22 g13) fun s23 => ACalls Try.prog F_slices_siftDownCmpFunc__Dot [a0, (.int .i64 0), (.int .i64 n6), (.int .i64 a1), a3] s23 fun v24 s25 => v24 = .tup [] ∧ (∃ m', m' < m5 ∧ I3 m' [(.int .i64 (IntKind.wrap .i64 (n6 - 1)))] s25))))
 (R (.tup []) s7)) ∧
 (NZ 2 (LoopQ fun I26 m27 => I26 m27 [(.int .i64 (IntKind.wrap .i64 (Int.tdiv (IntKind.wrap .i64 ((IntKind.wrap .i64 (a2 - a1)) - 1)) 2)))] s ∧
 ∀ m28 : Nat, ∀ n29 : Int, ∀ s30 : AS, I26 m28 [(.int .i64 n29)] s30 →
 bsplit (decide ((n29 : Int) ≥ 0))
 (ACalls Try.prog F_slices_siftDownCmpFunc__Dot [a0, (.int .i64 n29), (.int .i64 (IntKind.wrap .i64 (a2 - a1))), (.int .i64 a1), a3] s30 fun v31 s32 => v31 = .tup [] ∧ (∃ m', m' < m28 ∧ I26 m' [(.int .i64 (IntKind.wrap .i64 (n29 - 1)))] s32))
 (J1 [] s30)))

def A_slices_heapSortCmpFunc__Dot : QA := (.seq .leaf (.seq .leaf (.seq .leaf (.join [] [(11, 11), (17, 29)] (.seq .leaf (.wrap (.loop [(11, .int .i64)] [(11, 11), (20, 29)] (.seq (.seq .leaf (.cond .leaf .leaf)) (.seq (.wrap .leaf) .leaf))))) (.seq .leaf (.wrap (.loop [(12, .int .i64)] [(12, 12), (32, 59)] (.seq (.seq .leaf (.cond .leaf .leaf)) (.seq (.wrap (.seq (.drawH 18 [[], [], [], [], [], [], [], [], [], [], [], [], [], [], [], [], [], []] [17]) .leaf)) .leaf)))))))))

theorem q_slices_heapSortCmpFunc__Dot (a0 : AV) (a1 : Int) (a2 : Int) (a3 : AV) (s : AS) (R : AV → AS → Prop) (h : Q_slices_heapSortCmpFunc__Dot a0 a1 a2 a3 s R) : ACalls Try.prog F_slices_heapSortCmpFunc__Dot [a0, (.int .i64 a1), (.int .i64 a2), a3] s R :=
  ACalls.q (n := 60) (rs := []) (A := A_slices_heapSortCmpFunc__Dot) hT hmx Try.func80 (by kernel_rfl) rfl rfl rfl (by kernel_rfl) (by kernel_rfl) h

-- NOT PRINTED 81 slices.breakPatternsCmpFunc[minster/api.Dot]: convert
/-- what slices.choosePivotCmpFunc[minster/api.Dot] asks -/
def Q_slices_choosePivotCmpFunc__Dot (a0 : AV) (a1 : Int) (a2 : Int) (a3 : AV) (s : AS) (R : AV → AS → Prop) : Prop :=
 NewQ (.cells [(.int .i64 0)] 0 false) s fun l1 s2 => NZ 4 (NZ 4 (NZ 4 (JoinQ fun J3 =>
 (∀ n4 : Int, ∀ s5 : AS, J3 [(.int .i64 n4)] s5 →
 RdI .i64 (rd1 s5 l1 0) fun n6 => bsplit ((n6 : Int) == 0)
 (R (.tup [(.int .i64 n4), (.int .i64 1)]) s5)
 (bsplit ((n6 : Int) == 12)
 (R (.tup [(.int .i64 n4), (.int .i64 2)]) s5)
 (R (.tup [(.int .i64 n4), (.int .i64 0)]) s5))) ∧
 (bsplit (decide ((IntKind.wrap .i64 (a2 - a1) : Int) ≥ 8))
 (JoinQ fun J7 =>
 (∀ n8 : Int, ∀ n9 : Int, ∀ n10 : Int, ∀ s11 : AS, J7 [(.int .i64 n8), (.int .i64 n9), (.int .i64 n10)] s11 →
 ACalls Try.prog F_slices_medianCmpFunc__Dot [a0, (.int .i64 n8), (.int .i64 n9), (.int .i64 n10), (.ptr (some (l1, 0))), a3] s11 fun v12 s13 => ∃ n14 : Int, v12 = .int .i64 n14 ∧ (J3 [(.int .i64 n14)] s13)) ∧
 (bsplit (decide ((IntKind.wrap .i64 (a2 - a1) : Int) ≥ 50))
 (ACalls Try.prog F_slices_medianAdjacentCmpFunc__Dot [a0, (.int .i64 (IntKind.wrap .i64 (a1 + (IntKind.wrap .i64 ((IntKind.wrap .i64 (Int.tdiv (IntKind.wrap .i64 (a2 - a1)) 4)) * 1))))), (.ptr (some (l1, 0))), a3] s2 fun v15 s16 => ∃ n17 : Int, v15 = .int .i64 n17 ∧ (ACalls Try.prog F_slices_medianAdjacentCmpFunc__Dot [a0, (.int .i64 (IntKind.wrap .i64 (a1 + (IntKind.wrap .i64 ((IntKind.wrap .i64 (Int.tdiv (IntKind.wrap .i64 (a2 - a1)) 4)) * 2))))), (.ptr (some (l1, 0))), a3] s16 fun v18 s19 => ∃ n20 : Int, v18 = .int .i64 n20 ∧ (ACalls Try.prog F_slices_medianAdjacentCmpFunc__Dot [a0, (.int .i64 (IntKind.wrap .i64 (a1 + (IntKind.wrap .i64 ((IntKind.wrap .i64 (Int.tdiv (IntKind.wrap .i64 (a2 - a1)) 4)) * 3))))), (.ptr (some (l1, 0))), a3] s19 fun v21 s22 => ∃ n23 : Int, v21 = .int .i64 n23 ∧ (J7 [(.int .i64 n17), (.int .i64 n20), (.int .i64 n23)] s22))))
 (J7 [(.int .i64 (IntKind.wrap .i64 (a1 + (IntKind.wrap .i64 ((IntKind.wrap .i64 (Int.tdiv (IntKind.wrap .i64 (a2 - a1)) 4)) * 1))))), (.int .i64 (IntKind.wrap .i64 (a1 + (IntKind.wrap .i64 ((IntKind.wrap .i64 (Int.tdiv (IntKind.wrap .i64 (a2 - a1)) 4)) * 2))))), (.int .i64 (IntKind.wrap .i64 (a1 + (IntKind.wrap .i64 ((IntKind.wrap .i64 (Int.tdiv (IntKind.wrap .i64 (a2 - a1)) 4)) * 3)))))] s2)))
 (J3 [(.int .i64 (IntKind.wrap .i64 (a1 + (IntKind.wrap .i64 ((IntKind.wrap .i64 (Int.tdiv (IntKind.wrap .i64 (a2 - a1)) 4)) * 2)))))] s2)))))

def A_slices_choosePivotCmpFunc__Dot : QA := (.seq .leaf (.seq .leaf (.seq .leaf (.seq .leaf (.seq .leaf (.seq .leaf (.join [(13, .int .i64)] [(12, 14), (33, 54)] (.seq .leaf (.cond (.join [(12, .int .i64), (13, .int .i64), (14, .int .i64)] [(12, 14), (35, 48)] (.seq .leaf (.cond (.seq .leaf (.seq .leaf .leaf)) .leaf)) .leaf) .leaf)) (.seq .leaf (.wrap (.seq .leaf (.cond (.seq .leaf .leaf) (.seq .leaf (.cond (.seq .leaf .leaf) (.seq .leaf .leaf))))))))))))))

theorem q_slices_choosePivotCmpFunc__Dot (a0 : AV) (a1 : Int) (a2 : Int) (a3 : AV) (s : AS) (R : AV → AS → Prop) (h : Q_slices_choosePivotCmpFunc__Dot a0 a1 a2 a3 s R) : ACalls Try.prog F_slices_choosePivotCmpFunc__Dot [a0, (.int .i64 a1), (.int .i64 a2), a3] s R :=
  ACalls.q (n := 63) (rs := [.tmp 8, .tmp 9]) (A := A_slices_choosePivotCmpFunc__Dot) hT hmx Try.func82 (by kernel_rfl) rfl rfl rfl (by kernel_rfl) (by kernel_rfl) h

/-- what slices.reverseRangeCmpFunc[minster/api.Dot] asks -/
def Q_slices_reverseRangeCmpFunc__Dot (a0 : AV) (a1 : Int) (a2 : Int) (a3 : AV) (s : AS) (R : AV → AS → Prop) : Prop :=
 LoopQ fun I1 m2 => I1 m2 [(.int .i64 a1), (.int .i64 (IntKind.wrap .i64 (a2 - 1)))] s ∧
 ∀ m3 : Nat, ∀ n4 : Int, ∀ n5 : Int, ∀ s6 : AS, I1 m3 [(.int .i64 n4), (.int .i64 n5)] s6 →
 bsplit (decide ((n4 : Int) < n5))
 (DrawQ fun S V => IxQ (aindexAddr T Y_s_Dot a0 (.int .i64 n5)) fun l7 o8 => RdL (rdc s6 l7 o8 2) fun g9 => IxQ (aindexAddr T Y_s_Dot a0 (.int .i64 n4)) fun l10 o11 => RdL (rdc s6 l10 o11 2) fun g12 => IxQ (aindexAddr T Y_s_Dot a0 (.int .i64 n4)) fun l13 o14 => (∀ s15 : AS, Ext s6 s15 → WFs s15 → (True) → OkC (some 2) g9 (StQ (awr s15 l13 o14 g9) fun s16 => (Ext s15 s16 ∧ S 13 [(.ptr (some (l13, o14))), (.agg g9)] (.tup []) s16 ∧ V 13 [(.ptr (some (l13, o14))), (.agg g9)] (.tup [])))) ∧ (∃ v, V 13 [(.ptr (some (l13, o14))), (.agg g9)] v) ∧ ∀ v17 : AV, V 13 [(.ptr (some (l13, o14))), (.agg g9)] v17 → v17 = .tup [] ∧ (∀ s18 : AS, Ext s6 s18 → WFs s18 → (S 13 [(.ptr (some (l13, o14))), (.agg g9)] (.tup []) s18 ∧ True) → IxQ (aindexAddr T Y_s_Dot a0 (.int .i64 n5)) fun l20 o21 => OkC (some 2) g12 (StQ (awr s18 l20 o21 g12) fun s22 => ∃ m', m' < m3 ∧ I1 m' [(.int .i64 (IntKind.wrap .i64 (n4 + 1))), (.int .i64 (IntKind.wrap .i64 (n5 - 1)))] s22)))
 (R (.tup []) s6)

def A_slices_reverseRangeCmpFunc__Dot : QA := (.seq .leaf (.seq .leaf (.wrap (.loop [(8, .int .i64), (9, .int .i64)] [(8, 9), (13, 33)] (.seq (.seq .leaf (.cond .leaf .leaf)) (.wrap (.seq (.drawH 14 [[], [], [], [], [], [], [], [], [], [], [], [], [], []] [13]) (.seq .leaf .leaf))))))))

theorem q_slices_reverseRangeCmpFunc__Dot (a0 : AV) (a1 : Int) (a2 : Int) (a3 : AV) (s : AS) (R : AV → AS → Prop) (h : Q_slices_reverseRangeCmpFunc__Dot a0 a1 a2 a3 s R) : ACalls Try.prog F_slices_reverseRangeCmpFunc__Dot [a0, (.int .i64 a1), (.int .i64 a2), a3] s R :=
  ACalls.q (n := 34) (rs := []) (A := A_slices_reverseRangeCmpFunc__Dot) hT hmx Try.func83 (by kernel_rfl) rfl rfl rfl (by kernel_rfl) (by kernel_rfl) h

/-- what slices.partialInsertionSortCmpFunc[minster/api.Dot] asks -/
def Q_slices_partialInsertionSortCmpFunc__Dot (a0 : AV) (a1 : Int) (a2 : Int) (a3 : AV) (s : AS) (R : AV → AS → Prop) : Prop :=
 LoopQ fun I1 m2 => I1 m2 [(.int .i64 (IntKind.wrap .i64 (a1 + 1))), (.int .i64 0)] s ∧
 ∀ m3 : Nat, ∀ n4 : Int, ∀ n5 : Int, ∀ s6 : AS, I1 m3 [(.int .i64 n4), (.int .i64 n5)] s6 →
 bsplit (decide ((n5 : Int) < 5))
 (JoinQ fun J7 =>
 (∀ n8 : Int, ∀ s9 : AS, J7 [(.int .i64 n8)] s9 →
 bsplit ((n8 : Int) == a2)
 (R (.bool true) s9)
 (bsplit (decide ((IntKind.wrap .i64 (a2 - a1) : Int) < 50))
 (R (.bool false) s9)
 (DrawQ fun S V => IxQ (aindexAddr T Y_s_Dot a0 (.int .i64 (IntKind.wrap .i64 (n8 - 1)))) fun l10 o11 => RdL (rdc s9 l10 o11 2) fun g12 => IxQ (aindexAddr T Y_s_Dot a0 (.int .i64 n8)) fun l13 o14 => RdL (rdc s9 l13 o14 2) fun g15 => IxQ (aindexAddr T Y_s_Dot a0 (.int .i64 n8)) fun l16 o17 => (∀ s18 : AS, Ext s9 s18 → WFs s18 → (True) → OkC (some 2) g12 (StQ (awr s18 l16 o17 g12) fun s19 => (Ext s18 s19 ∧ S 15 [(.ptr (some (l16, o17))), (.agg g12)] (.tup []) s19 ∧ V 15 [(.ptr (some (l16, o17))), (.agg g12)] (.tup [])))) ∧ (∃ v, V 15 [(.ptr (some (l16, o17))), (.agg g12)] v) ∧ ∀ v20 : AV, V 15 [(.ptr (some (l16, o17))), (.agg g12)] v20 → v20 = .tup [] ∧ (∀ s21 : AS, Ext s9 s21 → WFs s21 → (S 15 [(.ptr (some (l16, o17))), (.agg g12)] (.tup []) s21 ∧ True) → IxQ (aindexAddr T Y_s_Dot a0 (.int .i64 (IntKind.wrap .i64 (n8 - 1)))) fun l23 o24 => OkC (some 2) g15 (StQ (awr s21 l23 o24 g15) fun s25 => JoinQ fun J26 =>
 (∀ s27 : AS, J26 [] s27 →
 bsplit (decide ((IntKind.wrap .i64 (a2 - n8) : Int) ≥ 2))
 (LoopQ fun I28 m29 => I28 m29 [(.int .i64 (IntKind.wrap .i64 (n8 + 1)))] s27 ∧
 ∀ m30 : Nat, ∀ n31 : Int, ∀ s32 : AS, I28 m30 [(.int .i64 n31)] s32 →
 bsplit (decide ((n31 : Int) < a2))
 (IxQ (aindexAddr T Y_s_Dot a0 (.int .i64 n31)) fun l33 o34 => RdL (rdc s32 l33 o34 2) fun g35 => IxQ (aindexAddr T Y_s_Dot a0 (.int .i64 (IntKind.wrap .i64 (n31 - 1)))) fun l36 o37 => RdL (rdc s32 l36 o37 2) fun g38 => ACallV Try.prog a3 [(.agg g35), (.agg g38)] s32 fun v39 s40 => ∃ n41 : Int, v39 = .int .i64 n41 ∧ (bsplit (!(decide ((n41 : Int) < 0)))
 (∃ m', m' < m3 ∧ I1 m' [(.int .i64 n8), (.int .i64 (IntKind.wrap .i64 (n5 + 1)))] s40)
 (DrawQ fun S V => IxQ (aindexAddr T Y_s_Dot a0 (.int .i64 (IntKind.wrap .i64 (n31 - 1)))) fun l42 o43 => RdL (rdc s40 l42 o43 2) fun g44 => IxQ (aindexAddr T Y_s_Dot a0 (.int .i64 n31)) fun l45 o46 => RdL (rdc s40 l45 o46 2) fun g47 => IxQ (aindexAddr T Y_s_Dot a0 (.int .i64 n31)) fun l48 o49 => (∀ s50 : AS, Ext s40 s50 → WFs s50 → (True) → OkC (some 2) g44 (StQ (awr s50 l48 o49 g44) fun s51 => (Ext s50 s51 ∧ S 15 [(.ptr (some (l48, o49))), (.agg g44)] (.tup []) s51 ∧ V 15 [(.ptr (some (l48, o49))), (.agg g44)] (.tup [])))) ∧ (∃ v, V 15 [(.ptr (some (l48, o49))), (.agg g44)] v) ∧ ∀ v52 : AV, V 15 [(.ptr (some (l48, o49))), (.agg g44)] v52 → v52 = .tup [] ∧ (∀ s53 : AS, Ext s40 s53 → WFs s53 → (S 15 [(.ptr (some (l48, o49))), (.agg g44)] (.tup []) s53 ∧ True) → IxQ (aindexAddr T Y_s_Dot a0 (.int .i64 (IntKind.wrap .i64 (n31 - 1)))) fun l55 o56 => OkC (some 2) g47 (StQ (awr s53 l55 o56 g47) fun s57 => ∃ m', m' < m30 ∧ I28 m' [(.int .i64 (IntKind.wrap .i64 (n31 + 1)))] s57)))))
 (∃ m', m' < m3 ∧ I1 m' [(.int .i64 n8), (.int .i64 (IntKind.wrap .i64 (n5 + 1)))] s32))
 (∃ m', m' < m3 ∧ I1 m' [(.int .i64 n8), (.int .i64 (IntKind.wrap .i64 (n5 + 1)))] s27)) ∧
 (bsplit (decide ((IntKind.wrap .i64 (n8 - a1) : Int) ≥ 2))
 (LoopQ fun I58 m59 => I58 m59 [(.int .i64 (IntKind.wrap .i64 (n8 - 1)))] s25 ∧
 ∀ m60 : Nat, ∀ n61 : Int, ∀ s62 : AS, I58 m60 [(.int .i64 n61)] s62 →
 bsplit (decide ((n61 : Int) ≥ 1))
 (IxQ (aindexAddr T Y_s_Dot a0 (.int .i64 n61)) fun l63 o64 => RdL (rdc s62 l63 o64 2) fun g65 => IxQ (aindexAddr T Y_s_Dot a0 (.int .i64 (IntKind.wrap .i64 (n61 - 1)))) fun l66 o67 => RdL (rdc s62 l66 o67 2) fun g68 => ACallV Try.prog a3 [(.agg g65), (.agg g68)] s62 fun v69 s70 => ∃ n71 : Int, v69 = .int .i64 n71 ∧ (bsplit (!(decide ((n71 : Int) < 0)))
 (J26 [] s70)
 (DrawQ fun S V => IxQ (aindexAddr T Y_s_Dot a0 (.int .i64 (IntKind.wrap .i64 (n61 - 1)))) fun l72 o73 => RdL (rdc s70 l72 o73 2) fun g74 => IxQ (aindexAddr T Y_s_Dot a0 (.int .i64 n61)) fun l75 o76 => RdL (rdc s70 l75 o76 2) fun g77 => IxQ (aindexAddr T Y_s_Dot a0 (.int .i64 n61)) fun l78 o79 => (∀ s80 : AS, Ext s70 s80 → WFs s80 → (True) → OkC (some 2) g74 (StQ (awr s80 l78 o79 g74) fun s81 => (Ext s80 s81 ∧ S 15 [(.ptr (some (l78, o79))), (.agg g74)] (.tup []) s81 ∧ V 15 [(.ptr (some (l78, o79))), (.agg g74)] (.tup [])))) ∧ (∃ v, V 15 [(.ptr (some (l78, o79))), (.agg g74)] v) ∧ ∀ v82 : AV, V 15 [(.ptr (some (l78, o79))), (.agg g74)] v82 → v82 = .tup [] ∧ (∀ s83 : AS, Ext s70 s83 → WFs s83 → (S 15 [(.ptr (some (l78, o79))), (.agg g74)] (.tup []) s83 ∧ True) → IxQ (aindexAddr T Y_s_Dot a0 (.int .i64 (IntKind.wrap .i64 (n61 - 1)))) fun l85 o86 => OkC (some 2) g77 (StQ (awr s83 l85 o86 g77) fun s87 => ∃ m', m' < m60 ∧ I58 m' [(.int .i64 (IntKind.wrap .i64 (n61 - 1)))] s87)))))
 (J26 [] s62))
 (J26 [] s25))))))) ∧
 (LoopQ fun I88 m89 => I88 m89 [(.int .i64 n4)] s6 ∧
 ∀ m90 : Nat, ∀ n91 : Int, ∀ s92 : AS, I88 m90 [(.int .i64 n91)] s92 →
 bsplit (decide ((n91 : Int) < a2)) (IxQ (aindexAddr T Y_s_Dot a0 (.int .i64 n91)) fun l93 o94 => RdL (rdc s92 l93 o94 2) fun g95 => IxQ (aindexAddr T Y_s_Dot a0 (.int .i64 (IntKind.wrap .i64 (n91 - 1)))) fun l96 o97 => RdL (rdc s92 l96 o97 2) fun g98 => ACallV Try.prog a3 [(.agg g95), (.agg g98)] s92 fun v99 s100 => ∃ n101 : Int, v99 = .int .i64 n101 ∧ (bsplit (!(decide ((n101 : Int) < 0)))
 (∃ m', m' < m90 ∧ I88 m' [(.int .i64 (IntKind.wrap .i64 (n91 + 1)))] s100)
 (J7 [(.int .i64 n91)] s100))) (J7 [(.int .i64 n91)] s92)))
 (R (.bool false) s6)

def A_slices_partialInsertionSortCmpFunc__Dot : QA := (.seq .leaf (.seq .leaf (.seq (.seq .leaf (.wrap (.loop [(9, .int .i64), (10, .int .i64)] [(8, 12), (15, 140)] (.seq (.seq .leaf (.cond .leaf .leaf)) (.seq (.wrap (.join [(9, .int .i64)] [(9, 9), (19, 38)] (.wrap (.loop [(9, .int .i64)] [(9, 9), (19, 38)] (.seq (.seq (.draw 14) (.cond .leaf .leaf)) (.wrap .leaf)))) (.seq (.seq .leaf (.cond (.seq .leaf .leaf) .leaf)) (.seq (.seq .leaf (.cond (.seq .leaf .leaf) .leaf)) (.seq (.drawH 16 [[], [], [], [], [], [], [], [], [], [], [], [], [], [], [], []] [15]) (.join [] [(11, 11), (62, 100)] (.seq .leaf (.cond (.seq .leaf (.wrap (.loop [(11, .int .i64)] [(11, 11), (68, 100)] (.seq (.seq .leaf (.cond .leaf .leaf)) (.seq (.wrap (.seq (.seq (.draw 10) (.cond .leaf .leaf)) (.drawH 16 [[], [], [], [], [], [], [], [], [], [], [], [], [], [], [], []] [15]))) .leaf))))) .leaf)) (.seq .leaf (.cond (.seq .leaf (.wrap (.loop [(12, .int .i64)] [(12, 12), (107, 140)] (.seq (.seq .leaf (.cond .leaf .leaf)) (.seq (.wrap (.seq (.seq (.draw 10) (.cond .leaf .leaf)) (.drawH 16 [[], [], [], [], [], [], [], [], [], [], [], [], [], [], [], []] [15]))) .leaf))))) .leaf)))))))) .leaf))))) (.seq .leaf .leaf))))

theorem q_slices_partialInsertionSortCmpFunc__Dot (a0 : AV) (a1 : Int) (a2 : Int) (a3 : AV) (s : AS) (R : AV → AS → Prop) (h : Q_slices_partialInsertionSortCmpFunc__Dot a0 a1 a2 a3 s R) : ACalls Try.prog F_slices_partialInsertionSortCmpFunc__Dot [a0, (.int .i64 a1), (.int .i64 a2), a3] s R :=
  ACalls.q (n := 141) (rs := [.tmp 8]) (A := A_slices_partialInsertionSortCmpFunc__Dot) hT hmx Try.func84 (by kernel_rfl) rfl rfl rfl (by kernel_rfl) (by kernel_rfl) h

/-- what slices.partitionEqualCmpFunc[minster/api.Dot] asks -/
def Q_slices_partitionEqualCmpFunc__Dot (a0 : AV) (a1 : Int) (a2 : Int) (a3 : Int) (a4 : AV) (s : AS) (R : AV → AS → Prop) : Prop :=
 DrawQ fun S V => IxQ (aindexAddr T Y_s_Dot a0 (.int .i64 a3)) fun l1 o2 => RdL (rdc s l1 o2 2) fun g3 => IxQ (aindexAddr T Y_s_Dot a0 (.int .i64 a1)) fun l4 o5 => RdL (rdc s l4 o5 2) fun g6 => IxQ (aindexAddr T Y_s_Dot a0 (.int .i64 a1)) fun l7 o8 => (∀ s9 : AS, Ext s s9 → WFs s9 → (True) → OkC (some 2) g3 (StQ (awr s9 l7 o8 g3) fun s10 => (Ext s9 s10 ∧ S 13 [(.ptr (some (l7, o8))), (.agg g3)] (.tup []) s10 ∧ V 13 [(.ptr (some (l7, o8))), (.agg g3)] (.tup [])))) ∧ (∃ v, V 13 [(.ptr (some (l7, o8))), (.agg g3)] v) ∧ ∀ v11 : AV, V 13 [(.ptr (some (l7, o8))), (.agg g3)] v11 → v11 = .tup [] ∧ (∀ s12 : AS, Ext s s12 → WFs s12 → (S 13 [(.ptr (some (l7, o8))), (.agg g3)] (.tup []) s12 ∧ True) → IxQ (aindexAddr T Y_s_Dot a0 (.int .i64 a3)) fun l14 o15 => OkC (some 2) g6 (StQ (awr s12 l14 o15 g6) fun s16 => LoopQ fun I17 m18 => I17 m18 [(.int .i64 (IntKind.wrap .i64 (a1 + 1))), (.int .i64 (IntKind.wrap .i64 (a2 - 1)))] s16 ∧
 ∀ m19 : Nat, ∀ n20 : Int, ∀ n21 : Int, ∀ s22 : AS, I17 m19 [(.int .i64 n20), (.int .i64 n21)] s22 →
 JoinQ fun J23 =>
 (∀ n24 : Int, ∀ s25 : AS, J23 [(.int .i64 n24)] s25 →
 JoinQ fun J26 =>
 (∀ n27 : Int, ∀ s28 : AS, J26 [(.int .i64 n27)] s28 →
 bsplit (decide ((n24 : Int) > n27))
 (R (.int .i64 n24) s28)
 (DrawQ fun S V => IxQ (aindexAddr T Y_s_Dot a0 (.int .i64 n27)) fun l29 o30 => RdL (rdc s28 l29 o30 2) fun g31 => IxQ (aindexAddr T Y_s_Dot a0 (.int .i64 n24)) fun l32 o33 => RdL (rdc s28 l32 o33 2) fun g34 => IxQ (aindexAddr T Y_s_Dot a0 (.int .i64 n24)) fun l35 o36 => (∀ s37 : AS, Ext s28 s37 → WFs s37 → (True) → OkC (some 2) g31 (StQ (awr s37 l35 o36 g31) fun s38 => (Ext s37 s38 ∧ S 13 [(.ptr (some (l35, o36))), (.agg g31)] (.tup []) s38 ∧ V 13 [(.ptr (some (l35, o36))), (.agg g31)] (.tup [])))) ∧ (∃ v, V 13 [(.ptr (some (l35, o36))), (.agg g31)] v) ∧ ∀ v39 : AV, V 13 [(.ptr (some (l35, o36))), (.agg g31)] v39 → v39 = .tup [] ∧ (∀ s40 : AS, Ext s28 s40 → WFs s40 → (S 13 [(.ptr (some (l35, o36))), (.agg g31)] (.tup []) s40 ∧ True) → IxQ (aindexAddr T Y_s_Dot a0 (.int .i64 n27)) fun l42 o43 => OkC (some 2) g34 (StQ (awr s40 l42 o43 g34) fun s44 => ∃ m', m' < m19 ∧ I17 m' [(.int .i64 (IntKind.wrap .i64 (n24 + 1))), (.int .i64 (IntKind.wrap .i64 (n27 - 1)))] s44)))) ∧
 (LoopQ fun I45 m46 => I45 m46 [(.int .i64 n21)] s25 ∧
 ∀ m47 : Nat, ∀ n48 : Int, ∀ s49 : AS, I45 m47 [(.int .i64 n48)] s49 →
 bsplit (decide ((n24 : Int) ≤ n48)) (IxQ (aindexAddr T Y_s_Dot a0 (.int .i64 a1)) fun l50 o51 => RdL (rdc s49 l50 o51 2) fun g52 => IxQ (aindexAddr T Y_s_Dot a0 (.int .i64 n48)) fun l53 o54 => RdL (rdc s49 l53 o54 2) fun g55 => ACallV Try.prog a4 [(.agg g52), (.agg g55)] s49 fun v56 s57 => ∃ n58 : Int, v56 = .int .i64 n58 ∧ (bsplit (decide ((n58 : Int) < 0))
 (∃ m', m' < m47 ∧ I45 m' [(.int .i64 (IntKind.wrap .i64 (n48 - 1)))] s57)
 (J26 [(.int .i64 n48)] s57))) (J26 [(.int .i64 n48)] s49))) ∧
 (LoopQ fun I59 m60 => I59 m60 [(.int .i64 n20)] s22 ∧
 ∀ m61 : Nat, ∀ n62 : Int, ∀ s63 : AS, I59 m61 [(.int .i64 n62)] s63 →
 bsplit (decide ((n62 : Int) ≤ n21)) (IxQ (aindexAddr T Y_s_Dot a0 (.int .i64 a1)) fun l64 o65 => RdL (rdc s63 l64 o65 2) fun g66 => IxQ (aindexAddr T Y_s_Dot a0 (.int .i64 n62)) fun l67 o68 => RdL (rdc s63 l67 o68 2) fun g69 => ACallV Try.prog a4 [(.agg g66), (.agg g69)] s63 fun v70 s71 => ∃ n72 : Int, v70 = .int .i64 n72 ∧ (bsplit (!(decide ((n72 : Int) < 0)))
 (∃ m', m' < m61 ∧ I59 m' [(.int .i64 (IntKind.wrap .i64 (n62 + 1)))] s71)
 (J23 [(.int .i64 n62)] s71))) (J23 [(.int .i64 n62)] s63))))

def A_slices_partitionEqualCmpFunc__Dot : QA := (.seq .leaf (.seq (.drawH 14 [[], [], [], [], [], [], [], [], [], [], [], [], [], []] [13]) (.seq .leaf (.seq (.wrap (.loop [(11, .int .i64), (12, .int .i64)] [(11, 12), (31, 88)] (.wrap (.join [(11, .int .i64)] [(11, 11), (31, 49)] (.wrap (.loop [(11, .int .i64)] [(11, 11), (31, 49)] (.seq (.seq (.draw 13) (.cond .leaf .leaf)) (.wrap .leaf)))) (.join [(12, .int .i64)] [(12, 12), (50, 67)] (.wrap (.loop [(12, .int .i64)] [(12, 12), (50, 67)] (.seq (.seq (.draw 13) (.cond .leaf .leaf)) (.wrap .leaf)))) (.seq (.seq .leaf (.cond .leaf .leaf)) (.seq (.drawH 14 [[], [], [], [], [], [], [], [], [], [], [], [], [], []] [13]) (.seq .leaf .leaf)))))))) (.seq .leaf .leaf)))))

theorem q_slices_partitionEqualCmpFunc__Dot (a0 : AV) (a1 : Int) (a2 : Int) (a3 : Int) (a4 : AV) (s : AS) (R : AV → AS → Prop) (h : Q_slices_partitionEqualCmpFunc__Dot a0 a1 a2 a3 a4 s R) : ACalls Try.prog F_slices_partitionEqualCmpFunc__Dot [a0, (.int .i64 a1), (.int .i64 a2), (.int .i64 a3), a4] s R :=
  ACalls.q (n := 90) (rs := [.tmp 10]) (A := A_slices_partitionEqualCmpFunc__Dot) hT hmx Try.func85 (by kernel_rfl) rfl rfl rfl (by kernel_rfl) (by kernel_rfl) h

/-- what slices.partitionCmpFunc[minster/api.Dot] asks -/
def Q_slices_partitionCmpFunc__Dot (a0 : AV) (a1 : Int) (a2 : Int) (a3 : Int) (a4 : AV) (s : AS) (R : AV → AS → Prop) : Prop :=
 DrawQ fun S V => IxQ (aindexAddr T Y_s_Dot a0 (.int .i64 a3)) fun l1 o2 => RdL (rdc s l1 o2 2) fun g3 => IxQ (aindexAddr T Y_s_Dot a0 (.int .i64 a1)) fun l4 o5 => RdL (rdc s l4 o5 2) fun g6 => IxQ (aindexAddr T Y_s_Dot a0 (.int .i64 a1)) fun l7 o8 => (∀ s9 : AS, Ext s s9 → WFs s9 → (True) → OkC (some 2) g3 (StQ (awr s9 l7 o8 g3) fun s10 => (Ext s9 s10 ∧ S 13 [(.ptr (some (l7, o8))), (.agg g3)] (.tup []) s10 ∧ V 13 [(.ptr (some (l7, o8))), (.agg g3)] (.tup [])))) ∧ (∃ v, V 13 [(.ptr (some (l7, o8))), (.agg g3)] v) ∧ ∀ v11 : AV, V 13 [(.ptr (some (l7, o8))), (.agg g3)] v11 → v11 = .tup [] ∧ (∀ s12 : AS, Ext s s12 → WFs s12 → (S 13 [(.ptr (some (l7, o8))), (.agg g3)] (.tup []) s12 ∧ True) → IxQ (aindexAddr T Y_s_Dot a0 (.int .i64 a3)) fun l14 o15 => OkC (some 2) g6 (StQ (awr s12 l14 o15 g6) fun s16 => JoinQ fun J17 =>
 (∀ n18 : Int, ∀ s19 : AS, J17 [(.int .i64 n18)] s19 →
 JoinQ fun J20 =>
 (∀ n21 : Int, ∀ s22 : AS, J20 [(.int .i64 n21)] s22 →
 bsplit (decide ((n18 : Int) > n21))
 (DrawQ fun S V => IxQ (aindexAddr T Y_s_Dot a0 (.int .i64 a1)) fun l23 o24 => RdL (rdc s22 l23 o24 2) fun g25 => IxQ (aindexAddr T Y_s_Dot a0 (.int .i64 n21)) fun l26 o27 => RdL (rdc s22 l26 o27 2) fun g28 => IxQ (aindexAddr T Y_s_Dot a0 (.int .i64 n21)) fun l29 o30 => (∀ s31 : AS, Ext s22 s31 → WFs s31 → (True) → OkC (some 2) g25 (StQ (awr s31 l29 o30 g25) fun s32 => (Ext s31 s32 ∧ S 13 [(.ptr (some (l29, o30))), (.agg g25)] (.tup []) s32 ∧ V 13 [(.ptr (some (l29, o30))), (.agg g25)] (.tup [])))) ∧ (∃ v, V 13 [(.ptr (some (l29, o30))), (.agg g25)] v) ∧ ∀ v33 : AV, V 13 [(.ptr (some (l29, o30))), (.agg g25)] v33 → v33 = .tup [] ∧ (∀ s34 : AS, Ext s22 s34 → WFs s34 → (S 13 [(.ptr (some (l29, o30))), (.agg g25)] (.tup []) s34 ∧ True) → IxQ (aindexAddr T Y_s_Dot a0 (.int .i64 a1)) fun l36 o37 => OkC (some 2) g28 (StQ (awr s34 l36 o37 g28) fun s38 => R (.tup [(.int .i64 n21), (.bool true)]) s38)))
 (DrawQ fun S V => IxQ (aindexAddr T Y_s_Dot a0 (.int .i64 n21)) fun l39 o40 => RdL (rdc s22 l39 o40 2) fun g41 => IxQ (aindexAddr T Y_s_Dot a0 (.int .i64 n18)) fun l42 o43 => RdL (rdc s22 l42 o43 2) fun g44 => IxQ (aindexAddr T Y_s_Dot a0 (.int .i64 n18)) fun l45 o46 => (∀ s47 : AS, Ext s22 s47 → WFs s47 → (True) → OkC (some 2) g41 (StQ (awr s47 l45 o46 g41) fun s48 => (Ext s47 s48 ∧ S 13 [(.ptr (some (l45, o46))), (.agg g41)] (.tup []) s48 ∧ V 13 [(.ptr (some (l45, o46))), (.agg g41)] (.tup [])))) ∧ (∃ v, V 13 [(.ptr (some (l45, o46))), (.agg g41)] v) ∧ ∀ v49 : AV, V 13 [(.ptr (some (l45, o46))), (.agg g41)] v49 → v49 = .tup [] ∧ (∀ s50 : AS, Ext s22 s50 → WFs s50 → (S 13 [(.ptr (some (l45, o46))), (.agg g41)] (.tup []) s50 ∧ True) → IxQ (aindexAddr T Y_s_Dot a0 (.int .i64 n21)) fun l52 o53 => OkC (some 2) g44 (StQ (awr s50 l52 o53 g44) fun s54 => JoinQ fun J55 =>
 (∀ n56 : Int, ∀ s57 : AS, J55 [(.int .i64 n56)] s57 →
 DrawQ fun S V => IxQ (aindexAddr T Y_s_Dot a0 (.int .i64 a1)) fun l58 o59 => RdL (rdc s57 l58 o59 2) fun g60 => IxQ (aindexAddr T Y_s_Dot a0 (.int .i64 n56)) fun l61 o62 => RdL (rdc s57 l61 o62 2) fun g63 => IxQ (aindexAddr T Y_s_Dot a0 (.int .i64 n56)) fun l64 o65 => (∀ s66 : AS, Ext s57 s66 → WFs s66 → (True) → OkC (some 2) g60 (StQ (awr s66 l64 o65 g60) fun s67 => (Ext s66 s67 ∧ S 13 [(.ptr (some (l64, o65))), (.agg g60)] (.tup []) s67 ∧ V 13 [(.ptr (some (l64, o65))), (.agg g60)] (.tup [])))) ∧ (∃ v, V 13 [(.ptr (some (l64, o65))), (.agg g60)] v) ∧ ∀ v68 : AV, V 13 [(.ptr (some (l64, o65))), (.agg g60)] v68 → v68 = .tup [] ∧ (∀ s69 : AS, Ext s57 s69 → WFs s69 → (S 13 [(.ptr (some (l64, o65))), (.agg g60)] (.tup []) s69 ∧ True) → IxQ (aindexAddr T Y_s_Dot a0 (.int .i64 a1)) fun l71 o72 => OkC (some 2) g63 (StQ (awr s69 l71 o72 g63) fun s73 => R (.tup [(.int .i64 n56), (.bool false)]) s73))) ∧
 (LoopQ fun I74 m75 => I74 m75 [(.int .i64 (IntKind.wrap .i64 (n18 + 1))), (.int .i64 (IntKind.wrap .i64 (n21 - 1)))] s54 ∧
 ∀ m76 : Nat, ∀ n77 : Int, ∀ n78 : Int, ∀ s79 : AS, I74 m76 [(.int .i64 n77), (.int .i64 n78)] s79 →
 JoinQ fun J80 =>
 (∀ n81 : Int, ∀ s82 : AS, J80 [(.int .i64 n81)] s82 →
 JoinQ fun J83 =>
 (∀ n84 : Int, ∀ s85 : AS, J83 [(.int .i64 n84)] s85 →
 bsplit (decide ((n81 : Int) > n84))
 (J55 [(.int .i64 n84)] s85)
 (DrawQ fun S V => IxQ (aindexAddr T Y_s_Dot a0 (.int .i64 n84)) fun l86 o87 => RdL (rdc s85 l86 o87 2) fun g88 => IxQ (aindexAddr T Y_s_Dot a0 (.int .i64 n81)) fun l89 o90 => RdL (rdc s85 l89 o90 2) fun g91 => IxQ (aindexAddr T Y_s_Dot a0 (.int .i64 n81)) fun l92 o93 => (∀ s94 : AS, Ext s85 s94 → WFs s94 → (True) → OkC (some 2) g88 (StQ (awr s94 l92 o93 g88) fun s95 => (Ext s94 s95 ∧ S 13 [(.ptr (some (l92, o93))), (.agg g88)] (.tup []) s95 ∧ V 13 [(.ptr (some (l92, o93))), (.agg g88)] (.tup [])))) ∧ (∃ v, V 13 [(.ptr (some (l92, o93))), (.agg g88)] v) ∧ ∀ v96 : AV, V 13 [(.ptr (some (l92, o93))), (.agg g88)] v96 → v96 = .tup [] ∧ (∀ s97 : AS, Ext s85 s97 → WFs s97 → (S 13 [(.ptr (some (l92, o93))), (.agg g88)] (.tup []) s97 ∧ True) → IxQ (aindexAddr T Y_s_Dot a0 (.int .i64 n84)) fun l99 o100 => OkC (some 2) g91 (StQ (awr s97 l99 o100 g91) fun s101 => ∃ m', m' < m76 ∧ I74 m' [(.int .i64 (IntKind.wrap .i64 (n81 + 1))), (.int .i64 (IntKind.wrap .i64 (n84 - 1)))] s101)))) ∧
 (LoopQ fun I102 m103 => I102 m103 [(.int .i64 n78)] s82 ∧
 ∀ m104 : Nat, ∀ n105 : Int, ∀ s106 : AS, I102 m104 [(.int .i64 n105)] s106 →
 bsplit (decide ((n81 : Int) ≤ n105)) (IxQ (aindexAddr T Y_s_Dot a0 (.int .i64 n105)) fun l107 o108 => RdL (rdc s106 l107 o108 2) fun g109 => IxQ (aindexAddr T Y_s_Dot a0 (.int .i64 a1)) fun l110 o111 => RdL (rdc s106 l110 o111 2) fun g112 => ACallV Try.prog a4 [(.agg g109), (.agg g112)] s106 fun v113 s114 => ∃ n115 : Int, v113 = .int .i64 n115 ∧ (bsplit (!(decide ((n115 : Int) < 0)))
 (∃ m', m' < m104 ∧ I102 m' [(.int .i64 (IntKind.wrap .i64 (n105 - 1)))] s114)
 (J83 [(.int .i64 n105)] s114))) (J83 [(.int .i64 n105)] s106))) ∧
 (LoopQ fun I116 m117 => I116 m117 [(.int .i64 n77)] s79 ∧
 ∀ m118 : Nat, ∀ n119 : Int, ∀ s120 : AS, I116 m118 [(.int .i64 n119)] s120 →
 bsplit (decide ((n119 : Int) ≤ n78)) (IxQ (aindexAddr T Y_s_Dot a0 (.int .i64 n119)) fun l121 o122 => RdL (rdc s120 l121 o122 2) fun g123 => IxQ (aindexAddr T Y_s_Dot a0 (.int .i64 a1)) fun l124 o125 => RdL (rdc s120 l124 o125 2) fun g126 => ACallV Try.prog a4 [(.agg g123), (.agg g126)] s120 fun v127 s128 => ∃ n129 : Int, v127 = .int .i64 n129 ∧ (bsplit (decide ((n129 : Int) < 0))
 (∃ m', m' < m118 ∧ I116 m' [(.int .i64 (IntKind.wrap .i64 (n119 + 1)))] s128)
 (J80 [(.int .i64 n119)] s128))) (J80 [(.int .i64 n119)] s120))))))) ∧
 (LoopQ fun I130 m131 => I130 m131 [(.int .i64 (IntKind.wrap .i64 (a2 - 1)))] s19 ∧
 ∀ m132 : Nat, ∀ n133 : Int, ∀ s134 : AS, I130 m132 [(.int .i64 n133)] s134 →
 bsplit (decide ((n18 : Int) ≤ n133)) (IxQ (aindexAddr T Y_s_Dot a0 (.int .i64 n133)) fun l135 o136 => RdL (rdc s134 l135 o136 2) fun g137 => IxQ (aindexAddr T Y_s_Dot a0 (.int .i64 a1)) fun l138 o139 => RdL (rdc s134 l138 o139 2) fun g140 => ACallV Try.prog a4 [(.agg g137), (.agg g140)] s134 fun v141 s142 => ∃ n143 : Int, v141 = .int .i64 n143 ∧ (bsplit (!(decide ((n143 : Int) < 0)))
 (∃ m', m' < m132 ∧ I130 m' [(.int .i64 (IntKind.wrap .i64 (n133 - 1)))] s142)
 (J20 [(.int .i64 n133)] s142))) (J20 [(.int .i64 n133)] s134))) ∧
 (LoopQ fun I144 m145 => I144 m145 [(.int .i64 (IntKind.wrap .i64 (a1 + 1)))] s16 ∧
 ∀ m146 : Nat, ∀ n147 : Int, ∀ s148 : AS, I144 m146 [(.int .i64 n147)] s148 →
 bsplit (decide ((n147 : Int) ≤ (IntKind.wrap .i64 (a2 - 1)))) (IxQ (aindexAddr T Y_s_Dot a0 (.int .i64 n147)) fun l149 o150 => RdL (rdc s148 l149 o150 2) fun g151 => IxQ (aindexAddr T Y_s_Dot a0 (.int .i64 a1)) fun l152 o153 => RdL (rdc s148 l152 o153 2) fun g154 => ACallV Try.prog a4 [(.agg g151), (.agg g154)] s148 fun v155 s156 => ∃ n157 : Int, v155 = .int .i64 n157 ∧ (bsplit (decide ((n157 : Int) < 0))
 (∃ m', m' < m146 ∧ I144 m' [(.int .i64 (IntKind.wrap .i64 (n147 + 1)))] s156)
 (J17 [(.int .i64 n147)] s156))) (J17 [(.int .i64 n147)] s148))))

def A_slices_partitionCmpFunc__Dot : QA := (.seq .leaf (.seq (.drawH 14 [[], [], [], [], [], [], [], [], [], [], [], [], [], []] [13]) (.seq .leaf (.join [(12, .int .i64)] [(12, 12), (32, 49)] (.wrap (.loop [(12, .int .i64)] [(12, 12), (32, 49)] (.seq (.seq (.draw 13) (.cond .leaf .leaf)) (.wrap .leaf)))) (.join [(13, .int .i64)] [(13, 13), (50, 68)] (.wrap (.loop [(13, .int .i64)] [(13, 13), (50, 68)] (.seq (.seq (.draw 13) (.cond .leaf .leaf)) (.wrap .leaf)))) (.seq (.seq .leaf (.cond (.seq (.drawH 14 [[], [], [], [], [], [], [], [], [], [], [], [], [], []] [13]) (.seq .leaf .leaf)) .leaf)) (.seq (.drawH 14 [[], [], [], [], [], [], [], [], [], [], [], [], [], []] [13]) (.seq .leaf (.seq .leaf (.join [(13, .int .i64)] [(12, 13), (105, 162)] (.wrap (.loop [(12, .int .i64), (13, .int .i64)] [(12, 13), (105, 162)] (.wrap (.join [(12, .int .i64)] [(12, 12), (105, 122)] (.wrap (.loop [(12, .int .i64)] [(12, 12), (105, 122)] (.seq (.seq (.draw 13) (.cond .leaf .leaf)) (.wrap .leaf)))) (.join [(13, .int .i64)] [(13, 13), (123, 141)] (.wrap (.loop [(13, .int .i64)] [(13, 13), (123, 141)] (.seq (.seq (.draw 13) (.cond .leaf .leaf)) (.wrap .leaf)))) (.seq (.seq .leaf (.cond .leaf .leaf)) (.seq (.drawH 14 [[], [], [], [], [], [], [], [], [], [], [], [], [], []] [13]) (.seq .leaf .leaf)))))))) (.seq (.drawH 14 [[], [], [], [], [], [], [], [], [], [], [], [], [], []] [13]) (.seq .leaf .leaf))))))))))))

theorem q_slices_partitionCmpFunc__Dot (a0 : AV) (a1 : Int) (a2 : Int) (a3 : Int) (a4 : AV) (s : AS) (R : AV → AS → Prop) (h : Q_slices_partitionCmpFunc__Dot a0 a1 a2 a3 a4 s R) : ACalls Try.prog F_slices_partitionCmpFunc__Dot [a0, (.int .i64 a1), (.int .i64 a2), (.int .i64 a3), a4] s R :=
  ACalls.q (n := 178) (rs := [.tmp 10, .tmp 11]) (A := A_slices_partitionCmpFunc__Dot) hT hmx Try.func86 (by kernel_rfl) rfl rfl rfl (by kernel_rfl) (by kernel_rfl) h

-- NOT PRINTED 87 math/bits.Len32: bytes ('app', 'List.toArray', [('app', 'List.append', [('app', 'List.append', [('list'
-- NOT PRINTED 88 math/bits.Len64: bytes ('app', 'List.toArray', [('app', 'List.append', [('app', 'List.append', [('list'
/-- what slices.Reverse[[]minster/api.Dot,minster/api.Dot] asks -/
def Q_slices_Reverse__s_Dot_Dot (a0 : AV) (s : AS) (R : AV → AS → Prop) : Prop :=
 RdI .i64 (alenB T Y_s_Dot a0 s) fun n1 => LoopQ fun I2 m3 => I2 m3 [(.int .i64 0), (.int .i64 (IntKind.wrap .i64 (n1 - 1)))] s ∧
 ∀ m4 : Nat, ∀ n5 : Int, ∀ n6 : Int, ∀ s7 : AS, I2 m4 [(.int .i64 n5), (.int .i64 n6)] s7 →
 bsplit (decide ((n5 : Int) < n6))
 (DrawQ fun S V => IxQ (aindexAddr T Y_s_Dot a0 (.int .i64 n6)) fun l8 o9 => RdL (rdc s7 l8 o9 2) fun g10 => IxQ (aindexAddr T Y_s_Dot a0 (.int .i64 n5)) fun l11 o12 => RdL (rdc s7 l11 o12 2) fun g13 => IxQ (aindexAddr T Y_s_Dot a0 (.int .i64 n5)) fun l14 o15 => (∀ s16 : AS, Ext s7 s16 → WFs s16 → (True) → OkC (some 2) g10 (StQ (awr s16 l14 o15 g10) fun s17 => (Ext s16 s17 ∧ S 13 [(.ptr (some (l14, o15))), (.agg g10)] (.tup []) s17 ∧ V 13 [(.ptr (some (l14, o15))), (.agg g10)] (.tup [])))) ∧ (∃ v, V 13 [(.ptr (some (l14, o15))), (.agg g10)] v) ∧ ∀ v18 : AV, V 13 [(.ptr (some (l14, o15))), (.agg g10)] v18 → v18 = .tup [] ∧ (∀ s19 : AS, Ext s7 s19 → WFs s19 → (S 13 [(.ptr (some (l14, o15))), (.agg g10)] (.tup []) s19 ∧ True) → IxQ (aindexAddr T Y_s_Dot a0 (.int .i64 n6)) fun l21 o22 => OkC (some 2) g13 (StQ (awr s19 l21 o22 g13) fun s23 => ∃ m', m' < m4 ∧ I2 m' [(.int .i64 (IntKind.wrap .i64 (n5 + 1))), (.int .i64 (IntKind.wrap .i64 (n6 - 1)))] s23)))
 (R (.tup []) s7)

def A_slices_Reverse__s_Dot_Dot : QA := (.seq .leaf (.wrap (.loop [(2, .int .i64), (3, .int .i64)] [(2, 3), (7, 27)] (.seq (.seq .leaf (.cond .leaf .leaf)) (.seq (.wrap (.drawH 14 [[], [], [], [], [], [], [], [], [], [], [], [], [], []] [13])) .leaf)))))

theorem q_slices_Reverse__s_Dot_Dot (a0 : AV) (s : AS) (R : AV → AS → Prop) (h : Q_slices_Reverse__s_Dot_Dot a0 s R) : ACalls Try.prog F_slices_Reverse__s_Dot_Dot [a0] s R :=
  ACalls.q (n := 28) (rs := []) (A := A_slices_Reverse__s_Dot_Dot) hT hmx Try.func89 (by kernel_rfl) rfl rfl rfl (by kernel_rfl) (by kernel_rfl) h

/-- what slices.siftDownCmpFunc[minster/api.Dot] asks -/
def Q_slices_siftDownCmpFunc__Dot (a0 : AV) (a1 : Int) (a2 : Int) (a3 : Int) (a4 : AV) (s : AS) (R : AV → AS → Prop) : Prop :=
 LoopQ fun I1 m2 => I1 m2 [(.int .i64 a1)] s ∧
 ∀ m3 : Nat, ∀ n4 : Int, ∀ s5 : AS, I1 m3 [(.int .i64 n4)] s5 →
 bsplit (decide ((IntKind.wrap .i64 ((IntKind.wrap .i64 (2 * n4)) + 1) : Int) ≥ a2))
 (R (.tup []) s5)
 (JoinQ fun J6 =>
 (∀ n7 : Int, ∀ s8 : AS, J6 [(.int .i64 n7)] s8 →
 IxQ (aindexAddr T Y_s_Dot a0 (.int .i64 (IntKind.wrap .i64 (a3 + n4)))) fun l9 o10 => RdL (rdc s8 l9 o10 2) fun g11 => IxQ (aindexAddr T Y_s_Dot a0 (.int .i64 (IntKind.wrap .i64 (a3 + n7)))) fun l12 o13 => RdL (rdc s8 l12 o13 2) fun g14 => ACallV Try.prog a4 [(.agg g11), (.agg g14)] s8 fun v15 s16 => ∃ n17 : Int, v15 = .int .i64 n17 ∧ (bsplit (!(decide ((n17 : Int) < 0)))
 (R (.tup []) s16)
 (DrawQ fun S V => IxQ (aindexAddr T Y_s_Dot a0 (.int .i64 (IntKind.wrap .i64 (a3 + n7)))) fun l18 o19 => RdL (rdc s16 l18 o19 2) fun g20 => IxQ (aindexAddr T Y_s_Dot a0 (.int .i64 (IntKind.wrap .i64 (a3 + n4)))) fun l21 o22 => RdL (rdc s16 l21 o22 2) fun g23 => IxQ (aindexAddr T Y_s_Dot a0 (.int .i64 (IntKind.wrap .i64 (a3 + n4)))) fun l24 o25 => (∀ s26 : AS, Ext s16 s26 → WFs s26 → (True) → OkC (some 2) g20 (StQ (awr s26 l24 o25 g20) fun s27 => (Ext s26 s27 ∧ S 21 [(.ptr (some (l24, o25))), (.agg g20)] (.tup []) s27 ∧ V 21 [(.ptr (some (l24, o25))), (.agg g20)] (.tup [])))) ∧ (∃ v, V 21 [(.ptr (some (l24, o25))), (.agg g20)] v) ∧ ∀ v28 : AV, V 21 [(.ptr (some (l24, o25))), (.agg g20)] v28 → v28 = .tup [] ∧ (∀ s29 : AS, Ext s16 s29 → WFs s29 → (S 21 [(.ptr (some (l24, o25))), (.agg g20)] (.tup []) s29 ∧ True) → IxQ (aindexAddr T Y_s_Dot a0 (.int .i64 (IntKind.wrap .i64 (a3 + n7)))) fun l31 o32 => OkC (some 2) g23 (StQ (awr s29 l31 o32 g23) fun s33 => ∃ m', m' < m3 ∧ I1 m' [(.int .i64 n7)] s33))))) ∧
 (JoinQ fun J34 =>
 (∀ b35 : Bool, ∀ s36 : AS, J34 [(.bool b35)] s36 →
 bsplit b35
 (J6 [(.int .i64 (IntKind.wrap .i64 ((IntKind.wrap .i64 ((IntKind.wrap .i64 (2 * n4)) + 1)) + 1)))] s36)
 (J6 [(.int .i64 (IntKind.wrap .i64 ((IntKind.wrap .i64 (2 * n4)) + 1)))] s36)) ∧
 (bsplit (decide ((IntKind.wrap .i64 ((IntKind.wrap .i64 ((IntKind.wrap .i64 (2 * n4)) + 1)) + 1) : Int) < a2)) (IxQ (aindexAddr T Y_s_Dot a0 (.int .i64 (IntKind.wrap .i64 (a3 + (IntKind.wrap .i64 ((IntKind.wrap .i64 (2 * n4)) + 1)))))) fun l37 o38 => RdL (rdc s5 l37 o38 2) fun g39 => IxQ (aindexAddr T Y_s_Dot a0 (.int .i64 (IntKind.wrap .i64 ((IntKind.wrap .i64 (a3 + (IntKind.wrap .i64 ((IntKind.wrap .i64 (2 * n4)) + 1)))) + 1)))) fun l40 o41 => RdL (rdc s5 l40 o41 2) fun g42 => ACallV Try.prog a4 [(.agg g39), (.agg g42)] s5 fun v43 s44 => ∃ n45 : Int, v43 = .int .i64 n45 ∧ (J34 [(.bool (decide ((n45 : Int) < 0)))] s44)) (J34 [(.bool false)] s5))))

def A_slices_siftDownCmpFunc__Dot : QA := (.seq .leaf (.wrap (.loop [(10, .int .i64)] [(10, 11), (13, 81)] (.wrap (.seq .leaf (.seq (.seq .leaf (.cond .leaf .leaf)) (.join [(11, .int .i64)] [(11, 11), (19, 42)] (.join [(40, .bool)] [(19, 40)] (.draw 19) (.cond .leaf .leaf)) (.seq (.seq (.draw 13) (.cond .leaf .leaf)) (.seq (.drawH 22 [[], [], [], [], [], [], [], [], [], [], [], [], [], [], [], [], [], [], [], [], [], []] [21]) .leaf)))))))))

theorem q_slices_siftDownCmpFunc__Dot (a0 : AV) (a1 : Int) (a2 : Int) (a3 : Int) (a4 : AV) (s : AS) (R : AV → AS → Prop) (h : Q_slices_siftDownCmpFunc__Dot a0 a1 a2 a3 a4 s R) : ACalls Try.prog F_slices_siftDownCmpFunc__Dot [a0, (.int .i64 a1), (.int .i64 a2), (.int .i64 a3), a4] s R :=
  ACalls.q (n := 82) (rs := []) (A := A_slices_siftDownCmpFunc__Dot) hT hmx Try.func90 (by kernel_rfl) rfl rfl rfl (by kernel_rfl) (by kernel_rfl) h

/-- what slices.nextPowerOfTwo asks -/
def Q_slices_nextPowerOfTwo (a0 : Int) (s : AS) (R : AV → AS → Prop) : Prop :=
 ACalls Try.prog F_math_bits_Len [(.int .u64 (IntKind.wrap .u64 a0))] s fun v1 s2 => ∃ n3 : Int, v1 = .int .i64 n3 ∧ (NN n3 (R (.int .u64 (IntKind.wrap .u64 (1 * 2 ^ min (Int.toNat n3) (IntKind.bits .u64)))) s2))

def A_slices_nextPowerOfTwo : QA := (.seq .leaf (.seq .leaf .leaf))

theorem q_slices_nextPowerOfTwo (a0 : Int) (s : AS) (R : AV → AS → Prop) (h : Q_slices_nextPowerOfTwo a0 s R) : ACalls Try.prog F_slices_nextPowerOfTwo [(.int .i64 a0)] s R :=
  ACalls.q (n := 7) (rs := [.tmp 2]) (A := A_slices_nextPowerOfTwo) hT hmx Try.func91 (by kernel_rfl) rfl rfl rfl (by kernel_rfl) (by kernel_rfl) h

/-- what (*slices.xorshift).Next asks -/
def Q_slices_xorshift_Next (a0 : Option (Nat × Nat)) (s : AS) (R : AV → AS → Prop) : Prop :=
 AsSome a0 fun l1 o2 => RdI .u64 (rd1 s l1 o2) fun n3 => AsSome a0 fun l4 o5 => RdI .u64 (rd1 s l4 o5) fun n6 => NN 13 (RdA (abinInt .xor .u64 n3 (IntKind.wrap .u64 (n6 * 2 ^ min (Int.toNat 13) (IntKind.bits .u64)))) fun v7 => AsSome a0 fun l8 o9 => qstore T Y_slices_xorshift s l8 o9 v7 fun s10 => AsSome a0 fun l11 o12 => RdI .u64 (rd1 s10 l11 o12) fun n13 => AsSome a0 fun l14 o15 => RdI .u64 (rd1 s10 l14 o15) fun n16 => NN 7 (RdA (abinInt .xor .u64 n13 (Int.fdiv n16 (2 ^ min (Int.toNat 7) (IntKind.bits .u64)))) fun v17 => AsSome a0 fun l18 o19 => qstore T Y_slices_xorshift s10 l18 o19 v17 fun s20 => AsSome a0 fun l21 o22 => RdI .u64 (rd1 s20 l21 o22) fun n23 => AsSome a0 fun l24 o25 => RdI .u64 (rd1 s20 l24 o25) fun n26 => NN 17 (RdA (abinInt .xor .u64 n23 (IntKind.wrap .u64 (n26 * 2 ^ min (Int.toNat 17) (IntKind.bits .u64)))) fun v27 => AsSome a0 fun l28 o29 => qstore T Y_slices_xorshift s20 l28 o29 v27 fun s30 => AsSome a0 fun l31 o32 => RdI .u64 (rd1 s30 l31 o32) fun n33 => R (.int .u64 n33) s30)))

def A_slices_xorshift_Next : QA := (.seq .leaf (.seq (.draw 7) (.seq (.draw 7) (.seq (.draw 7) (.seq .leaf .leaf)))))

theorem q_slices_xorshift_Next (a0 : Option (Nat × Nat)) (s : AS) (R : AV → AS → Prop) (h : Q_slices_xorshift_Next a0 s R) : ACalls Try.prog F_slices_xorshift_Next [(.ptr a0)] s R :=
  ACalls.q (n := 33) (rs := [.tmp 2]) (A := A_slices_xorshift_Next) hT hmx Try.func92 (by kernel_rfl) rfl rfl rfl (by kernel_rfl) (by kernel_rfl) h

/-- what slices.medianAdjacentCmpFunc[minster/api.Dot] asks -/
def Q_slices_medianAdjacentCmpFunc__Dot (a0 : AV) (a1 : Int) (a2 : Option (Nat × Nat)) (a3 : AV) (s : AS) (R : AV → AS → Prop) : Prop :=
 ACalls Try.prog F_slices_medianCmpFunc__Dot [a0, (.int .i64 (IntKind.wrap .i64 (a1 - 1))), (.int .i64 a1), (.int .i64 (IntKind.wrap .i64 (a1 + 1))), (.ptr a2), a3] s fun v1 s2 => ∃ n3 : Int, v1 = .int .i64 n3 ∧ (R (.int .i64 n3) s2)

def A_slices_medianAdjacentCmpFunc__Dot : QA := (.seq .leaf (.seq .leaf .leaf))

theorem q_slices_medianAdjacentCmpFunc__Dot (a0 : AV) (a1 : Int) (a2 : Option (Nat × Nat)) (a3 : AV) (s : AS) (R : AV → AS → Prop) (h : Q_slices_medianAdjacentCmpFunc__Dot a0 a1 a2 a3 s R) : ACalls Try.prog F_slices_medianAdjacentCmpFunc__Dot [a0, (.int .i64 a1), (.ptr a2), a3] s R :=
  ACalls.q (n := 18) (rs := [.tmp 8]) (A := A_slices_medianAdjacentCmpFunc__Dot) hT hmx Try.func93 (by kernel_rfl) rfl rfl rfl (by kernel_rfl) (by kernel_rfl) h

/-- what slices.medianCmpFunc[minster/api.Dot] asks -/
def Q_slices_medianCmpFunc__Dot (a0 : AV) (a1 : Int) (a2 : Int) (a3 : Int) (a4 : Option (Nat × Nat)) (a5 : AV) (s : AS) (R : AV → AS → Prop) : Prop :=
 ACalls Try.prog F_slices_order2CmpFunc__Dot [a0, (.int .i64 a1), (.int .i64 a2), (.ptr a4), a5] s fun v1 s2 => ∃ n3 : Int, ∃ n4 : Int, v1 = .tup [(.int .i64 n3), (.int .i64 n4)] ∧ (ACalls Try.prog F_slices_order2CmpFunc__Dot [a0, (.int .i64 n4), (.int .i64 a3), (.ptr a4), a5] s2 fun v5 s6 => ∃ n7 : Int, ∃ n8 : Int, v5 = .tup [(.int .i64 n7), (.int .i64 n8)] ∧ (ACalls Try.prog F_slices_order2CmpFunc__Dot [a0, (.int .i64 n3), (.int .i64 n7), (.ptr a4), a5] s6 fun v9 s10 => ∃ n11 : Int, ∃ n12 : Int, v9 = .tup [(.int .i64 n11), (.int .i64 n12)] ∧ (R (.int .i64 n12) s10)))

def A_slices_medianCmpFunc__Dot : QA := (.seq .leaf (.seq .leaf (.seq .leaf (.seq .leaf (.seq .leaf .leaf)))))

theorem q_slices_medianCmpFunc__Dot (a0 : AV) (a1 : Int) (a2 : Int) (a3 : Int) (a4 : Option (Nat × Nat)) (a5 : AV) (s : AS) (R : AV → AS → Prop) (h : Q_slices_medianCmpFunc__Dot a0 a1 a2 a3 a4 a5 s R) : ACalls Try.prog F_slices_medianCmpFunc__Dot [a0, (.int .i64 a1), (.int .i64 a2), (.int .i64 a3), (.ptr a4), a5] s R :=
  ACalls.q (n := 41) (rs := [.tmp 12]) (A := A_slices_medianCmpFunc__Dot) hT hmx Try.func94 (by kernel_rfl) rfl rfl rfl (by kernel_rfl) (by kernel_rfl) h

/-- what slices.order2CmpFunc[minster/api.Dot] asks -/
def Q_slices_order2CmpFunc__Dot (a0 : AV) (a1 : Int) (a2 : Int) (a3 : Option (Nat × Nat)) (a4 : AV) (s : AS) (R : AV → AS → Prop) : Prop :=
 IxQ (aindexAddr T Y_s_Dot a0 (.int .i64 a2)) fun l1 o2 => RdL (rdc s l1 o2 2) fun g3 => IxQ (aindexAddr T Y_s_Dot a0 (.int .i64 a1)) fun l4 o5 => RdL (rdc s l4 o5 2) fun g6 => ACallV Try.prog a4 [(.agg g3), (.agg g6)] s fun v7 s8 => ∃ n9 : Int, v7 = .int .i64 n9 ∧ (bsplit (decide ((n9 : Int) < 0))
 (AsSome a3 fun l10 o11 => RdI .i64 (rd1 s8 l10 o11) fun n12 => AsSome a3 fun l13 o14 => StQ (awr s8 l13 o14 [(.int .i64 (IntKind.wrap .i64 (n12 + 1)))]) fun s15 => R (.tup [(.int .i64 a2), (.int .i64 a1)]) s15)
 (R (.tup [(.int .i64 a1), (.int .i64 a2)]) s8))

def A_slices_order2CmpFunc__Dot : QA := (.seq .leaf (.seq (.seq (.draw 9) (.cond (.seq .leaf (.seq .leaf .leaf)) .leaf)) (.seq .leaf .leaf)))

theorem q_slices_order2CmpFunc__Dot (a0 : AV) (a1 : Int) (a2 : Int) (a3 : Option (Nat × Nat)) (a4 : AV) (s : AS) (R : AV → AS → Prop) (h : Q_slices_order2CmpFunc__Dot a0 a1 a2 a3 a4 s R) : ACalls Try.prog F_slices_order2CmpFunc__Dot [a0, (.int .i64 a1), (.int .i64 a2), (.ptr a3), a4] s R :=
  ACalls.q (n := 32) (rs := [.tmp 10, .tmp 11]) (A := A_slices_order2CmpFunc__Dot) hT hmx Try.func95 (by kernel_rfl) rfl rfl rfl (by kernel_rfl) (by kernel_rfl) h

end Go.Proofs.Ytbfchlimonimkaa
