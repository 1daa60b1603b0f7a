/-
  The types of this seat's program, as the abstract machine knows them.
-/
import Derived.Test.YtbfchlimonimkaaProg
import Derived.Test.YtbfchlimonimkaaAmPre
import Derived.KernelRfl
namespace Go.Proofs.Ytbfchlimonimkaa
open Go.Am

noncomputable def T : TT := TT.of Try.prog
theorem hT : TT.Ok Try.prog T := TT.of_ok _
theorem hmx : Try.prog.follows .mixedOrders = true := by kernel_rfl

theorem siz0 : T.siz 0 = some 1 := by kernel_rfl
theorem byt0 : T.byt 0 = some 0 := by kernel_rfl
theorem agg0 : T.agg 0 = some false := by kernel_rfl
theorem zer0 : T.zer 0 = some (.tup []) := by kernel_rfl
theorem siz1 : T.siz 1 = some 1 := by kernel_rfl
theorem byt1 : T.byt 1 = some 8 := by kernel_rfl
theorem agg1 : T.agg 1 = some false := by kernel_rfl
theorem zer1 : T.zer 1 = some (.nilFunc) := by kernel_rfl
theorem und2 : T.und 2 = some (.int .i64) := by kernel_rfl
theorem siz2 : T.siz 2 = some 1 := by kernel_rfl
theorem byt2 : T.byt 2 = some 8 := by kernel_rfl
theorem agg2 : T.agg 2 = some false := by kernel_rfl
theorem zer2 : T.zer 2 = some (.int .i64 0) := by kernel_rfl
theorem und3 : T.und 3 = some (.int .i64) := by kernel_rfl
theorem siz3 : T.siz 3 = some 1 := by kernel_rfl
theorem byt3 : T.byt 3 = some 8 := by kernel_rfl
theorem agg3 : T.agg 3 = some false := by kernel_rfl
theorem zer3 : T.zer 3 = some (.int .i64 0) := by kernel_rfl
theorem und4 : T.und 4 = some (.bool) := by kernel_rfl
theorem siz4 : T.siz 4 = some 1 := by kernel_rfl
theorem byt4 : T.byt 4 = some 1 := by kernel_rfl
theorem agg4 : T.agg 4 = some false := by kernel_rfl
theorem zer4 : T.zer 4 = some (.bool false) := by kernel_rfl
theorem und5 : T.und 5 = some (.int .u8) := by kernel_rfl
theorem siz5 : T.siz 5 = some 1 := by kernel_rfl
theorem byt5 : T.byt 5 = some 1 := by kernel_rfl
theorem agg5 : T.agg 5 = some false := by kernel_rfl
theorem zer5 : T.zer 5 = some (.int .u8 0) := by kernel_rfl
theorem und6 : T.und 6 = some (.int .u8) := by kernel_rfl
theorem siz6 : T.siz 6 = some 1 := by kernel_rfl
theorem byt6 : T.byt 6 = some 1 := by kernel_rfl
theorem agg6 : T.agg 6 = some false := by kernel_rfl
theorem zer6 : T.zer 6 = some (.int .u8 0) := by kernel_rfl
theorem siz7 : T.siz 7 = some 4 := by kernel_rfl
theorem byt7 : T.byt 7 = some 24 := by kernel_rfl
theorem agg7 : T.agg 7 = some true := by kernel_rfl
theorem zer7 : T.zer 7 = some (.agg [.int .i64 0, .int .i64 0, .bool false, .int .u8 0]) := by kernel_rfl
theorem fa7_0 (l o : Nat) : afieldAddr T 7 (.ptr (some (l, o))) 0 = some (.ptr (some (l, o + 0))) := by kernel_rfl
theorem fv7_0 (cs : List AV) : afield T 7 (.agg cs) 0 = cs[0]? := by kernel_rfl
theorem fa7_1 (l o : Nat) : afieldAddr T 7 (.ptr (some (l, o))) 1 = some (.ptr (some (l, o + 1))) := by kernel_rfl
theorem fv7_1 (cs : List AV) : afield T 7 (.agg cs) 1 = cs[1]? := by kernel_rfl
theorem fa7_2 (l o : Nat) : afieldAddr T 7 (.ptr (some (l, o))) 2 = some (.ptr (some (l, o + 2))) := by kernel_rfl
theorem fv7_2 (cs : List AV) : afield T 7 (.agg cs) 2 = cs[2]? := by kernel_rfl
theorem fa7_3 (l o : Nat) : afieldAddr T 7 (.ptr (some (l, o))) 3 = some (.ptr (some (l, o + 3))) := by kernel_rfl
theorem fv7_3 (cs : List AV) : afield T 7 (.agg cs) 3 = cs[3]? := by kernel_rfl
theorem siz8 : T.siz 8 = some 4 := by kernel_rfl
theorem byt8 : T.byt 8 = some 24 := by kernel_rfl
theorem agg8 : T.agg 8 = some true := by kernel_rfl
theorem zer8 : T.zer 8 = some (.agg [.int .i64 0, .int .i64 0, .bool false, .int .u8 0]) := by kernel_rfl
theorem fa8_0 (l o : Nat) : afieldAddr T 8 (.ptr (some (l, o))) 0 = some (.ptr (some (l, o + 0))) := by kernel_rfl
theorem fv8_0 (cs : List AV) : afield T 8 (.agg cs) 0 = cs[0]? := by kernel_rfl
theorem fa8_1 (l o : Nat) : afieldAddr T 8 (.ptr (some (l, o))) 1 = some (.ptr (some (l, o + 1))) := by kernel_rfl
theorem fv8_1 (cs : List AV) : afield T 8 (.agg cs) 1 = cs[1]? := by kernel_rfl
theorem fa8_2 (l o : Nat) : afieldAddr T 8 (.ptr (some (l, o))) 2 = some (.ptr (some (l, o + 2))) := by kernel_rfl
theorem fv8_2 (cs : List AV) : afield T 8 (.agg cs) 2 = cs[2]? := by kernel_rfl
theorem fa8_3 (l o : Nat) : afieldAddr T 8 (.ptr (some (l, o))) 3 = some (.ptr (some (l, o + 3))) := by kernel_rfl
theorem fv8_3 (cs : List AV) : afield T 8 (.agg cs) 3 = cs[3]? := by kernel_rfl
theorem und9 : T.und 9 = some (.string) := by kernel_rfl
theorem siz9 : T.siz 9 = some 1 := by kernel_rfl
theorem byt9 : T.byt 9 = some 16 := by kernel_rfl
theorem agg9 : T.agg 9 = some false := by kernel_rfl
theorem zer9 : T.zer 9 = some (.str []) := by kernel_rfl
theorem und10 : T.und 10 = some (.string) := by kernel_rfl
theorem siz10 : T.siz 10 = some 1 := by kernel_rfl
theorem byt10 : T.byt 10 = some 16 := by kernel_rfl
theorem agg10 : T.agg 10 = some false := by kernel_rfl
theorem zer10 : T.zer 10 = some (.str []) := by kernel_rfl
theorem und11 : T.und 11 = some (.string) := by kernel_rfl
theorem siz11 : T.siz 11 = some 1 := by kernel_rfl
theorem byt11 : T.byt 11 = some 16 := by kernel_rfl
theorem agg11 : T.agg 11 = some false := by kernel_rfl
theorem zer11 : T.zer 11 = some (.str []) := by kernel_rfl
theorem und12 : T.und 12 = some (.int .u64) := by kernel_rfl
theorem siz12 : T.siz 12 = some 1 := by kernel_rfl
theorem byt12 : T.byt 12 = some 8 := by kernel_rfl
theorem agg12 : T.agg 12 = some false := by kernel_rfl
theorem zer12 : T.zer 12 = some (.int .u64 0) := by kernel_rfl
theorem siz13 : T.siz 13 = some 2 := by kernel_rfl
theorem byt13 : T.byt 13 = some 24 := by kernel_rfl
theorem agg13 : T.agg 13 = some true := by kernel_rfl
theorem zer13 : T.zer 13 = some (.agg [.str [], .int .u64 0]) := by kernel_rfl
theorem fa13_0 (l o : Nat) : afieldAddr T 13 (.ptr (some (l, o))) 0 = some (.ptr (some (l, o + 0))) := by kernel_rfl
theorem fv13_0 (cs : List AV) : afield T 13 (.agg cs) 0 = cs[0]? := by kernel_rfl
theorem fa13_1 (l o : Nat) : afieldAddr T 13 (.ptr (some (l, o))) 1 = some (.ptr (some (l, o + 1))) := by kernel_rfl
theorem fv13_1 (cs : List AV) : afield T 13 (.agg cs) 1 = cs[1]? := by kernel_rfl
theorem siz14 : T.siz 14 = some 2 := by kernel_rfl
theorem byt14 : T.byt 14 = some 24 := by kernel_rfl
theorem agg14 : T.agg 14 = some true := by kernel_rfl
theorem zer14 : T.zer 14 = some (.agg [.str [], .int .u64 0]) := by kernel_rfl
theorem fa14_0 (l o : Nat) : afieldAddr T 14 (.ptr (some (l, o))) 0 = some (.ptr (some (l, o + 0))) := by kernel_rfl
theorem fv14_0 (cs : List AV) : afield T 14 (.agg cs) 0 = cs[0]? := by kernel_rfl
theorem fa14_1 (l o : Nat) : afieldAddr T 14 (.ptr (some (l, o))) 1 = some (.ptr (some (l, o + 1))) := by kernel_rfl
theorem fv14_1 (cs : List AV) : afield T 14 (.agg cs) 1 = cs[1]? := by kernel_rfl
theorem und15 : T.und 15 = some (.pointer 140) := by kernel_rfl
theorem siz15 : T.siz 15 = some 1 := by kernel_rfl
theorem byt15 : T.byt 15 = some 8 := by kernel_rfl
theorem agg15 : T.agg 15 = some false := by kernel_rfl
theorem zer15 : T.zer 15 = some (.ptr none) := by kernel_rfl
theorem und16 : T.und 16 = some (.pointer 143) := by kernel_rfl
theorem siz16 : T.siz 16 = some 1 := by kernel_rfl
theorem byt16 : T.byt 16 = some 8 := by kernel_rfl
theorem agg16 : T.agg 16 = some false := by kernel_rfl
theorem zer16 : T.zer 16 = some (.ptr none) := by kernel_rfl
theorem und17 : T.und 17 = some (.pointer 152) := by kernel_rfl
theorem siz17 : T.siz 17 = some 1 := by kernel_rfl
theorem byt17 : T.byt 17 = some 8 := by kernel_rfl
theorem agg17 : T.agg 17 = some false := by kernel_rfl
theorem zer17 : T.zer 17 = some (.ptr none) := by kernel_rfl
theorem siz18 : T.siz 18 = some 1 := by kernel_rfl
theorem byt18 : T.byt 18 = some 8 := by kernel_rfl
theorem agg18 : T.agg 18 = some true := by kernel_rfl
theorem zer18 : T.zer 18 = some (.agg [.ptr none]) := by kernel_rfl
theorem fa18_0 (l o : Nat) : afieldAddr T 18 (.ptr (some (l, o))) 0 = some (.ptr (some (l, o + 0))) := by kernel_rfl
theorem fv18_0 (cs : List AV) : afield T 18 (.agg cs) 0 = cs[0]? := by kernel_rfl
theorem siz19 : T.siz 19 = some 1 := by kernel_rfl
theorem byt19 : T.byt 19 = some 8 := by kernel_rfl
theorem agg19 : T.agg 19 = some true := by kernel_rfl
theorem zer19 : T.zer 19 = some (.agg [.ptr none]) := by kernel_rfl
theorem fa19_0 (l o : Nat) : afieldAddr T 19 (.ptr (some (l, o))) 0 = some (.ptr (some (l, o + 0))) := by kernel_rfl
theorem fv19_0 (cs : List AV) : afield T 19 (.agg cs) 0 = cs[0]? := by kernel_rfl
theorem siz20 : T.siz 20 = some 1 := by kernel_rfl
theorem byt20 : T.byt 20 = some 16 := by kernel_rfl
theorem agg20 : T.agg 20 = some false := by kernel_rfl
theorem zer20 : T.zer 20 = some (.nilIface) := by kernel_rfl
theorem und21 : T.und 21 = some (.int .i32) := by kernel_rfl
theorem siz21 : T.siz 21 = some 1 := by kernel_rfl
theorem byt21 : T.byt 21 = some 4 := by kernel_rfl
theorem agg21 : T.agg 21 = some false := by kernel_rfl
theorem zer21 : T.zer 21 = some (.int .i32 0) := by kernel_rfl
theorem und22 : T.und 22 = some (.slice 35) := by kernel_rfl
theorem siz22 : T.siz 22 = some 1 := by kernel_rfl
theorem byt22 : T.byt 22 = some 24 := by kernel_rfl
theorem agg22 : T.agg 22 = some false := by kernel_rfl
theorem zer22 : T.zer 22 = some (.slc none 0 0 true) := by kernel_rfl
theorem siz23 : T.siz 23 = some 1 := by kernel_rfl
theorem byt23 : T.byt 23 = some 8 := by kernel_rfl
theorem agg23 : T.agg 23 = some false := by kernel_rfl
theorem zer23 : T.zer 23 = some (.nilFunc) := by kernel_rfl
theorem und24 : T.und 24 = some (.pointer 61) := by kernel_rfl
theorem siz24 : T.siz 24 = some 1 := by kernel_rfl
theorem byt24 : T.byt 24 = some 8 := by kernel_rfl
theorem agg24 : T.agg 24 = some false := by kernel_rfl
theorem zer24 : T.zer 24 = some (.ptr none) := by kernel_rfl
theorem siz25 : T.siz 25 = some 1 := by kernel_rfl
theorem byt25 : T.byt 25 = some 8 := by kernel_rfl
theorem agg25 : T.agg 25 = some false := by kernel_rfl
theorem zer25 : T.zer 25 = some (.nilFunc) := by kernel_rfl
theorem und26 : T.und 26 = some (.pointer 30) := by kernel_rfl
theorem siz26 : T.siz 26 = some 1 := by kernel_rfl
theorem byt26 : T.byt 26 = some 8 := by kernel_rfl
theorem agg26 : T.agg 26 = some false := by kernel_rfl
theorem zer26 : T.zer 26 = some (.ptr none) := by kernel_rfl
theorem und27 : T.und 27 = some (.int .u64) := by kernel_rfl
theorem siz27 : T.siz 27 = some 1 := by kernel_rfl
theorem byt27 : T.byt 27 = some 8 := by kernel_rfl
theorem agg27 : T.agg 27 = some false := by kernel_rfl
theorem zer27 : T.zer 27 = some (.int .u64 0) := by kernel_rfl
theorem und28 : T.und 28 = some (.array 16 27) := by kernel_rfl
theorem siz28 : T.siz 28 = some 16 := by kernel_rfl
theorem byt28 : T.byt 28 = some 128 := by kernel_rfl
theorem agg28 : T.agg 28 = some true := by kernel_rfl
theorem zer28 : T.zer 28 = some (.agg [.int .u64 0, .int .u64 0, .int .u64 0, .int .u64 0, .int .u64 0, .int .u64 0, .int .u64 0, .int .u64 0, .int .u64 0, .int .u64 0, .int .u64 0, .int .u64 0, .int .u64 0, .int .u64 0, .int .u64 0, .int .u64 0]) := by kernel_rfl
theorem siz29 : T.siz 29 = some 17 := by kernel_rfl
theorem byt29 : T.byt 29 = some 152 := by kernel_rfl
theorem agg29 : T.agg 29 = some true := by kernel_rfl
theorem zer29 : T.zer 29 = some (.agg [.int .u64 0, .int .u64 0, .int .u64 0, .int .u64 0, .int .u64 0, .int .u64 0, .int .u64 0, .int .u64 0, .int .u64 0, .int .u64 0, .int .u64 0, .int .u64 0, .int .u64 0, .int .u64 0, .int .u64 0, .int .u64 0, .slc none 0 0 true]) := by kernel_rfl
theorem fa29_0 (l o : Nat) : afieldAddr T 29 (.ptr (some (l, o))) 0 = some (.ptr (some (l, o + 0))) := by kernel_rfl
theorem fv29_0 (cs : List AV) : afield T 29 (.agg cs) 0 = some (.agg ((cs.drop 0).take 16)) := by kernel_rfl
theorem fa29_1 (l o : Nat) : afieldAddr T 29 (.ptr (some (l, o))) 1 = some (.ptr (some (l, o + 16))) := by kernel_rfl
theorem fv29_1 (cs : List AV) : afield T 29 (.agg cs) 1 = cs[16]? := by kernel_rfl
theorem siz30 : T.siz 30 = some 17 := by kernel_rfl
theorem byt30 : T.byt 30 = some 152 := by kernel_rfl
theorem agg30 : T.agg 30 = some true := by kernel_rfl
theorem zer30 : T.zer 30 = some (.agg [.int .u64 0, .int .u64 0, .int .u64 0, .int .u64 0, .int .u64 0, .int .u64 0, .int .u64 0, .int .u64 0, .int .u64 0, .int .u64 0, .int .u64 0, .int .u64 0, .int .u64 0, .int .u64 0, .int .u64 0, .int .u64 0, .slc none 0 0 true]) := by kernel_rfl
theorem fa30_0 (l o : Nat) : afieldAddr T 30 (.ptr (some (l, o))) 0 = some (.ptr (some (l, o + 0))) := by kernel_rfl
theorem fv30_0 (cs : List AV) : afield T 30 (.agg cs) 0 = some (.agg ((cs.drop 0).take 16)) := by kernel_rfl
theorem fa30_1 (l o : Nat) : afieldAddr T 30 (.ptr (some (l, o))) 1 = some (.ptr (some (l, o + 16))) := by kernel_rfl
theorem fv30_1 (cs : List AV) : afield T 30 (.agg cs) 1 = cs[16]? := by kernel_rfl
theorem und31 : T.und 31 = some (.int .i64) := by kernel_rfl
theorem siz31 : T.siz 31 = some 1 := by kernel_rfl
theorem byt31 : T.byt 31 = some 8 := by kernel_rfl
theorem agg31 : T.agg 31 = some false := by kernel_rfl
theorem zer31 : T.zer 31 = some (.int .i64 0) := by kernel_rfl
theorem siz32 : T.siz 32 = some 1 := by kernel_rfl
theorem byt32 : T.byt 32 = some 0 := by kernel_rfl
theorem agg32 : T.agg 32 = some false := by kernel_rfl
theorem zer32 : T.zer 32 = some (.tup [.bool false, .int .i64 0]) := by kernel_rfl
theorem siz33 : T.siz 33 = some 1 := by kernel_rfl
theorem byt33 : T.byt 33 = some 8 := by kernel_rfl
theorem agg33 : T.agg 33 = some false := by kernel_rfl
theorem zer33 : T.zer 33 = some (.nilFunc) := by kernel_rfl
theorem siz34 : T.siz 34 = some 2 := by kernel_rfl
theorem byt34 : T.byt 34 = some 16 := by kernel_rfl
theorem agg34 : T.agg 34 = some true := by kernel_rfl
theorem zer34 : T.zer 34 = some (.agg [.int .i64 0, .int .u64 0]) := by kernel_rfl
theorem fa34_0 (l o : Nat) : afieldAddr T 34 (.ptr (some (l, o))) 0 = some (.ptr (some (l, o + 0))) := by kernel_rfl
theorem fv34_0 (cs : List AV) : afield T 34 (.agg cs) 0 = cs[0]? := by kernel_rfl
theorem fa34_1 (l o : Nat) : afieldAddr T 34 (.ptr (some (l, o))) 1 = some (.ptr (some (l, o + 1))) := by kernel_rfl
theorem fv34_1 (cs : List AV) : afield T 34 (.agg cs) 1 = cs[1]? := by kernel_rfl
theorem siz35 : T.siz 35 = some 2 := by kernel_rfl
theorem byt35 : T.byt 35 = some 16 := by kernel_rfl
theorem agg35 : T.agg 35 = some true := by kernel_rfl
theorem zer35 : T.zer 35 = some (.agg [.int .i64 0, .int .u64 0]) := by kernel_rfl
theorem fa35_0 (l o : Nat) : afieldAddr T 35 (.ptr (some (l, o))) 0 = some (.ptr (some (l, o + 0))) := by kernel_rfl
theorem fv35_0 (cs : List AV) : afield T 35 (.agg cs) 0 = cs[0]? := by kernel_rfl
theorem fa35_1 (l o : Nat) : afieldAddr T 35 (.ptr (some (l, o))) 1 = some (.ptr (some (l, o + 1))) := by kernel_rfl
theorem fv35_1 (cs : List AV) : afield T 35 (.agg cs) 1 = cs[1]? := by kernel_rfl
theorem siz36 : T.siz 36 = some 1 := by kernel_rfl
theorem byt36 : T.byt 36 = some 8 := by kernel_rfl
theorem agg36 : T.agg 36 = some false := by kernel_rfl
theorem zer36 : T.zer 36 = some (.nilFunc) := by kernel_rfl
theorem siz37 : T.siz 37 = some 1 := by kernel_rfl
theorem byt37 : T.byt 37 = some 8 := by kernel_rfl
theorem agg37 : T.agg 37 = some false := by kernel_rfl
theorem zer37 : T.zer 37 = some (.nilFunc) := by kernel_rfl
theorem siz38 : T.siz 38 = some 1 := by kernel_rfl
theorem byt38 : T.byt 38 = some 8 := by kernel_rfl
theorem agg38 : T.agg 38 = some false := by kernel_rfl
theorem zer38 : T.zer 38 = some (.nilFunc) := by kernel_rfl
theorem siz39 : T.siz 39 = some 1 := by kernel_rfl
theorem byt39 : T.byt 39 = some 0 := by kernel_rfl
theorem agg39 : T.agg 39 = some false := by kernel_rfl
theorem zer39 : T.zer 39 = some (.tup [.int .u64 0, .int .i64 0]) := by kernel_rfl
theorem siz40 : T.siz 40 = some 1 := by kernel_rfl
theorem byt40 : T.byt 40 = some 8 := by kernel_rfl
theorem agg40 : T.agg 40 = some false := by kernel_rfl
theorem zer40 : T.zer 40 = some (.nilFunc) := by kernel_rfl
theorem siz41 : T.siz 41 = some 1 := by kernel_rfl
theorem byt41 : T.byt 41 = some 8 := by kernel_rfl
theorem agg41 : T.agg 41 = some false := by kernel_rfl
theorem zer41 : T.zer 41 = some (.nilFunc) := by kernel_rfl
theorem siz42 : T.siz 42 = some 1 := by kernel_rfl
theorem byt42 : T.byt 42 = some 8 := by kernel_rfl
theorem agg42 : T.agg 42 = some false := by kernel_rfl
theorem zer42 : T.zer 42 = some (.nilFunc) := by kernel_rfl
theorem und43 : T.und 43 = some (.array 16 27) := by kernel_rfl
theorem siz43 : T.siz 43 = some 16 := by kernel_rfl
theorem byt43 : T.byt 43 = some 128 := by kernel_rfl
theorem agg43 : T.agg 43 = some true := by kernel_rfl
theorem zer43 : T.zer 43 = some (.agg [.int .u64 0, .int .u64 0, .int .u64 0, .int .u64 0, .int .u64 0, .int .u64 0, .int .u64 0, .int .u64 0, .int .u64 0, .int .u64 0, .int .u64 0, .int .u64 0, .int .u64 0, .int .u64 0, .int .u64 0, .int .u64 0]) := by kernel_rfl
theorem siz44 : T.siz 44 = some 1 := by kernel_rfl
theorem byt44 : T.byt 44 = some 0 := by kernel_rfl
theorem agg44 : T.agg 44 = some false := by kernel_rfl
theorem zer44 : T.zer 44 = some (.tup [.ptr none, .int .i64 0]) := by kernel_rfl
theorem siz45 : T.siz 45 = some 1 := by kernel_rfl
theorem byt45 : T.byt 45 = some 8 := by kernel_rfl
theorem agg45 : T.agg 45 = some false := by kernel_rfl
theorem zer45 : T.zer 45 = some (.nilFunc) := by kernel_rfl
theorem siz46 : T.siz 46 = some 1 := by kernel_rfl
theorem byt46 : T.byt 46 = some 0 := by kernel_rfl
theorem agg46 : T.agg 46 = some false := by kernel_rfl
theorem zer46 : T.zer 46 = some (.tup [.ptr none, .bool false]) := by kernel_rfl
theorem siz47 : T.siz 47 = some 1 := by kernel_rfl
theorem byt47 : T.byt 47 = some 8 := by kernel_rfl
theorem agg47 : T.agg 47 = some false := by kernel_rfl
theorem zer47 : T.zer 47 = some (.nilFunc) := by kernel_rfl
theorem siz48 : T.siz 48 = some 1 := by kernel_rfl
theorem byt48 : T.byt 48 = some 0 := by kernel_rfl
theorem agg48 : T.agg 48 = some false := by kernel_rfl
theorem zer48 : T.zer 48 = some (.tup [.ptr none, .ptr none]) := by kernel_rfl
theorem siz49 : T.siz 49 = some 1 := by kernel_rfl
theorem byt49 : T.byt 49 = some 8 := by kernel_rfl
theorem agg49 : T.agg 49 = some false := by kernel_rfl
theorem zer49 : T.zer 49 = some (.nilFunc) := by kernel_rfl
theorem siz50 : T.siz 50 = some 1 := by kernel_rfl
theorem byt50 : T.byt 50 = some 8 := by kernel_rfl
theorem agg50 : T.agg 50 = some false := by kernel_rfl
theorem zer50 : T.zer 50 = some (.nilFunc) := by kernel_rfl
theorem siz51 : T.siz 51 = some 1 := by kernel_rfl
theorem byt51 : T.byt 51 = some 8 := by kernel_rfl
theorem agg51 : T.agg 51 = some false := by kernel_rfl
theorem zer51 : T.zer 51 = some (.nilFunc) := by kernel_rfl
theorem siz52 : T.siz 52 = some 1 := by kernel_rfl
theorem byt52 : T.byt 52 = some 8 := by kernel_rfl
theorem agg52 : T.agg 52 = some false := by kernel_rfl
theorem zer52 : T.zer 52 = some (.nilFunc) := by kernel_rfl
theorem siz53 : T.siz 53 = some 1 := by kernel_rfl
theorem byt53 : T.byt 53 = some 8 := by kernel_rfl
theorem agg53 : T.agg 53 = some false := by kernel_rfl
theorem zer53 : T.zer 53 = some (.nilFunc) := by kernel_rfl
theorem siz54 : T.siz 54 = some 1 := by kernel_rfl
theorem byt54 : T.byt 54 = some 8 := by kernel_rfl
theorem agg54 : T.agg 54 = some false := by kernel_rfl
theorem zer54 : T.zer 54 = some (.nilFunc) := by kernel_rfl
theorem siz55 : T.siz 55 = some 1 := by kernel_rfl
theorem byt55 : T.byt 55 = some 8 := by kernel_rfl
theorem agg55 : T.agg 55 = some false := by kernel_rfl
theorem zer55 : T.zer 55 = some (.nilFunc) := by kernel_rfl
theorem siz56 : T.siz 56 = some 1 := by kernel_rfl
theorem byt56 : T.byt 56 = some 8 := by kernel_rfl
theorem agg56 : T.agg 56 = some false := by kernel_rfl
theorem zer56 : T.zer 56 = some (.nilFunc) := by kernel_rfl
theorem siz57 : T.siz 57 = some 1 := by kernel_rfl
theorem byt57 : T.byt 57 = some 8 := by kernel_rfl
theorem agg57 : T.agg 57 = some false := by kernel_rfl
theorem zer57 : T.zer 57 = some (.nilFunc) := by kernel_rfl
theorem siz58 : T.siz 58 = some 1 := by kernel_rfl
theorem byt58 : T.byt 58 = some 8 := by kernel_rfl
theorem agg58 : T.agg 58 = some false := by kernel_rfl
theorem zer58 : T.zer 58 = some (.nilFunc) := by kernel_rfl
theorem siz59 : T.siz 59 = some 1 := by kernel_rfl
theorem byt59 : T.byt 59 = some 8 := by kernel_rfl
theorem agg59 : T.agg 59 = some false := by kernel_rfl
theorem zer59 : T.zer 59 = some (.nilFunc) := by kernel_rfl
theorem siz60 : T.siz 60 = some 18 := by kernel_rfl
theorem byt60 : T.byt 60 = some 160 := by kernel_rfl
theorem agg60 : T.agg 60 = some true := by kernel_rfl
theorem zer60 : T.zer 60 = some (.agg [.int .u64 0, .int .u64 0, .int .u64 0, .int .u64 0, .int .u64 0, .int .u64 0, .int .u64 0, .int .u64 0, .int .u64 0, .int .u64 0, .int .u64 0, .int .u64 0, .int .u64 0, .int .u64 0, .int .u64 0, .int .u64 0, .slc none 0 0 true, .bool false]) := by kernel_rfl
theorem fa60_0 (l o : Nat) : afieldAddr T 60 (.ptr (some (l, o))) 0 = some (.ptr (some (l, o + 0))) := by kernel_rfl
theorem fv60_0 (cs : List AV) : afield T 60 (.agg cs) 0 = some (.agg ((cs.drop 0).take 16)) := by kernel_rfl
theorem fa60_1 (l o : Nat) : afieldAddr T 60 (.ptr (some (l, o))) 1 = some (.ptr (some (l, o + 16))) := by kernel_rfl
theorem fv60_1 (cs : List AV) : afield T 60 (.agg cs) 1 = cs[16]? := by kernel_rfl
theorem fa60_2 (l o : Nat) : afieldAddr T 60 (.ptr (some (l, o))) 2 = some (.ptr (some (l, o + 17))) := by kernel_rfl
theorem fv60_2 (cs : List AV) : afield T 60 (.agg cs) 2 = cs[17]? := by kernel_rfl
theorem siz61 : T.siz 61 = some 18 := by kernel_rfl
theorem byt61 : T.byt 61 = some 160 := by kernel_rfl
theorem agg61 : T.agg 61 = some true := by kernel_rfl
theorem zer61 : T.zer 61 = some (.agg [.int .u64 0, .int .u64 0, .int .u64 0, .int .u64 0, .int .u64 0, .int .u64 0, .int .u64 0, .int .u64 0, .int .u64 0, .int .u64 0, .int .u64 0, .int .u64 0, .int .u64 0, .int .u64 0, .int .u64 0, .int .u64 0, .slc none 0 0 true, .bool false]) := by kernel_rfl
theorem fa61_0 (l o : Nat) : afieldAddr T 61 (.ptr (some (l, o))) 0 = some (.ptr (some (l, o + 0))) := by kernel_rfl
theorem fv61_0 (cs : List AV) : afield T 61 (.agg cs) 0 = some (.agg ((cs.drop 0).take 16)) := by kernel_rfl
theorem fa61_1 (l o : Nat) : afieldAddr T 61 (.ptr (some (l, o))) 1 = some (.ptr (some (l, o + 16))) := by kernel_rfl
theorem fv61_1 (cs : List AV) : afield T 61 (.agg cs) 1 = cs[16]? := by kernel_rfl
theorem fa61_2 (l o : Nat) : afieldAddr T 61 (.ptr (some (l, o))) 2 = some (.ptr (some (l, o + 17))) := by kernel_rfl
theorem fv61_2 (cs : List AV) : afield T 61 (.agg cs) 2 = cs[17]? := by kernel_rfl
theorem und62 : T.und 62 = some (.slice 24) := by kernel_rfl
theorem siz62 : T.siz 62 = some 1 := by kernel_rfl
theorem byt62 : T.byt 62 = some 24 := by kernel_rfl
theorem agg62 : T.agg 62 = some false := by kernel_rfl
theorem zer62 : T.zer 62 = some (.slc none 0 0 true) := by kernel_rfl
theorem und63 : T.und 63 = some (.slice 3) := by kernel_rfl
theorem siz63 : T.siz 63 = some 1 := by kernel_rfl
theorem byt63 : T.byt 63 = some 24 := by kernel_rfl
theorem agg63 : T.agg 63 = some false := by kernel_rfl
theorem zer63 : T.zer 63 = some (.slc none 0 0 true) := by kernel_rfl
theorem siz64 : T.siz 64 = some 1 := by kernel_rfl
theorem byt64 : T.byt 64 = some 8 := by kernel_rfl
theorem agg64 : T.agg 64 = some false := by kernel_rfl
theorem zer64 : T.zer 64 = some (.nilFunc) := by kernel_rfl
theorem siz65 : T.siz 65 = some 1 := by kernel_rfl
theorem byt65 : T.byt 65 = some 8 := by kernel_rfl
theorem agg65 : T.agg 65 = some false := by kernel_rfl
theorem zer65 : T.zer 65 = some (.nilFunc) := by kernel_rfl
theorem und66 : T.und 66 = some (.pointer 90) := by kernel_rfl
theorem siz66 : T.siz 66 = some 1 := by kernel_rfl
theorem byt66 : T.byt 66 = some 8 := by kernel_rfl
theorem agg66 : T.agg 66 = some false := by kernel_rfl
theorem zer66 : T.zer 66 = some (.ptr none) := by kernel_rfl
theorem siz67 : T.siz 67 = some 1 := by kernel_rfl
theorem byt67 : T.byt 67 = some 0 := by kernel_rfl
theorem agg67 : T.agg 67 = some false := by kernel_rfl
theorem zer67 : T.zer 67 = some (.tup [.ptr none, .int .i64 0]) := by kernel_rfl
theorem siz68 : T.siz 68 = some 1 := by kernel_rfl
theorem byt68 : T.byt 68 = some 8 := by kernel_rfl
theorem agg68 : T.agg 68 = some false := by kernel_rfl
theorem zer68 : T.zer 68 = some (.nilFunc) := by kernel_rfl
theorem und69 : T.und 69 = some (.map 3 3) := by kernel_rfl
theorem siz69 : T.siz 69 = some 1 := by kernel_rfl
theorem byt69 : T.byt 69 = some 8 := by kernel_rfl
theorem agg69 : T.agg 69 = some false := by kernel_rfl
theorem zer69 : T.zer 69 = some (.map none) := by kernel_rfl
theorem siz70 : T.siz 70 = some 1 := by kernel_rfl
theorem byt70 : T.byt 70 = some 8 := by kernel_rfl
theorem agg70 : T.agg 70 = some false := by kernel_rfl
theorem zer70 : T.zer 70 = some (.nilFunc) := by kernel_rfl
theorem siz71 : T.siz 71 = some 1 := by kernel_rfl
theorem byt71 : T.byt 71 = some 8 := by kernel_rfl
theorem agg71 : T.agg 71 = some false := by kernel_rfl
theorem zer71 : T.zer 71 = some (.nilFunc) := by kernel_rfl
theorem siz72 : T.siz 72 = some 1 := by kernel_rfl
theorem byt72 : T.byt 72 = some 8 := by kernel_rfl
theorem agg72 : T.agg 72 = some false := by kernel_rfl
theorem zer72 : T.zer 72 = some (.nilFunc) := by kernel_rfl
theorem und73 : T.und 73 = some (.slice 77) := by kernel_rfl
theorem siz73 : T.siz 73 = some 1 := by kernel_rfl
theorem byt73 : T.byt 73 = some 24 := by kernel_rfl
theorem agg73 : T.agg 73 = some false := by kernel_rfl
theorem zer73 : T.zer 73 = some (.slc none 0 0 true) := by kernel_rfl
theorem siz74 : T.siz 74 = some 1 := by kernel_rfl
theorem byt74 : T.byt 74 = some 8 := by kernel_rfl
theorem agg74 : T.agg 74 = some false := by kernel_rfl
theorem zer74 : T.zer 74 = some (.nilFunc) := by kernel_rfl
theorem und75 : T.und 75 = some (.array 17 43) := by kernel_rfl
theorem siz75 : T.siz 75 = some 272 := by kernel_rfl
theorem byt75 : T.byt 75 = some 2176 := by kernel_rfl
theorem agg75 : T.agg 75 = some true := by kernel_rfl
theorem zer75 : T.zer 75 = some (.agg [.int .u64 0, .int .u64 0, .int .u64 0, .int .u64 0, .int .u64 0, .int .u64 0, .int .u64 0, .int .u64 0, .int .u64 0, .int .u64 0, .int .u64 0, .int .u64 0, .int .u64 0, .int .u64 0, .int .u64 0, .int .u64 0, .int .u64 0, .int .u64 0, .int .u64 0, .int .u64 0, .int .u64 0, .int .u64 0, .int .u64 0, .int .u64 0, .int .u64 0, .int .u64 0, .int .u64 0, .int .u64 0, .int .u64 0, .int .u64 0, .int .u64 0, .int .u64 0, .int .u64 0, .int .u64 0, .int .u64 0, .int .u64 0, .int .u64 0, .int .u64 0, .int .u64 0, .int .u64 0, .int .u64 0, .int .u64 0, .int .u64 0, .int .u64 0, .int .u64 0, .int .u64 0, .int .u64 0, .int .u64 0, .int .u64 0, .int .u64 0, .int .u64 0, .int .u64 0, .int .u64 0, .int .u64 0, .int .u64 0, .int .u64 0, .int .u64 0, .int .u64 0, .int .u64 0, .int .u64 0, .int .u64 0, .int .u64 0, .int .u64 0, .int .u64 0, .int .u64 0, .int .u64 0, .int .u64 0, .int .u64 0, .int .u64 0, .int .u64 0, .int .u64 0, .int .u64 0, .int .u64 0, .int .u64 0, .int .u64 0, .int .u64 0, .int .u64 0, .int .u64 0, .int .u64 0, .int .u64 0, .int .u64 0, .int .u64 0, .int .u64 0, .int .u64 0, .int .u64 0, .int .u64 0, .int .u64 0, .int .u64 0, .int .u64 0, .int .u64 0, .int .u64 0, .int .u64 0, .int .u64 0, .int .u64 0, .int .u64 0, .int .u64 0, .int .u64 0, .int .u64 0, .int .u64 0, .int .u64 0, .int .u64 0, .int .u64 0, .int .u64 0, .int .u64 0, .int .u64 0, .int .u64 0, .int .u64 0, .int .u64 0, .int .u64 0, .int .u64 0, .int .u64 0, .int .u64 0, .int .u64 0, .int .u64 0, .int .u64 0, .int .u64 0, .int .u64 0, .int .u64 0, .int .u64 0, .int .u64 0, .int .u64 0, .int .u64 0, .int .u64 0, .int .u64 0, .int .u64 0, .int .u64 0, .int .u64 0, .int .u64 0, .int .u64 0, .int .u64 0, .int .u64 0, .int .u64 0, .int .u64 0, .int .u64 0, .int .u64 0, .int .u64 0, .int .u64 0, .int .u64 0, .int .u64 0, .int .u64 0, .int .u64 0, .int .u64 0, .int .u64 0, .int .u64 0, .int .u64 0, .int .u64 0, .int .u64 0, .int .u64 0, .int .u64 0, .int .u64 0, .int .u64 0, .int .u64 0, .int .u64 0, .int .u64 0, .int .u64 0, .int .u64 0, .int .u64 0, .int .u64 0, .int .u64 0, .int .u64 0, .int .u64 0, .int .u64 0, .int .u64 0, .int .u64 0, .int .u64 0, .int .u64 0, .int .u64 0, .int .u64 0, .int .u64 0, .int .u64 0, .int .u64 0, .int .u64 0, .int .u64 0, .int .u64 0, .int .u64 0, .int .u64 0, .int .u64 0, .int .u64 0, .int .u64 0, .int .u64 0, .int .u64 0, .int .u64 0, .int .u64 0, .int .u64 0, .int .u64 0, .int .u64 0, .int .u64 0, .int .u64 0, .int .u64 0, .int .u64 0, .int .u64 0, .int .u64 0, .int .u64 0, .int .u64 0, .int .u64 0, .int .u64 0, .int .u64 0, .int .u64 0, .int .u64 0, .int .u64 0, .int .u64 0, .int .u64 0, .int .u64 0, .int .u64 0, .int .u64 0, .int .u64 0, .int .u64 0, .int .u64 0, .int .u64 0, .int .u64 0, .int .u64 0, .int .u64 0, .int .u64 0, .int .u64 0, .int .u64 0, .int .u64 0, .int .u64 0, .int .u64 0, .int .u64 0, .int .u64 0, .int .u64 0, .int .u64 0, .int .u64 0, .int .u64 0, .int .u64 0, .int .u64 0, .int .u64 0, .int .u64 0, .int .u64 0, .int .u64 0, .int .u64 0, .int .u64 0, .int .u64 0, .int .u64 0, .int .u64 0, .int .u64 0, .int .u64 0, .int .u64 0, .int .u64 0, .int .u64 0, .int .u64 0, .int .u64 0, .int .u64 0, .int .u64 0, .int .u64 0, .int .u64 0, .int .u64 0, .int .u64 0, .int .u64 0, .int .u64 0, .int .u64 0, .int .u64 0, .int .u64 0, .int .u64 0, .int .u64 0, .int .u64 0, .int .u64 0, .int .u64 0, .int .u64 0, .int .u64 0, .int .u64 0, .int .u64 0, .int .u64 0, .int .u64 0, .int .u64 0, .int .u64 0, .int .u64 0, .int .u64 0, .int .u64 0, .int .u64 0, .int .u64 0, .int .u64 0]) := by kernel_rfl
theorem siz76 : T.siz 76 = some 20 := by kernel_rfl
theorem byt76 : T.byt 76 = some 192 := by kernel_rfl
theorem agg76 : T.agg 76 = some true := by kernel_rfl
theorem zer76 : T.zer 76 = some (.agg [.int .i64 0, .int .i64 0, .slc none 0 0 true, .slc none 0 0 true, .int .u64 0, .int .u64 0, .int .u64 0, .int .u64 0, .int .u64 0, .int .u64 0, .int .u64 0, .int .u64 0, .int .u64 0, .int .u64 0, .int .u64 0, .int .u64 0, .int .u64 0, .int .u64 0, .int .u64 0, .int .u64 0]) := by kernel_rfl
theorem fa76_0 (l o : Nat) : afieldAddr T 76 (.ptr (some (l, o))) 0 = some (.ptr (some (l, o + 0))) := by kernel_rfl
theorem fv76_0 (cs : List AV) : afield T 76 (.agg cs) 0 = cs[0]? := by kernel_rfl
theorem fa76_1 (l o : Nat) : afieldAddr T 76 (.ptr (some (l, o))) 1 = some (.ptr (some (l, o + 1))) := by kernel_rfl
theorem fv76_1 (cs : List AV) : afield T 76 (.agg cs) 1 = cs[1]? := by kernel_rfl
theorem fa76_2 (l o : Nat) : afieldAddr T 76 (.ptr (some (l, o))) 2 = some (.ptr (some (l, o + 2))) := by kernel_rfl
theorem fv76_2 (cs : List AV) : afield T 76 (.agg cs) 2 = cs[2]? := by kernel_rfl
theorem fa76_3 (l o : Nat) : afieldAddr T 76 (.ptr (some (l, o))) 3 = some (.ptr (some (l, o + 3))) := by kernel_rfl
theorem fv76_3 (cs : List AV) : afield T 76 (.agg cs) 3 = cs[3]? := by kernel_rfl
theorem fa76_4 (l o : Nat) : afieldAddr T 76 (.ptr (some (l, o))) 4 = some (.ptr (some (l, o + 4))) := by kernel_rfl
theorem fv76_4 (cs : List AV) : afield T 76 (.agg cs) 4 = some (.agg ((cs.drop 4).take 16)) := by kernel_rfl
theorem siz77 : T.siz 77 = some 20 := by kernel_rfl
theorem byt77 : T.byt 77 = some 192 := by kernel_rfl
theorem agg77 : T.agg 77 = some true := by kernel_rfl
theorem zer77 : T.zer 77 = some (.agg [.int .i64 0, .int .i64 0, .slc none 0 0 true, .slc none 0 0 true, .int .u64 0, .int .u64 0, .int .u64 0, .int .u64 0, .int .u64 0, .int .u64 0, .int .u64 0, .int .u64 0, .int .u64 0, .int .u64 0, .int .u64 0, .int .u64 0, .int .u64 0, .int .u64 0, .int .u64 0, .int .u64 0]) := by kernel_rfl
theorem fa77_0 (l o : Nat) : afieldAddr T 77 (.ptr (some (l, o))) 0 = some (.ptr (some (l, o + 0))) := by kernel_rfl
theorem fv77_0 (cs : List AV) : afield T 77 (.agg cs) 0 = cs[0]? := by kernel_rfl
theorem fa77_1 (l o : Nat) : afieldAddr T 77 (.ptr (some (l, o))) 1 = some (.ptr (some (l, o + 1))) := by kernel_rfl
theorem fv77_1 (cs : List AV) : afield T 77 (.agg cs) 1 = cs[1]? := by kernel_rfl
theorem fa77_2 (l o : Nat) : afieldAddr T 77 (.ptr (some (l, o))) 2 = some (.ptr (some (l, o + 2))) := by kernel_rfl
theorem fv77_2 (cs : List AV) : afield T 77 (.agg cs) 2 = cs[2]? := by kernel_rfl
theorem fa77_3 (l o : Nat) : afieldAddr T 77 (.ptr (some (l, o))) 3 = some (.ptr (some (l, o + 3))) := by kernel_rfl
theorem fv77_3 (cs : List AV) : afield T 77 (.agg cs) 3 = cs[3]? := by kernel_rfl
theorem fa77_4 (l o : Nat) : afieldAddr T 77 (.ptr (some (l, o))) 4 = some (.ptr (some (l, o + 4))) := by kernel_rfl
theorem fv77_4 (cs : List AV) : afield T 77 (.agg cs) 4 = some (.agg ((cs.drop 4).take 16)) := by kernel_rfl
theorem siz78 : T.siz 78 = some 1 := by kernel_rfl
theorem byt78 : T.byt 78 = some 8 := by kernel_rfl
theorem agg78 : T.agg 78 = some false := by kernel_rfl
theorem zer78 : T.zer 78 = some (.nilFunc) := by kernel_rfl
theorem siz79 : T.siz 79 = some 1 := by kernel_rfl
theorem byt79 : T.byt 79 = some 8 := by kernel_rfl
theorem agg79 : T.agg 79 = some false := by kernel_rfl
theorem zer79 : T.zer 79 = some (.nilFunc) := by kernel_rfl
theorem siz80 : T.siz 80 = some 1 := by kernel_rfl
theorem byt80 : T.byt 80 = some 8 := by kernel_rfl
theorem agg80 : T.agg 80 = some false := by kernel_rfl
theorem zer80 : T.zer 80 = some (.nilFunc) := by kernel_rfl
theorem siz81 : T.siz 81 = some 1 := by kernel_rfl
theorem byt81 : T.byt 81 = some 8 := by kernel_rfl
theorem agg81 : T.agg 81 = some false := by kernel_rfl
theorem zer81 : T.zer 81 = some (.nilFunc) := by kernel_rfl
theorem siz82 : T.siz 82 = some 1 := by kernel_rfl
theorem byt82 : T.byt 82 = some 8 := by kernel_rfl
theorem agg82 : T.agg 82 = some false := by kernel_rfl
theorem zer82 : T.zer 82 = some (.nilFunc) := by kernel_rfl
theorem siz83 : T.siz 83 = some 1 := by kernel_rfl
theorem byt83 : T.byt 83 = some 8 := by kernel_rfl
theorem agg83 : T.agg 83 = some false := by kernel_rfl
theorem zer83 : T.zer 83 = some (.nilFunc) := by kernel_rfl
theorem siz84 : T.siz 84 = some 1 := by kernel_rfl
theorem byt84 : T.byt 84 = some 8 := by kernel_rfl
theorem agg84 : T.agg 84 = some false := by kernel_rfl
theorem zer84 : T.zer 84 = some (.nilFunc) := by kernel_rfl
theorem siz85 : T.siz 85 = some 1 := by kernel_rfl
theorem byt85 : T.byt 85 = some 8 := by kernel_rfl
theorem agg85 : T.agg 85 = some false := by kernel_rfl
theorem zer85 : T.zer 85 = some (.nilFunc) := by kernel_rfl
theorem siz86 : T.siz 86 = some 1 := by kernel_rfl
theorem byt86 : T.byt 86 = some 8 := by kernel_rfl
theorem agg86 : T.agg 86 = some false := by kernel_rfl
theorem zer86 : T.zer 86 = some (.nilFunc) := by kernel_rfl
theorem und87 : T.und 87 = some (.map 3 102) := by kernel_rfl
theorem siz87 : T.siz 87 = some 1 := by kernel_rfl
theorem byt87 : T.byt 87 = some 8 := by kernel_rfl
theorem agg87 : T.agg 87 = some false := by kernel_rfl
theorem zer87 : T.zer 87 = some (.map none) := by kernel_rfl
theorem und88 : T.und 88 = some (.array 16 43) := by kernel_rfl
theorem siz88 : T.siz 88 = some 256 := by kernel_rfl
theorem byt88 : T.byt 88 = some 2048 := by kernel_rfl
theorem agg88 : T.agg 88 = some true := by kernel_rfl
theorem zer88 : T.zer 88 = some (.agg [.int .u64 0, .int .u64 0, .int .u64 0, .int .u64 0, .int .u64 0, .int .u64 0, .int .u64 0, .int .u64 0, .int .u64 0, .int .u64 0, .int .u64 0, .int .u64 0, .int .u64 0, .int .u64 0, .int .u64 0, .int .u64 0, .int .u64 0, .int .u64 0, .int .u64 0, .int .u64 0, .int .u64 0, .int .u64 0, .int .u64 0, .int .u64 0, .int .u64 0, .int .u64 0, .int .u64 0, .int .u64 0, .int .u64 0, .int .u64 0, .int .u64 0, .int .u64 0, .int .u64 0, .int .u64 0, .int .u64 0, .int .u64 0, .int .u64 0, .int .u64 0, .int .u64 0, .int .u64 0, .int .u64 0, .int .u64 0, .int .u64 0, .int .u64 0, .int .u64 0, .int .u64 0, .int .u64 0, .int .u64 0, .int .u64 0, .int .u64 0, .int .u64 0, .int .u64 0, .int .u64 0, .int .u64 0, .int .u64 0, .int .u64 0, .int .u64 0, .int .u64 0, .int .u64 0, .int .u64 0, .int .u64 0, .int .u64 0, .int .u64 0, .int .u64 0, .int .u64 0, .int .u64 0, .int .u64 0, .int .u64 0, .int .u64 0, .int .u64 0, .int .u64 0, .int .u64 0, .int .u64 0, .int .u64 0, .int .u64 0, .int .u64 0, .int .u64 0, .int .u64 0, .int .u64 0, .int .u64 0, .int .u64 0, .int .u64 0, .int .u64 0, .int .u64 0, .int .u64 0, .int .u64 0, .int .u64 0, .int .u64 0, .int .u64 0, .int .u64 0, .int .u64 0, .int .u64 0, .int .u64 0, .int .u64 0, .int .u64 0, .int .u64 0, .int .u64 0, .int .u64 0, .int .u64 0, .int .u64 0, .int .u64 0, .int .u64 0, .int .u64 0, .int .u64 0, .int .u64 0, .int .u64 0, .int .u64 0, .int .u64 0, .int .u64 0, .int .u64 0, .int .u64 0, .int .u64 0, .int .u64 0, .int .u64 0, .int .u64 0, .int .u64 0, .int .u64 0, .int .u64 0, .int .u64 0, .int .u64 0, .int .u64 0, .int .u64 0, .int .u64 0, .int .u64 0, .int .u64 0, .int .u64 0, .int .u64 0, .int .u64 0, .int .u64 0, .int .u64 0, .int .u64 0, .int .u64 0, .int .u64 0, .int .u64 0, .int .u64 0, .int .u64 0, .int .u64 0, .int .u64 0, .int .u64 0, .int .u64 0, .int .u64 0, .int .u64 0, .int .u64 0, .int .u64 0, .int .u64 0, .int .u64 0, .int .u64 0, .int .u64 0, .int .u64 0, .int .u64 0, .int .u64 0, .int .u64 0, .int .u64 0, .int .u64 0, .int .u64 0, .int .u64 0, .int .u64 0, .int .u64 0, .int .u64 0, .int .u64 0, .int .u64 0, .int .u64 0, .int .u64 0, .int .u64 0, .int .u64 0, .int .u64 0, .int .u64 0, .int .u64 0, .int .u64 0, .int .u64 0, .int .u64 0, .int .u64 0, .int .u64 0, .int .u64 0, .int .u64 0, .int .u64 0, .int .u64 0, .int .u64 0, .int .u64 0, .int .u64 0, .int .u64 0, .int .u64 0, .int .u64 0, .int .u64 0, .int .u64 0, .int .u64 0, .int .u64 0, .int .u64 0, .int .u64 0, .int .u64 0, .int .u64 0, .int .u64 0, .int .u64 0, .int .u64 0, .int .u64 0, .int .u64 0, .int .u64 0, .int .u64 0, .int .u64 0, .int .u64 0, .int .u64 0, .int .u64 0, .int .u64 0, .int .u64 0, .int .u64 0, .int .u64 0, .int .u64 0, .int .u64 0, .int .u64 0, .int .u64 0, .int .u64 0, .int .u64 0, .int .u64 0, .int .u64 0, .int .u64 0, .int .u64 0, .int .u64 0, .int .u64 0, .int .u64 0, .int .u64 0, .int .u64 0, .int .u64 0, .int .u64 0, .int .u64 0, .int .u64 0, .int .u64 0, .int .u64 0, .int .u64 0, .int .u64 0, .int .u64 0, .int .u64 0, .int .u64 0, .int .u64 0, .int .u64 0, .int .u64 0, .int .u64 0, .int .u64 0, .int .u64 0, .int .u64 0, .int .u64 0, .int .u64 0, .int .u64 0, .int .u64 0, .int .u64 0, .int .u64 0, .int .u64 0, .int .u64 0, .int .u64 0, .int .u64 0, .int .u64 0, .int .u64 0, .int .u64 0, .int .u64 0, .int .u64 0, .int .u64 0, .int .u64 0]) := by kernel_rfl
theorem siz89 : T.siz 89 = some 259 := by kernel_rfl
theorem byt89 : T.byt 89 = some 2072 := by kernel_rfl
theorem agg89 : T.agg 89 = some true := by kernel_rfl
theorem zer89 : T.zer 89 = some (.agg [.int .i64 0, .int .i64 0, .map none, .int .u64 0, .int .u64 0, .int .u64 0, .int .u64 0, .int .u64 0, .int .u64 0, .int .u64 0, .int .u64 0, .int .u64 0, .int .u64 0, .int .u64 0, .int .u64 0, .int .u64 0, .int .u64 0, .int .u64 0, .int .u64 0, .int .u64 0, .int .u64 0, .int .u64 0, .int .u64 0, .int .u64 0, .int .u64 0, .int .u64 0, .int .u64 0, .int .u64 0, .int .u64 0, .int .u64 0, .int .u64 0, .int .u64 0, .int .u64 0, .int .u64 0, .int .u64 0, .int .u64 0, .int .u64 0, .int .u64 0, .int .u64 0, .int .u64 0, .int .u64 0, .int .u64 0, .int .u64 0, .int .u64 0, .int .u64 0, .int .u64 0, .int .u64 0, .int .u64 0, .int .u64 0, .int .u64 0, .int .u64 0, .int .u64 0, .int .u64 0, .int .u64 0, .int .u64 0, .int .u64 0, .int .u64 0, .int .u64 0, .int .u64 0, .int .u64 0, .int .u64 0, .int .u64 0, .int .u64 0, .int .u64 0, .int .u64 0, .int .u64 0, .int .u64 0, .int .u64 0, .int .u64 0, .int .u64 0, .int .u64 0, .int .u64 0, .int .u64 0, .int .u64 0, .int .u64 0, .int .u64 0, .int .u64 0, .int .u64 0, .int .u64 0, .int .u64 0, .int .u64 0, .int .u64 0, .int .u64 0, .int .u64 0, .int .u64 0, .int .u64 0, .int .u64 0, .int .u64 0, .int .u64 0, .int .u64 0, .int .u64 0, .int .u64 0, .int .u64 0, .int .u64 0, .int .u64 0, .int .u64 0, .int .u64 0, .int .u64 0, .int .u64 0, .int .u64 0, .int .u64 0, .int .u64 0, .int .u64 0, .int .u64 0, .int .u64 0, .int .u64 0, .int .u64 0, .int .u64 0, .int .u64 0, .int .u64 0, .int .u64 0, .int .u64 0, .int .u64 0, .int .u64 0, .int .u64 0, .int .u64 0, .int .u64 0, .int .u64 0, .int .u64 0, .int .u64 0, .int .u64 0, .int .u64 0, .int .u64 0, .int .u64 0, .int .u64 0, .int .u64 0, .int .u64 0, .int .u64 0, .int .u64 0, .int .u64 0, .int .u64 0, .int .u64 0, .int .u64 0, .int .u64 0, .int .u64 0, .int .u64 0, .int .u64 0, .int .u64 0, .int .u64 0, .int .u64 0, .int .u64 0, .int .u64 0, .int .u64 0, .int .u64 0, .int .u64 0, .int .u64 0, .int .u64 0, .int .u64 0, .int .u64 0, .int .u64 0, .int .u64 0, .int .u64 0, .int .u64 0, .int .u64 0, .int .u64 0, .int .u64 0, .int .u64 0, .int .u64 0, .int .u64 0, .int .u64 0, .int .u64 0, .int .u64 0, .int .u64 0, .int .u64 0, .int .u64 0, .int .u64 0, .int .u64 0, .int .u64 0, .int .u64 0, .int .u64 0, .int .u64 0, .int .u64 0, .int .u64 0, .int .u64 0, .int .u64 0, .int .u64 0, .int .u64 0, .int .u64 0, .int .u64 0, .int .u64 0, .int .u64 0, .int .u64 0, .int .u64 0, .int .u64 0, .int .u64 0, .int .u64 0, .int .u64 0, .int .u64 0, .int .u64 0, .int .u64 0, .int .u64 0, .int .u64 0, .int .u64 0, .int .u64 0, .int .u64 0, .int .u64 0, .int .u64 0, .int .u64 0, .int .u64 0, .int .u64 0, .int .u64 0, .int .u64 0, .int .u64 0, .int .u64 0, .int .u64 0, .int .u64 0, .int .u64 0, .int .u64 0, .int .u64 0, .int .u64 0, .int .u64 0, .int .u64 0, .int .u64 0, .int .u64 0, .int .u64 0, .int .u64 0, .int .u64 0, .int .u64 0, .int .u64 0, .int .u64 0, .int .u64 0, .int .u64 0, .int .u64 0, .int .u64 0, .int .u64 0, .int .u64 0, .int .u64 0, .int .u64 0, .int .u64 0, .int .u64 0, .int .u64 0, .int .u64 0, .int .u64 0, .int .u64 0, .int .u64 0, .int .u64 0, .int .u64 0, .int .u64 0, .int .u64 0, .int .u64 0, .int .u64 0, .int .u64 0, .int .u64 0, .int .u64 0, .int .u64 0, .int .u64 0, .int .u64 0, .int .u64 0, .int .u64 0, .int .u64 0, .int .u64 0, .int .u64 0, .int .u64 0, .int .u64 0, .int .u64 0, .int .u64 0, .int .u64 0, .int .u64 0, .int .u64 0]) := by kernel_rfl
theorem fa89_0 (l o : Nat) : afieldAddr T 89 (.ptr (some (l, o))) 0 = some (.ptr (some (l, o + 0))) := by kernel_rfl
theorem fv89_0 (cs : List AV) : afield T 89 (.agg cs) 0 = cs[0]? := by kernel_rfl
theorem fa89_1 (l o : Nat) : afieldAddr T 89 (.ptr (some (l, o))) 1 = some (.ptr (some (l, o + 1))) := by kernel_rfl
theorem fv89_1 (cs : List AV) : afield T 89 (.agg cs) 1 = cs[1]? := by kernel_rfl
theorem fa89_2 (l o : Nat) : afieldAddr T 89 (.ptr (some (l, o))) 2 = some (.ptr (some (l, o + 2))) := by kernel_rfl
theorem fv89_2 (cs : List AV) : afield T 89 (.agg cs) 2 = cs[2]? := by kernel_rfl
theorem fa89_3 (l o : Nat) : afieldAddr T 89 (.ptr (some (l, o))) 3 = some (.ptr (some (l, o + 3))) := by kernel_rfl
theorem fv89_3 (cs : List AV) : afield T 89 (.agg cs) 3 = some (.agg ((cs.drop 3).take 256)) := by kernel_rfl
theorem siz90 : T.siz 90 = some 259 := by kernel_rfl
theorem byt90 : T.byt 90 = some 2072 := by kernel_rfl
theorem agg90 : T.agg 90 = some true := by kernel_rfl
theorem zer90 : T.zer 90 = some (.agg [.int .i64 0, .int .i64 0, .map none, .int .u64 0, .int .u64 0, .int .u64 0, .int .u64 0, .int .u64 0, .int .u64 0, .int .u64 0, .int .u64 0, .int .u64 0, .int .u64 0, .int .u64 0, .int .u64 0, .int .u64 0, .int .u64 0, .int .u64 0, .int .u64 0, .int .u64 0, .int .u64 0, .int .u64 0, .int .u64 0, .int .u64 0, .int .u64 0, .int .u64 0, .int .u64 0, .int .u64 0, .int .u64 0, .int .u64 0, .int .u64 0, .int .u64 0, .int .u64 0, .int .u64 0, .int .u64 0, .int .u64 0, .int .u64 0, .int .u64 0, .int .u64 0, .int .u64 0, .int .u64 0, .int .u64 0, .int .u64 0, .int .u64 0, .int .u64 0, .int .u64 0, .int .u64 0, .int .u64 0, .int .u64 0, .int .u64 0, .int .u64 0, .int .u64 0, .int .u64 0, .int .u64 0, .int .u64 0, .int .u64 0, .int .u64 0, .int .u64 0, .int .u64 0, .int .u64 0, .int .u64 0, .int .u64 0, .int .u64 0, .int .u64 0, .int .u64 0, .int .u64 0, .int .u64 0, .int .u64 0, .int .u64 0, .int .u64 0, .int .u64 0, .int .u64 0, .int .u64 0, .int .u64 0, .int .u64 0, .int .u64 0, .int .u64 0, .int .u64 0, .int .u64 0, .int .u64 0, .int .u64 0, .int .u64 0, .int .u64 0, .int .u64 0, .int .u64 0, .int .u64 0, .int .u64 0, .int .u64 0, .int .u64 0, .int .u64 0, .int .u64 0, .int .u64 0, .int .u64 0, .int .u64 0, .int .u64 0, .int .u64 0, .int .u64 0, .int .u64 0, .int .u64 0, .int .u64 0, .int .u64 0, .int .u64 0, .int .u64 0, .int .u64 0, .int .u64 0, .int .u64 0, .int .u64 0, .int .u64 0, .int .u64 0, .int .u64 0, .int .u64 0, .int .u64 0, .int .u64 0, .int .u64 0, .int .u64 0, .int .u64 0, .int .u64 0, .int .u64 0, .int .u64 0, .int .u64 0, .int .u64 0, .int .u64 0, .int .u64 0, .int .u64 0, .int .u64 0, .int .u64 0, .int .u64 0, .int .u64 0, .int .u64 0, .int .u64 0, .int .u64 0, .int .u64 0, .int .u64 0, .int .u64 0, .int .u64 0, .int .u64 0, .int .u64 0, .int .u64 0, .int .u64 0, .int .u64 0, .int .u64 0, .int .u64 0, .int .u64 0, .int .u64 0, .int .u64 0, .int .u64 0, .int .u64 0, .int .u64 0, .int .u64 0, .int .u64 0, .int .u64 0, .int .u64 0, .int .u64 0, .int .u64 0, .int .u64 0, .int .u64 0, .int .u64 0, .int .u64 0, .int .u64 0, .int .u64 0, .int .u64 0, .int .u64 0, .int .u64 0, .int .u64 0, .int .u64 0, .int .u64 0, .int .u64 0, .int .u64 0, .int .u64 0, .int .u64 0, .int .u64 0, .int .u64 0, .int .u64 0, .int .u64 0, .int .u64 0, .int .u64 0, .int .u64 0, .int .u64 0, .int .u64 0, .int .u64 0, .int .u64 0, .int .u64 0, .int .u64 0, .int .u64 0, .int .u64 0, .int .u64 0, .int .u64 0, .int .u64 0, .int .u64 0, .int .u64 0, .int .u64 0, .int .u64 0, .int .u64 0, .int .u64 0, .int .u64 0, .int .u64 0, .int .u64 0, .int .u64 0, .int .u64 0, .int .u64 0, .int .u64 0, .int .u64 0, .int .u64 0, .int .u64 0, .int .u64 0, .int .u64 0, .int .u64 0, .int .u64 0, .int .u64 0, .int .u64 0, .int .u64 0, .int .u64 0, .int .u64 0, .int .u64 0, .int .u64 0, .int .u64 0, .int .u64 0, .int .u64 0, .int .u64 0, .int .u64 0, .int .u64 0, .int .u64 0, .int .u64 0, .int .u64 0, .int .u64 0, .int .u64 0, .int .u64 0, .int .u64 0, .int .u64 0, .int .u64 0, .int .u64 0, .int .u64 0, .int .u64 0, .int .u64 0, .int .u64 0, .int .u64 0, .int .u64 0, .int .u64 0, .int .u64 0, .int .u64 0, .int .u64 0, .int .u64 0, .int .u64 0, .int .u64 0, .int .u64 0, .int .u64 0, .int .u64 0, .int .u64 0, .int .u64 0, .int .u64 0, .int .u64 0, .int .u64 0, .int .u64 0, .int .u64 0, .int .u64 0, .int .u64 0, .int .u64 0, .int .u64 0, .int .u64 0]) := by kernel_rfl
theorem fa90_0 (l o : Nat) : afieldAddr T 90 (.ptr (some (l, o))) 0 = some (.ptr (some (l, o + 0))) := by kernel_rfl
theorem fv90_0 (cs : List AV) : afield T 90 (.agg cs) 0 = cs[0]? := by kernel_rfl
theorem fa90_1 (l o : Nat) : afieldAddr T 90 (.ptr (some (l, o))) 1 = some (.ptr (some (l, o + 1))) := by kernel_rfl
theorem fv90_1 (cs : List AV) : afield T 90 (.agg cs) 1 = cs[1]? := by kernel_rfl
theorem fa90_2 (l o : Nat) : afieldAddr T 90 (.ptr (some (l, o))) 2 = some (.ptr (some (l, o + 2))) := by kernel_rfl
theorem fv90_2 (cs : List AV) : afield T 90 (.agg cs) 2 = cs[2]? := by kernel_rfl
theorem fa90_3 (l o : Nat) : afieldAddr T 90 (.ptr (some (l, o))) 3 = some (.ptr (some (l, o + 3))) := by kernel_rfl
theorem fv90_3 (cs : List AV) : afield T 90 (.agg cs) 3 = some (.agg ((cs.drop 3).take 256)) := by kernel_rfl
theorem und91 : T.und 91 = some (.slice 66) := by kernel_rfl
theorem siz91 : T.siz 91 = some 1 := by kernel_rfl
theorem byt91 : T.byt 91 = some 24 := by kernel_rfl
theorem agg91 : T.agg 91 = some false := by kernel_rfl
theorem zer91 : T.zer 91 = some (.slc none 0 0 true) := by kernel_rfl
theorem siz92 : T.siz 92 = some 1 := by kernel_rfl
theorem byt92 : T.byt 92 = some 0 := by kernel_rfl
theorem agg92 : T.agg 92 = some false := by kernel_rfl
theorem zer92 : T.zer 92 = some (.tup [.int .i64 0, .bool false]) := by kernel_rfl
theorem siz93 : T.siz 93 = some 1 := by kernel_rfl
theorem byt93 : T.byt 93 = some 8 := by kernel_rfl
theorem agg93 : T.agg 93 = some false := by kernel_rfl
theorem zer93 : T.zer 93 = some (.nilFunc) := by kernel_rfl
theorem siz94 : T.siz 94 = some 1 := by kernel_rfl
theorem byt94 : T.byt 94 = some 8 := by kernel_rfl
theorem agg94 : T.agg 94 = some false := by kernel_rfl
theorem zer94 : T.zer 94 = some (.nilFunc) := by kernel_rfl
theorem siz95 : T.siz 95 = some 1 := by kernel_rfl
theorem byt95 : T.byt 95 = some 8 := by kernel_rfl
theorem agg95 : T.agg 95 = some false := by kernel_rfl
theorem zer95 : T.zer 95 = some (.nilFunc) := by kernel_rfl
theorem siz96 : T.siz 96 = some 1 := by kernel_rfl
theorem byt96 : T.byt 96 = some 8 := by kernel_rfl
theorem agg96 : T.agg 96 = some false := by kernel_rfl
theorem zer96 : T.zer 96 = some (.nilFunc) := by kernel_rfl
theorem siz97 : T.siz 97 = some 1 := by kernel_rfl
theorem byt97 : T.byt 97 = some 8 := by kernel_rfl
theorem agg97 : T.agg 97 = some false := by kernel_rfl
theorem zer97 : T.zer 97 = some (.nilFunc) := by kernel_rfl
theorem siz98 : T.siz 98 = some 1 := by kernel_rfl
theorem byt98 : T.byt 98 = some 8 := by kernel_rfl
theorem agg98 : T.agg 98 = some false := by kernel_rfl
theorem zer98 : T.zer 98 = some (.nilFunc) := by kernel_rfl
theorem siz99 : T.siz 99 = some 1 := by kernel_rfl
theorem byt99 : T.byt 99 = some 8 := by kernel_rfl
theorem agg99 : T.agg 99 = some false := by kernel_rfl
theorem zer99 : T.zer 99 = some (.nilFunc) := by kernel_rfl
theorem und100 : T.und 100 = some (.map 35 101) := by kernel_rfl
theorem siz100 : T.siz 100 = some 1 := by kernel_rfl
theorem byt100 : T.byt 100 = some 8 := by kernel_rfl
theorem agg100 : T.agg 100 = some false := by kernel_rfl
theorem zer100 : T.zer 100 = some (.map none) := by kernel_rfl
theorem siz101 : T.siz 101 = some 1 := by kernel_rfl
theorem byt101 : T.byt 101 = some 1 := by kernel_rfl
theorem agg101 : T.agg 101 = some true := by kernel_rfl
theorem zer101 : T.zer 101 = some (.agg [.bool false]) := by kernel_rfl
theorem fa101_0 (l o : Nat) : afieldAddr T 101 (.ptr (some (l, o))) 0 = some (.ptr (some (l, o + 0))) := by kernel_rfl
theorem fv101_0 (cs : List AV) : afield T 101 (.agg cs) 0 = cs[0]? := by kernel_rfl
theorem und102 : T.und 102 = some (.pointer 104) := by kernel_rfl
theorem siz102 : T.siz 102 = some 1 := by kernel_rfl
theorem byt102 : T.byt 102 = some 8 := by kernel_rfl
theorem agg102 : T.agg 102 = some false := by kernel_rfl
theorem zer102 : T.zer 102 = some (.ptr none) := by kernel_rfl
theorem siz103 : T.siz 103 = some 2 := by kernel_rfl
theorem byt103 : T.byt 103 = some 16 := by kernel_rfl
theorem agg103 : T.agg 103 = some true := by kernel_rfl
theorem zer103 : T.zer 103 = some (.agg [.ptr none, .map none]) := by kernel_rfl
theorem fa103_0 (l o : Nat) : afieldAddr T 103 (.ptr (some (l, o))) 0 = some (.ptr (some (l, o + 0))) := by kernel_rfl
theorem fv103_0 (cs : List AV) : afield T 103 (.agg cs) 0 = cs[0]? := by kernel_rfl
theorem fa103_1 (l o : Nat) : afieldAddr T 103 (.ptr (some (l, o))) 1 = some (.ptr (some (l, o + 1))) := by kernel_rfl
theorem fv103_1 (cs : List AV) : afield T 103 (.agg cs) 1 = cs[1]? := by kernel_rfl
theorem siz104 : T.siz 104 = some 2 := by kernel_rfl
theorem byt104 : T.byt 104 = some 16 := by kernel_rfl
theorem agg104 : T.agg 104 = some true := by kernel_rfl
theorem zer104 : T.zer 104 = some (.agg [.ptr none, .map none]) := by kernel_rfl
theorem fa104_0 (l o : Nat) : afieldAddr T 104 (.ptr (some (l, o))) 0 = some (.ptr (some (l, o + 0))) := by kernel_rfl
theorem fv104_0 (cs : List AV) : afield T 104 (.agg cs) 0 = cs[0]? := by kernel_rfl
theorem fa104_1 (l o : Nat) : afieldAddr T 104 (.ptr (some (l, o))) 1 = some (.ptr (some (l, o + 1))) := by kernel_rfl
theorem fv104_1 (cs : List AV) : afield T 104 (.agg cs) 1 = cs[1]? := by kernel_rfl
theorem und105 : T.und 105 = some (.slice 27) := by kernel_rfl
theorem siz105 : T.siz 105 = some 1 := by kernel_rfl
theorem byt105 : T.byt 105 = some 24 := by kernel_rfl
theorem agg105 : T.agg 105 = some false := by kernel_rfl
theorem zer105 : T.zer 105 = some (.slc none 0 0 true) := by kernel_rfl
theorem siz106 : T.siz 106 = some 1 := by kernel_rfl
theorem byt106 : T.byt 106 = some 8 := by kernel_rfl
theorem agg106 : T.agg 106 = some false := by kernel_rfl
theorem zer106 : T.zer 106 = some (.nilFunc) := by kernel_rfl
theorem und107 : T.und 107 = some (.int .u64) := by kernel_rfl
theorem siz107 : T.siz 107 = some 1 := by kernel_rfl
theorem byt107 : T.byt 107 = some 8 := by kernel_rfl
theorem agg107 : T.agg 107 = some false := by kernel_rfl
theorem zer107 : T.zer 107 = some (.int .u64 0) := by kernel_rfl
theorem siz108 : T.siz 108 = some 1 := by kernel_rfl
theorem byt108 : T.byt 108 = some 8 := by kernel_rfl
theorem agg108 : T.agg 108 = some false := by kernel_rfl
theorem zer108 : T.zer 108 = some (.nilFunc) := by kernel_rfl
theorem siz109 : T.siz 109 = some 1 := by kernel_rfl
theorem byt109 : T.byt 109 = some 8 := by kernel_rfl
theorem agg109 : T.agg 109 = some false := by kernel_rfl
theorem zer109 : T.zer 109 = some (.nilFunc) := by kernel_rfl
theorem siz110 : T.siz 110 = some 1 := by kernel_rfl
theorem byt110 : T.byt 110 = some 8 := by kernel_rfl
theorem agg110 : T.agg 110 = some false := by kernel_rfl
theorem zer110 : T.zer 110 = some (.nilFunc) := by kernel_rfl
theorem siz111 : T.siz 111 = some 1 := by kernel_rfl
theorem byt111 : T.byt 111 = some 8 := by kernel_rfl
theorem agg111 : T.agg 111 = some false := by kernel_rfl
theorem zer111 : T.zer 111 = some (.nilFunc) := by kernel_rfl
theorem und112 : T.und 112 = some (.pointer 27) := by kernel_rfl
theorem siz112 : T.siz 112 = some 1 := by kernel_rfl
theorem byt112 : T.byt 112 = some 8 := by kernel_rfl
theorem agg112 : T.agg 112 = some false := by kernel_rfl
theorem zer112 : T.zer 112 = some (.ptr none) := by kernel_rfl
theorem und113 : T.und 113 = some (.slice 22) := by kernel_rfl
theorem siz113 : T.siz 113 = some 1 := by kernel_rfl
theorem byt113 : T.byt 113 = some 24 := by kernel_rfl
theorem agg113 : T.agg 113 = some false := by kernel_rfl
theorem zer113 : T.zer 113 = some (.slc none 0 0 true) := by kernel_rfl
theorem siz114 : T.siz 114 = some 1 := by kernel_rfl
theorem byt114 : T.byt 114 = some 8 := by kernel_rfl
theorem agg114 : T.agg 114 = some false := by kernel_rfl
theorem zer114 : T.zer 114 = some (.nilFunc) := by kernel_rfl
theorem siz115 : T.siz 115 = some 1 := by kernel_rfl
theorem byt115 : T.byt 115 = some 8 := by kernel_rfl
theorem agg115 : T.agg 115 = some false := by kernel_rfl
theorem zer115 : T.zer 115 = some (.nilFunc) := by kernel_rfl
theorem siz116 : T.siz 116 = some 1 := by kernel_rfl
theorem byt116 : T.byt 116 = some 8 := by kernel_rfl
theorem agg116 : T.agg 116 = some false := by kernel_rfl
theorem zer116 : T.zer 116 = some (.nilFunc) := by kernel_rfl
theorem siz117 : T.siz 117 = some 1 := by kernel_rfl
theorem byt117 : T.byt 117 = some 8 := by kernel_rfl
theorem agg117 : T.agg 117 = some false := by kernel_rfl
theorem zer117 : T.zer 117 = some (.nilFunc) := by kernel_rfl
theorem siz118 : T.siz 118 = some 1 := by kernel_rfl
theorem byt118 : T.byt 118 = some 8 := by kernel_rfl
theorem agg118 : T.agg 118 = some false := by kernel_rfl
theorem zer118 : T.zer 118 = some (.nilFunc) := by kernel_rfl
theorem und119 : T.und 119 = some (.int .i64) := by kernel_rfl
theorem siz119 : T.siz 119 = some 1 := by kernel_rfl
theorem byt119 : T.byt 119 = some 8 := by kernel_rfl
theorem agg119 : T.agg 119 = some false := by kernel_rfl
theorem zer119 : T.zer 119 = some (.int .i64 0) := by kernel_rfl
theorem siz120 : T.siz 120 = some 1 := by kernel_rfl
theorem byt120 : T.byt 120 = some 0 := by kernel_rfl
theorem agg120 : T.agg 120 = some false := by kernel_rfl
theorem zer120 : T.zer 120 = some (.tup [.int .i64 0, .int .i64 0]) := by kernel_rfl
theorem siz121 : T.siz 121 = some 1 := by kernel_rfl
theorem byt121 : T.byt 121 = some 8 := by kernel_rfl
theorem agg121 : T.agg 121 = some false := by kernel_rfl
theorem zer121 : T.zer 121 = some (.nilFunc) := by kernel_rfl
theorem siz122 : T.siz 122 = some 1 := by kernel_rfl
theorem byt122 : T.byt 122 = some 8 := by kernel_rfl
theorem agg122 : T.agg 122 = some false := by kernel_rfl
theorem zer122 : T.zer 122 = some (.nilFunc) := by kernel_rfl
theorem siz123 : T.siz 123 = some 1 := by kernel_rfl
theorem byt123 : T.byt 123 = some 8 := by kernel_rfl
theorem agg123 : T.agg 123 = some false := by kernel_rfl
theorem zer123 : T.zer 123 = some (.nilFunc) := by kernel_rfl
theorem siz124 : T.siz 124 = some 1 := by kernel_rfl
theorem byt124 : T.byt 124 = some 8 := by kernel_rfl
theorem agg124 : T.agg 124 = some false := by kernel_rfl
theorem zer124 : T.zer 124 = some (.nilFunc) := by kernel_rfl
theorem siz125 : T.siz 125 = some 1 := by kernel_rfl
theorem byt125 : T.byt 125 = some 8 := by kernel_rfl
theorem agg125 : T.agg 125 = some false := by kernel_rfl
theorem zer125 : T.zer 125 = some (.nilFunc) := by kernel_rfl
theorem und126 : T.und 126 = some (.int .u32) := by kernel_rfl
theorem siz126 : T.siz 126 = some 1 := by kernel_rfl
theorem byt126 : T.byt 126 = some 4 := by kernel_rfl
theorem agg126 : T.agg 126 = some false := by kernel_rfl
theorem zer126 : T.zer 126 = some (.int .u32 0) := by kernel_rfl
theorem siz127 : T.siz 127 = some 1 := by kernel_rfl
theorem byt127 : T.byt 127 = some 8 := by kernel_rfl
theorem agg127 : T.agg 127 = some false := by kernel_rfl
theorem zer127 : T.zer 127 = some (.nilFunc) := by kernel_rfl
theorem siz128 : T.siz 128 = some 1 := by kernel_rfl
theorem byt128 : T.byt 128 = some 8 := by kernel_rfl
theorem agg128 : T.agg 128 = some false := by kernel_rfl
theorem zer128 : T.zer 128 = some (.nilFunc) := by kernel_rfl
theorem und129 : T.und 129 = some (.int .u64) := by kernel_rfl
theorem siz129 : T.siz 129 = some 1 := by kernel_rfl
theorem byt129 : T.byt 129 = some 8 := by kernel_rfl
theorem agg129 : T.agg 129 = some false := by kernel_rfl
theorem zer129 : T.zer 129 = some (.int .u64 0) := by kernel_rfl
theorem siz130 : T.siz 130 = some 1 := by kernel_rfl
theorem byt130 : T.byt 130 = some 8 := by kernel_rfl
theorem agg130 : T.agg 130 = some false := by kernel_rfl
theorem zer130 : T.zer 130 = some (.nilFunc) := by kernel_rfl
theorem siz131 : T.siz 131 = some 1 := by kernel_rfl
theorem byt131 : T.byt 131 = some 8 := by kernel_rfl
theorem agg131 : T.agg 131 = some false := by kernel_rfl
theorem zer131 : T.zer 131 = some (.nilFunc) := by kernel_rfl
theorem siz132 : T.siz 132 = some 1 := by kernel_rfl
theorem byt132 : T.byt 132 = some 8 := by kernel_rfl
theorem agg132 : T.agg 132 = some false := by kernel_rfl
theorem zer132 : T.zer 132 = some (.nilFunc) := by kernel_rfl
theorem und133 : T.und 133 = some (.pointer 3) := by kernel_rfl
theorem siz133 : T.siz 133 = some 1 := by kernel_rfl
theorem byt133 : T.byt 133 = some 8 := by kernel_rfl
theorem agg133 : T.agg 133 = some false := by kernel_rfl
theorem zer133 : T.zer 133 = some (.ptr none) := by kernel_rfl
theorem siz134 : T.siz 134 = some 1 := by kernel_rfl
theorem byt134 : T.byt 134 = some 8 := by kernel_rfl
theorem agg134 : T.agg 134 = some false := by kernel_rfl
theorem zer134 : T.zer 134 = some (.nilFunc) := by kernel_rfl
theorem und135 : T.und 135 = some (.pointer 129) := by kernel_rfl
theorem siz135 : T.siz 135 = some 1 := by kernel_rfl
theorem byt135 : T.byt 135 = some 8 := by kernel_rfl
theorem agg135 : T.agg 135 = some false := by kernel_rfl
theorem zer135 : T.zer 135 = some (.ptr none) := by kernel_rfl
theorem siz136 : T.siz 136 = some 1 := by kernel_rfl
theorem byt136 : T.byt 136 = some 0 := by kernel_rfl
theorem agg136 : T.agg 136 = some false := by kernel_rfl
theorem zer136 : T.zer 136 = some (.tup [.int .i64 0, .int .i64 0]) := by kernel_rfl
theorem siz137 : T.siz 137 = some 1 := by kernel_rfl
theorem byt137 : T.byt 137 = some 8 := by kernel_rfl
theorem agg137 : T.agg 137 = some false := by kernel_rfl
theorem zer137 : T.zer 137 = some (.nilFunc) := by kernel_rfl
theorem siz138 : T.siz 138 = some 1 := by kernel_rfl
theorem byt138 : T.byt 138 = some 8 := by kernel_rfl
theorem agg138 : T.agg 138 = some false := by kernel_rfl
theorem zer138 : T.zer 138 = some (.nilFunc) := by kernel_rfl
theorem siz139 : T.siz 139 = some 4 := by kernel_rfl
theorem byt139 : T.byt 139 = some 40 := by kernel_rfl
theorem agg139 : T.agg 139 = some true := by kernel_rfl
theorem zer139 : T.zer 139 = some (.agg [.ptr none, .ptr none, .ptr none, .str []]) := by kernel_rfl
theorem fa139_0 (l o : Nat) : afieldAddr T 139 (.ptr (some (l, o))) 0 = some (.ptr (some (l, o + 0))) := by kernel_rfl
theorem fv139_0 (cs : List AV) : afield T 139 (.agg cs) 0 = cs[0]? := by kernel_rfl
theorem fa139_1 (l o : Nat) : afieldAddr T 139 (.ptr (some (l, o))) 1 = some (.ptr (some (l, o + 1))) := by kernel_rfl
theorem fv139_1 (cs : List AV) : afield T 139 (.agg cs) 1 = cs[1]? := by kernel_rfl
theorem fa139_2 (l o : Nat) : afieldAddr T 139 (.ptr (some (l, o))) 2 = some (.ptr (some (l, o + 2))) := by kernel_rfl
theorem fv139_2 (cs : List AV) : afield T 139 (.agg cs) 2 = cs[2]? := by kernel_rfl
theorem fa139_3 (l o : Nat) : afieldAddr T 139 (.ptr (some (l, o))) 3 = some (.ptr (some (l, o + 3))) := by kernel_rfl
theorem fv139_3 (cs : List AV) : afield T 139 (.agg cs) 3 = cs[3]? := by kernel_rfl
theorem siz140 : T.siz 140 = some 4 := by kernel_rfl
theorem byt140 : T.byt 140 = some 40 := by kernel_rfl
theorem agg140 : T.agg 140 = some true := by kernel_rfl
theorem zer140 : T.zer 140 = some (.agg [.ptr none, .ptr none, .ptr none, .str []]) := by kernel_rfl
theorem fa140_0 (l o : Nat) : afieldAddr T 140 (.ptr (some (l, o))) 0 = some (.ptr (some (l, o + 0))) := by kernel_rfl
theorem fv140_0 (cs : List AV) : afield T 140 (.agg cs) 0 = cs[0]? := by kernel_rfl
theorem fa140_1 (l o : Nat) : afieldAddr T 140 (.ptr (some (l, o))) 1 = some (.ptr (some (l, o + 1))) := by kernel_rfl
theorem fv140_1 (cs : List AV) : afield T 140 (.agg cs) 1 = cs[1]? := by kernel_rfl
theorem fa140_2 (l o : Nat) : afieldAddr T 140 (.ptr (some (l, o))) 2 = some (.ptr (some (l, o + 2))) := by kernel_rfl
theorem fv140_2 (cs : List AV) : afield T 140 (.agg cs) 2 = cs[2]? := by kernel_rfl
theorem fa140_3 (l o : Nat) : afieldAddr T 140 (.ptr (some (l, o))) 3 = some (.ptr (some (l, o + 3))) := by kernel_rfl
theorem fv140_3 (cs : List AV) : afield T 140 (.agg cs) 3 = cs[3]? := by kernel_rfl
theorem und141 : T.und 141 = some (.array 0 16) := by kernel_rfl
theorem siz141 : T.siz 141 = some 0 := by kernel_rfl
theorem byt141 : T.byt 141 = some 0 := by kernel_rfl
theorem agg141 : T.agg 141 = some true := by kernel_rfl
theorem zer141 : T.zer 141 = some (.agg []) := by kernel_rfl
theorem siz142 : T.siz 142 = some 0 := by kernel_rfl
theorem byt142 : T.byt 142 = some 0 := by kernel_rfl
theorem agg142 : T.agg 142 = some true := by kernel_rfl
theorem zer142 : T.zer 142 = some (.agg []) := by kernel_rfl
theorem fv142_0 (cs : List AV) : afield T 142 (.agg cs) 0 = some (.agg ((cs.drop 0).take 0)) := by kernel_rfl
theorem siz143 : T.siz 143 = some 0 := by kernel_rfl
theorem byt143 : T.byt 143 = some 0 := by kernel_rfl
theorem agg143 : T.agg 143 = some true := by kernel_rfl
theorem zer143 : T.zer 143 = some (.agg []) := by kernel_rfl
theorem fv143_0 (cs : List AV) : afield T 143 (.agg cs) 0 = some (.agg ((cs.drop 0).take 0)) := by kernel_rfl
theorem siz144 : T.siz 144 = some 1 := by kernel_rfl
theorem byt144 : T.byt 144 = some 8 := by kernel_rfl
theorem agg144 : T.agg 144 = some false := by kernel_rfl
theorem zer144 : T.zer 144 = some (.nilFunc) := by kernel_rfl
theorem und145 : T.und 145 = some (.int .u8) := by kernel_rfl
theorem siz145 : T.siz 145 = some 1 := by kernel_rfl
theorem byt145 : T.byt 145 = some 1 := by kernel_rfl
theorem agg145 : T.agg 145 = some false := by kernel_rfl
theorem zer145 : T.zer 145 = some (.int .u8 0) := by kernel_rfl
theorem und146 : T.und 146 = some (.int .u8) := by kernel_rfl
theorem siz146 : T.siz 146 = some 1 := by kernel_rfl
theorem byt146 : T.byt 146 = some 1 := by kernel_rfl
theorem agg146 : T.agg 146 = some false := by kernel_rfl
theorem zer146 : T.zer 146 = some (.int .u8 0) := by kernel_rfl
theorem siz147 : T.siz 147 = some 1 := by kernel_rfl
theorem byt147 : T.byt 147 = some 8 := by kernel_rfl
theorem agg147 : T.agg 147 = some false := by kernel_rfl
theorem zer147 : T.zer 147 = some (.nilFunc) := by kernel_rfl
theorem und148 : T.und 148 = some (.pointer 5) := by kernel_rfl
theorem siz148 : T.siz 148 = some 1 := by kernel_rfl
theorem byt148 : T.byt 148 = some 8 := by kernel_rfl
theorem agg148 : T.agg 148 = some false := by kernel_rfl
theorem zer148 : T.zer 148 = some (.ptr none) := by kernel_rfl
theorem und149 : T.und 149 = some (.int .i32) := by kernel_rfl
theorem siz149 : T.siz 149 = some 1 := by kernel_rfl
theorem byt149 : T.byt 149 = some 4 := by kernel_rfl
theorem agg149 : T.agg 149 = some false := by kernel_rfl
theorem zer149 : T.zer 149 = some (.int .i32 0) := by kernel_rfl
theorem und150 : T.und 150 = some (.int .i32) := by kernel_rfl
theorem siz150 : T.siz 150 = some 1 := by kernel_rfl
theorem byt150 : T.byt 150 = some 4 := by kernel_rfl
theorem agg150 : T.agg 150 = some false := by kernel_rfl
theorem zer150 : T.zer 150 = some (.int .i32 0) := by kernel_rfl
theorem siz151 : T.siz 151 = some 11 := by kernel_rfl
theorem byt151 : T.byt 151 = some 48 := by kernel_rfl
theorem agg151 : T.agg 151 = some true := by kernel_rfl
theorem zer151 : T.zer 151 = some (.agg [.int .u64 0, .int .u64 0, .int .u32 0, .int .u8 0, .int .u8 0, .int .u8 0, .int .u8 0, .nilFunc, .ptr none, .int .i32 0, .int .i32 0]) := by kernel_rfl
theorem fa151_0 (l o : Nat) : afieldAddr T 151 (.ptr (some (l, o))) 0 = some (.ptr (some (l, o + 0))) := by kernel_rfl
theorem fv151_0 (cs : List AV) : afield T 151 (.agg cs) 0 = cs[0]? := by kernel_rfl
theorem fa151_1 (l o : Nat) : afieldAddr T 151 (.ptr (some (l, o))) 1 = some (.ptr (some (l, o + 1))) := by kernel_rfl
theorem fv151_1 (cs : List AV) : afield T 151 (.agg cs) 1 = cs[1]? := by kernel_rfl
theorem fa151_2 (l o : Nat) : afieldAddr T 151 (.ptr (some (l, o))) 2 = some (.ptr (some (l, o + 2))) := by kernel_rfl
theorem fv151_2 (cs : List AV) : afield T 151 (.agg cs) 2 = cs[2]? := by kernel_rfl
theorem fa151_3 (l o : Nat) : afieldAddr T 151 (.ptr (some (l, o))) 3 = some (.ptr (some (l, o + 3))) := by kernel_rfl
theorem fv151_3 (cs : List AV) : afield T 151 (.agg cs) 3 = cs[3]? := by kernel_rfl
theorem fa151_4 (l o : Nat) : afieldAddr T 151 (.ptr (some (l, o))) 4 = some (.ptr (some (l, o + 4))) := by kernel_rfl
theorem fv151_4 (cs : List AV) : afield T 151 (.agg cs) 4 = cs[4]? := by kernel_rfl
theorem fa151_5 (l o : Nat) : afieldAddr T 151 (.ptr (some (l, o))) 5 = some (.ptr (some (l, o + 5))) := by kernel_rfl
theorem fv151_5 (cs : List AV) : afield T 151 (.agg cs) 5 = cs[5]? := by kernel_rfl
theorem fa151_6 (l o : Nat) : afieldAddr T 151 (.ptr (some (l, o))) 6 = some (.ptr (some (l, o + 6))) := by kernel_rfl
theorem fv151_6 (cs : List AV) : afield T 151 (.agg cs) 6 = cs[6]? := by kernel_rfl
theorem fa151_7 (l o : Nat) : afieldAddr T 151 (.ptr (some (l, o))) 7 = some (.ptr (some (l, o + 7))) := by kernel_rfl
theorem fv151_7 (cs : List AV) : afield T 151 (.agg cs) 7 = cs[7]? := by kernel_rfl
theorem fa151_8 (l o : Nat) : afieldAddr T 151 (.ptr (some (l, o))) 8 = some (.ptr (some (l, o + 8))) := by kernel_rfl
theorem fv151_8 (cs : List AV) : afield T 151 (.agg cs) 8 = cs[8]? := by kernel_rfl
theorem fa151_9 (l o : Nat) : afieldAddr T 151 (.ptr (some (l, o))) 9 = some (.ptr (some (l, o + 9))) := by kernel_rfl
theorem fv151_9 (cs : List AV) : afield T 151 (.agg cs) 9 = cs[9]? := by kernel_rfl
theorem fa151_10 (l o : Nat) : afieldAddr T 151 (.ptr (some (l, o))) 10 = some (.ptr (some (l, o + 10))) := by kernel_rfl
theorem fv151_10 (cs : List AV) : afield T 151 (.agg cs) 10 = cs[10]? := by kernel_rfl
theorem siz152 : T.siz 152 = some 11 := by kernel_rfl
theorem byt152 : T.byt 152 = some 48 := by kernel_rfl
theorem agg152 : T.agg 152 = some true := by kernel_rfl
theorem zer152 : T.zer 152 = some (.agg [.int .u64 0, .int .u64 0, .int .u32 0, .int .u8 0, .int .u8 0, .int .u8 0, .int .u8 0, .nilFunc, .ptr none, .int .i32 0, .int .i32 0]) := by kernel_rfl
theorem fa152_0 (l o : Nat) : afieldAddr T 152 (.ptr (some (l, o))) 0 = some (.ptr (some (l, o + 0))) := by kernel_rfl
theorem fv152_0 (cs : List AV) : afield T 152 (.agg cs) 0 = cs[0]? := by kernel_rfl
theorem fa152_1 (l o : Nat) : afieldAddr T 152 (.ptr (some (l, o))) 1 = some (.ptr (some (l, o + 1))) := by kernel_rfl
theorem fv152_1 (cs : List AV) : afield T 152 (.agg cs) 1 = cs[1]? := by kernel_rfl
theorem fa152_2 (l o : Nat) : afieldAddr T 152 (.ptr (some (l, o))) 2 = some (.ptr (some (l, o + 2))) := by kernel_rfl
theorem fv152_2 (cs : List AV) : afield T 152 (.agg cs) 2 = cs[2]? := by kernel_rfl
theorem fa152_3 (l o : Nat) : afieldAddr T 152 (.ptr (some (l, o))) 3 = some (.ptr (some (l, o + 3))) := by kernel_rfl
theorem fv152_3 (cs : List AV) : afield T 152 (.agg cs) 3 = cs[3]? := by kernel_rfl
theorem fa152_4 (l o : Nat) : afieldAddr T 152 (.ptr (some (l, o))) 4 = some (.ptr (some (l, o + 4))) := by kernel_rfl
theorem fv152_4 (cs : List AV) : afield T 152 (.agg cs) 4 = cs[4]? := by kernel_rfl
theorem fa152_5 (l o : Nat) : afieldAddr T 152 (.ptr (some (l, o))) 5 = some (.ptr (some (l, o + 5))) := by kernel_rfl
theorem fv152_5 (cs : List AV) : afield T 152 (.agg cs) 5 = cs[5]? := by kernel_rfl
theorem fa152_6 (l o : Nat) : afieldAddr T 152 (.ptr (some (l, o))) 6 = some (.ptr (some (l, o + 6))) := by kernel_rfl
theorem fv152_6 (cs : List AV) : afield T 152 (.agg cs) 6 = cs[6]? := by kernel_rfl
theorem fa152_7 (l o : Nat) : afieldAddr T 152 (.ptr (some (l, o))) 7 = some (.ptr (some (l, o + 7))) := by kernel_rfl
theorem fv152_7 (cs : List AV) : afield T 152 (.agg cs) 7 = cs[7]? := by kernel_rfl
theorem fa152_8 (l o : Nat) : afieldAddr T 152 (.ptr (some (l, o))) 8 = some (.ptr (some (l, o + 8))) := by kernel_rfl
theorem fv152_8 (cs : List AV) : afield T 152 (.agg cs) 8 = cs[8]? := by kernel_rfl
theorem fa152_9 (l o : Nat) : afieldAddr T 152 (.ptr (some (l, o))) 9 = some (.ptr (some (l, o + 9))) := by kernel_rfl
theorem fv152_9 (cs : List AV) : afield T 152 (.agg cs) 9 = cs[9]? := by kernel_rfl
theorem fa152_10 (l o : Nat) : afieldAddr T 152 (.ptr (some (l, o))) 10 = some (.ptr (some (l, o + 10))) := by kernel_rfl
theorem fv152_10 (cs : List AV) : afield T 152 (.agg cs) 10 = cs[10]? := by kernel_rfl
theorem siz153 : T.siz 153 = some 1 := by kernel_rfl
theorem byt153 : T.byt 153 = some 8 := by kernel_rfl
theorem agg153 : T.agg 153 = some false := by kernel_rfl
theorem zer153 : T.zer 153 = some (.ptr none) := by kernel_rfl

end Go.Proofs.Ytbfchlimonimkaa
