/-
  A part of the proof: contracts of functions of this program over the abstract machine Am.
-/
import Derived.Test.YtbfchlimonimkaaTy1
import Derived.Test.YtbfchlimonimkaaAmRev
import Derived.Test.YtbfchlimonimkaaAmRun2
set_option linter.unusedSimpArgs false
set_option linter.unusedVariables false
namespace Go.Proofs.Ytbfchlimonimkaa
open Go.Am

theorem abound1_nat {y i : Nat} {k : IntKind} (h : i ≤ y) : abound1 y (.int k (i : Nat)) = some i := by
  unfold abound1
  simp [h]
theorem asl_lo {a o n c i : Nat} (h1 : i ≤ n) (h2 : n ≤ c) (h3 : i < c) : aslice T 22 (.slc (some (a, o)) n c true) (some (.int .i64 (i : Nat))) none none = some (.slc (some (a, o + i * 2)) (n - i) (c - i) true) := by
  have e1 : ¬ ((i : Int) < 0 ∨ (n : Int) < i) := by omega
  have e2 : ¬ c = i := by omega
  simp [aslice, und22, siz35, abounds, aopt, ahigh, abound1_nat, e2, h1, h2]
theorem asl_lof {a o n c i : Nat} (h1 : i ≤ n) (h2 : n ≤ c) (h3 : i < c) : aslice T 22 (.slc (some (a, o)) n c false) (some (.int .i64 (i : Nat))) none none = some (.slc (some (a, o + i * 2)) (n - i) (c - i) false) := by
  have e2 : ¬ c = i := by omega
  simp [aslice, und22, siz35, abounds, aopt, ahigh, abound1_nat, e2, h1, h2]
theorem asl_hi {a o n c i : Nat} (h1 : i ≤ c) : aslice T 22 (.slc (some (a, o)) n c true) none (some (.int .i64 (i : Nat))) none = some (.slc (some (a, o)) i c true) := by
  simp [aslice, und22, siz35, abounds, aopt, ahigh, abound1_nat, h1]
theorem abl_len {a : Option (Nat × Nat)} {n c : Nat} {e : Bool} {s : AS} : abuiltin T .len [22] [.slc a n c e] s = some (.int .i64 n, s) := by simp [abuiltin, alenB, und22]
theorem abl_cap {a : Nat × Nat} {n c : Nat} {s : AS} : abuiltin T .cap [22] [.slc (some a) n c true] s = some (.int .i64 c, s) := by simp [abuiltin, acapB, und22]
theorem abl_copy {d x : AV} {s : AS} : abuiltin T .copy [22, 22] [d, x] s = acopy T 22 d x s := rfl
theorem abl_app {t : TypeId} {d x : AV} {s : AS} : abuiltin T .append [22, t] [d, x] s = aappend T 22 t d x s := rfl
theorem acopy_eq {a b o o2 n n2 c c2 g : Nat} {e e2 : Bool} {cs new : List AV} {s : AS} (hd : s.h a = some (.cells cs g false)) (hs : rdc s b o2 (min n2 n * 2) = some new) (hne : new ≠ []) (hfit : o + new.length ≤ cs.length) :
    acopy T 22 (.slc (some (a, o)) n c e) (.slc (some (b, o2)) n2 c2 e2) s = some (.int .i64 ((min n2 n : Nat) : Int), s.put a (.cells (wrs cs o new) g false)) := by
  simp only [acopy, und22, siz35, alen, asrc, Option.bind_some, hs, if_neg hne, awr, hd, if_pos hfit, Option.map_some]
theorem appz {a n c k g : Nat} {ro : Bool} {cs : List AV} {s : AS} (h : s.h a = some (.cells cs g ro)) (hle : n * 2 ≤ cs.length) (hbig : n + k ≤ 2 ^ 30) (hroom : c < n + k) :
    aappend T 22 3 (.slc (some (a, 0)) n c true) (.int .i64 (k : Nat)) s = some (.slc (some (s.nl, 0)) (n + k) (n + k) false, s.new (.cells (cs.take (n * 2) ++ rep k [.int .i64 0, .int .u64 0]) 2 false)) := by
  have h1 : ¬ ((2 : Nat) ≠ 2 ∨ (k : Int) < 0 ∨ 2 ^ 40 < n + k ∨ 2 * ((n + k + 256) * 16) > 2 ^ 48 ∨ n + k ≤ c) := by omega
  simp only [aappend, und22, und3, if_true, aappendZ, siz35, byt35, zer35, acells, AV.cells, Option.bind_some, Int.toNat_natCast, asrc, rdc, h, List.drop_zero, Option.map_some, List.length_cons, List.length_nil, List.all_cons, List.all_nil, one_int, Bool.and_self, Nat.zero_add, Nat.reduceAdd]
  rw [if_neg h1, if_pos hle]
  rfl
end Go.Proofs.Ytbfchlimonimkaa
