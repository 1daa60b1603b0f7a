/-
  The closed laws of this program, run by the abstract machine; slices.Insert is its one intrinsic.
-/
import Derived.Test.YtbfchlimonimkaaCtx8
import Derived.Test.YtbfchlimonimkaaAmArg
import Derived.Test.YtbfchlimonimkaaRows
set_option linter.unusedSimpArgs false
set_option linter.unusedVariables false
namespace Go.Proofs.Ytbfchlimonimkaa
open Go.Am Go.Minster

theorem insert_end {s s1 : AS} {base : Option (Nat × Nat)} {lb cap len m mc ob : Nat} {ex eb : Bool} {w v : AV} (hm : 0 < m) (f1 : aslice T Y_s_Dot (.slc base len cap ex) (some (.int .i64 (len : Nat))) none none = some w)
    (wt : aappend T Y_s_Dot Y_s_Dot (.slc base len cap ex) (.slc (some (lb, ob)) m mc eb) s = some (v, s1)) :
    ACalls Try.prog F_slices_Insert__s_Dot_Dot [.slc base len cap ex, .int .i64 (len : Nat), .slc (some (lb, ob)) m mc eb] s fun v2 s2 => v2 = v ∧ s2 = s1 := by
  have lB : ∀ (a : Option (Nat × Nat)) (n c : Nat) (e : Bool) (s' : AS), alenB T Y_s_Dot (.slc a n c e) s' = some (.int .i64 (n : Nat)) := by intros; simp [alenB, u_s_Dot]
  exact q_slices_Insert__s_Dot_Dot _ _ _ _ _ ⟨_, f1, _, lB _ _ _ _ _, bsplit.no (by simp; omega) ⟨_, lB _ _ _ _ _, bsplit.yes (by simp) ⟨_, _, wt, rfl, rfl⟩⟩⟩

/-- slices.Insert, as the abstract machine runs it -/
def ainsert (T : TT) (t : TypeId) (args : List AV) (s : AS) : Option (AV × AS) :=
  match args with
  | [.slc base len cap ex, .int .i64 i, .slc (some (lb, ob)) m mc eb] =>
    if m = 0 then none else
    if i = (len : Int) then
      (match aslice T t (.slc base len cap ex) (some (.int .i64 i)) none none with
        | some _ => aappend T t t (.slc base len cap ex) (.slc (some (lb, ob)) m mc eb) s
        | none => none)
    else match base, ex with
      | some (l, 0), false => (match s.h l, s.h lb with
        | some (.cells cs 2 false), some (.cells bs gb false) =>
          if 0 ≤ i ∧ i < (len : Int) ∧ cap * 2 = cs.length ∧ len ≤ cap ∧ l ≠ lb ∧ gb ≠ 1 ∧ ob + m * 2 ≤ bs.length ∧ len + m ≤ 2 ^ 30 ∧ 1 ≤ s.st then
            some (.slc (some (s.nl + 2 * s.st, 0)) (len + m) (len + m) false, s.gave l 2 (.cells (insd cs ((bs.drop ob).take (m * 2)) i.toNat len) 2 false))
          else none
        | _, _ => none)
      | _, _ => none
  | _ => none

theorem ainsert_ok {args : List AV} {s s' : AS} {v : AV} (h : ainsert T Y_s_Dot args s = some (v, s')) : ACalls Try.prog F_slices_Insert__s_Dot_Dot args s fun v2 s2 => v2 = v ∧ s2 = s' := by
  unfold ainsert at h
  split at h
  · rename_i base len cap ex i lb ob m mc eb
    split at h
    · cases h
    · rename_i hm
      split at h
      · rename_i hi
        subst hi
        split at h
        · rename_i w hw
          exact insert_end (by omega) hw h
        · cases h
      · split at h
        · split at h
          · rename_i cs bs gb hl hb
            split at h
            · rename_i hc
              obtain ⟨h0, h1, h2, h3, h4, h5, h6, h7, h8⟩ := hc
              obtain ⟨rfl, rfl⟩ : _ ∧ _ := by simpa using h
              obtain ⟨k, rfl⟩ := Int.eq_ofNat_of_zero_le h0
              exact insert_mid hl h2 h3 (by omega) (by omega) h4 hb h5 h6 h7 h8
            · cases h
          · cases h
        · cases h
  · cases h

noncomputable def X1 : XP := XP.ofP Try.prog T fun g args s => if g = F_slices_Insert__s_Dot_Dot then ainsert T Y_s_Dot args s else none
theorem names1 : (Try.prog.funcs.all fun fn => !(fn.name == "runtime.NumGoroutine")) = true := by kernel_rfl
theorem X1_ok : XOk Try.prog X1 := by
  refine XOk.ofP hT hmx names1 fun g args s v s' h => ?_
  split at h
  · rename_i hg; subst hg; exact ainsert_ok h
  · cases h

def isT : Option (AV × AS) → Bool
  | some (.bool true, _) => true
  | _ => false
theorem of_isT {g : FuncId} {k : Nat} (h : isT (xcall X1 k g [] s0) = true) : ACalls Try.prog g [] s0 fun v s' => v = .bool true := by
  unfold isT at h
  split at h
  · rename_i s' he
    exact (xcall_sound X1_ok _ _ _ _ _ _ he).mono fun v s ⟨e, _⟩ => e
  · cases h

theorem own : ownKnob Try.prog.godebug = none := by kernel_rfl

set_option maxRecDepth 100000
theorem known_run : isT (xcall X1 100000 F_law04iknown [] s0) = true := by decide +kernel
theorem known_ok (s : AS) : ACalls Try.prog F_law04iknown [] s fun v s' => v = .bool true ∧ s' = s := ACalls.closed (by kernel_rfl) (of_isT known_run)

theorem laid : laidOutB Try.prog = true := by kernel_rfl
theorem flat_Dot : flatT Try.prog 5 Y_Dot = some [.int .i64, .int .u64] := by kernel_rfl

theorem min_i64 : IntKind.min .i64 = -9223372036854775808 := by decide
theorem max_i64 : IntKind.max .i64 = 9223372036854775807 := by decide
theorem min_u64 : IntKind.min .u64 = 0 := by decide
theorem max_u64 : IntKind.max .u64 = 18446744073709551615 := by decide
/-- a dot as it may come -/
def DotIn (d : Dot) : Prop := (-9223372036854775808 ≤ d.r ∧ d.r ≤ 9223372036854775807) ∧ (0 ≤ d.c ∧ d.c ≤ 18446744073709551615)
theorem dots_arg {H : Type} {enc : TypeId × Value → H} {W : World} {base : Nat} {v : Value} (hv : Value.okWide Try.prog W .any base Y_s_Dot v) (h : ∃ (d : DataW H) (p : List MemPlace), DataW.Trod enc Try.prog W 0 (fun _ => true) true Y_s_Dot v d p) :
    ∃ l : List Dot, Dots (sW W) (absV W.heap.size (MW W) v) l ∧ ∀ d ∈ l, DotIn d := by
  obtain ⟨d, p, h⟩ := h
  obtain ⟨C, h1, h2, _⟩ := slice_arg (d := 5) (ks := [.int .i64, .int .u64]) (hT.und _ _ u_s_Dot) flat_Dot (by kernel_rfl) (by decide) hv h
  obtain ⟨l, e1, e2, e3⟩ := cells_dec (f := dotC) (Q := DotIn) C fun c hc => by
    obtain ⟨a, c1, rfl, ⟨r, rfl, hr1, hr2⟩, g1⟩ := (h2 c hc).cons
    obtain ⟨b, c2, rfl, ⟨n, rfl, hn1, hn2⟩, g2⟩ := g1.cons
    obtain rfl := g2.nil
    rw [min_i64] at hr1
    rw [max_i64] at hr2
    rw [min_u64] at hn1
    rw [max_u64] at hn2
    exact ⟨⟨r, n⟩, rfl, ⟨hr1, hr2⟩, hn1, hn2⟩
  rw [e1, e2] at h1
  exact ⟨l, h1, e3⟩
end Go.Proofs.Ytbfchlimonimkaa
