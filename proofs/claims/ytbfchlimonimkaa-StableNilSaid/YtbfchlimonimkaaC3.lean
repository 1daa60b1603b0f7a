/-
  The closed laws of this seat: what the abstract machine runs to 'true' from an empty heap is so in every world.
-/
import Derived.Test.YtbfchlimonimkaaC2b
import Derived.Test.YtbfchlimonimkaaRows
set_option linter.unusedSimpArgs false
set_option linter.unusedVariables false
namespace Go.Proofs.Ytbfchlimonimkaa
open Go.Am Go.ChangeShapes Go.WideShapes Go.ChangeAt Go.RowKit

def isT : Option (AV × AS) → Bool
  | some (.bool true, _) => true
  | _ => false
theorem of_isT {g : FuncId} {k : Nat} (h : isT (xcall X1 k g [] s0) = true) : ACalls Try.prog g [] s0 fun v s' => v = .bool true := by
  unfold isT at h
  split at h
  · rename_i s' he
    exact (xcall_sound X1_ok _ _ _ _ _ _ he).mono fun v s ⟨e, _⟩ => e
  · cases h

theorem own : ownKnob Try.prog.godebug = none := by kernel_rfl
end Go.Proofs.Ytbfchlimonimkaa
