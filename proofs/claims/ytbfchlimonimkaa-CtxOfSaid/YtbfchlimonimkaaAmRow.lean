/-
  The abstract machine Am: a law that the machine runs to 'true' from an empty heap is so in every world.
-/
import Derived.Test.YtbfchlimonimkaaAmRun3
import Derived.ProofKit
set_option linter.unusedSectionVars false
set_option linter.unusedSimpArgs false
set_option linter.unusedVariables false
namespace Go.Am
open Go.ChangeShapes Go.WideShapes Go.ChangeAt Go.RowKit

def s0 : AS := { lay := [], cur := .E, nl := 0, st := 1 }

theorem s0_h (l : Nat) : s0.h l = none := by simp [AS.h, s0, Tr.get, layGet]

theorem rel0 (W : World) : Rel W.heap.size (fun _ => none) s0 W := by
  refine ⟨fun l o h => ?_, fun l l' o o' i i' h => ?_, fun _ => rfl, Nat.le_refl 1, Nat.le_refl _⟩
  · rw [s0_h] at h; cases h
  · rw [s0_h] at h; cases h

/-- a piece of the run that only had old blocks to read -/
theorem Did.below {B : Nat} {γ γ' : Gam} {s s' : AS} {w w' : World} (h : Did B γ s w γ' s' w') (hro : ∀ l o, s.h l = some o → o.ro = true) : Below w.heap.size w w' :=
  ⟨h.env.1, h.env.2.1, h.env.2.2, h.siz, fun k hk => h.frm k hk fun l o i h1 h2 _ => by rw [hro l o h1] at h2; cases h2⟩

theorem below_of_closed {P : Program} {g : FuncId} {b : Bool} (hg : callable P g = true) (h : ACalls P g [] s0 fun v s' => v = .bool b) (W : World) : Calls P g #[] W fun e W' => e = .returned (.bool b) ∧ Below W.heap.size W W' := by
  have hl : Calls P g #[] W (fun e w' => ∃ γ' v cv s', e = .returned cv ∧ VRel γ' v cv ∧ Did W.heap.size (fun _ => none) s0 W γ' s' w' ∧ Rel W.heap.size γ' s' w' ∧ v = .bool b) := by
    rcases h W.heap.size (fun _ => none) #[] W VRels.nil (rel0 W) with ⟨_, h1⟩ | ⟨cv, w', h1, _⟩
    · exact h1
    · rw [run_callFunc hg] at h1; cases h1
  refine hl.mono ?_
  rintro e w' ⟨γ', v, cv, s', rfl, hv, hd, hr, rfl⟩
  simp only [VRel] at hv
  subst hv
  exact ⟨rfl, hd.below fun l o h => by rw [s0_h] at h; cases h⟩

/-- the end of a law: it answered true, and nothing old has turned -/
theorem post_law {H : Type} {enc : TypeId × Value → H} {P : Program} {f : Func} {s : ChangeSpec} {fresh : Bool} {W W' : World} {args : Array Value} {ds : List (DataW H)} {before pa : List MemPlace} {rt : TypeId}
    (hW : DataW.Whole enc P f.params.toList s.vars false W args.toList ds [] before) (hv : s.vars = []) (hb : Below W.heap.size W W') (hrt : f.resultTypes = #[rt]) (hru : P.underlying rt = some .bool)
    (hsp : (s.fn H (ds ++ [])) = { results := [.lit (.bool true)], args := ds }) (hpa : DataW.TrodAll enc P W' 0 (fun b => decide (b < W.heap.size)) true f.params.toList args.toList ds pa) :
    s.post enc P f false fresh false false W args (.bool true) W' := by
  refine ⟨ds, [], before, [], pa, [], hW, ?_, ?_, ?_, hb.frame _, fun h => by cases h⟩
  · rw [hsp, hrt]
    exact trodAll_mk1 (shut_bool hru true)
  · rw [hsp]; exact hpa
  · rw [hsp, hv]; rfl

/-- the functions of a program, for the run -/
def XP.ofP (P : Program) (T : TT) (intr : XCall) : XP :=
  { T, fn := fun g => (P.funcs[g]?).bind fun fn => fn.body.map fun c => ⟨c, fn.ntmps, fn.results.toList⟩, intr }

theorem XOk.ofP {P : Program} {T : TT} {intr : XCall} (hT : TT.Ok P T) (hmx : P.follows .mixedOrders = true) (hn : (P.funcs.all fun fn => !(fn.name == "runtime.NumGoroutine")) = true) (hi : CallOk P intr) : XOk P (XP.ofP P T intr) := by
  refine ⟨hT, hmx, fun g fx h => ?_, hi⟩
  simp only [XP.ofP, Option.bind_eq_some_iff, Option.map_eq_some_iff] at h
  obtain ⟨fn, hfn, c, hc, rfl⟩ := h
  refine ⟨fn, hfn, ?_, hc, rfl, rfl⟩
  unfold callable
  rw [hfn]
  have hm : fn ∈ P.funcs := Array.mem_of_getElem? hfn
  have := Array.all_eq_true'.1 hn fn hm
  simp only [this, hc, Option.isNone_some, Bool.not_false, Bool.and_true]
end Go.Am
