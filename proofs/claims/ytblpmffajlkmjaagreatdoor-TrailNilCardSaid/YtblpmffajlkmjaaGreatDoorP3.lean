/-
  A part of the proof: an abstract machine over the model, and contracts of functions of this program over it.
-/
import Derived.RangeFuncSeq
import Derived.RangeFuncCalls
import Derived.TacticsIn
import Derived.OpenShut
import Derived.Deep.Slices
import Derived.Carry
import Derived.Lay
import Derived.Test.YtblpmffajlkmjaaGreatDoorP2
set_option linter.unusedVariables false
set_option linter.unusedSimpArgs false
set_option linter.unusedSectionVars false
section
namespace Go.Am
open Go.RowKit
def sideObj : Obj → Bool
 | .loop _ => true
 | .deferred _ => true
 | _ => false
theorem ORel.not_side {γ : Gam} {w : World} {i : CI} {o : AO} {ob : Obj} (h : ORel γ w i o) (hb : w.heap[i.b]? = some ob) : sideObj ob = false := by
 cases o with
 | cells cs g ro => obtain ⟨c, e, fz, h1, _⟩ := h; rw [h1] at hb; cases hb; rfl
 | map es clock ro => obtain ⟨c, h1, _⟩ := h; rw [h1] at hb; cases hb; rfl
 | mapIt m since seen stepped ro =>
  cases m with
  | none => obtain ⟨_, h1⟩ := h; rw [h1] at hb; cases hb; rfl
  | some m => obtain ⟨_, j, _, h1⟩ := h; rw [h1] at hb; cases hb; rfl
 | strIt s pos ro => obtain ⟨_, h1⟩ := h; rw [h1] at hb; cases hb; rfl
 | dead => exact h.elim
section
variable {B : Nat} {γ γ' : Gam} {s s' : AS} {w w' : World}
theorem Rel.side (h : Rel B γ s w) (hs : w.heap.size ≤ w'.heap.size) (hb : ∀ (b : Nat) (ob : Obj), w.heap[b]? = some ob → sideObj ob = false → w'.heap[b]? = some ob) : Rel B γ s w' := by
 refine ⟨fun l o hl => ?_, h.inj, h.fin, h.stp, Nat.le_trans h.base hs⟩
 obtain ⟨i, a, b, c⟩ := h.obj l o hl
 refine ⟨i, a, b.congr ?_, c⟩
 have hlt := b.lt
 rw [hb i.b _ (Array.getElem?_eq_getElem hlt) (b.not_side (Array.getElem?_eq_getElem hlt)), Array.getElem?_eq_getElem hlt]
theorem Rel.side_ne (h : Rel B γ s w) {b : Nat} {ob : Obj} (hl : w.heap[b]? = some ob) (hs : sideObj ob = true) : ∀ l o i, s.h l = some o → γ l = some i → i.b ≠ b := by
 rintro l o i h1 h2 rfl
 obtain ⟨i', a, b, c⟩ := h.obj l o h1
 rw [h2] at a
 obtain rfl := Option.some.inj a
 have := b.not_side hl
 rw [hs] at this; cases this
theorem Did.keeps (d : Did B γ s w γ' s' w') (h : Rel B γ s w) {b : Nat} {ob : Obj} (hl : w.heap[b]? = some ob) (hs : sideObj ob = true) : w'.heap[b]? = some ob := by
 rw [d.frm b (Array.getElem?_eq_some_iff.1 hl).1 fun l o i h1 _ h2 => h.side_ne hl hs l o i h1 h2]; exact hl
theorem Did.swap {w1 w2 : World} (d : Did B γ s w1 γ' s' w2) (h1 : w.heap.size ≤ w1.heap.size) (h2 : w2.heap.size ≤ w'.heap.size) (hf : ∀ b, b < w.heap.size → (∀ l o i, s.h l = some o → o.ro = false → γ l = some i → i.b ≠ b) → w'.heap[b]? = w.heap[b]?) (he : Env w w') : Did B γ s w γ' s' w' :=
 ⟨d.le, hf, by have := d.siz; omega, fun l o i a b c => (d.new l o i a b c).imp (fun h => by omega) id, d.nl, d.st, d.lay, d.dom, d.sld, he⟩
end
/-! ### frames with marks -/
def FX (γ : Gam) (n : Nat) (f : Fr) (ds : List Deferred) (a : Act) : Prop := a.defers = ds ∧ FRel γ n f { a with defers := [] }
theorem FX.mono {γ γ' : Gam} {n : Nat} {f : Fr} {ds : List Deferred} {a : Act} (h : FX γ n f ds a) (hle : Gam.le γ γ') : FX γ' n f ds a := ⟨h.1, h.2.mono hle⟩
theorem FX.eval {γ : Gam} {n : Nat} {f : Fr} {ds : List Deferred} {a : Act} (h : FX γ n f ds a) (x : Operand) : VRel γ (aev f x) (a.eval x) := by
 have := h.2.eval x
 cases x <;> exact this
theorem FX.put {γ : Gam} {n : Nat} {f : Fr} {ds : List Deferred} {a : Act} (h : FX γ n f ds a) {d : Option Nat} {v : AV} {c : Value} (hd : dstOk n d = true) (hv : VRel γ v c) : FX γ n (updO f d v) ds (a.put d c) := by
 refine ⟨?_, ?_⟩
 ·cases d <;> exact h.1
 ·have := h.2.put hd hv
  cases d <;> exact this
abbrev Fz (rd : Option Nat) : Fence := { Fence.wide with round := rd }
def PostX (B : Nat) (γ : Gam) (s : AS) (w : World) (n : Nat) (ds : List Deferred) (Q : Exit → Fr → AS → Prop) : Exit → Act → World → Prop := fun e a' w' =>
 ∃ γ' f' s', FX γ' n f' ds a' ∧ Did B γ s w γ' s' w' ∧ Rel B γ' s' w' ∧ Q e f' s'
theorem PostX.trans {B : Nat} {γ γ' : Gam} {s s' : AS} {w w' : World} {n : Nat} {ds : List Deferred} {Q : Exit → Fr → AS → Prop} (hd : Did B γ s w γ' s' w') {e : Exit} {a : Act} {w'' : World} (h : PostX B γ' s' w' n ds Q e a w'') : PostX B γ s w n ds Q e a w'' := by
 obtain ⟨γ2, f2, s2, h1, h2, h3, h4⟩ := h
 exact ⟨γ2, f2, s2, h1, hd.trans h2, h3, h4⟩
def Kept (Iv : Gam → World → Prop) : Prop := ∀ B γ s w γ' s' w', Rel B γ s w → Iv γ w → Did B γ s w γ' s' w' → Iv γ' w'
theorem Kept.true : Kept fun _ _ => True := fun _ _ _ _ _ _ _ _ _ _ => trivial
def AWpX (Iv : Gam → World → Prop) (rd : Option Nat) (ds : List Deferred) (P : Program) (n : Nat) (c : Code) (f : Fr) (s : AS) (Q : Exit → Fr → AS → Prop) : Prop :=
 ∀ (B : Nat) (γ : Gam) (a : Act) (w : World), FX γ n f ds a → Rel B γ s w → Iv γ w → c.wpIn (Fz rd) 0 P (PostX B γ s w n ds Q) a w
def YOk (Iv : Gam → World → Prop) (P : Program) (l : Nat) (args : List AV) (s : AS) (R : AV → AS → Prop) : Prop :=
 ∀ (B : Nat) (γ : Gam) (cargs : Array Value) (w : World), VRels γ args cargs.toList → Rel B γ s w → Iv γ w →
  YieldAt Fence.wide 0 P l cargs w fun e w' => ∃ γ' v cv s', e = .returned cv ∧ VRel γ' v cv ∧ Did B γ s w γ' s' w' ∧ Rel B γ' s' w' ∧ R v s'
def ICalls (Iv : Gam → World → Prop) (P : Program) (g : FuncId) (args : List AV) (s : AS) (R : AV → AS → Prop) : Prop :=
 ∀ (B : Nat) (γ : Gam) (cargs : Array Value) (w : World), VRels γ args cargs.toList → Rel B γ s w → Iv γ w →
  Calls P g cargs w fun e w' => ∃ γ' v cv s', e = .returned cv ∧ VRel γ' v cv ∧ Did B γ s w γ' s' w' ∧ Rel B γ' s' w' ∧ R v s'
theorem wpIn_loop_ghost {F : Fence} {k : Nat} {P : Program} {Q : Exit → Act → World → Prop} {a : Act} {w : World} {c : Code} (I : Nat → Act → World → Prop) (n₀ : Nat) (h₀ : I n₀ a w)
  (round : ∀ n a w, I n a w → c.wpIn F k P (Exit.then (fun a' w' => ∃ n', n' < n ∧ I n' a' w') Q) a w) : (Code.loop c).wpIn F k P Q a w := by
 refine wpIn_loop (fun a w => ∃ n, I n a w) (fun a w => leastOf (fun n => I n a w)) ⟨n₀, h₀⟩ ?_
 intro a w hI
 refine Go.wpIn_mono (round _ a w (leastOf_spec hI).1) ?_
 intro e a' w' hq
 cases e with
 | normal =>
  obtain ⟨n', hlt, hI'⟩ := hq
  exact show (∃ n, I n a' w') ∧ leastOf (fun n => I n a' w') < leastOf (fun n => I n a w) from ⟨⟨n', hI'⟩, Nat.lt_of_le_of_lt ((leastOf_spec ⟨n', hI'⟩).2 n' hI') hlt⟩
 | exit id => exact hq
 | goto l => exact hq
 | ret => exact hq
 | panic ch => exact hq
 | outgrown => exact hq
section
variable {Iv : Gam → World → Prop} {rd : Option Nat} {ds : List Deferred} {P : Program} {n : Nat} {f : Fr} {s : AS} {Q : Exit → Fr → AS → Prop}
theorem AWpX.skip (h : Q .normal f s) : AWpX Iv rd ds P n .skip f s Q := fun B γ a w hf hr _ => wpIn_skip ⟨γ, f, s, hf, Did.refl, hr, h⟩
theorem AWpX.exit {id : Nat} (h : Q (.exit id) f s) : AWpX Iv rd ds P n (.exit id) f s Q := fun B γ a w hf hr _ => wpIn_exit ⟨γ, f, s, hf, Did.refl, hr, h⟩
theorem AWpX.seq (hI : Kept Iv) {x y : Code} (h : AWpX Iv rd ds P n x f s (XThen (fun f s => AWpX Iv rd ds P n y f s Q) Q)) : AWpX Iv rd ds P n (.seq x y) f s Q := by
 intro B γ a w hf hr hi
 refine wpIn_seq (Go.wpIn_mono (h B γ a w hf hr hi) ?_)
 rintro e a' w' ⟨γ', f', s', h1, h2, h3, h4⟩
 cases e with
 | normal => exact Go.wpIn_mono (h4 B γ' a' w' h1 h3 (hI _ _ _ _ _ _ _ hr hi h2)) fun e a w hh => PostX.trans h2 hh
 | _ => exact ⟨γ', f', s', h1, h2, h3, h4⟩
theorem AWpX.cond {c : Operand} {x y : Code} {t : Bool} (hc : aev f c = .bool t) (h : AWpX Iv rd ds P n (if t then x else y) f s Q) : AWpX Iv rd ds P n (.cond c x y) f s Q := by
 intro B γ a w hf hr hi
 have hv := hf.eval c
 rw [hc] at hv
 simp only [VRel] at hv
 exact wpIn_cond hv (h B γ a w hf hr hi)
theorem AWpX.block {id : Nat} {c : Code} (h : AWpX Iv rd ds P n c f s (XBlock id Q)) : AWpX Iv rd ds P n (.block id c) f s Q := by
 intro B γ a w hf hr hi
 refine wpIn_block (Go.wpIn_mono (h B γ a w hf hr hi) ?_)
 rintro e a' w' ⟨γ', f', s', h1, h2, h3, h4⟩
 cases e with
 | exit id' =>
  simp only [XBlock] at h4
  simp only [Exit.inBlock]
  split
  ·rename_i hid; rw [if_pos hid] at h4; exact ⟨γ', f', s', h1, h2, h3, h4⟩
  ·rename_i hid; rw [if_neg hid] at h4; exact ⟨γ', f', s', h1, h2, h3, h4⟩
 | _ => exact ⟨γ', f', s', h1, h2, h3, h4⟩
theorem AWpX.loop (hI : Kept Iv) {c : Code} (I : Nat → Fr → AS → Prop) (m : Nat) (h₀ : I m f s)
  (round : ∀ m f s, I m f s → AWpX Iv rd ds P n c f s (XThen (fun f' s' => ∃ m', m' < m ∧ I m' f' s') Q)) : AWpX Iv rd ds P n (.loop c) f s Q := by
 intro B γ a w hf hr hi
 refine wpIn_loop_ghost (fun m a' w' => ∃ γ' f' s', FX γ' n f' ds a' ∧ Did B γ s w γ' s' w' ∧ Rel B γ' s' w' ∧ I m f' s') m ⟨γ, f, s, hf, Did.refl, hr, h₀⟩ ?_
 rintro m a' w' ⟨γ', f', s', h1, h2, h3, h4⟩
 refine Go.wpIn_mono (round m f' s' h4 B γ' a' w' h1 h3 (hI _ _ _ _ _ _ _ hr hi h2)) ?_
 rintro e a2 w2 ⟨γ2, f2, s2, g1, g2, g3, g4⟩
 cases e with
 | normal => obtain ⟨m', hm, hI⟩ := g4; exact ⟨m', hm, γ2, f2, s2, g1, h2.trans g2, g3, hI⟩
 | _ => exact ⟨γ2, f2, s2, g1, h2.trans g2, g3, g4⟩
end
/-! ### operations -/
def isDefer : Op → Bool
 | .defer _ => true
 | _ => false
theorem semAt_exec {o : Oper} (h : isDefer o.op = false) (rd : Option Nat) (ρ : Operand → Value) : o.semAt rd ρ = execOp ρ o := by
 cases rd with
 | none => rfl
 | some l => exact Oper.semAt_some l ρ o fun c e => by rw [e] at h; cases h
def ayield (f : Fr) : Op → Option (Nat × List AV)
 | .call c => match c.callee with
  | .value x => match aev f x with
   | .yld l => some (l, c.args.toList.map (aev f))
   | _ => none
  | _ => none
 | _ => none
theorem ayield_run {γ : Gam} {n : Nat} {f : Fr} {ds : List Deferred} {a : Act} (h : FX γ n f ds a) {o : Oper} {l : Nat} {args : List AV} (hc : ayield f o.op = some (l, args)) {P : Program} (w : World) :
  ∃ cargs : Array Value, VRels γ args cargs.toList ∧ (execOp a.eval o).run P w = (Instr.yield l cargs).run P w := by
 obtain ⟨dst, op, type, pos, after, guard⟩ := o
 simp only at hc
 unfold ayield at hc
 split at hc
 ·rename_i c
  split at hc
  ·rename_i x hx
   split at hc
   ·rename_i l' hv
    obtain ⟨rfl, rfl⟩ : _ ∧ _ := by simpa using hc
    have he := h.eval x
    rw [hv] at he
    simp only [VRel] at he
    refine ⟨c.args.map a.eval, ?_, ?_⟩
    ·rw [Array.toList_map]
     exact vrels_of h.eval c.args.toList
    ·simp only [execOp, resolve, hx, he, Deferred.ofValue, Sem.run_bind, Sem.run_pure, Result.andThen_ok, invoke]
     simp
   ·cases hc
  ·cases hc
 ·cases hc
theorem vcOp_soundX {P : Program} {T : TT} (hT : TT.Ok P T) {n : Nat} {o : Oper} {f : Fr} {s : AS} {K : Fr → AS → Prop} (h : vcOp P T n o f s K) (hnd : isDefer o.op = false) {B : Nat} {γ : Gam} {rd : Option Nat} {ds : List Deferred} {a : Act} {w : World} (hf : FX γ n f ds a) (hr : Rel B γ s w)
  {next : Act → World → Prop} {Q : Exit → Act → World → Prop} (hn : ∀ γ' f' s' a' w', FX γ' n f' ds a' → Did B γ s w γ' s' w' → Rel B γ' s' w' → K f' s' → next a' w') : o.wpIn (Fz rd) 0 P a w next Q := by
 obtain ⟨hd, h⟩ := h
 refine ⟨fun _ _ => trivial, ?_⟩
 rw [semAt_exec hnd]
 rcases h with h | ⟨l, hl, h⟩
 rotate_left
 ·obtain ⟨p, hp, γ', w', cv, hrun, hv, hdid, hr'⟩ := acand_sim (P := P) hr hf.eval hl
  rw [hrun]
  exact hn γ' _ p.2 _ w' ((hf.mono hdid.le).put hd hv) hdid hr' (h p hp)
 split at h
 ·rename_i g args hc
  obtain ⟨cargs, hargs, hrun⟩ := acallee_run hf.2 hc (P := P) w
  have hrun' : (execOp a.eval o).run P w = (callFunc g cargs).run P w := by
   have : ({ a with defers := [] } : Act).eval = a.eval := by funext x; cases x <;> rfl
   rw [← this]; exact hrun
  rw [hrun']
  rcases h B γ cargs w hargs hr with ⟨h1, h2⟩ | ⟨cv, w', h1, γ', v, cv', s', e, hv, hdid, hr', hk⟩
  ·rw [h1]
   refine ⟨fun h => (by cases h), ?_⟩
   have hcall := callsIn_wide (n := 0) |>.2 h2
   refine (show CallsIn (Fz rd) 0 P g cargs w _ from hcall).mono ?_
   rintro e w' ⟨γ', v, cv, s', rfl, hv, hdid, hr', hk⟩
   exact hn γ' _ s' _ w' ((hf.mono hdid.le).put hd hv) hdid hr' hk
  ·rw [h1]
   injection e with e
   subst e
   exact hn γ' _ s' _ w' ((hf.mono hdid.le).put hd hv) hdid hr' hk
 ·obtain ⟨v, s', hop, hk⟩ := h
  obtain ⟨γ', w', nx, cv, hrun, hnx, hv, hdid, hr'⟩ := aop_sim hT hr hf.eval hop
  rw [hrun]
  rcases hnx with rfl | ⟨rfl, rfl⟩
  ·exact hn γ' _ s' _ w' ((hf.mono hdid.le).put hd hv) hdid hr' hk
  ·exact hn γ' _ s' _ w' ((hf.mono hdid.le).put hd hv) hdid hr' hk
def vcRaw (P : Program) (n : Nat) (o : Oper) (f : Fr) (K : Fr → Prop) : Prop :=
 dstOk n o.dst = true ∧ ∃ v, (∀ (γ : Gam) (ρ : Operand → Value) (w : World), (∀ x, VRel γ (aev f x) (ρ x)) → ∃ cv, (execOp ρ o).run P w = .ok (.value cv) w ∧ VRel γ v cv) ∧ K (updO f o.dst v)
def vcOpsX (Iv : Gam → World → Prop) (P : Program) (T : TT) (n : Nat) (ops : Array Oper) : List Oper → Fr → AS → (Fr → AS → Prop) → Prop
 | [], f, s, K => K f s
 | o :: rest, f, s, K => match awanted ops f o with
  | some true => match ayield f o.op with
   | some (l, args) => dstOk n o.dst = true ∧ YOk Iv P l args s fun v s' => vcOpsX Iv P T n ops rest (updO f o.dst v) s' K
   | none => isDefer o.op = false ∧ (vcOp P T n o f s (fun f' s' => vcOpsX Iv P T n ops rest f' s' K) ∨ vcRaw P n o f fun f' => vcOpsX Iv P T n ops rest f' s K)
  | some false => dstOk n o.dst = true ∧ vcOpsX Iv P T n ops rest (updO f o.dst .undef) s K
  | none => False
theorem vcOpsX_sound {Iv : Gam → World → Prop} (hI : Kept Iv) {P : Program} {T : TT} (hT : TT.Ok P T) {n : Nat} {ops : Array Oper} {Q : Exit → Fr → AS → Prop} {B : Nat} {rd : Option Nat} {ds : List Deferred} {γ0 : Gam} {s0 : AS} {w0 : World} : ∀ (l : List Nat) (os : List Oper) (f : Fr) (s : AS) (γ : Gam) (a : Act) (w : World),
  l.map (ops[·]?) = os.map some → vcOpsX Iv P T n ops os f s (fun f s => Q .normal f s) → FX γ n f ds a → Rel B γ s w → Iv γ w → Did B γ0 s0 w0 γ s w → wpOpsIn (Fz rd) 0 P ops (PostX B γ0 s0 w0 n ds Q) l a w
 | [], os, f, s, γ, a, w, hl, h, hf, hr, hi, hd => by
  cases os with
  | nil => exact ⟨γ, f, s, hf, hd, hr, h⟩
  | cons _ _ => simp at hl
 | i :: l, os, f, s, γ, a, w, hl, h, hf, hr, hi, hd => by
  cases os with
  | nil => simp at hl
  | cons o os =>
   simp only [List.map_cons, List.cons.injEq] at hl
   simp only [wpOpsIn, hl.1]
   simp only [vcOpsX] at h
   split at h
   ·rename_i hw
    rw [awanted_run hf.2 hw, if_pos rfl]
    split at h
    ·rename_i k args hc
     obtain ⟨cargs, hargs, hrun⟩ := ayield_run hf hc (P := P) w
     obtain ⟨fn, tmps, assign, body, hy, hR⟩ := h.2 B γ cargs w hargs hr hi
     have hnd : isDefer o.op = false := by
      cases ho : o.op <;> first | rfl | (rw [ho] at hc; cases hc)
     refine ⟨fun _ _ => trivial, ?_⟩
     rw [semAt_exec hnd, hrun, hy]
     refine ⟨fun h => (by cases h), (show RoundIn (Fz rd) 0 P k fn tmps assign body w _ from hR).mono ?_⟩
     rintro e w' ⟨γ', v, cv, s', rfl, hv, hdid, hr', hk⟩
     exact vcOpsX_sound hI hT l os _ s' γ' _ w' hl.2 hk ((hf.mono hdid.le).put h.1 hv) hr' (hI _ _ _ _ _ _ _ hr hi hdid) (hd.trans hdid)
    ·rcases h.2 with h2 | ⟨hdd, v, hrun, hk⟩
     ·exact vcOp_soundX hT h2 h.1 hf hr fun γ' f' s' a' w' h1 h2 h3 h4 => vcOpsX_sound hI hT l os f' s' γ' a' w' hl.2 h4 h1 h3 (hI _ _ _ _ _ _ _ hr hi h2) (hd.trans h2)
     ·obtain ⟨cv, hr2, hv⟩ := hrun γ a.eval w hf.eval
      refine ⟨fun _ _ => trivial, ?_⟩
      rw [semAt_exec h.1, hr2]
      exact vcOpsX_sound hI hT l os _ s γ _ w hl.2 hk (hf.put hdd hv) hr hi hd
   ·rename_i hw
    rw [awanted_run hf.2 hw, if_neg (by simp)]
    exact ⟨fun _ _ => trivial, vcOpsX_sound hI hT l os _ s γ _ w hl.2 h.2 (hf.put h.1 (vundef γ)) hr hi hd⟩
   ·exact h.elim
theorem AWpX.region {Iv : Gam → World → Prop} (hI : Kept Iv) {P : Program} {T : TT} (hT : TT.Ok P T) {rd : Option Nat} {ds : List Deferred} {n : Nat} {id : Nat} {ops : Array Oper} {f : Fr} {s : AS} {Q : Exit → Fr → AS → Prop} (h : vcOpsX Iv P T n ops ops.toList f s fun f s => Q .normal f s) :
  AWpX Iv rd ds P n (.region id ops false) f s Q := by
 intro B γ a w hf hr hi
 refine wpIn_region (vcOpsX_sound hI hT (List.range ops.size) ops.toList f s γ a w ?_ h hf hr hi Did.refl)
 apply List.ext_getElem?
 intro i
 simp only [List.getElem?_map]
 by_cases hi : i < ops.size
 ·simp [hi]
 ·have : ops.toList[i]? = none := List.getElem?_eq_none (by simpa using hi)
  rw [this, List.getElem?_eq_none (by simpa using hi)]; rfl
/-! ### the record, rounds -/
def RecI (l D : Nat) (r : Loop) (n : Nat) (f0 : Fr) (γ : Gam) (w : World) : Prop :=
 w.heap[l]? = some (.loop r) ∧ w.heap[D]? = some (.deferred (some [])) ∧ FRel γ n f0 { tmps := r.tmps, defers := [] }
theorem RecI.kept {l D : Nat} {r : Loop} {n : Nat} {f0 : Fr} : Kept (RecI l D r n f0) :=
 fun _ _ _ _ _ _ _ hr hi d => ⟨d.keeps hr hi.1 rfl, d.keeps hr hi.2.1 rfl, hi.2.2.mono d.le⟩
theorem YOk.round {P : Program} {l D : Nat} {r : Loop} {n p : Nat} {f0 : Fr} {s : AS} {v : AV} {R : AV → AS → Prop} (hst : r.state = .ready) (hpe : r.pending = none) (hps : r.params = #[p]) (hp : p < n)
  (h : AWpX (fun _ _ => True) (some l) [] P n r.assign (upd f0 p v) s fun e f' s' => e = .normal ∧ AWpX (fun _ _ => True) (some l) [] P n r.body f' s' fun e _ s'' => e = .normal ∧ R (.bool true) s'') :
  YOk (RecI l D r n f0) P l [v] s R := by
 intro B γ cargs w hargs hr hi
 obtain ⟨hl, hk, hf0⟩ := hi
 obtain ⟨c, cs, hc, hv, hcs⟩ := VRels.cons_iff.1 hargs
 obtain rfl := VRels.nil_iff.1 hcs
 obtain rfl : cargs = #[c] := by
  cases cargs with
  | mk l => simp only at hc; rw [hc]
 refine ⟨r.fn, _, r.assign, r.body, run_yield hl (by rw [hps]; rfl), roundIn_of_wpIn trivial ?_⟩
 have ha : FX γ n (upd f0 p v) [] { tmps := (r.params.zip #[c]).foldl (fun tmps (t, a) => tmps.setIfInBounds t a) r.tmps, defers := [] } := by
  refine ⟨rfl, ?_⟩
  have := hf0.put (d := some p) (v := v) (c := c) (by simpa [dstOk] using hp) hv
  have e : (r.params.zip #[c]).foldl (fun tmps (t, a) => tmps.setIfInBounds t a) r.tmps = r.tmps.setIfInBounds p c := by rw [hps, ← Array.foldl_toList, Array.toList_zip]; rfl
  simp only [e]
  exact this
 refine Go.wpIn_mono (h B γ _ w ha hr trivial) ?_
 rintro e a1 w1 ⟨γ1, f1, s1, h1, d1, r1, rfl, hb⟩
 have hl1 := d1.keeps hr hl rfl
 refine ⟨_, run_beginRound hl1 hst, ?_⟩
 have hlt1 := (Array.getElem?_eq_some_iff.1 hl1).1
 have r2 : Rel B γ1 s1 (w1.putObj l (.loop { r with state := .busy })) := r1.side (by simp) fun b ob hob hs => by
  rw [World.putObj_heap_other]; exact hob
  rintro rfl; rw [hl1] at hob; cases hob; cases hs
 have hl2 : (w1.putObj l (.loop { r with state := .busy })).heap[l]? = some (.loop { r with state := .busy }) := World.putObj_heap_same hlt1
 refine Go.wpIn_mono (hb B γ1 a1 _ h1 r2 trivial) ?_
 rintro e a3 w3 ⟨γ3, f3, s3, h3, d3, r3, rfl, hR⟩
 have hl3 := d3.keeps r2 hl2 rfl
 have hlt3 := (Array.getElem?_eq_some_iff.1 hl3).1
 have hback : ({ ({ r with state := .busy } : Loop) with state := if (none : Option Code).isNone then .ready else .done, pending := none } : Loop) = r := by
  cases r; simp only at hst hpe; subst hst; subst hpe; rfl
 have hrun := run_endRound (P := P) none hl3
 rw [hback] at hrun
 refine ⟨_, _, hrun, γ3, .bool true, _, s3, rfl, rfl, d1.trans (d3.swap (by simp) (by simp) (fun b hb hnb => ?_) ?_), r3.side (by simp) fun b ob hob hs => ?_, hR⟩
 ·by_cases e : b = l
  ·subst e; rw [World.putObj_heap_same hlt3, hl1]
  ·rw [World.putObj_heap_other e, d3.frm b (by simpa using hb) hnb, World.putObj_heap_other e]
 ·exact d3.env
 ·rw [World.putObj_heap_other]; exact hob
  rintro rfl; rw [hl3] at hob; cases hob; cases hs
theorem wpIn_rangeFunc_am {P : Program} {n p : Nat} {g : Operand} {assign body : Code} {f : Fr} {s : AS} {ds : List Deferred} {K : AS → Prop} {gf : FuncId} {cap : List AV} (hg : aev f g = .func gf cap) (hc : callable P gf = true)
  (hit : ∀ (l D : Nat) (r : Loop), r.state = .ready → r.pending = none → r.params = #[p] → r.assign = assign → r.body = body → ICalls (RecI l D r n f) P gf (.yld l :: cap) s fun _ s' => K s')
  {B : Nat} {γ : Gam} {a : Act} {w : World} (hf : FX γ n f ds a) (hr : Rel B γ s w) :
  (Code.rangeFunc g #[p] assign body).wpIn Fence.wide 0 P (fun e a' w' => ∃ D γ' s', e = .normal ∧ w.heap.size ≤ D ∧ w'.heap[D]? = some (.deferred (some [])) ∧ FX γ' n f ({ target := .collected D, args := #[] } :: ds) a' ∧ Did B γ s w γ' s' w' ∧ Rel B γ' s' w' ∧ K s') a w := by
 have he := hf.eval g
 rw [hg] at he
 simp only [VRel] at he
 obtain ⟨cc, hcc, hcap⟩ := he
 refine wpIn_rangeFunc ?_
 intro fn _
 obtain ⟨r, hre⟩ : ∃ r : Loop, r = { state := .ready, pending := none, fn, tmps := a.tmps, params := #[p], assign, body, defers := w.heap.size } := ⟨_, rfl⟩
 obtain ⟨W1, hW1⟩ : ∃ W1, (w.alloc (.deferred (some []))).alloc (.loop r) = W1 := ⟨_, rfl⟩
 have hL1 : W1.heap[w.heap.size + 1]? = some (.loop r) := by
  rw [← hW1]; have := World.alloc_heap_new (w.alloc (.deferred (some []))) (.loop r); rwa [World.size_alloc] at this
 have hK1 : W1.heap[w.heap.size]? = some (.deferred (some [])) := by
  rw [← hW1]; exact (Below.heap_alloc _ _ _ (by simp)).trans (World.alloc_heap_new w _)
 have hsz : W1.heap.size = w.heap.size + 2 := by rw [← hW1]; simp
 have hold : ∀ b, b < w.heap.size → W1.heap[b]? = w.heap[b]? := fun b hb => by
  rw [← hW1, Below.heap_alloc _ _ _ (by simp; omega), Below.heap_alloc _ _ _ hb]
 have hr1 : Rel B γ s W1 := hr.side (by omega) fun b ob hob _ => (hold b (Array.getElem?_eq_some_iff.1 hob).1).trans hob
 refine ⟨w.heap.size + 1, [{ target := .collected w.heap.size, args := #[] }], W1, { target := .fn (.func gf) cc, args := #[.func (.yield (w.heap.size + 1)) #[] #[]] }, W1, gf,
  #[.func (.yield (w.heap.size + 1)) #[] #[]] ++ cc, W1, ?_, ?_, fun _ _ => trivial, ?_, fun h => (by cases h), ?_⟩
 ·rw [← hW1, hre]; exact run_enterLoop_outer _ _ _ _ _
 ·simp only [resolve, hcc]
  simp [go_sem]
 ·simp [invoke, go_sem, run_callFunc hc]
 ·refine callsIn_wide.2 ((hit (w.heap.size + 1) w.heap.size r (by rw [hre]) (by rw [hre]) (by rw [hre]) (by rw [hre]) (by rw [hre]) B γ _ W1 ?_ hr1 ⟨hL1, hK1, by rw [hre]; exact hf.2⟩).mono ?_)
  ·rw [Array.toList_append]
   exact VRels.cons (by simp [VRel]) hcap
  ·rintro e w3 ⟨γ', v, cv, s', rfl, hv, d, r3, hk⟩
   have hl3 := d.keeps hr1 hL1 rfl
   have hk3 := d.keeps hr1 hK1 rfl
   have hend := run_endLoop (P := P) hl3 (by rw [hre]; simp)
   refine ⟨none, _, by rw [hend, hre], w.heap.size, γ', s', rfl, Nat.le_refl _, (World.putObj_heap_other (by omega)).trans hk3, ⟨by rw [← hf.1]; rfl, hf.2.mono d.le⟩, d.swap (by omega) (by simp) (fun b hb hnb => ?_) ?_, r3.side (by simp) fun b ob hob hs => ?_, hk⟩
   ·rw [World.putObj_heap_other (by omega), d.frm b (by omega) hnb, hold b hb]
   ·have := d.env
    rw [← hW1] at this
    exact this
   ·rw [World.putObj_heap_other]; exact hob
    rintro rfl; rw [hl3] at hob; cases hob; cases hs
theorem ICalls.body {Iv : Gam → World → Prop} {P : Program} {T : TT} (hT : TT.Ok P T) {g : FuncId} {fn : Func} {c : Code} {args : List AV} {s : AS} {R : AV → AS → Prop} {n : Nat} {rs : List ResultVar} (hf : P.funcs[g]? = some fn) (hb : fn.body = some c)
  (hn : args.length + (fn.ntmps - args.length) = n) (hrs : fn.results.toList = rs) (h : AWpX Iv none [] P n c (ainit args) s (XRet T rs R)) : ICalls Iv P g args s R := by
 subst hn hrs
 intro B γ cargs w hargs hr hi
 refine callsIn_wide (n := 0) |>.1 (callsIn_of_wp hf hb trivial ?_)
 have hlen := hargs.length
 simp only [Array.length_toList] at hlen
 have hfr : FRel γ (args.length + (fn.ntmps - args.length)) (ainit args) { tmps := cargs ++ Array.replicate (fn.ntmps - cargs.size) undef, defers := [] } := by
  refine ⟨by simp [hlen], rfl, fun t => ?_⟩
  simp only [ainit, Array.getD_eq_getD_getElem?, List.getD_eq_getElem?_getD]
  by_cases ht : t < args.length
  ·obtain ⟨cv, hcv, hrel⟩ := hargs.get (List.getElem?_eq_getElem ht)
   rw [Array.getElem?_append_left (by omega)]
   rw [Array.getElem?_toList] at hcv
   rw [hcv, List.getElem?_eq_getElem ht]
   exact hrel
  ·rw [List.getElem?_eq_none (by omega)]
   have : ((cargs ++ Array.replicate (fn.ntmps - cargs.size) undef)[t]?).getD undef = undef := by
    rw [Array.getElem?_append_right (by omega)]
    by_cases hq : t - cargs.size < fn.ntmps - cargs.size
    ·simp [hq]
    ·rw [Array.getElem?_eq_none (by simp; omega)]; rfl
   rw [this]
   exact vundef γ
 refine Go.wpIn_mono (h B γ _ w ⟨rfl, hfr⟩ hr hi) ?_
 rintro e a' w' ⟨γ', f', s', h1, h2, h3, h4⟩
 cases e with
 | normal =>
  obtain ⟨v, hv, hR⟩ := h4
  obtain ⟨cv, hrun, hrel⟩ := ares_run hT h1.2 h3 hv
  exact ⟨h1.1, cv, hrun, γ', v, cv, s', rfl, hrel, h2, h3, hR⟩
 | ret =>
  obtain ⟨v, hv, hR⟩ := h4
  obtain ⟨cv, hrun, hrel⟩ := ares_run hT h1.2 h3 hv
  exact ⟨h1.1, cv, hrun, γ', v, cv, s', rfl, hrel, h2, h3, hR⟩
 | exit id => exact h4.elim
 | goto l => exact h4.elim
 | panic ch => exact h4.elim
 | outgrown => exact h4.elim
end Go.Am
end

section
namespace Go.Am
section
variable {Iv : Gam → World → Prop} {P : Program} {T : TT} {n : Nat} {ops rest : Array Oper} {o : Oper} {os : List Oper} {f : Fr} {s : AS} {K : Fr → AS → Prop}
theorem awanted_gn (hg : o.guard = none) : awanted ops f o = some true := by simp [awanted, hg]
theorem vcOpsX.aop {v : AV} {s' : AS} (hg : o.guard = none) (hy : ayield f o.op = none) (hnd : isDefer o.op = false) (hc : acallee f o.op = none) (hd : dstOk n o.dst = true) (h : aop T o.op (aev f) s = some (v, s')) (k : vcOpsX Iv P T n ops os (updO f o.dst v) s' K) : vcOpsX Iv P T n ops (o :: os) f s K := by
 simp only [vcOpsX, awanted_gn hg, hy]
 refine ⟨hnd, .inl ⟨hd, .inl ?_⟩⟩
 rw [hc]
 exact ⟨v, s', h, k⟩
theorem vcOpsX.next {it : Operand} (hg : o.guard = none) (hop : o.op = .next it false) (hd : dstOk n o.dst = true) (h : NextM (acandM (aev f it) s) s fun v s' => vcOpsX Iv P T n ops os (updO f o.dst v) s' K) : vcOpsX Iv P T n ops (o :: os) f s K := by
 have hy : ayield f o.op = none := by rw [hop]; rfl
 simp only [vcOpsX, awanted_gn hg, hy]
 obtain ⟨l, h1, h2⟩ := NextM_get h
 exact ⟨by rw [hop]; rfl, .inl ⟨hd, .inr ⟨l, by rw [hop]; exact h1, h2⟩⟩⟩
theorem vcOpsX.yield {l : Nat} {args : List AV} (hg : o.guard = none) (hy : ayield f o.op = some (l, args)) (hd : dstOk n o.dst = true) (h : YOk Iv P l args s fun v s' => vcOpsX Iv P T n ops os (updO f o.dst v) s' K) : vcOpsX Iv P T n ops (o :: os) f s K := by
 simp only [vcOpsX, awanted_gn hg, hy]
 exact ⟨hd, h⟩
theorem YOk.mono {l : Nat} {args : List AV} {R R' : AV → AS → Prop} (h : YOk Iv P l args s R) (hr : ∀ v s', R v s' → R' v s') : YOk Iv P l args s R' := by
 intro B γ cargs w h1 h2 h3
 obtain ⟨fn, tmps, assign, body, hy, hR⟩ := h B γ cargs w h1 h2 h3
 refine ⟨fn, tmps, assign, body, hy, hR.mono ?_⟩
 rintro e w' ⟨γ', v, cv, s', a, b, c, d, e⟩
 exact ⟨γ', v, cv, s', a, b, c, d, hr _ _ e⟩
theorem ICalls.pre {g : FuncId} {args : List AV} {R : AV → AS → Prop} (h : WFs s → ICalls Iv P g args s R) : ICalls Iv P g args s R :=
 fun B γ cargs w h1 h2 h3 => h h2.wfs B γ cargs w h1 h2 h3
end
section
variable {Iv : Gam → World → Prop} {P : Program} {T : TT} {n : Nat} {ops : Array Oper} {os : List Oper} {f : Fr} {s : AS} {K : Fr → AS → Prop}
end
end Go.Am
end

section
namespace Go.Am
open Go.RowKit
structure STy (T : TT) (t : TypeId) : Prop where
 agg : T.agg t = some false
 siz : T.siz t = some 1
theorem FX.init {γ : Gam} {args : List AV} {cargs : Array Value} (hargs : VRels γ args cargs.toList) {k n : Nat} (hn : args.length + (k - args.length) = n) : FX γ n (ainit args) [] { tmps := cargs ++ Array.replicate (k - cargs.size) undef, defers := [] } := by
 subst hn
 have hlen := hargs.length
 simp only [Array.length_toList] at hlen
 refine ⟨rfl, by simp [hlen], rfl, fun t => ?_⟩
 simp only [ainit, Array.getD_eq_getD_getElem?, List.getD_eq_getElem?_getD]
 by_cases ht : t < args.length
 ·obtain ⟨cv, hcv, hrel⟩ := hargs.get (List.getElem?_eq_getElem ht)
  rw [Array.getElem?_append_left (by omega)]
  rw [Array.getElem?_toList] at hcv
  rw [hcv, List.getElem?_eq_getElem ht]
  exact hrel
 ·rw [List.getElem?_eq_none (by omega)]
  have : ((cargs ++ Array.replicate (k - cargs.size) undef)[t]?).getD undef = undef := by
   rw [Array.getElem?_append_right (by omega)]
   by_cases hq : t - cargs.size < k - cargs.size
   ·simp [hq]
   ·rw [Array.getElem?_eq_none (by simp; omega)]; rfl
  rw [this]
  exact vundef γ
end Go.Am
end

section
namespace Go.Am
open Go.RowKit
def keysCode1 (tm tk tf tb : TypeId) : Code :=
 (Go.Code.seq (Go.Code.region 0 #[{ dst := some 4, op := Go.Op.load tm (Go.Operand.tmp 1), type := tm, pos := "iter.go:27", after := #[], guard := none }, { dst := some 5, op := Go.Op.range tm (Go.Operand.tmp 4), type := 0, pos := "iter.go:27", after := #[{ on := 0, ground := Go.Ground.data }], guard := none }] false) (Go.Code.block 0 (Go.Code.loop (Go.Code.seq (Go.Code.region 1 #[{ dst := some 6, op := Go.Op.next (Go.Operand.tmp 5) false, type := 0, pos := "iter.go:27", after := #[], guard := none }, { dst := some 7, op := Go.Op.extract (Go.Operand.tmp 6) 0, type := tb, pos := "iter.go:27", after := #[{ on := 0, ground := Go.Ground.data }], guard := none }] false) (Go.Code.seq (Go.Code.cond (Go.Operand.tmp 7) Go.Code.skip (Go.Code.exit 0)) (Go.Code.block 1 (Go.Code.seq (Go.Code.region 2 #[{ dst := some 8, op := Go.Op.entry (Go.Operand.tmp 5), type := 0, pos := "iter.go:27", after := #[], guard := none }, { dst := some 9, op := Go.Op.extract (Go.Operand.tmp 8) 0, type := tk, pos := "iter.go:27", after := #[{ on := 0, ground := Go.Ground.data }], guard := none }, { dst := some 3, op := Go.Op.assign (Go.Operand.tmp 9), type := tk, pos := "iter.go:27", after := #[{ on := 1, ground := Go.Ground.data }, { on := 0, ground := Go.Ground.phase }, { on := 1, ground := Go.Ground.phase }], guard := none }] false) (Go.Code.seq (Go.Code.region 3 #[{ dst := some 10, op := Go.Op.move (Go.Operand.tmp 0), type := tf, pos := "iter.go:28", after := #[], guard := none }, { dst := some 11, op := Go.Op.move (Go.Operand.tmp 3), type := tk, pos := "iter.go:28", after := #[], guard := none }, { dst := some 12, op := Go.Op.call { callee := Go.Callee.value (Go.Operand.tmp 10), args := #[Go.Operand.tmp 11], argTypes := #[tk] }, type := tb, pos := "iter.go:28", after := #[{ on := 0, ground := Go.Ground.data }, { on := 1, ground := Go.Ground.data }], guard := none }, { dst := some 13, op := Go.Op.unOp Go.UnOp.not tb (Go.Operand.tmp 12), type := tb, pos := "iter.go:28", after := #[{ on := 2, ground := Go.Ground.data }], guard := none }] false) (Go.Code.cond (Go.Operand.tmp 13) Go.Code.ret Go.Code.skip)))))))))
theorem keys1_calls {Iv : Gam → World → Prop} (hI : Kept Iv) {P : Program} {T : TT} (hT : TT.Ok P T) {g : FuncId} {fn : Func} {tm tk tf tb : TypeId} (hf : P.funcs[g]? = some fn) (hb : fn.body = some (keysCode1 tm tk tf tb)) (hn : fn.ntmps = 14) (hrs : fn.results = #[])
  {kt et : TypeId} (hagg : T.agg tm = some false) (hu : T.und tm = some (.map kt et))
  {K V : Type} [DecidableEq K] {kc : K → AV} {vf : V → AV} {s : AS} {l lb m : Nat} {es : List (K × V × Nat)} {c : Nat} {ro : Bool} (hbx : At s lb [.map (some m)]) (hm : MpAt kc vf s m es c ro)
  {J : Nat → List (K × V × Nat) → AS → Prop}
  (h0 : ∀ it s', Iter s' it m es c ([] : List (K × V × Nat)) → Fresh s s' it (.mapIt (some m) c [] c false) → J it [] s')
  (hJ : ∀ it done s', J it done s' → WFs s' ∧ MpAt kc vf s' m es c ro ∧ Iter s' it m es c done)
  (hnx : ∀ it done s1 s2 s3 e, J it done s1 → e ∈ es → e ∉ done → Iter s2 it m es c (done ++ [e]) → Mut [it] s1 s2 → Ext s2 s3 → WFs s3 → YOk Iv P l [kc e.1] s3 fun v s4 => v = .bool true ∧ J it (done ++ [e]) s4) :
  ICalls Iv P g [.yld l, .ptr (some (lb, 0))] s fun _ s' => ∃ it done, (∀ e ∈ es, e ∈ done) ∧ J it done s' := by
 refine ICalls.pre fun hw => ICalls.body (n := 14) (rs := []) hT hf hb (by simp [hn]) (by rw [hrs]) ?_
 unfold keysCode1
 refine AWpX.seq hI (AWpX.region hI hT ?_)
 refine vcOpsX.aop (v := .map (some m)) (s' := s) rfl rfl rfl rfl rfl ?_ ?_
 ·show (ald T tm s (.ptr (some (lb, 0)))).map (·, s) = _
  rw [ald_scalar hagg, hbx.rd1]; rfl
 have F := hw.new (o := .mapIt (some m) c [] c false) rfl
 refine vcOpsX.aop (v := .ptr (some (s.nl, 0))) (s' := s.new (.mapIt (some m) c [] c false)) rfl rfl rfl rfl rfl ?_ ?_
 ·have e : aev (updO (ainit [.yld l, .ptr (some (lb, 0))]) (some 4) (.map (some m))) (.tmp 4) = .map (some m) := rfl
  simp only [Am.aop, e, hu, hm.obj]
 show AWpX _ _ _ _ _ _ _ _ _
 have j0 := h0 s.nl _ ⟨F.at, by simp, List.nodup_nil⟩ F
 generalize s.new (.mapIt (some m) c [] c false) = s0 at j0
 generalize s.nl = it at j0
 refine AWpX.block (AWpX.loop hI (fun mm f s' => f 0 = .yld l ∧ f 5 = .ptr (some (it, 0)) ∧ ∃ done, mm = es.length - done.length ∧ J it done s') es.length ⟨rfl, rfl, [], rfl, j0⟩ ?_)
 rintro mm f s1 ⟨f0, f5, done, rfl, j⟩
 obtain ⟨w1, M1, I1⟩ := hJ it done s1 j
 refine AWpX.seq hI (AWpX.region hI hT (vcOpsX.next rfl rfl rfl ?_))
 show NextM (acandM (f 5) s1) s1 _
 rw [f5]
 refine Iter.next w1 M1 I1 (fun hall => ?_) (fun e s2 he hne I2 w2 m2 => ?_)
 ·refine vcOpsX.aop (v := .bool false) (s' := s1) rfl rfl rfl rfl rfl rfl ?_
  show AWpX _ _ _ _ _ _ _ _ _
  refine AWpX.seq hI (AWpX.cond (t := false) rfl (AWpX.exit ?_))
  simp only [XThen, XBlock, if_true]
  exact ⟨.tup [], rfl, it, done, hall, j⟩
 have hlt := I1.lt he hne
 have M2 := M1.mut m2 (by
  simp only [List.mem_singleton]
  rintro rfl
  have := I1.at
  rw [M1.obj] at this; cases this)
 refine vcOpsX.aop (v := .bool true) (s' := s2) rfl rfl rfl rfl rfl rfl ?_
 show AWpX _ _ _ _ _ _ _ _ _
 refine AWpX.seq hI (AWpX.cond (t := true) rfl (AWpX.skip ?_))
 show AWpX _ _ _ _ _ _ _ _ _
 refine AWpX.block (AWpX.seq hI (AWpX.region hI hT ?_))
 obtain ⟨k', v', hent, hkv⟩ := Iter.entry (Q := fun a b => a = kc e.1) M2 I2 rfl
 subst hkv
 refine vcOpsX.aop (v := .tup [kc e.1, v']) (s' := s2) rfl rfl rfl rfl rfl ?_ ?_
 ·show (aentry (f 5) s2).map (·, s2) = _
  rw [f5, hent]; rfl
 refine vcOpsX.aop (v := kc e.1) (s' := s2) rfl rfl rfl rfl rfl rfl ?_
 refine vcOpsX.aop (v := kc e.1) (s' := s2) rfl rfl rfl rfl rfl rfl ?_
 show AWpX _ _ _ _ _ _ _ _ _
 refine AWpX.seq hI (AWpX.region hI hT ?_)
 refine vcOpsX.aop (v := .yld l) (s' := s2) rfl rfl rfl rfl rfl ?_ ?_
 ·show some (f 0, s2) = _
  rw [f0]
 refine vcOpsX.aop (v := kc e.1) (s' := s2) rfl rfl rfl rfl rfl rfl ?_
 refine vcOpsX.yield (l := l) (args := [kc e.1]) rfl rfl rfl ((hnx it done s1 s2 s2 e j he hne I2 m2 (Ext.refl _) w2).mono ?_)
 rintro v s4 ⟨rfl, j4⟩
 refine vcOpsX.aop (v := .bool false) (s' := s4) rfl rfl rfl rfl rfl rfl ?_
 show AWpX _ _ _ _ _ _ _ _ _
 refine AWpX.cond (t := false) rfl (AWpX.skip ?_)
 exact ⟨es.length - (done.length + 1), by omega, f0, f5, done ++ [e], by simp, j4⟩
def apAssign1 (te : TypeId) : Code := (Go.Code.region 2 #[{ dst := some 5, op := Go.Op.assign (Go.Operand.tmp 7), type := te, pos := "iter.go:51", after := #[], guard := none }] false)
def apBody1 (ts te : TypeId) : Code := (Go.Code.block 1 (Go.Code.region 3 #[{ dst := some 8, op := Go.Op.load ts (Go.Operand.tmp 2), type := ts, pos := "iter.go:52", after := #[], guard := none }, { dst := some 9, op := Go.Op.move (Go.Operand.tmp 5), type := te, pos := "iter.go:52", after := #[], guard := none }, { dst := some 10, op := Go.Op.buildSlice ts 1 #[(0, Go.Operand.tmp 9)], type := ts, pos := "iter.go:52", after := #[{ on := 1, ground := Go.Ground.data }], guard := none }, { dst := some 11, op := Go.Op.call { callee := Go.Callee.builtin Go.Builtin.append, args := #[Go.Operand.tmp 8, Go.Operand.tmp 10], argTypes := #[ts, ts] }, type := ts, pos := "iter.go:52", after := #[{ on := 0, ground := Go.Ground.data }, { on := 2, ground := Go.Ground.data }], guard := none }, { dst := none, op := Go.Op.store ts (Go.Operand.tmp 2) (Go.Operand.tmp 11), type := 0, pos := "iter.go:52", after := #[{ on := 3, ground := Go.Ground.data }, { on := 3, ground := Go.Ground.chain }, { on := 0, ground := Go.Ground.phase }, { on := 1, ground := Go.Ground.phase }, { on := 2, ground := Go.Ground.phase }, { on := 3, ground := Go.Ground.phase }], guard := none }] false))
def apSeqCode1 (ts te tq : TypeId) : Code :=
 (Go.Code.seq (Go.Code.region 0 #[{ dst := some 2, op := Go.Op.box ts (Go.Operand.tmp 0), type := 0, pos := "iter.go:50", after := #[], guard := none }, { dst := some 4, op := Go.Op.assign (Go.Operand.const (Go.Value.slice none 0 0)), type := ts, pos := "iter.go:50", after := #[], guard := none }] false) (Go.Code.seq (Go.Code.seq (Go.Code.region 1 #[{ dst := some 6, op := Go.Op.move (Go.Operand.tmp 1), type := tq, pos := "iter.go:51", after := #[], guard := none }] false) (Go.Code.block 0 (Go.Code.rangeFunc (Go.Operand.tmp 6) #[7] (apAssign1 te) (apBody1 ts te)))) (Go.Code.seq (Go.Code.region 4 #[{ dst := some 12, op := Go.Op.load ts (Go.Operand.tmp 2), type := ts, pos := "iter.go:54", after := #[], guard := none }, { dst := some 4, op := Go.Op.assign (Go.Operand.tmp 12), type := ts, pos := "iter.go:54", after := #[{ on := 0, ground := Go.Ground.data }, { on := 0, ground := Go.Ground.phase }], guard := none }] false) Go.Code.ret)))
def ItRun1 {K V : Type} (P : Program) (kf : K → AV) (vf : V → AV) (m : Nat) (es : List (K × V × Nat)) (c : Nat) (ro : Bool) (el : K × V × Nat → AV) (gf : FuncId) (cap : List AV) (s : AS) : Prop :=
 ∀ (Iv : Gam → World → Prop) (hI : Kept Iv) (l : Nat) (J : Nat → List (K × V × Nat) → AS → Prop),
  (∀ it s', Iter s' it m es c ([] : List (K × V × Nat)) → Fresh s s' it (.mapIt (some m) c [] c false) → J it [] s') →
  (∀ it done s', J it done s' → WFs s' ∧ MpAt kf vf s' m es c ro ∧ Iter s' it m es c done) →
  (∀ it done s1 s2 s3 e, J it done s1 → e ∈ es → e ∉ done → Iter s2 it m es c (done ++ [e]) → Mut [it] s1 s2 → Ext s2 s3 → WFs s3 → YOk Iv P l [el e] s3 fun v s4 => v = .bool true ∧ J it (done ++ [e]) s4) →
  ICalls Iv P gf (.yld l :: cap) s fun _ s' => ∃ it done, (∀ e ∈ es, e ∈ done) ∧ J it done s'
theorem appendSeq1_calls {P : Program} {T : TT} (hT : TT.Ok P T) {g : FuncId} {fn : Func} {ts te tq by_ : TypeId} (hf : P.funcs[g]? = some fn) (hc : callable P g = true) (hb : fn.body = some (apSeqCode1 ts te tq)) (hn : fn.ntmps = 13) (hrs : fn.results = #[.tmp 4])
  (hts : STy T ts) (hsl : SlTy T ts te 1 by_) {K V : Type} {kf : K → AV} {vf : V → AV} {m : Nat} {es : List (K × V × Nat)} {c : Nat} {ro : Bool} {el : K × V × Nat → AV} (hone1 : ∀ e, (el e).one = true)
  {gf : FuncId} {cap : List AV} (hgf : callable P gf = true) (hes : es.length ≤ 2 ^ 30) {s : AS} (hm : MpAt kf vf s m es c ro) (hrun : ∀ s1, Ext s s1 → WFs s1 → ItRun1 P kf vf m es c ro el gf cap s1) {a : Option (Nat × Nat)} :
  ACalls P g [.slc a 0 0 true, .func gf cap] s fun v s' => ∃ done : List (K × V × Nat), (∀ e ∈ es, e ∈ done) ∧ (∀ e ∈ done, e ∈ es) ∧ done.Nodup ∧ GroN (fun e => [el e]) 1 [] s s' v done := by
 intro B γ cargs w hargs hr
 refine .inl ⟨run_callFunc hc _ w, callsIn_wide (n := 0) |>.1 (callsIn_of_wp_marks hf hb trivial ?_)⟩
 have hw := hr.wfs
 have hel : ∀ e, ((fun e => [el e]) e).length = 1 := fun e => rfl
 have hone : ∀ e, ((fun e => [el e]) e).all AV.one = true := fun e => by simp [hone1]
 have fx0 : FX γ 13 (ainit [.slc a 0 0 true, .func gf cap]) [] { tmps := cargs ++ Array.replicate (fn.ntmps - cargs.size) undef, defers := [] } := FX.init hargs (by simp [hn])
 have KT := Kept.true
 unfold apSeqCode1
 have h1 : AWpX (fun _ _ => True) none [] P 13 _ (ainit [.slc a 0 0 true, .func gf cap]) s fun e f' s' => e = .normal ∧ ∃ bx, f' 1 = .func gf cap ∧ f' 2 = .ptr (some (bx, 0)) ∧ Fresh s s' bx (.cells [.slc a 0 0 true] 0 false) :=
  AWpX.region (id := 0) KT hT (ops := #[{ dst := some 2, op := Go.Op.box ts (Go.Operand.tmp 0), type := 0, pos := "iter.go:50", after := #[], guard := none }, { dst := some 4, op := Go.Op.assign (Go.Operand.const (Go.Value.slice none 0 0)), type := ts, pos := "iter.go:50", after := #[], guard := none }])
   (vcOpsX.aop (v := .ptr (some (s.nl, 0))) (s' := s.new (.cells [.slc a 0 0 true] 0 false)) rfl rfl rfl rfl rfl rfl (vcOpsX.aop (v := .slc none 0 0 true) (s' := s.new (.cells [.slc a 0 0 true] 0 false)) rfl rfl rfl rfl rfl rfl ⟨rfl, s.nl, rfl, rfl, hw.new rfl⟩))
 refine wpIn_seq (Go.wpIn_mono (h1 B γ _ w fx0 hr trivial) ?_)
 rintro e a1 w1 ⟨γ1, f1, s1, fx1, d1, r1, rfl, bx, f11, f12, F1⟩
 have w1' := r1.wfs
 have h2 : AWpX (fun _ _ => True) none [] P 13 _ f1 s1 fun e f' s' => e = .normal ∧ s' = s1 ∧ f' 6 = .func gf cap ∧ f' 2 = .ptr (some (bx, 0)) :=
  AWpX.region (id := 1) KT hT (ops := #[{ dst := some 6, op := Go.Op.move (Go.Operand.tmp 1), type := tq, pos := "iter.go:51", after := #[], guard := none }])
   (vcOpsX.aop (v := .func gf cap) (s' := s1) rfl rfl rfl rfl rfl (by show some (f1 1, s1) = _; rw [f11]) ⟨rfl, rfl, rfl, f12⟩)
 refine wpIn_seq (wpIn_seq (Go.wpIn_mono (h2 B γ1 a1 w1 fx1 r1 trivial) ?_))
 rintro e a2 w2 ⟨γ2, f2, s2, fx2, d2, r2, rfl, rfl, f26, f22⟩
 have hbx0 : s.h bx = none := F1.no
 have Es2 : Ext s s2 := F1.ext
 have hm2 := hm.ext Es2
 let J : Nat → List (K × V × Nat) → AS → Prop := fun it done s' => WFs s' ∧ MpAt kf vf s' m es c ro ∧ Iter s' it m es c done ∧ s2.h it = none ∧ it ≠ bx ∧ ∃ sI v, Ext s2 sI ∧ sI.h it ≠ none ∧ sI.h bx ≠ none ∧ Own s' bx [v] ∧ GroN (fun e => [el e]) 1 [bx, it] sI s' v done
 have hloop := wpIn_rangeFunc_am (n := 13) (p := 7) (assign := apAssign1 te) (body := apBody1 ts te) (K := fun s' => ∃ it done, (∀ e ∈ es, e ∈ done) ∧ J it done s') (g := .tmp 6) (f := f2) (ds := []) f26 hgf (fun l D r hst hpe hps has hbo => ?_) fx2 r2
 rotate_left
 ·refine hrun s2 Es2 w1' (RecI l D r 13 f2) RecI.kept l J (fun it s' I F => ?_) (fun it done s' j => ⟨j.1, j.2.1, j.2.2.1⟩) (fun it done q1 q2 q3 e j he hne I2 m2 e3 w3 => ?_)
  ·have hbi : it ≠ bx := by rintro rfl; have := F.no; rw [F1.at] at this; cases this
   exact ⟨F.wf, hm2.ext F.ext, I, F.no, hbi, s', _, F.ext, by rw [F.at]; simp, by rw [F.ext.1 _ _ F1.at]; simp, F1.own.ext F.ext, GroN.nil⟩
  ·obtain ⟨jw, jm, jI, jn, jb, sI, v, eI, hIt, hIb, jo, jg⟩ := j
   have hlt := jI.lt he hne
   have hmi : m ≠ it := by
    rintro rfl
    have := jI.at
    rw [jm.obj] at this; cases this
   have hmb : m ≠ bx := by
    rintro rfl
    have := jo.at
    obtain ⟨g1, g2, h1⟩ := this
    rw [jm.obj] at h1; cases h1
   have M3 := (jm.mut m2 (by simpa using hmi)).ext e3
   have I3 := I2.ext e3
   have o3 := (jo.mut m2 (by simpa using jb.symm)).ext e3
   have hM : ∀ x ∈ [bx, it], sI.h x ≠ none := by
    intro x hx
    simp only [List.mem_cons, List.not_mem_nil, or_false] at hx
    rcases hx with rfl | rfl
    ·exact hIb
    ·exact hIt
   have g3 : GroN (fun e => [el e]) 1 [bx, it] sI q3 v done := (jg.wr hM (m2.mono (by simp))).step e3
   refine YOk.round (p := 7) hst hpe hps (by decide) ?_
   rw [has, hbo]
   refine AWpX.region KT hT (vcOpsX.aop (v := el e) (s' := q3) rfl rfl rfl rfl rfl rfl ⟨rfl, ?_⟩)
   refine AWpX.block (AWpX.region KT hT ?_)
   have F4 : Ext q3 q3 := Ext.refl _
   have o4 := o3
   have g4 := g3
   refine vcOpsX.aop (v := v) (s' := q3) rfl rfl rfl rfl rfl ?_ ?_
   ·show (ald T ts q3 (upd (upd f2 7 (el e)) 5 (el e) 2)).map (·, q3) = _
    rw [show upd (upd f2 7 (el e)) 5 (el e) 2 = .ptr (some (bx, 0)) from f22, ald_scalar hts.agg, o4.at.rd1]; rfl
   refine vcOpsX.aop (v := el e) (s' := q3) rfl rfl rfl rfl rfl rfl ?_
   have hM4 : ∀ x ∈ [bx, it], q3.h x ≠ none := by
    intro x hx
    simp only [List.mem_cons, List.not_mem_nil, or_false] at hx
    rcases hx with rfl | rfl
    ·rw [o4]; simp
    ·rw [I3.at]; simp
   obtain ⟨gc, hgc, v', q5, happ, G5, w5, m5⟩ := GroN.append1s hsl rfl hone1 w3 g4 hM4 e (by omega) (K := fun v' s' => GroN (fun e => [el e]) 1 [bx, it] sI s' v' (done ++ [e]) ∧ WFs s' ∧ Mut (labOf v) q3 s') (fun v' s' a b c => ⟨a, b, c⟩)
   refine vcOpsX.aop (v := .slc (some (q3.nl, 0)) 1 1 true) (s' := q3.new (.cells gc 0 false)) rfl rfl rfl rfl rfl ?_ ?_
   ·show abuildSlice T ts 1 [(0, el e)] q3 = _
    exact absl_eq hgc
   refine vcOpsX.aop (v := v') (s' := q5) rfl rfl rfl rfl rfl happ ?_
   have hlab : ∀ x, q3.h x ≠ none → sI.h x ≠ none → x ∉ labOf v := fun x _ h2 hx => h2 (g4.new x hx)
   have o5 := o4.mut m5 (fun hx => hIb (g4.new _ hx))
   have hv1 : v'.one = true := G5.isSlc.2
   have P5 : Put q5 (q5.put bx (.cells [v'] 0 false)) bx (.cells [v'] 0 false) := w5.put o5 rfl
   refine vcOpsX.aop (v := .undef) (s' := q5.put bx (.cells [v'] 0 false)) rfl rfl rfl rfl rfl ?_ ?_
   ·show (ast T ts q5 (upd (upd f2 7 (el e)) 5 (el e) 2) v').map (fun x => (AV.undef, x)) = _
    rw [show upd (upd f2 7 (el e)) 5 (el e) 2 = .ptr (some (bx, 0)) from f22]
    have hac : acells v' = some [v'] := by cases v' <;> first | rfl | cases hv1
    simp only [ast, hac, Option.bind_some, hts.siz, List.length_singleton, if_true, awr, show q5.h bx = some (.cells [v] 0 false) from o5]
    rfl
   have hIm : sI.h m ≠ none := by rw [(hm2.ext eI).obj]; simp
   have hmv : m ∉ labOf v := fun hx => hIm (g4.new _ hx)
   have hiv : it ∉ labOf v := fun hx => hIt (g4.new _ hx)
   refine ⟨rfl, rfl, P5.wf, (M3.mut m5 hmv).mut P5.mut (by simpa using hmb), (I3.mut m5 hiv).mut P5.mut (by simpa using jb), jn, jb, sI, v', eI, hIt, hIb, P5.at, G5.wr hM (P5.mut.mono (by simp))⟩
 refine wpIn_block (Go.wpIn_mono hloop ?_)
 rintro e a3 w3 ⟨D, γ3, s3, rfl, hD, hK3, fx3, d3, r3, it, done, hall, jw, jm, jI, jn, jb, sI, v, eI, hIt, hIb, jo, jg⟩
 have h4 : AWpX (fun _ _ => True) none [{ target := .collected D, args := #[] }] P 13 _ f2 s3 fun e f' s' => e = .normal ∧ s' = s3 ∧ f' 4 = v :=
  AWpX.region (id := 4) KT hT (ops := #[{ dst := some 12, op := Go.Op.load ts (Go.Operand.tmp 2), type := ts, pos := "iter.go:54", after := #[], guard := none }, { dst := some 4, op := Go.Op.assign (Go.Operand.tmp 12), type := ts, pos := "iter.go:54", after := #[{ on := 0, ground := Go.Ground.data }, { on := 0, ground := Go.Ground.phase }], guard := none }])
   (vcOpsX.aop (v := v) (s' := s3) rfl rfl rfl rfl rfl (by show (ald T ts s3 (f2 2)).map (·, s3) = _; rw [f22, ald_scalar hts.agg, jo.at.rd1]; rfl) (vcOpsX.aop (v := v) (s' := s3) rfl rfl rfl rfl rfl rfl ⟨rfl, rfl, rfl⟩))
 refine wpIn_seq (Go.wpIn_mono (h4 B γ3 a3 w3 fx3 r3 trivial) ?_)
 rintro e a4 w4 ⟨γ4, f4, s4, fx4, d4, r4, rfl, rfl, f44⟩
 refine wpIn_ret ?_
 show LeavesInM _ _ _ _ a4.tmps _ a4.defers .returning w4
 rw [fx4.1]
 have hK4 := d4.keeps r3 hK3 rfl
 have hlt4 := (Array.getElem?_eq_some_iff.1 hK4).1
 refine ⟨by simp, .inl ⟨D, _, rfl, run_takeDeferred hK4, ?_⟩⟩
 have r5 : Rel B γ4 s4 (w4.putObj D (.deferred none)) := r4.side (by simp) fun b ob hob hs => by
  rw [World.putObj_heap_other]; exact hob
  rintro rfl; rw [hK4] at hob; cases hob; cases hs
 obtain ⟨cv, hrun, hv⟩ := ares_run hT fx4.2 r5 (fn := fn) (v := v) (by rw [hrs]; simp [ares, ares.resL, f44])
 have hsz := d1.siz
 have hsz2 := d2.siz
 refine ⟨cv, hrun, γ4, v, cv, s4, rfl, hv, (d1.trans (d2.trans (d3.trans d4))).swap (Nat.le_refl _) (by simp) (fun b hb hnb => ?_) ?_, r5, done, hall, jI.sub, jI.nd, jg.gro, ?_, fun la hla => ?_⟩
 ·rw [World.putObj_heap_other (by omega)]
  exact (d1.trans (d2.trans (d3.trans d4))).frm b hb hnb
 ·exact (d1.trans (d2.trans (d3.trans d4))).env
 ·refine ⟨fun x o _ hx => jg.chg.1 x o ?_ (eI.1 _ _ (Es2.1 _ _ hx)), Nat.le_trans (Nat.le_trans Es2.2 eI.2) jg.chg.2⟩
  simp only [List.mem_cons, List.not_mem_nil, or_false]
  rintro (rfl | rfl)
  ·rw [hbx0] at hx; cases hx
  ·have := Es2.none jn; rw [this] at hx; cases hx
 ·exact Es2.none (eI.none (jg.new la hla))
theorem keys1_run {P : Program} {T : TT} (hT : TT.Ok P T) {g : FuncId} {fn : Func} {tm tk tf tb : TypeId} (hf : P.funcs[g]? = some fn) (hb : fn.body = some (keysCode1 tm tk tf tb)) (hn : fn.ntmps = 14) (hrs : fn.results = #[])
  {kt et : TypeId} (hagg : T.agg tm = some false) (hu : T.und tm = some (.map kt et))
  {K V : Type} [DecidableEq K] {kc : K → AV} {vf : V → AV} {s : AS} {lb m : Nat} {es : List (K × V × Nat)} {c : Nat} {ro : Bool} (hbx : At s lb [.map (some m)]) (hm : MpAt kc vf s m es c ro) :
  ItRun1 P kc vf m es c ro (fun e => kc e.1) g [.ptr (some (lb, 0))] s :=
 fun Iv hI l J h0 hJ hnx => keys1_calls hI hT hf hb hn hrs hagg hu hbx hm h0 hJ hnx
theorem GroN.as {α β : Type} {f : α → List AV} {g : β → List AV} {h : α → β} (hg : ∀ x, g (h x) = f x) {sz : Nat} {M : List Nat} {s0 s : AS} {v : AV} {l : List α} (G : GroN f sz M s0 s v l) : GroN g sz M s0 s v (l.map h) := by
 refine ⟨?_, G.chg, G.new⟩
 have e : (l.map h).flatMap g = l.flatMap f := by
  rw [List.flatMap_map]; congr 1; funext x; exact hg x
 rcases G.gro with ⟨rfl, a, rfl⟩ | ⟨la, rfl, ho⟩
 ·exact .inl ⟨rfl, a, rfl⟩
 ·exact .inr ⟨la, by rw [List.length_map], by rw [e]; exact ho⟩
theorem keys_nodup {K V : Type} {es done : List (K × V × Nat)} (hp : es.Pairwise fun a b => a.1 ≠ b.1) (h2 : ∀ e ∈ done, e ∈ es) (h3 : done.Nodup) : (done.map fun e => e.1).Nodup := by
 refine List.pairwise_map.2 (List.Pairwise.imp_of_mem ?_ h3)
 intro a b ha hb hab he
 have ha' := h2 a ha
 have hb' := h2 b hb
 refine hab ?_
 have key : ∀ (l : List (K × V × Nat)), l.Pairwise (fun a b => a.1 ≠ b.1) → a ∈ l → b ∈ l → a = b := by
  intro l
  induction l with
  | nil => intro _ h; cases h
  | cons x l ih =>
   intro hp h4 h5
   obtain ⟨p1, p2⟩ := List.pairwise_cons.1 hp
   rcases List.mem_cons.1 h4 with r4 | h4 <;> rcases List.mem_cons.1 h5 with r5 | h5
   ·rw [r4, r5]
   ·exact absurd (by rw [← r4]; exact he) (p1 b h5)
   ·exact absurd (by rw [← r5]; exact he.symm) (p1 a h4)
   ·exact ih p2 h4 h5
 exact key es hp ha' hb'
end Go.Am
end

section
namespace Go.Am
open Go.ChangeShapes Go.WideShapes Go.Deep
/-! ### a table from a list -/
def Tr.ofL {α : Type} (F : Nat → α) : List Nat → Tr α
 | [] => .E
 | x :: xs => (Tr.ofL F xs).set x (F x)
theorem Tr.get_ofL {α : Type} (F : Nat → α) : ∀ (l : List Nat) (x : Nat), (Tr.ofL F l).get x = if x ∈ l then some (F x) else none
 | [], x => by simp [Tr.ofL, Tr.get]
 | y :: ys, x => by
  simp only [Tr.ofL, Tr.get_set, Tr.get_ofL F ys x, List.mem_cons]
  by_cases h : x = y
  ·subst h; simp
  ·simp [h]
def blockSize : Obj → Nat
 | .cells c _ _ => c.size
 | _ => 0
def maxL : List Nat → Nat
 | [] => 0
 | x :: xs => max x (maxL xs)
def MW (w : World) : Nat := maxL (w.heap.toList.map blockSize) + 1
mutual
def absV (n M : Nat) : Value → AV
 | .bool b => .bool b
 | .int k x => .int k x
 | .string s => .str s.data.toList
 | .pointer none => .ptr none
 | .pointer (some ⟨b, o, none⟩) => if b < n ∧ o < M then .ptr (some (b * M + o, 0)) else .bad
 | .slice none x y => .slc none x y true
 | .slice (some ⟨b, o, none⟩) x y => if b < n ∧ 0 < M then (if o < M then .slc (some (b * M + o, 0)) x y true else .slc (some (b * M, o)) x y true) else if x = 0 then .emp else .bad
 | .slice (some ⟨_, _, some _⟩) x _ => if x = 0 then .emp else .bad
 | .map none => .map none
 | .agg ⟨l⟩ => .agg (absVs n M l)
 | .nilFunc => .nilFunc
 | .nilIface => .nilIface
 | _ => .bad
def absVs (n M : Nat) : List Value → List AV
 | [] => []
 | v :: vs => absV n M v :: absVs n M vs
end
theorem absVs_map (n M : Nat) : ∀ l, absVs n M l = l.map (absV n M)
 | [] => rfl
 | v :: vs => by simp [absVs, absVs_map n M vs]
def gW (n M : Nat) : Gam := fun x => if x < n * M then some ⟨x / M, x % M, 0⟩ else none
theorem lab_div {b o M : Nat} (h : o < M) : (b * M + o) / M = b ∧ (b * M + o) % M = o := by
 rw [Nat.mul_comm]
 constructor
 ·rw [Nat.mul_add_div (by omega), Nat.div_eq_of_lt h, Nat.add_zero]
 ·rw [Nat.mul_add_mod, Nat.mod_eq_of_lt h]
theorem lab_lt {b o n M : Nat} (hb : b < n) (h : o < M) : b * M + o < n * M := by
 have : (b + 1) * M ≤ n * M := Nat.mul_le_mul_right _ hb
 rw [Nat.add_mul, Nat.one_mul] at this
 omega
theorem gW_at {b o n M : Nat} (hb : b < n) (h : o < M) : gW n M (b * M + o) = some ⟨b, o, 0⟩ := by
 simp only [gW, if_pos (lab_lt hb h), (lab_div h).1, (lab_div h).2]
mutual
theorem absV_rel (n M : Nat) : ∀ v, VRel (gW n M) (absV n M v) v
 | .bool b => by simp [absV, VRel]
 | .int k x => by simp [absV, VRel]
 | .string s => by simp [absV, VRel]
 | .pointer none => by simp [absV, VRel]
 | .pointer (some ⟨b, o, none⟩) => by
  simp only [absV]
  split
  ·rename_i h; simp only [VRel]; exact ⟨_, gW_at h.1 h.2, rfl⟩
  ·simp [VRel]
 | .pointer (some ⟨b, o, some _⟩) => by simp [absV, VRel]
 | .slice none x y => by simp [absV, VRel]
 | .slice (some ⟨b, o, none⟩) x y => by
  simp only [absV]
  split
  ·rename_i h
   split
   ·rename_i h2; simp only [VRel]; exact ⟨_, gW_at h.1 h2, by simp⟩
   ·simp only [VRel]; exact ⟨_, gW_at (o := 0) h.1 h.2, by simp⟩
  ·split
   ·rename_i h; subst h; simp only [VRel]; exact ⟨_, _, rfl⟩
   ·simp [VRel]
 | .slice (some ⟨b, o, some _⟩) x y => by
  simp only [absV]
  split
  ·rename_i h; subst h; simp only [VRel]; exact ⟨_, _, rfl⟩
  ·simp [VRel]
 | .map none => by simp [absV, VRel]
 | .map (some _) => by simp [absV, VRel]
 | .agg ⟨l⟩ => by simp only [absV, VRel]; exact ⟨⟨l⟩, rfl, absVs_rel n M l⟩
 | .nilFunc => by simp [absV, VRel]
 | .nilIface => by simp [absV, VRel]
 | .func _ _ _ => by simp [absV, VRel]
 | .iface _ _ => by simp [absV, VRel]
 | .tuple _ => by simp [absV, VRel]
 | .float _ _ => by simp [absV, VRel]
 | .complex _ _ _ => by simp [absV, VRel]
 | .chan _ => by simp [absV, VRel]
theorem absVs_rel (n M : Nat) : ∀ l, VRels (gW n M) (absVs n M l) l
 | [] => by simp [absVs, VRels]
 | v :: vs => by simp only [absVs]; exact VRels.cons (absV_rel n M v) (absVs_rel n M vs)
end
def win (w : World) (c : Array Value) (o : Nat) : List AV := ((c.toList.drop o).map (absV w.heap.size (MW w))).takeWhile AV.one
def objW (w : World) (x : Nat) : AO := match w.heap[x / MW w]? with
 | some (.cells c _ _) => .cells (win w c (x % MW w)) 0 true
 | _ => .dead
def sW (w : World) : AS := { lay := [Tr.ofL (objW w) (List.range (w.heap.size * MW w))], cur := .E, nl := w.heap.size * MW w, st := 1 }
theorem sW_h {w : World} {x : Nat} {o : AO} (h : (sW w).h x = some o) : x < w.heap.size * MW w ∧ ∃ c e fz, w.heap[x / MW w]? = some (.cells c e fz) ∧ o = .cells (win w c (x % MW w)) 0 true := by
 simp only [AS.h, sW, Tr.get, layGet, Tr.get_ofL, List.mem_range] at h
 by_cases hx : x < w.heap.size * MW w
 ·refine ⟨hx, ?_⟩
  rw [if_pos hx] at h
  simp only [objW] at h
  cases hb : w.heap[x / MW w]? with
  | none => rw [hb] at h; cases h
  | some ob =>
   rw [hb] at h
   cases ob with
   | cells c e fz =>
    simp only [AO.shut, Option.some.injEq] at h
    exact ⟨c, e, fz, rfl, h.symm⟩
   | _ => cases h
 ·rw [if_neg hx] at h; cases h
theorem takeWhile_get {p : AV → Bool} : ∀ (l : List AV) (k : Nat) (v : AV), (l.takeWhile p)[k]? = some v → p v = true ∧ l[k]? = some v
 | [], k, v, h => by simp at h
 | a :: l, k, v, h => by
  rw [List.takeWhile_cons] at h
  split at h
  ·rename_i ha
   cases k with
   | zero => simp at h; subst h; exact ⟨ha, rfl⟩
   | succ k => simp at h; simpa using takeWhile_get l k v h
  ·simp at h
theorem rel_sW (w : World) : Rel w.heap.size (gW w.heap.size (MW w)) (sW w) w := by
 refine ⟨fun x o h => ?_, fun x y o o' i i' h h' hro => ?_, fun j => ?_, Nat.le_refl 1, Nat.le_refl _⟩
 ·obtain ⟨hx, c, e, fz, hb, rfl⟩ := sW_h h
  refine ⟨⟨x / MW w, x % MW w, 0⟩, by simp only [gW, if_pos hx], ⟨c, e, fz, hb, fun k v hk => ?_, (fun h => by cases h), (fun h => absurd rfl h), (fun h => by cases h)⟩, (fun h => by cases h)⟩
  obtain ⟨h1, h2⟩ := takeWhile_get _ _ _ hk
  refine ⟨h1, ?_⟩
  rw [List.getElem?_map, List.getElem?_drop, Option.map_eq_some_iff] at h2
  obtain ⟨cv, h3, rfl⟩ := h2
  exact ⟨cv, by simpa using h3, absV_rel _ _ _⟩
 ·obtain ⟨_, c, e, fz, _, rfl⟩ := sW_h h
  cases hro
 ·simp only [gW, sW, Nat.mul_one]
  rw [if_neg (by omega)]
/-! ### data of flat types -/
section
variable {H : Type} {enc : TypeId × Value → H} {P : Program} {w : World} {base : Nat} {spare : Nat → Bool} {held : Bool}
end
end Go.Am
end

section
namespace Go.Am
open Go.ChangeShapes Go.WideShapes Go.Deep
section
variable {H : Type} {enc : TypeId × Value → H} {P : Program} {w : World}
/-! ### data that hold slices -/
end
end Go.Am
end

section
namespace Go.Am
open Go.ChangeShapes Go.WideShapes Go.ChangeAt Go.RowKit
theorem below_of_open {P : Program} {g : FuncId} {b : Bool} {cargs : Array Value} {W : World} (hg : callable P g = true) (h : ACalls P g (cargs.toList.map (absV W.heap.size (MW W))) (sW W) fun v s' => v = .bool b) : Calls P g cargs W fun e W' => e = .returned (.bool b) ∧ Below W.heap.size W W' := by
 have hargs : VRels (gW W.heap.size (MW W)) (cargs.toList.map (absV W.heap.size (MW W))) cargs.toList := by
  rw [← absVs_map]; exact absVs_rel _ _ _
 have hl : Calls P g cargs W (fun e w' => ∃ γ' v cv s', e = .returned cv ∧ VRel γ' v cv ∧ Did W.heap.size (gW W.heap.size (MW W)) (sW W) W γ' s' w' ∧ Rel W.heap.size γ' s' w' ∧ v = .bool b) := by
  rcases h W.heap.size _ cargs W hargs (rel_sW W) with ⟨_, h1⟩ | ⟨cv, w', h1, _⟩
  ·exact h1
  ·rw [run_callFunc hg] at h1; cases h1
 refine hl.mono ?_
 rintro e w' ⟨γ', v, cv, s', rfl, hv, hd, hr, rfl⟩
 simp only [VRel] at hv
 subst hv
 exact ⟨rfl, hd.below fun l o h => by obtain ⟨_, c, e, fz, _, rfl⟩ := sW_h h; rfl⟩
theorem below_trodAll {H : Type} {enc : TypeId × Value → H} {P : Program} {W W' : World} (hl : laidOutB P = true) (hb : Below W.heap.size W W') : ∀ (ts : List TypeId) (vs : List Value) (ds : List (DataW H)) (ps : List MemPlace),
  (ts.all fun t => P.readableRec t && decide (t < P.types.size)) = true → DataW.TrodAll enc P W 0 (fun _ => true) true ts vs ds ps → (∀ x ∈ ps, x.block < W.heap.size) →
  DataW.TrodAll enc P W' 0 (fun b => decide (b < W.heap.size)) true ts vs ds ps
 | [], vs, ds, ps, _, h, _ => by
  obtain ⟨rfl, rfl, rfl⟩ := trodAll_nil h
  exact h
 | t :: ts, vs, ds, ps, hr, h, hlt => by
  simp only [List.all_cons, Bool.and_eq_true, decide_eq_true_eq] at hr
  obtain ⟨v, vs1, d, ds1, a, b, rfl, rfl, rfl, h1, h2⟩ := trodAll_cons h
  exact ⟨a, b, Below.trod hl hr.1.1 hr.1.2 h1 hb (fun x hx => hlt x (by simp [hx])), below_trodAll hl hb ts vs1 ds1 b hr.2 h2 (fun x hx => hlt x (by simp [hx])), rfl⟩
theorem trodAll_at {H : Type} {enc : TypeId × Value → H} {P : Program} {W : World} {base : Nat} {spare : Nat → Bool} {held : Bool} : ∀ {ts : List TypeId} {vs : List Value} {ds : List (DataW H)} {ps : List MemPlace}, DataW.TrodAll enc P W base spare held ts vs ds ps →
  ∀ (i : Nat) t, ts[i]? = some t → ∃ v d p, vs[i]? = some v ∧ ds[i]? = some d ∧ DataW.Trod enc P W base spare held t v d p
 | [], _, _, _, _, i, t, hi => by simp at hi
 | t :: ts, vs, ds, ps, h, i, t', hi => by
  obtain ⟨v, vs1, d, ds1, a, b, rfl, rfl, rfl, h1, h2⟩ := trodAll_cons h
  cases i with
  | zero => simp at hi; subst hi; exact ⟨v, d, a, rfl, rfl, h1⟩
  | succ i => simp at hi; obtain ⟨v', d', p', e1, e2, e3⟩ := trodAll_at h2 i t' hi; exact ⟨v', d', p', by simpa using e1, by simpa using e2, e3⟩
theorem trodAll_len {H : Type} {enc : TypeId × Value → H} {P : Program} {W : World} {base : Nat} {spare : Nat → Bool} {held : Bool} : ∀ {ts : List TypeId} {vs : List Value} {ds : List (DataW H)} {ps : List MemPlace}, DataW.TrodAll enc P W base spare held ts vs ds ps → vs.length = ts.length ∧ ds.length = ts.length
 | [], _, _, _, h => by obtain ⟨rfl, rfl, rfl⟩ := trodAll_nil h; exact ⟨rfl, rfl⟩
 | t :: ts, vs, ds, ps, h => by
  obtain ⟨v, vs1, d, ds1, a, b, rfl, rfl, rfl, h1, h2⟩ := trodAll_cons h
  have := trodAll_len h2
  simp [this.1, this.2]
end Go.Am
end

section
namespace Go.Am
open Go.ChangeShapes Go.WideShapes Go.Deep
open Go.ChangeShapes Go.WideShapes Go.ChangeAt Go.RowKit
def light {H : Type} (P : Program) (t : TypeId) (d : DataW H) : Prop := ∀ n ∈ d.weights P t, n ≤ reachBytes
section
variable {H : Type} {enc : TypeId × Value → H} {P : Program} {w : World}
theorem light_each : ∀ {ts : List TypeId} {ds : List (DataW H)}, (∀ n ∈ DataW.weightsEach P ts ds, n ≤ reachBytes) → ∀ (i : Nat) t d, ts[i]? = some t → ds[i]? = some d → light P t d
 | [], _, _, i, t, d, h1, _ => by simp at h1
 | t0 :: ts, [], _, i, t, d, _, h2 => by simp at h2
 | t0 :: ts, d0 :: ds, h, i, t, d, h1, h2 => by
  simp only [DataW.weightsEach, List.mem_append] at h
  cases i with
  | zero =>
   simp only [List.getElem?_cons_zero, Option.some.injEq] at h1 h2
   subst h1; subst h2
   exact fun n hn => h n (.inl hn)
  | succ i =>
   simp only [List.getElem?_cons_succ] at h1 h2
   exact light_each (fun n hn => h n (.inr hn)) i t d h1 h2
end
end Go.Am
end

section
namespace Go.Am
open Go.ChangeShapes Go.WideShapes Go.ChangeAt Go.RowKit
theorem law_openL {H : Type} {enc : TypeId × Value → H} {C : Checked} {os : Os} {f : FuncId} {fn : Func} {s : ChangeSpec} {fresh : Bool} {rt : TypeId} {X : World → Array Value → Prop} (own : ownKnob C.prog.godebug = none) (started : os.Started) (noInit : C.prog.inits.idxOf? f = none) (hfn : C.prog.funcs[f]? = some fn)
  (witness : ∃ (w : World) (tape : Tape) (i : Input), w.os = os ∧ (w.forCall tape i).Shaped C.prog ∧ i.vars = [] ∧ Input.okWide C.prog (w.forCall tape i) .any w.heap.size f i ∧
   ((s.pre enc C.prog fn [] false (w.forCall tape i).memory i.args ∧ X (w.forCall tape i).memory i.args) ∧ sizedMet enc C.prog fn (OpenSpec.ofChange s) false (w.forCall tape i).memory i.args) ∧ ({} : Assume).holds C.prog (lone (Frame.enter C.prog f i.args .normal) [] (w.forCall tape i)))
  (hg : callable C.prog f = true) (hv : s.vars = []) (hrt : fn.resultTypes = #[rt]) (hru : C.prog.underlying rt = some .bool) (hl : laidOutB C.prog = true) (hr : (fn.params.toList.all fun t => C.prog.readableRec t && decide (t < C.prog.types.size)) = true)
  (hsp : ∀ ds : List (DataW H), ds.length = fn.params.toList.length → s.fn H ds = { results := [.lit (.bool true)], args := ds })
  (hrun : ∀ (W : World) (base : Nat) (args : List Value), args.length = fn.params.toList.length → (∀ (j : Nat) t v, fn.params.toList[j]? = some t → args[j]? = some v → Value.okWide C.prog W .any base t v ∧ ∃ (d : DataW H) (p : List MemPlace), DataW.Trod enc C.prog W 0 (fun _ => true) true t v d p ∧ light C.prog t d) →
   ACalls C.prog f (args.map (absV W.heap.size (MW W))) (sW W) fun v s' => v = .bool true) :
  ReturnsInHanded {} C os f .any (fun w args => (s.pre enc C.prog fn [] false w args ∧ X w args) ∧ sizedMet enc C.prog fn (OpenSpec.ofChange s) false w args) (s.post enc C.prog fn false fresh false false) := by
 refine returnsInHanded_of_calls own started noInit witness ?_
 intro w tape i _ _ _ hok hpre hholds
 obtain ⟨_, _, _, fn', hfn', _, _, _, _, hval⟩ := hok
 have e : fn' = fn := Option.some.inj (hfn'.symm.trans hfn)
 subst e
 obtain ⟨⟨⟨ds, gs, before, hw, hc⟩, _⟩, hz⟩ := hpre
 have hwt := hz.weights hw
 have hW := DataW.Whole.of_heap (w' := w.forCall tape i) (by rfl) hw
 have hW' := hW
 obtain ⟨p, q, hA, hV, rfl, hfz, hnd⟩ := hW
 have hV2 := hV
 rw [hv] at hV2
 obtain ⟨rfl, rfl⟩ := trodVars_none hV2
 obtain ⟨hl1, hl2⟩ := trodAll_len hA
 simp only [List.all_eq_true, decide_eq_true_eq] at hwt
 have hrun' := hrun (w.forCall tape i) w.heap.size i.args.toList hl1 fun j t v hj hvj => by
  obtain ⟨v', d, p', h1, hd, h2⟩ := trodAll_at hA j t hj
  rw [hvj] at h1; obtain rfl := Option.some.inj h1
  refine ⟨hval j t v (by simpa using hj) (by simpa using hvj), d, p', h2, light_each hwt j t d ?_ ?_⟩
  ·rw [List.getElem?_append_left, hj]
   rcases Nat.lt_or_ge j fn'.params.toList.length with h | h
   ·exact h
   ·rw [List.getElem?_eq_none h] at hj; cases hj
  ·rw [List.append_nil]; exact hd
 refine (below_of_open hg hrun').mono fun e W' ⟨he, hb⟩ => ?_
 subst he
 refine ChangeSpec.post_blind (post_law (pa := p) (rt := rt) hW' hv hb hrt hru ?_ ?_)
 ·rw [List.append_nil]; exact hsp ds hl2
 ·exact below_trodAll hl hb _ _ _ _ hr hA fun x hx => hW'.lt x (by simp [hx])
end Go.Am
end
