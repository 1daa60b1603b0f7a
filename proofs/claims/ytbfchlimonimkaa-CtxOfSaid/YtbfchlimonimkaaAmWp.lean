/-
  The abstract machine Am: code, calls, loops: rules for what code of the model does, said of the abstract heap.
-/
import Derived.Test.YtbfchlimonimkaaAmSim9
import Derived.Deep.LoopGhost
import Derived.Scope
set_option linter.unusedSectionVars false
set_option linter.unusedSimpArgs false
set_option linter.unusedVariables false
namespace Go.Am

abbrev Fr := Nat → AV
def upd (f : Fr) (d : Nat) (v : AV) : Fr := fun t => if t = d then v else f t
@[simp] theorem upd_same (f : Fr) (d : Nat) (v : AV) : upd f d v d = v := by simp [upd]
theorem upd_ne (f : Fr) {d t : Nat} (v : AV) (h : t ≠ d) : upd f d v t = f t := by simp [upd, h]
def updO (f : Fr) (d : Option Nat) (v : AV) : Fr := match d with | some d => upd f d v | none => f

structure FRel (γ : Gam) (n : Nat) (f : Fr) (a : Act) : Prop where
  size : a.tmps.size = n
  defers : a.defers = []
  vals : ∀ t, VRel γ (f t) (a.tmps.getD t undef)

theorem FRel.mono {γ γ' : Gam} {n : Nat} {f : Fr} {a : Act} (h : FRel γ n f a) (hle : Gam.le γ γ') : FRel γ' n f a := ⟨h.size, h.defers, fun t => (h.vals t).mono hle⟩

theorem FRel.eval {γ : Gam} {n : Nat} {f : Fr} {a : Act} (h : FRel γ n f a) : ∀ x, VRel γ (aev f x) (a.eval x)
  | .tmp t => h.vals t
  | .const v => ofV_rel γ v
  | .func g => by simp only [aev, Act.eval, VRel]; exact ⟨_, rfl, VRels.nil⟩
  | .global _ => by simp [aev, VRel]

def dstOk (n : Nat) : Option Nat → Bool
  | some d => decide (d < n)
  | none => true

theorem FRel.put {γ : Gam} {n : Nat} {f : Fr} {a : Act} (h : FRel γ n f a) {d : Option Nat} {v : AV} {c : Value} (hd : dstOk n d = true) (hv : VRel γ v c) : FRel γ n (updO f d v) (a.put d c) := by
  cases d with
  | none => exact h
  | some d =>
    have hdn : d < n := by simpa [dstOk] using hd
    refine ⟨by simp [Act.put, h.size], h.defers, fun t => ?_⟩
    simp only [updO, upd, Act.put]
    by_cases ht : t = d
    · subst ht
      have : (a.tmps.setIfInBounds t c).getD t undef = c := by simp [Array.getD, h.size, hdn]
      rw [if_pos rfl, this]; exact hv
    · rw [if_neg ht]
      have := h.vals t
      have e : (a.tmps.setIfInBounds d c).getD t undef = a.tmps.getD t undef := by
        simp only [Array.getD_eq_getD_getElem?]
        rw [Array.getElem?_setIfInBounds_ne (fun e => ht e.symm)]
      rw [e]; exact this

def PostR (B : Nat) (γ : Gam) (s : AS) (w : World) (n : Nat) (Q : Exit → Fr → AS → Prop) : Exit → Act → World → Prop := fun e a' w' =>
  ∃ γ' f' s', FRel γ' n f' a' ∧ Did B γ s w γ' s' w' ∧ Rel B γ' s' w' ∧ Q e f' s'

/-- The weakest precondition over the abstract machine. -/
def AWp (P : Program) (n : Nat) (c : Code) (f : Fr) (s : AS) (Q : Exit → Fr → AS → Prop) : Prop :=
  ∀ (B : Nat) (γ : Gam) (a : Act) (w : World), FRel γ n f a → Rel B γ s w → c.wp P (PostR B γ s w n Q) a w

def XThen (K : Fr → AS → Prop) (Q : Exit → Fr → AS → Prop) : Exit → Fr → AS → Prop
  | .normal, f, s => K f s
  | e, f, s => Q e f s
def XBlock (id : Nat) (Q : Exit → Fr → AS → Prop) : Exit → Fr → AS → Prop
  | .exit id', f, s => if id' = id then Q .normal f s else Q (.exit id') f s
  | e, f, s => Q e f s
def XScope (Q : Exit → Fr → AS → Prop) : Exit → Fr → AS → Prop
  | .goto _, _, _ => False
  | e, f, s => Q e f s

theorem PostR.trans {B : Nat} {γ γ' : Gam} {s s' : AS} {w w' : World} {n : Nat} {Q : Exit → Fr → AS → Prop} (hd : Did B γ s w γ' s' w') {e : Exit} {a : Act} {w'' : World} (h : PostR B γ' s' w' n Q e a w'') : PostR B γ s w n Q e a w'' := by
  obtain ⟨γ2, f2, s2, h1, h2, h3, h4⟩ := h
  exact ⟨γ2, f2, s2, h1, hd.trans h2, h3, h4⟩

section
variable {P : Program} {n : Nat} {f : Fr} {s : AS} {Q : Exit → Fr → AS → Prop}

theorem AWp.mono {c : Code} {Q' : Exit → Fr → AS → Prop} (h : AWp P n c f s Q) (hq : ∀ e f s, Q e f s → Q' e f s) : AWp P n c f s Q' :=
  fun B γ a w hf hr => wp_mono (h B γ a w hf hr) fun e a' w' ⟨γ', f', s', h1, h2, h3, h4⟩ => ⟨γ', f', s', h1, h2, h3, hq _ _ _ h4⟩

theorem AWp.skip (h : Q .normal f s) : AWp P n .skip f s Q := fun B γ a w hf hr => wp_skip ⟨γ, f, s, hf, Did.refl, hr, h⟩
theorem AWp.label {l : Nat} (h : Q .normal f s) : AWp P n (.label l) f s Q := fun B γ a w hf hr => wp_label ⟨γ, f, s, hf, Did.refl, hr, h⟩
theorem AWp.exit {id : Nat} (h : Q (.exit id) f s) : AWp P n (.exit id) f s Q := fun B γ a w hf hr => wp_exit ⟨γ, f, s, hf, Did.refl, hr, h⟩
theorem AWp.ret (h : Q .ret f s) : AWp P n .ret f s Q := fun B γ a w hf hr => wp_ret ⟨γ, f, s, hf, Did.refl, hr, h⟩

theorem AWp.seq {x y : Code} (h : AWp P n x f s (XThen (fun f s => AWp P n y f s Q) Q)) : AWp P n (.seq x y) f s Q := by
  intro B γ a w hf hr
  refine wp_seq (wp_mono (h B γ a w hf hr) ?_)
  rintro e a' w' ⟨γ', f', s', h1, h2, h3, h4⟩
  cases e with
  | normal => exact wp_mono (h4 B γ' a' w' h1 h3) fun e a w hh => PostR.trans h2 hh
  | _ => exact ⟨γ', f', s', h1, h2, h3, h4⟩

theorem AWp.cond {c : Operand} {x y : Code} {t : Bool} (hc : aev f c = .bool t) (h : AWp P n (if t then x else y) f s Q) : AWp P n (.cond c x y) f s Q := by
  intro B γ a w hf hr
  have hv := hf.eval c
  rw [hc] at hv
  simp only [VRel] at hv
  exact wp_cond hv (h B γ a w hf hr)

theorem AWp.cond_split {c : Operand} {x y : Code} {t : Bool} (hc : aev f c = .bool t) (h1 : t = true → AWp P n x f s Q) (h2 : t = false → AWp P n y f s Q) : AWp P n (.cond c x y) f s Q := by
  cases t
  · exact AWp.cond hc (h2 rfl)
  · exact AWp.cond hc (h1 rfl)

theorem AWp.block {id : Nat} {c : Code} (h : AWp P n c f s (XBlock id Q)) : AWp P n (.block id c) f s Q := by
  intro B γ a w hf hr
  refine wp_block (wp_mono (h B γ a w hf hr) ?_)
  rintro e a' w' ⟨γ', f', s', h1, h2, h3, h4⟩
  cases e with
  | exit id' =>
    simp only [XBlock] at h4
    simp only [Exit.inBlock]
    split
    · rename_i hid; rw [if_pos hid] at h4; exact ⟨γ', f', s', h1, h2, h3, h4⟩
    · rename_i hid; rw [if_neg hid] at h4; exact ⟨γ', f', s', h1, h2, h3, h4⟩
  | _ => exact ⟨γ', f', s', h1, h2, h3, h4⟩

theorem AWp.scope {c : Code} (h : AWp P n c f s (XScope Q)) : AWp P n (.scope c) f s Q := by
  intro B γ a w hf hr
  refine wp_scope_straight (wp_mono (h B γ a w hf hr) ?_)
  rintro e a' w' ⟨γ', f', s', h1, h2, h3, h4⟩
  cases e with
  | goto l => exact h4.elim
  | _ => exact ⟨γ', f', s', h1, h2, h3, h4⟩

theorem AWp.loop {c : Code} (I : Nat → Fr → AS → Prop) (m : Nat) (h₀ : I m f s)
    (round : ∀ m f s, I m f s → AWp P n c f s (XThen (fun f' s' => ∃ m', m' < m ∧ I m' f' s') Q)) : AWp P n (.loop c) f s Q := by
  intro B γ a w hf hr
  refine wp_loop_ghost (fun m a' w' => ∃ γ' f' s', FRel γ' n f' a' ∧ Did B γ s w γ' s' w' ∧ Rel B γ' s' w' ∧ I m f' s') m ⟨γ, f, s, hf, Did.refl, hr, h₀⟩ ?_
  rintro m a' w' ⟨γ', f', s', h1, h2, h3, h4⟩
  refine wp_mono (round m f' s' h4 B γ' a' w' h1 h3) ?_
  rintro e a2 w2 ⟨γ2, f2, s2, g1, g2, g3, g4⟩
  cases e with
  | normal => obtain ⟨m', hm, hI⟩ := g4; exact ⟨m', hm, γ2, f2, s2, g1, h2.trans g2, g3, hI⟩
  | _ => exact ⟨γ2, f2, s2, g1, h2.trans g2, g3, g4⟩

end

/-- A function that has a body of Go. -/
def callable (P : Program) (g : FuncId) : Bool :=
  match P.funcs[g]? with
  | some fn => !(fn.name == "runtime.NumGoroutine") && !fn.body.isNone
  | none => false

theorem run_callFunc {P : Program} {g : FuncId} (h : callable P g = true) (args : Array Value) (w : World) : (callFunc g args).run P w = .ok (.enter g args) w := by
  unfold callable at h
  cases hf : P.funcs[g]? with
  | none => simp [hf] at h
  | some fn =>
    simp only [hf, Bool.and_eq_true, Bool.not_eq_true'] at h
    simp only [callFunc, Sem.run_bind, run_program, Result.andThen_ok, hf, h.1, h.2, Bool.false_eq_true, if_false, Sem.run_pure]

/-- A call of a function: one of Go, or one that the model itself answers. -/
def Lands (P : Program) (g : FuncId) (cargs : Array Value) (w : World) (R : Ending → World → Prop) : Prop :=
  ((callFunc g cargs).run P w = .ok (.enter g cargs) w ∧ Calls P g cargs w R) ∨ ∃ cv w', (callFunc g cargs).run P w = .ok (.value cv) w' ∧ R (.returned cv) w'
theorem Lands.mono {P : Program} {g : FuncId} {cargs : Array Value} {w : World} {R R' : Ending → World → Prop} (h : Lands P g cargs w R) (hr : ∀ e w, R e w → R' e w) : Lands P g cargs w R' := by
  rcases h with ⟨h1, h2⟩ | ⟨cv, w', h1, h2⟩
  · exact .inl ⟨h1, h2.mono hr⟩
  · exact .inr ⟨cv, w', h1, hr _ _ h2⟩

/-- A call, over the abstract machine. -/
def ACalls (P : Program) (g : FuncId) (args : List AV) (s : AS) (R : AV → AS → Prop) : Prop :=
  ∀ (B : Nat) (γ : Gam) (cargs : Array Value) (w : World), VRels γ args cargs.toList → Rel B γ s w →
    Lands P g cargs w fun e w' => ∃ γ' v cv s', e = .returned cv ∧ VRel γ' v cv ∧ Did B γ s w γ' s' w' ∧ Rel B γ' s' w' ∧ R v s'

theorem ACalls.mono {P : Program} {g : FuncId} {args : List AV} {s : AS} {R R' : AV → AS → Prop} (h : ACalls P g args s R) (hr : ∀ v s, R v s → R' v s) : ACalls P g args s R' :=
  fun B γ ca w h1 h2 => (h B γ ca w h1 h2).mono fun e w' ⟨γ', v, cv, s', a, b, c, d, e⟩ => ⟨γ', v, cv, s', a, b, c, d, hr _ _ e⟩

/-- Is the operation guarded, and does it run? -/
def awanted (ops : Array Oper) (f : Fr) (o : Oper) : Option Bool :=
  match o.guard with
  | none => some true
  | some (j, want) =>
    match (ops[j]?).bind (·.dst) with
    | some d => match f d with
      | .bool b => some (b == want)
      | .tup _ => some false
      | _ => none
    | none => some false

theorem awanted_run {γ : Gam} {n : Nat} {f : Fr} {a : Act} (h : FRel γ n f a) {ops : Array Oper} {o : Oper} {b : Bool} (hw : awanted ops f o = some b) : Region.wanted o (yielded ops a.tmps) = b := by
  unfold awanted at hw
  unfold Region.wanted
  cases hg : o.guard with
  | none => simp only [hg] at hw ⊢; exact Option.some.inj hw
  | some p =>
    obtain ⟨j, want⟩ := p
    simp only [hg] at hw ⊢
    unfold yielded
    cases hd : (ops[j]?).bind (·.dst) with
    | none => simp only [hd] at hw ⊢; simpa using hw
    | some d =>
      simp only [hd] at hw
      have hv := h.vals d
      simp only [Option.bind_some]
      split at hw
      · rename_i c hc
        rw [hc] at hv; simp only [VRel] at hv
        obtain rfl := Option.some.inj hw
        have : a.tmps[d]? = some (.bool c) := by
          rw [Array.getD_eq_getD_getElem?] at hv
          cases hq : a.tmps[d]? with
          | none => rw [hq] at hv; simp [undef] at hv
          | some u => rw [hq] at hv; simp at hv; rw [hv]
        rw [this]; simp
      · rename_i l hc
        rw [hc] at hv; simp only [VRel] at hv
        obtain ⟨cs, hcs, _⟩ := hv
        obtain rfl := Option.some.inj hw
        have : ∀ c, a.tmps[d]? ≠ some (.bool c) := by
          intro c hq
          rw [Array.getD_eq_getD_getElem?, hq] at hcs
          simp at hcs
        cases hq : a.tmps[d]? with
        | none => rfl
        | some u => cases u <;> first | rfl | exact (this _ hq).elim
      · cases hw

/-- The function and the arguments of a call of a function value. -/
def acallee (f : Fr) : Op → Option (FuncId × List AV)
  | .call c => match c.callee with
    | .value x => match aev f x with
      | .func g cap => some (g, c.args.toList.map (aev f) ++ cap)
      | .meth g ft cap => some (g, ft ++ (c.args.toList.map (aev f) ++ cap))
      | _ => none
    | _ => none
  | _ => none

/-- One operation. -/
def vcOp (P : Program) (T : TT) (n : Nat) (o : Oper) (f : Fr) (s : AS) (K : Fr → AS → Prop) : Prop :=
  dstOk n o.dst = true ∧
  match acallee f o.op with
  | some (g, args) => ACalls P g args s fun v s' => K (updO f o.dst v) s'
  | none => ∃ v s', aop T o.op (aev f) s = some (v, s') ∧ K (updO f o.dst v) s'

/-- The operations of a region, in the order of the text. -/
def vcOps (P : Program) (T : TT) (n : Nat) (ops : Array Oper) : List Oper → Fr → AS → (Fr → AS → Prop) → Prop
  | [], f, s, K => K f s
  | o :: rest, f, s, K => match awanted ops f o with
    | some true => vcOp P T n o f s fun f' s' => vcOps P T n ops rest f' s' K
    | some false => dstOk n o.dst = true ∧ vcOps P T n ops rest (updO f o.dst .undef) s K
    | none => False

theorem acallee_run {γ : Gam} {n : Nat} {f : Fr} {a : Act} (h : FRel γ n f a) {o : Oper} {g : FuncId} {args : List AV} (hc : acallee f o.op = some (g, args)) {P : Program} (w : World) :
    ∃ cargs : Array Value, VRels γ args cargs.toList ∧ (execOp a.eval o).run P w = (callFunc g cargs).run P w := by
  obtain ⟨dst, op, type, pos, after, guard⟩ := o
  simp only at hc
  unfold acallee at hc
  split at hc
  · rename_i c
    split at hc
    · rename_i x hx
      split at hc
      · rename_i g' cap hv
        obtain ⟨rfl, rfl⟩ : _ ∧ _ := by simpa using hc
        have he := h.eval x
        rw [hv] at he
        simp only [VRel] at he
        obtain ⟨cc, hcc, hrel⟩ := he
        refine ⟨(c.args.map a.eval) ++ cc, ?_, ?_⟩
        · rw [Array.toList_append, Array.toList_map]
          exact (vrels_of h.eval c.args.toList).append hrel
        · simp only [execOp, resolve, hx, hcc, Deferred.ofValue, Sem.run_bind, Sem.run_pure, Result.andThen_ok, invoke]
          have : (#[] : Array Value) ++ c.args.map a.eval = c.args.map a.eval := by simp
          rw [this]
      · rename_i g' ft cap hv
        obtain ⟨rfl, rfl⟩ : _ ∧ _ := by simpa using hc
        have he := h.eval x
        rw [hv] at he
        simp only [VRel] at he
        obtain ⟨cf, cc, hcc, hrelf, hrel⟩ := he
        refine ⟨(cf ++ c.args.map a.eval) ++ cc, ?_, ?_⟩
        · rw [Array.toList_append, Array.toList_append, Array.toList_map, List.append_assoc]
          exact hrelf.append ((vrels_of h.eval c.args.toList).append hrel)
        · simp only [execOp, resolve, hx, hcc, Deferred.ofValue, Sem.run_bind, Sem.run_pure, Result.andThen_ok, invoke]
      · cases hc
    · cases hc
  · cases hc

/-- One operation of the model, at a related world: its wp. -/
theorem vcOp_sound {P : Program} {T : TT} (hT : TT.Ok P T) {n : Nat} {o : Oper} {f : Fr} {s : AS} {K : Fr → AS → Prop} (h : vcOp P T n o f s K) {B : Nat} {γ : Gam} {a : Act} {w : World} (hf : FRel γ n f a) (hr : Rel B γ s w)
    {next : Act → World → Prop} {Q : Exit → Act → World → Prop} (hn : ∀ γ' f' s' a' w', FRel γ' n f' a' → Did B γ s w γ' s' w' → Rel B γ' s' w' → K f' s' → next a' w') : o.wp P a w next Q := by
  obtain ⟨hd, h⟩ := h
  unfold Oper.wp
  split at h
  · rename_i g args hc
    obtain ⟨cargs, hargs, hrun⟩ := acallee_run hf hc (P := P) w
    rw [hrun]
    rcases h B γ cargs w hargs hr with ⟨h1, h2⟩ | ⟨cv, w', h1, γ', v, cv', s', e, hv, hdid, hr', hk⟩
    · rw [h1]
      simp only [Oper.upon]
      refine h2.mono ?_
      rintro e w' ⟨γ', v, cv, s', rfl, hv, hdid, hr', hk⟩
      exact hn γ' _ s' _ w' ((hf.mono hdid.le).put hd hv) hdid hr' hk
    · rw [h1]
      injection e with e
      subst e
      exact hn γ' _ s' _ w' ((hf.mono hdid.le).put hd hv) hdid hr' hk
  · obtain ⟨v, s', hop, hk⟩ := h
    obtain ⟨γ', w', nx, cv, hrun, hnx, hv, hdid, hr'⟩ := aop_sim hT hr hf.eval hop
    rw [hrun]
    rcases hnx with rfl | ⟨rfl, rfl⟩
    · exact hn γ' _ s' _ w' ((hf.mono hdid.le).put hd hv) hdid hr' hk
    · exact hn γ' _ s' _ w' ((hf.mono hdid.le).put hd hv) hdid hr' hk

theorem vcOps_sound {P : Program} {T : TT} (hT : TT.Ok P T) {n : Nat} {ops : Array Oper} {Q : Exit → Fr → AS → Prop} {B : Nat} {γ0 : Gam} {s0 : AS} {w0 : World} : ∀ (l : List Nat) (os : List Oper) (f : Fr) (s : AS) (γ : Gam) (a : Act) (w : World),
    l.map (ops[·]?) = os.map some → vcOps P T n ops os f s (fun f s => Q .normal f s) → FRel γ n f a → Rel B γ s w → Did B γ0 s0 w0 γ s w → wpOps P ops (PostR B γ0 s0 w0 n Q) l a w
  | [], os, f, s, γ, a, w, hl, h, hf, hr, hd => by
    cases os with
    | nil => exact ⟨γ, f, s, hf, hd, hr, h⟩
    | cons _ _ => simp at hl
  | i :: l, os, f, s, γ, a, w, hl, h, hf, hr, hd => by
    cases os with
    | nil => simp at hl
    | cons o os =>
      simp only [List.map_cons, List.cons.injEq] at hl
      simp only [wpOps, hl.1]
      simp only [vcOps] at h
      split at h
      · rename_i hw
        rw [awanted_run hf hw, if_pos rfl]
        exact .inl (vcOp_sound hT h hf hr fun γ' f' s' a' w' h1 h2 h3 h4 => vcOps_sound hT l os f' s' γ' a' w' hl.2 h4 h1 h3 (hd.trans h2))
      · rename_i hw
        rw [awanted_run hf hw, if_neg (by simp)]
        exact vcOps_sound hT l os _ s γ _ w hl.2 h.2 (hf.put h.1 (vundef γ)) hr hd
      · exact h.elim

theorem AWp.region {P : Program} {T : TT} (hT : TT.Ok P T) {n : Nat} {id : Nat} {ops : Array Oper} {f : Fr} {s : AS} {Q : Exit → Fr → AS → Prop} (h : vcOps P T n ops ops.toList f s fun f s => Q .normal f s) :
    AWp P n (.region id ops false) f s Q := by
  intro B γ a w hf hr
  refine wp_region (vcOps_sound hT (List.range ops.size) ops.toList f s γ a w ?_ h hf hr Did.refl)
  apply List.ext_getElem?
  intro i
  simp only [List.getElem?_map]
  by_cases hi : i < ops.size
  · simp [hi]
  · have : ops.toList[i]? = none := List.getElem?_eq_none (by simpa using hi)
    rw [this, List.getElem?_eq_none (by simpa using hi)]; rfl

/-- What a function answers. -/
def ares (T : TT) (rs : List ResultVar) (f : Fr) (s : AS) : Option AV :=
  (resL rs).map fun vs => match vs with | [v] => v | vs => .tup vs
where
  resL : List ResultVar → Option (List AV)
    | [] => some []
    | .tmp t :: rs => (resL rs).map fun vs => f t :: vs
    | .cell a t :: rs => (ald T t s (f a)).bind fun v => (resL rs).map fun vs => v :: vs

def resF (tmps : Array Value) : ResultVar → Sem Value
  | .tmp t => pure (tmps.getD t undef)
  | .cell x t => do loadVar t (← asAddr (tmps.getD x undef))

theorem ares_run {P : Program} {T : TT} (hT : TT.Ok P T) {B : Nat} {γ : Gam} {n : Nat} {f : Fr} {s : AS} {a : Act} {w : World} (hf : FRel γ n f a) (hr : Rel B γ s w) {fn : Func} {v : AV} (h : ares T fn.results.toList f s = some v) :
    ∃ cv, (results fn a.tmps).run P w = .ok cv w ∧ VRel γ v cv := by
  unfold ares at h
  simp only [Option.map_eq_some_iff] at h
  obtain ⟨vs, hvs, e⟩ := h
  have key : ∀ (F : ResultVar → Sem Value), (∀ t, F (.tmp t) = pure (a.tmps.getD t undef)) → (∀ x t, F (.cell x t) = do loadVar t (← asAddr (a.tmps.getD x undef))) →
      ∀ (rs : List ResultVar) (vs : List AV), ares.resL T f s rs = some vs → ∃ cvs : List Value, (rs.mapM F).run P w = .ok cvs w ∧ VRels γ vs cvs := by
    intro F hF1 hF2 rs
    induction rs with
    | nil => intro vs h; simp only [ares.resL] at h; obtain rfl := Option.some.inj h; exact ⟨[], rfl, VRels.nil⟩
    | cons r rs ih =>
      intro vs h
      cases r with
      | tmp t =>
        simp only [ares.resL, Option.map_eq_some_iff] at h
        obtain ⟨us, hus, rfl⟩ := h
        obtain ⟨cvs, h1, h2⟩ := ih us hus
        exact ⟨_, by simp only [List.mapM_cons, Sem.run_bind, hF1, Sem.run_pure, Result.andThen_ok, h1], VRels.cons (hf.vals t) h2⟩
      | cell x t =>
        simp only [ares.resL, Option.bind_eq_some_iff, Option.map_eq_some_iff] at h
        obtain ⟨u, hu, us, hus, rfl⟩ := h
        obtain ⟨cvs, h1, h2⟩ := ih us hus
        have hx := hf.vals x
        have hp : ∃ l o, f x = .ptr (some (l, o)) := by
          unfold ald at hu
          split at hu
          · rename_i l o e; exact ⟨l, o, e⟩
          · cases hu
        obtain ⟨l, o, hp⟩ := hp
        rw [hp] at hx hu
        simp only [VRel] at hx
        obtain ⟨i, hi, hxe⟩ := hx
        obtain ⟨cv, hrun, hv⟩ := ald_run hT hr hi hu
        exact ⟨_, by simp only [List.mapM_cons, Sem.run_bind, hF2, hxe, asAddr, hrun, Sem.run_pure, Result.andThen_ok, h1], VRels.cons hv h2⟩
  have hres : ∃ cvs : List Value, (results fn a.tmps).run P w = .ok (if h : cvs.toArray.size = 1 then cvs.toArray[0] else .tuple cvs.toArray) w ∧ VRels γ vs cvs := by
    have hE : results fn a.tmps = (do let vs ← fn.results.mapM (resF a.tmps); pure (if h : vs.size = 1 then vs[0] else .tuple vs)) := rfl
    rw [hE]
    simp only [Sem.run_bind]
    rw [Array.mapM_eq_mapM_toList]
    obtain ⟨cvs, h1, h2⟩ := key (resF a.tmps) (fun _ => rfl) (fun _ _ => rfl) fn.results.toList vs hvs
    exact ⟨cvs, by simp only [Sem.run_map, h1, Result.andThen_ok, Sem.run_pure], h2⟩
  obtain ⟨cvs, hrun, hrel⟩ := hres
  refine ⟨_, hrun, ?_⟩
  subst e
  split
  · obtain ⟨d, ds, rfl, hd, hds⟩ := VRels.cons_iff.1 hrel
    obtain rfl := VRels.nil_iff.1 hds
    rw [dif_pos (by simp)]
    exact hd
  · rename_i vs' hne
    have hlen := hrel.length
    have : ¬ cvs.toArray.size = 1 := by
      intro h1
      simp only [List.size_toArray] at h1
      obtain ⟨v, rfl⟩ := List.length_eq_one_iff.1 (hlen.trans h1)
      exact hne v rfl
    rw [dif_neg this]
    simp only [VRel]
    exact ⟨_, rfl, hrel⟩

def ainit (args : List AV) : Fr := fun t => args.getD t .undef

/-- A call, by its body. -/
theorem ACalls.of_body {P : Program} {T : TT} (hT : TT.Ok P T) {g : FuncId} {fn : Func} {c : Code} {args : List AV} {s : AS} {R : AV → AS → Prop} (hf : P.funcs[g]? = some fn) (hc : callable P g = true) (hb : fn.body = some c)
    (h : AWp P (args.length + (fn.ntmps - args.length)) c (ainit args) s fun e f s' => match e with
      | .normal | .ret => ∃ v, ares T fn.results.toList f s' = some v ∧ R v s'
      | _ => False) : ACalls P g args s R := by
  refine fun B γ cargs w hargs hr => .inl ⟨run_callFunc hc _ w, calls_of_wp hf hb ?_⟩
  have hlen := hargs.length
  simp only [Array.length_toList] at hlen
  have hfr : FRel γ (args.length + (fn.ntmps - args.length)) (ainit args) { tmps := cargs ++ Array.replicate (fn.ntmps - cargs.size) undef, defers := [] } := by
    refine ⟨by simp [hlen], rfl, fun t => ?_⟩
    simp only [ainit, Array.getD_eq_getD_getElem?, List.getD_eq_getElem?_getD]
    by_cases ht : t < args.length
    · obtain ⟨cv, hcv, hrel⟩ := hargs.get (List.getElem?_eq_getElem ht)
      rw [Array.getElem?_append_left (by omega)]
      rw [Array.getElem?_toList] at hcv
      rw [hcv, List.getElem?_eq_getElem ht]
      exact hrel
    · rw [List.getElem?_eq_none (by omega)]
      have : ((cargs ++ Array.replicate (fn.ntmps - cargs.size) undef)[t]?).getD undef = undef := by
        rw [Array.getElem?_append_right (by omega)]
        by_cases hq : t - cargs.size < fn.ntmps - cargs.size
        · simp [hq]
        · rw [Array.getElem?_eq_none (by simp; omega)]; rfl
      rw [this]
      exact vundef γ
  refine wp_mono (h B γ _ w hfr hr) ?_
  rintro e a' w' ⟨γ', f', s', h1, h2, h3, h4⟩
  cases e with
  | normal =>
    obtain ⟨v, hv, hR⟩ := h4
    obtain ⟨cv, hrun, hrel⟩ := ares_run hT h1 h3 hv
    exact ⟨h1.defers, cv, hrun, γ', v, cv, s', rfl, hrel, h2, h3, hR⟩
  | ret =>
    obtain ⟨v, hv, hR⟩ := h4
    obtain ⟨cv, hrun, hrel⟩ := ares_run hT h1 h3 hv
    exact ⟨h1.defers, cv, hrun, γ', v, cv, s', rfl, hrel, h2, h3, hR⟩
  | exit id => exact h4.elim
  | goto l => exact h4.elim
  | panic ch => exact h4.elim
  | outgrown => exact h4.elim

end Go.Am
