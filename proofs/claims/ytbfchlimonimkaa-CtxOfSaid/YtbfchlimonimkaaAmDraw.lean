/-
  The abstract machine Am: a region that draws its order: one walk in the order of the text serves every order.
-/
import Derived.Test.YtbfchlimonimkaaAmWp
set_option linter.unusedSectionVars false
set_option linter.unusedSimpArgs false
set_option linter.unusedVariables false
namespace Go.Am

/-- s' has all that s has. -/
def Ext (s s' : AS) : Prop := (∀ l o, s.h l = some o → s'.h l = some o) ∧ s.nl ≤ s'.nl
theorem Ext.refl (s : AS) : Ext s s := ⟨fun _ _ h => h, Nat.le_refl _⟩
theorem Ext.trans {a b c : AS} (h : Ext a b) (h' : Ext b c) : Ext a c := ⟨fun l o e => h'.1 l o (h.1 l o e), Nat.le_trans h.2 h'.2⟩

/-- labels from the next one on are free -/
def WFs (s : AS) : Prop := 1 ≤ s.st ∧ ∀ k, s.h (s.nl + k * s.st) = none
theorem Rel.wfs {B : Nat} {γ : Gam} {s : AS} {w : World} (h : Rel B γ s w) : WFs s := by
  refine ⟨h.stp, fun k => ?_⟩
  cases hq : s.h (s.nl + k * s.st) with
  | none => rfl
  | some p =>
    obtain ⟨j, hj, _⟩ := h.obj _ p hq
    rw [h.fin k] at hj; cases hj

/-- operations that leave the heap alone -/
def quietOp : Op → Bool
  | .move _ | .assign _ | .pick .. | .nilCheck _ | .binOp .. | .unOp .. | .fieldAddr .. | .field .. | .indexAddr .. | .index .. | .slice .. | .extract .. | .load .. | .lookup .. | .makeInterface .. | .makeFunc .. | .convert .. | .build .. => true
  | .call c => match c.callee with
    | .builtin .len | .builtin .cap | .builtin .max | .builtin .min => true
    | _ => false
  | _ => false

theorem rdc_ext {s s' : AS} (h : Ext s s') {l o n : Nat} {cs : List AV} (hr : rdc s l o n = some cs) : rdc s' l o n = some cs := by
  unfold rdc at hr ⊢
  cases hl : s.h l with
  | none => simp [hl] at hr
  | some x => rw [h.1 l x hl]; rw [hl] at hr; exact hr
theorem rd1_ext {s s' : AS} (h : Ext s s') {l o : Nat} {v : AV} (hr : rd1 s l o = some v) : rd1 s' l o = some v := by
  unfold rd1 at hr ⊢
  cases hl : s.h l with
  | none => simp [hl] at hr
  | some x => rw [h.1 l x hl]; rw [hl] at hr; exact hr
theorem ald_ext {s s' : AS} (h : Ext s s') {T : TT} {t : TypeId} {p v : AV} (hr : ald T t s p = some v) : ald T t s' p = some v := by
  unfold ald at hr ⊢
  split at hr
  · rename_i l o
    split at hr
    · rename_i ha
      cases hs : T.siz t with
      | none => simp [hs] at hr
      | some n =>
        simp only [hs, Option.bind_some, Option.map_eq_some_iff] at hr ⊢
        obtain ⟨cs, hcs, e⟩ := hr
        exact ⟨cs, rdc_ext h hcs, e⟩
    · rename_i ha
      exact rd1_ext h hr
    · cases hr
  · cases hr

theorem alenB_ext {s s' : AS} (h : Ext s s') {T : TT} {t : TypeId} {x v : AV} (hr : alenB T t x s = some v) : alenB T t x s' = some v := by
  unfold alenB at hr ⊢
  split at hr <;> try (first | exact hr | (cases hr; done))
  rename_i l _
  cases hl : s.h l with
  | none => simp [hl] at hr
  | some o => rw [h.1 l o hl]; rw [hl] at hr; exact hr

theorem aop_quiet {T : TT} {op : Op} (hq : quietOp op = true) {ρ : Operand → AV} {s s' : AS} {v : AV} (hst : 1 ≤ s.st) (h : aop T op ρ s = some (v, s)) (he : Ext s s') : aop T op ρ s' = some (v, s') := by
  cases op <;> (first | (cases hq; done) | skip)
  case move x => simp only [aop] at h ⊢; simpa using h
  case assign x => simp only [aop] at h ⊢; simpa using h
  case pick c a b => simp only [aop] at h ⊢; split at h <;> simp_all
  case build t parts => simp only [aop, Option.map_eq_some_iff] at h ⊢; obtain ⟨u, hu, e⟩ := h; exact ⟨u, hu, by simp_all⟩
  case load t x => simp only [aop, Option.map_eq_some_iff] at h ⊢; obtain ⟨u, hu, e⟩ := h; exact ⟨u, ald_ext he hu, by simp_all⟩
  case nilCheck x => simp only [aop] at h ⊢; split at h <;> simp_all
  case binOp op t x y yt =>
    simp only [aop] at h ⊢
    split at h
    · rename_i hg; rw [if_pos hg]; simp only [Option.map_eq_some_iff] at h ⊢; obtain ⟨u, hu, e⟩ := h; exact ⟨u, hu, by simp_all⟩
    · cases h
  case unOp op t x => simp only [aop, Option.map_eq_some_iff] at h ⊢; obtain ⟨u, hu, e⟩ := h; exact ⟨u, hu, by simp_all⟩
  case convert src dst x =>
    simp only [aop] at h ⊢
    unfold aconvert at h ⊢
    split at h
    · simp_all
    · simp_all
    · split at h
      · simp only [Option.some.injEq, Prod.mk.injEq] at h
        have : s.nl + s.st = s.nl := congrArg AS.nl h.2
        omega
      · cases h
    · split at h
      · split at h <;> simp_all
      · cases h
    · split at h <;> simp_all
    · split at h
      · rename_i hu
        simp only [Option.bind_eq_some_iff, Option.map_eq_some_iff] at h ⊢
        obtain ⟨cs, hcs, bs, hbs, e⟩ := h
        exact ⟨cs, rdc_ext he hcs, bs, hbs, by simp_all⟩
      · cases h
    · cases h
  case makeInterface t x => simp only [aop] at h ⊢; split at h <;> simp_all
  case makeFunc fn first captured =>
    cases fn with
    | func g => simp only [aop] at h ⊢; split at h <;> simp_all
    | _ => simp [aop] at h
  case slice t x lo hi mx => simp only [aop, Option.map_eq_some_iff] at h ⊢; obtain ⟨u, hu, e⟩ := h; exact ⟨u, hu, by simp_all⟩
  case fieldAddr t x f => simp only [aop, Option.map_eq_some_iff] at h ⊢; obtain ⟨u, hu, e⟩ := h; exact ⟨u, hu, by simp_all⟩
  case field t x f => simp only [aop, Option.map_eq_some_iff] at h ⊢; obtain ⟨u, hu, e⟩ := h; exact ⟨u, hu, by simp_all⟩
  case indexAddr t x ix => simp only [aop, Option.map_eq_some_iff] at h ⊢; obtain ⟨u, hu, e⟩ := h; exact ⟨u, hu, by simp_all⟩
  case index t x ix => simp only [aop, Option.map_eq_some_iff] at h ⊢; obtain ⟨u, hu, e⟩ := h; exact ⟨u, hu, by simp_all⟩
  case lookup t x ix ok =>
    simp only [aop, Option.map_eq_some_iff] at h ⊢
    obtain ⟨u, hu, e⟩ := h
    refine ⟨u, ?_, by simp_all⟩
    unfold alookup at hu ⊢
    split at hu
    · rename_i kt et r ht _
      split at hu
      · rename_i hok
        rw [if_pos hok]
        simp only [Option.bind_eq_some_iff] at hu ⊢
        obtain ⟨es, hes, rest⟩ := hu
        refine ⟨es, ?_, rest⟩
        cases r with
        | none => exact hes
        | some l =>
          simp only at hes ⊢
          cases hl : s.h l with
          | none => simp [hl] at hes
          | some o => rw [he.1 l o hl]; rw [hl] at hes; exact hes
      · cases hu
    · cases hu
  case extract t i =>
    simp only [aop] at h ⊢
    split at h
    · rename_i vs hvs
      simp only [Option.map_eq_some_iff] at h ⊢
      obtain ⟨u, hu, e⟩ := h
      exact ⟨u, hu, by simp_all⟩
    · cases h
  case call c =>
    simp only [quietOp] at hq
    simp only [aop] at h ⊢
    cases hc : c.callee with
    | value x => simp [hc] at h
    | invoke x m => simp [hc] at h
    | builtin b =>
      simp only [hc] at h hq ⊢
      generalize c.argTypes.toList = ts at h ⊢
      generalize c.args.toList.map ρ = args at h ⊢
      cases b <;> first | (cases hq; done) | skip
      · cases ts with
        | nil => simp [abuiltin] at h
        | cons t ts =>
          cases args with
          | nil => simp [abuiltin] at h
          | cons x xs =>
            simp only [abuiltin, Option.map_eq_some_iff] at h ⊢
            obtain ⟨u, hu, e⟩ := h
            exact ⟨u, hu, by simp_all⟩
      · cases ts with
        | nil => simp [abuiltin] at h
        | cons t ts =>
          cases args with
          | nil => simp [abuiltin] at h
          | cons x xs =>
            simp only [abuiltin, Option.map_eq_some_iff] at h ⊢
            obtain ⟨u, hu, e⟩ := h
            exact ⟨u, alenB_ext he hu, by simp_all⟩
      · simp only [abuiltin, Option.map_eq_some_iff] at h ⊢
        obtain ⟨u, hu, e⟩ := h
        exact ⟨u, hu, by simp_all⟩
      · simp only [abuiltin, Option.map_eq_some_iff] at h ⊢
        obtain ⟨u, hu, e⟩ := h
        exact ⟨u, hu, by simp_all⟩

/-- j stands ahead of i in every order -/
def isAnc (ops : Array Oper) (j i : Nat) : Bool := ((Region.before ops).getD i 0).testBit j

theorem fold_bit (acc : Array Nat) (j : Nat) : ∀ (l : List Edge) (s : Nat), (l.foldl (fun s e => if Region.binds .any e then s ||| 2 ^ e.on ||| acc.getD e.on 0 else s) s).testBit j = true →
    s.testBit j = true ∨ ∃ e ∈ l, Region.binds .any e = true ∧ (e.on = j ∨ (acc.getD e.on 0).testBit j = true)
  | [], s, h => .inl h
  | e :: l, s, h => by
    simp only [List.foldl_cons] at h
    rcases fold_bit acc j l _ h with h1 | ⟨e', he', h2⟩
    · split at h1
      · rename_i hb
        simp only [Nat.testBit_or, Bool.or_eq_true] at h1
        rcases h1 with (h1 | h1) | h1
        · exact .inl h1
        · refine .inr ⟨e, by simp, hb, .inl ?_⟩
          rw [Nat.testBit_two_pow] at h1
          simpa using h1
        · exact .inr ⟨e, by simp, hb, .inr h1⟩
      · exact .inl h1
    · exact .inr ⟨e', by simp [he'], h2⟩

theorem before_fold (j : Nat) : ∀ (l : List Oper) (acc : Array Nat),
    let r := l.foldl (fun acc o => acc.push (o.after.foldl (fun s e => if Region.binds .any e then s ||| 2 ^ e.on ||| acc.getD e.on 0 else s) 0)) acc
    (∀ i, i < acc.size → r.getD i 0 = acc.getD i 0) ∧ (∀ (k : Nat) o, l[k]? = some o → (r.getD (acc.size + k) 0).testBit j = true →
      ∃ e ∈ o.after.toList, Region.binds .any e = true ∧ (e.on = j ∨ (e.on < acc.size + k ∧ (r.getD e.on 0).testBit j = true))) ∧ r.size = acc.size + l.length
  | [], acc => by simp
  | o :: l, acc => by
    simp only [List.foldl_cons]
    obtain ⟨h1, h2, h3⟩ := before_fold j l (acc.push (o.after.foldl (fun s e => if Region.binds .any e then s ||| 2 ^ e.on ||| acc.getD e.on 0 else s) 0))
    generalize hr : l.foldl (fun acc o => acc.push (o.after.foldl (fun s e => if Region.binds .any e then s ||| 2 ^ e.on ||| acc.getD e.on 0 else s) 0)) (acc.push (o.after.foldl (fun s e => if Region.binds .any e then s ||| 2 ^ e.on ||| acc.getD e.on 0 else s) 0)) = r at h1 h2 h3
    simp only [Array.size_push] at h1 h2 h3
    have hold : ∀ i, i < acc.size → r.getD i 0 = acc.getD i 0 := by
      intro i hi
      rw [h1 i (by omega)]
      simp only [Array.getD_eq_getD_getElem?, Array.getElem?_push]
      rw [if_neg (by omega)]
    refine ⟨hold, fun k o' hk hb => ?_, by simp only [List.length_cons]; omega⟩
    cases k with
    | zero =>
      obtain rfl : o = o' := by simpa using hk
      rw [Nat.add_zero, h1 acc.size (by omega)] at hb
      simp only [Array.getD_eq_getD_getElem?, Array.getElem?_push, if_true, Option.getD_some] at hb
      rw [← Array.foldl_toList] at hb
      have hb' : (o.after.toList.foldl (fun s e => if Region.binds .any e then s ||| 2 ^ e.on ||| acc.getD e.on 0 else s) 0).testBit j = true := by
        simpa only [Array.getD_eq_getD_getElem?] using hb
      rcases fold_bit acc j _ _ hb' with h | ⟨e, he, hbind, h⟩
      · simp at h
      · refine ⟨e, he, hbind, ?_⟩
        rcases h with h | h
        · exact .inl h
        · right
          have hlt : e.on < acc.size := by
            rcases Nat.lt_or_ge e.on acc.size with h' | h'
            · exact h'
            · simp [Array.getD_eq_getD_getElem?, Array.getElem?_eq_none h'] at h
          exact ⟨by omega, by rw [hold _ hlt]; exact h⟩
    | succ k =>
      have := h2 k o' (by simpa using hk) (by rw [show acc.size + 1 + k = acc.size + (k + 1) by omega]; exact hb)
      obtain ⟨e, he, hbind, h⟩ := this
      exact ⟨e, he, hbind, h.imp id fun ⟨ha, hb⟩ => ⟨by omega, hb⟩⟩

theorem isAnc_step {ops : Array Oper} {j i : Nat} {o : Oper} (ho : ops[i]? = some o) (h : isAnc ops j i = true) : ∃ e ∈ o.after.toList, Region.binds .any e = true ∧ (e.on = j ∨ (e.on < i ∧ isAnc ops j e.on = true)) := by
  obtain ⟨_, h2, _⟩ := before_fold j ops.toList #[]
  have hb : Region.before ops = ops.toList.foldl (fun acc o => acc.push (o.after.foldl (fun s e => if Region.binds .any e then s ||| 2 ^ e.on ||| acc.getD e.on 0 else s) 0)) #[] := by
    unfold Region.before; rw [← Array.foldl_toList]
  unfold isAnc at h ⊢
  rw [hb] at h ⊢
  have := h2 i o (by simpa using ho) (by simpa using h)
  simpa using this

/-- all that must stand ahead is listed -/
def Down (ops : Array Oper) (listed : Array Bool) : Prop := ∀ (i : Nat) o, ops[i]? = some o → listed.getD i false = true → ∀ e ∈ o.after.toList, Region.binds .any e = true → listed.getD e.on false = true

theorem anc_listed {ops : Array Oper} {listed : Array Bool} (hd : Down ops listed) {j : Nat} : ∀ (i : Nat) (o : Oper), ops[i]? = some o → (∀ e ∈ o.after.toList, Region.binds .any e = true → listed.getD e.on false = true) → isAnc ops j i = true → listed.getD j false = true := by
  intro i
  induction i using Nat.strongRecOn with
  | _ i ih =>
    intro o ho he ha
    obtain ⟨e, hem, hb, h⟩ := isAnc_step ho ha
    rcases h with rfl | ⟨hlt, h⟩
    · exact he e hem hb
    · have hl := he e hem hb
      cases ho' : ops[e.on]? with
      | none =>
        have hi : i < ops.size := by
          rcases Nat.lt_or_ge i ops.size with h | h
          · exact h
          · simp [Array.getElem?_eq_none h] at ho
        rw [Array.getElem?_eq_getElem (by omega)] at ho'
        cases ho'
      | some o' => exact ih e.on hlt o' ho' (hd e.on o' ho' hl) h

/-- What one operation comes to, said of its value. -/
def vcV (P : Program) (T : TT) (o : Oper) (f : Fr) (s : AS) (R : AV → AS → Prop) : Prop :=
  match acallee f o.op with
  | some (g, args) => ACalls P g args s R
  | none => ∃ v s', aop T o.op (aev f) s = some (v, s') ∧ R v s'

theorem vcOp_of_vcV {P : Program} {T : TT} {n : Nat} {o : Oper} {f : Fr} {s : AS} {R : AV → AS → Prop} {K : Fr → AS → Prop} (hd : dstOk n o.dst = true) (h : vcV P T o f s R) (hk : ∀ v s', R v s' → K (updO f o.dst v) s') : vcOp P T n o f s K := by
  refine ⟨hd, ?_⟩
  unfold vcV at h
  split
  · rename_i g args hc; rw [hc] at h; exact h.mono hk
  · rename_i hc; rw [hc] at h; obtain ⟨v, s', h1, h2⟩ := h; exact ⟨v, s', h1, hk _ _ h2⟩

abbrev Facts := List (Nat × (AS → Prop))

/-- what an operation is given -/
def keyOf (f : Fr) (o : Oper) : List AV := o.op.operands.toList.map (aev f)

section
variable (P : Program) (T : TT) (n : Nat) (ops : Array Oper) (A : List (List Nat)) (H : List Nat) (V : Nat → List AV → AV → Prop) (S : Nat → List AV → AV → AS → Prop) (s : AS)

def OpStep (i : Nat) (o : Oper) (f : Fr) (F : Facts) (K' : Fr → Facts → Prop) : Prop :=
  dstOk n o.dst = true ∧
  match awanted ops f o with
  | none => False
  | some false => K' (updO f o.dst .undef) F
  | some true =>
    if H.contains i then
      (∀ s', Ext s s' → WFs s' → (∀ p ∈ F, (A.getD i []).contains p.1 = true → p.2 s') → vcV P T o f s' fun v s'' => Ext s' s'' ∧ S i (keyOf f o) v s'' ∧ V i (keyOf f o) v) ∧
      (∃ v, V i (keyOf f o) v) ∧ ∀ v, V i (keyOf f o) v → K' (updO f o.dst v) (F ++ [(i, S i (keyOf f o) v)])
    else quietOp o.op = true ∧ ∃ v, aop T o.op (aev f) s = some (v, s) ∧ K' (updO f o.dst v) F

/-- The first part of a region that draws, in the order of the text; H: the operations that call, or make memory; V, S: what each of these gives. -/
def dq (K : Fr → AS → Prop) : List Nat → Fr → Facts → Prop
  | [], f, F => ∀ s', Ext s s' → WFs s' → (∀ p ∈ F, p.2 s') → (H = [] → s' = s) → K f s'
  | i :: is, f, F => match ops[i]? with
    | some o => OpStep P T n ops A H V S s i o f F (dq K is)
    | none => False
end

section
variable {P : Program} {T : TT} {n : Nat} {ops : Array Oper} {A : List (List Nat)} {H : List Nat} {V : Nat → List AV → AV → Prop} {S : Nat → List AV → AV → AS → Prop} {s : AS} {K : Fr → AS → Prop}

theorem OpStep.mono {i : Nat} {o : Oper} {f : Fr} {F : Facts} {K1 K2 : Fr → Facts → Prop} (h : OpStep P T n ops A H V S s i o f F K1) (hk : ∀ f F, K1 f F → K2 f F) : OpStep P T n ops A H V S s i o f F K2 := by
  obtain ⟨hd, h⟩ := h
  refine ⟨hd, ?_⟩
  split
  · rename_i hw; rw [hw] at h; exact h
  · rename_i hw; rw [hw] at h; exact hk _ _ h
  · rename_i hw
    rw [hw] at h
    simp only at h
    split
    · rename_i hh; rw [if_pos hh] at h; exact ⟨h.1, h.2.1, fun v hv => hk _ _ (h.2.2 v hv)⟩
    · rename_i hh; rw [if_neg hh] at h; obtain ⟨h1, v, h2, h3⟩ := h; exact ⟨h1, v, h2, hk _ _ h3⟩

theorem dq_congr : ∀ (is : List Nat) (f : Fr) (F F' : Facts), (∀ p, p ∈ F ↔ p ∈ F') → dq P T n ops A H V S s K is f F → dq P T n ops A H V S s K is f F'
  | [], f, F, F', hF, h => fun s' he hwf hp => h s' he hwf fun p hm => hp p ((hF p).1 hm)
  | i :: is, f, F, F', hF, h => by
    simp only [dq] at h ⊢
    cases ho : ops[i]? with
    | none => rw [ho] at h; exact h
    | some o =>
      rw [ho] at h
      obtain ⟨hd, h⟩ := h
      refine ⟨hd, ?_⟩
      split
      · rename_i hw; rw [hw] at h; exact h
      · rename_i hw; rw [hw] at h; exact dq_congr is _ F F' hF h
      · rename_i hw
        rw [hw] at h
        simp only at h
        split
        · rename_i hh
          rw [if_pos hh] at h
          refine ⟨fun s' he hwf hp => h.1 s' he hwf fun p hm => hp p ((hF p).1 hm), h.2.1, fun v hv => dq_congr is _ _ _ ?_ (h.2.2 v hv)⟩
          intro p; simp [hF]
        · rename_i hh
          rw [if_neg hh] at h
          obtain ⟨h1, v, h2, h3⟩ := h
          exact ⟨h1, v, h2, dq_congr is _ F F' hF h3⟩

theorem aop_congr {T : TT} {op : Op} {ρ ρ' : Operand → AV} (h : ∀ x ∈ op.operands, ρ x = ρ' x) (s : AS) : aop T op ρ s = aop T op ρ' s := by
  have hl : ∀ (l : List Operand), (∀ x ∈ l, ρ x = ρ' x) → l.map ρ = l.map ρ' := fun l hl => List.map_congr_left hl
  have ho : ∀ (o : Option Operand), (∀ x ∈ o, ρ x = ρ' x) → o.map ρ = o.map ρ' := by
    intro o ho; cases o with
    | none => rfl
    | some x => simp [ho x (by simp)]
  have hp : ∀ (l : List (Nat × Operand)), (∀ x ∈ l.map (·.2), ρ x = ρ' x) → (l.map fun p => (p.1, ρ p.2)) = (l.map fun p => (p.1, ρ' p.2)) := by
    intro l hl
    refine List.map_congr_left fun p hm => ?_
    rw [hl p.2 (List.mem_map.2 ⟨p, hm, rfl⟩)]
  cases op with
  | move x => simp only [aop, h x (by simp [Op.operands])]
  | assign x => simp only [aop, h x (by simp [Op.operands])]
  | pick c a b => simp only [aop, h c (by simp [Op.operands]), h a (by simp [Op.operands]), h b (by simp [Op.operands])]
  | box t x => simp only [aop, h x (by simp [Op.operands])]
  | load t x => simp only [aop, h x (by simp [Op.operands])]
  | nilCheck x => simp only [aop, h x (by simp [Op.operands])]
  | unOp o t x => simp only [aop, h x (by simp [Op.operands])]
  | convert t u x => simp only [aop, h x (by simp [Op.operands])]
  | makeInterface t x => simp only [aop, h x (by simp [Op.operands])]
  | fieldAddr t x f => simp only [aop, h x (by simp [Op.operands])]
  | field t x f => simp only [aop, h x (by simp [Op.operands])]
  | extract x i => simp only [aop, h x (by simp [Op.operands])]
  | range t x => simp only [aop, h x (by simp [Op.operands])]
  | build t ps => simp only [aop]; rw [hp ps.toList (by intro x hx; exact h x (by simpa [Op.operands] using hx))]
  | buildSlice t n ps => simp only [aop]; rw [hp ps.toList (by intro x hx; exact h x (by simpa [Op.operands] using hx))]
  | store t a v => simp only [aop, h a (by simp [Op.operands]), h v (by simp [Op.operands])]
  | binOp o t a v u => simp only [aop, h a (by simp [Op.operands]), h v (by simp [Op.operands])]
  | makeSlice t a v => simp only [aop, h a (by simp [Op.operands]), h v (by simp [Op.operands])]
  | indexAddr t a v => simp only [aop, h a (by simp [Op.operands]), h v (by simp [Op.operands])]
  | index t a v => simp only [aop, h a (by simp [Op.operands]), h v (by simp [Op.operands])]
  | lookup t a v ok => simp only [aop, h a (by simp [Op.operands]), h v (by simp [Op.operands])]
  | mapUpdate t m k v => simp only [aop, h m (by simp [Op.operands]), h k (by simp [Op.operands]), h v (by simp [Op.operands])]
  | insert t m k v => simp only [aop, h m (by simp [Op.operands]), h k (by simp [Op.operands]), h v (by simp [Op.operands])]
  | slice t x lo hi mx =>
    simp only [aop, h x (by simp [Op.operands])]
    rw [ho lo (by intro y hy; exact h y (by simp [Op.operands]; simp at hy; simp [hy])), ho hi (by intro y hy; exact h y (by simp [Op.operands]; simp at hy; simp [hy])), ho mx (by intro y hy; exact h y (by simp [Op.operands]; simp at hy; simp [hy]))]
  | makeFunc fn first captured =>
    cases fn with
    | func g => simp only [aop]; rw [hl captured.toList (by intro x hx; exact h x (by simp only [Op.operands, Array.mem_append]; exact .inr (by simpa using hx))), hl first.toList (by intro x hx; exact h x (by simp only [Op.operands, Array.mem_append]; exact .inl (by simpa using hx)))]
    | _ => rfl
  | makeMap t r => cases r <;> rfl
  | call c =>
    simp only [aop]
    cases hc : c.callee with
    | builtin b =>
      simp only
      rw [hl c.args.toList (by intro x hx; exact h x (by simp only [Op.operands, Call.operands, hc, Array.mem_append]; exact .inr (by simpa using hx)))]
    | _ => rfl
  | _ => rfl

theorem aev_updO {f : Fr} {d : Option Nat} {v : AV} {x : Operand} (h : ∀ t, d = some t → x ≠ .tmp t) : aev (updO f d v) x = aev f x := by
  cases x with
  | tmp t =>
    cases d with
    | none => rfl
    | some d => simp only [aev, updO]; exact upd_ne f v (fun e => h d rfl (by rw [e]))
  | _ => cases d <;> rfl

/-- the operands, and the guard's, are what they were -/
theorem looks_same {o : Oper} {f : Fr} {d : Option Nat} {v : AV} (h : ∀ t, d = some t → t ∉ o.looksAt ops) : awanted ops (updO f d v) o = awanted ops f o ∧ acallee (updO f d v) o.op = acallee f o.op ∧ ∀ s, aop T o.op (aev (updO f d v)) s = aop T o.op (aev f) s := by
  have hop : ∀ x ∈ o.op.operands, aev (updO f d v) x = aev f x := by
    intro x hx
    refine aev_updO fun t ht e => h t ht ?_
    subst e
    simp only [Oper.looksAt, List.mem_append, List.mem_filterMap]
    exact .inl ⟨.tmp t, by simpa using hx, rfl⟩
  refine ⟨?_, ?_, ?_⟩
  · unfold awanted
    cases hg : o.guard with
    | none => rfl
    | some p =>
      obtain ⟨j, want⟩ := p
      simp only
      cases hd : (ops[j]?).bind (·.dst) with
      | none => rfl
      | some t =>
        simp only
        have ht : updO f d v t = f t := by
          cases d with
          | none => rfl
          | some d =>
            simp only [updO]
            refine upd_ne f v fun e => h d rfl ?_
            subst e
            simp only [Oper.looksAt, List.mem_append, hg, hd]
            right; simp
        rw [ht]
  · unfold acallee
    cases hq : o.op <;> try rfl
    rename_i c
    simp only
    rw [hq] at hop
    cases hc : c.callee with
    | value x =>
      simp only
      have hx := hop x (by simp [Op.operands, Call.operands, hc])
      have ha : c.args.toList.map (aev (updO f d v)) = c.args.toList.map (aev f) := by
        refine List.map_congr_left fun y hy => hop y ?_
        simp only [Op.operands, Call.operands, hc, Array.mem_append]
        exact .inr (by simpa using hy)
      rw [hx, ha]
    | _ => rfl
  · intro s
    revert hop
    generalize aev (updO f d v) = ρ
    generalize aev f = ρ'
    intro hop
    exact aop_congr hop s

theorem key_same {o : Oper} {f : Fr} {d : Option Nat} {v : AV} (h : ∀ t, d = some t → t ∉ o.looksAt ops) : keyOf (updO f d v) o = keyOf f o := by
  refine List.map_congr_left fun x hx => aev_updO fun t ht e => h t ht ?_
  subst e
  simp only [Oper.looksAt, List.mem_append, List.mem_filterMap]
  exact .inl ⟨.tmp t, by simpa using hx, rfl⟩

theorem updO_comm {f : Fr} {d e : Option Nat} {u v : AV} (h : ∀ t, d = some t → e ≠ some t) : updO (updO f d u) e v = updO (updO f e v) d u := by
  cases d with
  | none => rfl
  | some d =>
    cases e with
    | none => rfl
    | some e =>
      have hne : e ≠ d := fun x => h d rfl (by rw [x])
      funext t
      simp only [updO, upd]
      by_cases h1 : t = e
      · subst h1; rw [if_pos rfl, if_neg hne, if_pos rfl]
      · rw [if_neg h1]
        by_cases h2 : t = d
        · subst h2; rw [if_pos rfl, if_pos rfl]
        · rw [if_neg h2, if_neg h2, if_neg h1]

/-- two operations of which neither touches what the other one touches, and neither of which waits for the other -/
def Free (ops : Array Oper) (A : List (List Nat)) (i j : Nat) (oi oj : Oper) : Prop :=
  oi.apart ops oj = true ∧ (A.getD j []).contains i = false ∧ (A.getD i []).contains j = false

theorem vcV_same {o : Oper} {f : Fr} {d : Option Nat} {v : AV} (h : ∀ t, d = some t → t ∉ o.looksAt ops) {s : AS} {R : AV → AS → Prop} : vcV P T o (updO f d v) s R ↔ vcV P T o f s R := by
  obtain ⟨_, h2, h3⟩ := looks_same (T := T) (ops := ops) (f := f) (v := v) h
  unfold vcV
  rw [h2]
  constructor
  · intro hh
    split at hh
    · exact hh
    · obtain ⟨v, s', a, b⟩ := hh; exact ⟨v, s', by rw [← h3]; exact a, b⟩
  · intro hh
    split at hh
    · exact hh
    · obtain ⟨v, s', a, b⟩ := hh; exact ⟨v, s', by rw [h3]; exact a, b⟩

theorem dq_pull {j : Nat} {oj : Oper} (hoj : ops[j]? = some oj) : ∀ (pre post : List Nat) (f : Fr) (F : Facts), (∀ i ∈ pre, ∀ oi, ops[i]? = some oi → Free ops A i j oi oj) →
    dq P T n ops A H V S s K (pre ++ j :: post) f F → OpStep P T n ops A H V S s j oj f F (dq P T n ops A H V S s K (pre ++ post))
  | [], post, f, F, _, h => by simpa only [List.nil_append, dq, hoj] using h
  | i :: pre, post, f, F, hfree, h => by
    simp only [List.cons_append, dq] at h ⊢
    cases hoi : ops[i]? with
    | none => rw [hoi] at h; exact h.elim
    | some oi =>
      rw [hoi] at h
      simp only at h
      obtain ⟨hap, hAj, hAi⟩ := hfree i (by simp) oi hoi
      obtain ⟨ha1, ha2, ha3⟩ := Oper.apart_spec hap
      have hfree' : ∀ i ∈ pre, ∀ oi, ops[i]? = some oi → Free ops A i j oi oj := fun i hi => hfree i (List.mem_cons_of_mem _ hi)
      -- a step of j at a frame that i has written is one at the frame before
      have back : ∀ (u : AV) (F2 : Facts), (∀ p ∈ F2, (A.getD j []).contains p.1 = true → p ∈ F) → ∀ K1 K2 : Fr → Facts → Prop,
          OpStep P T n ops A H V S s j oj (updO f oi.dst u) F2 K1 →
          ((dstOk n oj.dst = true ∧ awanted ops f oj = some false) ∨
           (dstOk n oj.dst = true ∧ awanted ops f oj = some true ∧ H.contains j = true ∧ (∀ s', Ext s s' → WFs s' → (∀ p ∈ F, (A.getD j []).contains p.1 = true → p.2 s') → vcV P T oj f s' fun v s'' => Ext s' s'' ∧ S j (keyOf f oj) v s'' ∧ V j (keyOf f oj) v) ∧ ∃ v, V j (keyOf f oj) v) ∨
           (dstOk n oj.dst = true ∧ awanted ops f oj = some true ∧ H.contains j = false ∧ quietOp oj.op = true ∧ ∃ v, aop T oj.op (aev f) s = some (v, s))) := by
        intro u F2 hF2 K1 K2 hs
        obtain ⟨hd, hs⟩ := hs
        obtain ⟨l1, l2, l3⟩ := looks_same (T := T) (ops := ops) (o := oj) (f := f) (d := oi.dst) (v := u) ha1
        rw [l1, key_same (ops := ops) ha1] at hs
        cases hw : awanted ops f oj with
        | none => rw [hw] at hs; exact hs.elim
        | some b =>
          rw [hw] at hs
          cases b with
          | false => exact .inl ⟨hd, rfl⟩
          | true =>
            simp only at hs
            by_cases hh : H.contains j = true
            · rw [if_pos hh] at hs
              refine .inr (.inl ⟨hd, rfl, hh, fun s' he hwf hp => ?_, hs.2.1⟩)
              exact (vcV_same ha1).1 (hs.1 s' he hwf fun p hm hc => hp p (hF2 p hm hc) hc)
            · rw [if_neg hh] at hs
              obtain ⟨h1, v, h2, _⟩ := hs
              exact .inr (.inr ⟨hd, rfl, by simpa using hh, h1, v, by rw [← l3]; exact h2⟩)
      -- i's own step at a frame that j has written
      have li := fun (u : AV) => looks_same (T := T) (ops := ops) (o := oi) (f := f) (d := oj.dst) (v := u) ha3
      have hcomm : ∀ u v, updO (updO f oi.dst u) oj.dst v = updO (updO f oj.dst v) oi.dst u := fun u v => updO_comm ha2
      obtain ⟨hdi, h⟩ := h
      cases hwi : awanted ops f oi with
      | none => rw [hwi] at h; exact h.elim
      | some bi =>
        rw [hwi] at h
        cases bi with
        | false =>
          simp only at h
          have ih := dq_pull hoj pre post _ F hfree' h
          have fwd : ∀ v F2, dq P T n ops A H V S s K (pre ++ post) (updO (updO f oi.dst .undef) oj.dst v) F2 → OpStep P T n ops A H V S s i oi (updO f oj.dst v) F2 (dq P T n ops A H V S s K (pre ++ post)) := by
            intro v F2 hh
            refine ⟨hdi, ?_⟩
            rw [(li v).1, hwi]
            simp only
            rw [← hcomm]; exact hh
          obtain ⟨l1, l2, l3⟩ := looks_same (T := T) (ops := ops) (o := oj) (f := f) (d := oi.dst) (v := .undef) ha1
          obtain ⟨hd, ih⟩ := ih
          refine ⟨hd, ?_⟩
          rw [l1, key_same (ops := ops) ha1] at ih
          cases hw : awanted ops f oj with
          | none => rw [hw] at ih; exact ih
          | some b =>
            rw [hw] at ih
            cases b with
            | false => exact fwd _ _ ih
            | true =>
              simp only at ih ⊢
              by_cases hh : H.contains j = true
              · rw [if_pos hh] at ih ⊢
                exact ⟨fun s' he hwf hp => (vcV_same ha1).1 (ih.1 s' he hwf hp), ih.2.1, fun v hv => fwd _ _ (ih.2.2 v hv)⟩
              · rw [if_neg hh] at ih ⊢
                obtain ⟨h1, v, h2, h3⟩ := ih
                exact ⟨h1, v, by rw [← l3]; exact h2, fwd _ _ h3⟩
        | true =>
          simp only at h
          by_cases hhi : H.contains i = true
          · rw [if_pos hhi] at h
            obtain ⟨hA, ⟨v0, hv0⟩, hK⟩ := h
            have ih := fun v hv => dq_pull hoj pre post _ _ hfree' (hK v hv)
            have hF2 : ∀ v, ∀ p ∈ F ++ [(i, S i (keyOf f oi) v)], (A.getD j []).contains p.1 = true → p ∈ F := by
              intro v p hp hc
              rcases List.mem_append.1 hp with h | h
              · exact h
              · obtain rfl := List.mem_singleton.1 h
                rw [hAj] at hc; cases hc
            have fwd : ∀ v F2, (∀ p ∈ F, p ∈ F2) → (∀ u, V i (keyOf f oi) u → dq P T n ops A H V S s K (pre ++ post) (updO (updO f oi.dst u) oj.dst v) (F2 ++ [(i, S i (keyOf f oi) u)])) →
                OpStep P T n ops A H V S s i oi (updO f oj.dst v) F2 (dq P T n ops A H V S s K (pre ++ post)) := by
              intro v F2 hf2 hh
              refine ⟨hdi, ?_⟩
              rw [(li v).1, hwi, key_same (ops := ops) ha3]
              simp only
              rw [if_pos hhi]
              exact ⟨fun s' he hwf hp => (vcV_same ha3).2 (hA s' he hwf fun p hm hc => hp p (hf2 p hm) hc), ⟨v0, hv0⟩, fun u hu => by rw [← hcomm]; exact hh u hu⟩
            have l := fun (u : AV) => looks_same (T := T) (ops := ops) (o := oj) (f := f) (d := oi.dst) (v := u) ha1
            rcases back v0 _ (hF2 v0) _ (fun _ _ => True) (ih v0 hv0) with ⟨hd, hw⟩ | ⟨hd, hw, hh, hAj', hVj⟩ | ⟨hd, hw, hh, hq, v, hv⟩
            · refine ⟨hd, ?_⟩
              rw [hw]
              refine fwd _ F (fun _ h => h) fun u hu => ?_
              have := (ih u hu).2
              rw [(l u).1, hw, key_same (ops := ops) ha1] at this
              exact this
            · refine ⟨hd, ?_⟩
              rw [hw]
              simp only
              rw [if_pos hh]
              refine ⟨hAj', hVj, fun v hv => fwd v _ (fun p hp => List.mem_append_left _ hp) fun u hu => ?_⟩
              have := (ih u hu).2
              rw [(l u).1, hw, key_same (ops := ops) ha1] at this
              simp only at this
              rw [if_pos hh] at this
              refine dq_congr _ _ _ _ ?_ (this.2.2 v hv)
              intro p
              simp only [List.mem_append, List.mem_singleton]
              constructor
              · rintro ((h | h) | h)
                · exact .inl (.inl h)
                · exact .inr h
                · exact .inl (.inr h)
              · rintro ((h | h) | h)
                · exact .inl (.inl h)
                · exact .inr h
                · exact .inl (.inr h)
            · refine ⟨hd, ?_⟩
              rw [hw]
              simp only
              rw [if_neg (by rw [hh]; simp)]
              refine ⟨hq, v, hv, fwd v F (fun _ h => h) fun u hu => ?_⟩
              have := (ih u hu).2
              rw [(l u).1, hw, key_same (ops := ops) ha1] at this
              simp only at this
              rw [if_neg (by rw [hh]; simp)] at this
              obtain ⟨_, v', hv', hk⟩ := this
              rw [(l u).2.2, hv] at hv'
              have e : v = v' := by simpa using hv'
              rw [e]; exact hk
          · rw [if_neg hhi] at h
            obtain ⟨hq, u, hu, hK⟩ := h
            have ih := dq_pull hoj pre post _ F hfree' hK
            have fwd : ∀ v F2, dq P T n ops A H V S s K (pre ++ post) (updO (updO f oi.dst u) oj.dst v) F2 → OpStep P T n ops A H V S s i oi (updO f oj.dst v) F2 (dq P T n ops A H V S s K (pre ++ post)) := by
              intro v F2 hh
              refine ⟨hdi, ?_⟩
              rw [(li v).1, hwi]
              simp only
              rw [if_neg hhi]
              exact ⟨hq, u, by rw [(li v).2.2]; exact hu, by rw [← hcomm]; exact hh⟩
            obtain ⟨l1, l2, l3⟩ := looks_same (T := T) (ops := ops) (o := oj) (f := f) (d := oi.dst) (v := u) ha1
            obtain ⟨hd, ih⟩ := ih
            refine ⟨hd, ?_⟩
            rw [l1, key_same (ops := ops) ha1] at ih
            cases hw : awanted ops f oj with
            | none => rw [hw] at ih; exact ih
            | some b =>
              rw [hw] at ih
              cases b with
              | false => exact fwd _ _ ih
              | true =>
                simp only at ih ⊢
                by_cases hh : H.contains j = true
                · rw [if_pos hh] at ih ⊢
                  exact ⟨fun s' he hwf hp => (vcV_same ha1).1 (ih.1 s' he hwf hp), ih.2.1, fun v hv => fwd _ _ (ih.2.2 v hv)⟩
                · rw [if_neg hh] at ih ⊢
                  obtain ⟨h1, v, h2, h3⟩ := ih
                  exact ⟨h1, v, by rw [← l3]; exact h2, fwd _ _ h3⟩


/-- what a region's orders must be like: m: where the part begins whose operations each wait for all ahead of them; bs: who waits for whom -/
def drawOk (ops : Array Oper) (m : Nat) (A : List (List Nat)) (bs : List Nat) : Bool :=
  decide (Region.before ops = bs.toArray) && decide (m ≤ ops.size) &&
  (List.range ops.size).all fun i => (ops[i]?).all (fun o => o.after.toList.all fun e => decide (e.on < i) || !Region.binds .any e) &&
    if m ≤ i then (List.range i).all fun j => (bs.getD i 0).testBit j
    else ((A.getD i []).all fun j => (bs.getD i 0).testBit j && decide (j < i)) &&
      (List.range i).all fun j => (bs.getD i 0).testBit j || ((ops[j]?).any fun x => (ops[i]?).any fun y => x.apart ops y)

structure DrawFacts (ops : Array Oper) (m : Nat) (A : List (List Nat)) : Prop where
  le : m ≤ ops.size
  back : ∀ (i : Nat) o, ops[i]? = some o → ∀ e ∈ o.after.toList, Region.binds .any e = true → e.on < i
  tail : ∀ i, i < ops.size → m ≤ i → ∀ j, j < i → isAnc ops j i = true
  anc : ∀ i, i < m → ∀ j ∈ A.getD i [], isAnc ops j i = true ∧ j < i
  free : ∀ i, i < m → ∀ j, j < i → isAnc ops j i = true ∨ ∃ x y, ops[j]? = some x ∧ ops[i]? = some y ∧ x.apart ops y = true

theorem drawFacts {ops : Array Oper} {m : Nat} {A : List (List Nat)} {bs : List Nat} (h : drawOk ops m A bs = true) : DrawFacts ops m A := by
  simp only [drawOk, Bool.and_eq_true, decide_eq_true_eq, List.all_eq_true, List.mem_range] at h
  obtain ⟨⟨hb, hm⟩, h⟩ := h
  have hanc : ∀ j i, isAnc ops j i = (bs.getD i 0).testBit j := by
    intro j i; unfold isAnc; rw [hb]; simp [List.getD_eq_getElem?_getD]
  have hlt : ∀ (i : Nat) o, ops[i]? = some o → i < ops.size := by
    intro i o ho
    rcases Nat.lt_or_ge i ops.size with h | h
    · exact h
    · simp [Array.getElem?_eq_none h] at ho
  refine ⟨hm, fun i o ho e he hbi => ?_, fun i hi hmi j hj => ?_, fun i hi j hj => ?_, fun i hi j hj => ?_⟩
  · have := (h i (hlt i o ho)).1
    rw [ho] at this
    simp only [Option.all_some, List.all_eq_true, Bool.or_eq_true, decide_eq_true_eq] at this
    rcases this e he with h | h
    · exact h
    · rw [hbi] at h; simp at h
  · have := (h i hi).2
    rw [if_pos hmi] at this
    rw [hanc]
    simp only [List.all_eq_true, List.mem_range] at this
    exact this j hj
  · have := (h i (by omega)).2
    rw [if_neg (by omega)] at this
    simp only [Bool.and_eq_true, List.all_eq_true, decide_eq_true_eq] at this
    rw [hanc]
    exact this.1 j hj
  · have := (h i (by omega)).2
    rw [if_neg (by omega)] at this
    simp only [Bool.and_eq_true, List.all_eq_true, List.mem_range, Bool.or_eq_true] at this
    rcases this.2 j hj with h | h
    · exact .inl (by rw [hanc]; exact h)
    · simp only [Option.any_eq_true] at h
      obtain ⟨x, hx, y, hy, h⟩ := h
      exact .inr ⟨x, y, hx, hy, h⟩

/-- what is listed is known -/
structure Listed (ops : Array Oper) (listed : Array Bool) (p : Nat → Prop) : Prop where
  size : listed.size = ops.size
  iff : ∀ i, i < ops.size → (listed.getD i false = true ↔ p i)

theorem ready_iff {ops : Array Oper} {listed : Array Bool} {p : Nat → Prop} (hL : Listed ops listed p) (i : Nat) :
    i ∈ Region.ready .any ops listed ↔ ∃ o, ops[i]? = some o ∧ ¬ p i ∧ ∀ e ∈ o.after.toList, Region.binds .any e = true → listed.getD e.on false = true := by
  unfold Region.ready
  simp only [List.mem_filter, List.mem_range, Bool.and_eq_true, Bool.not_eq_true']
  constructor
  · rintro ⟨hi, h1, h2⟩
    refine ⟨ops[i], Array.getElem?_eq_getElem hi, ?_, ?_⟩
    · intro hp
      have := (hL.iff i hi).2 hp
      simp only [Array.getD_eq_getD_getElem?] at h1 this
      rw [Array.getElem?_eq_getElem (by rw [hL.size]; exact hi)] at h1 this
      simp only [Option.getD_some] at h1 this
      rw [h1] at this; cases this
    · intro e he hb
      rw [Array.getElem?_eq_getElem hi] at h2
      simp only [Option.map_some, Option.getD_some] at h2
      have := Array.all_eq_true'.1 h2 e (by simpa using he)
      rw [hb] at this
      simpa using this
  · rintro ⟨o, ho, hp, h⟩
    have hi : i < ops.size := by
      rcases Nat.lt_or_ge i ops.size with h | h
      · exact h
      · simp [Array.getElem?_eq_none h] at ho
    refine ⟨hi, ?_, ?_⟩
    · cases hq : listed.getD i true with
      | false => rfl
      | true =>
        exfalso
        apply hp
        rw [← hL.iff i hi]
        simp only [Array.getD_eq_getD_getElem?] at hq ⊢
        rw [Array.getElem?_eq_getElem (by rw [hL.size]; exact hi)] at hq ⊢
        exact hq
    · rw [ho]
      simp only [Option.map_some, Option.getD_some]
      rw [Array.all_eq_true']
      intro e he
      cases hb : Region.binds .any e with
      | false => simp
      | true => simp [h e (by simpa using he) hb]

theorem Listed.set {ops : Array Oper} {listed : Array Bool} {p p' : Nat → Prop} (hL : Listed ops listed p) {i : Nat} (hp : ∀ j, p' j ↔ (j = i ∨ p j)) : Listed ops (listed.setIfInBounds i true) p' := by
  refine ⟨by simp [hL.size], fun j hj => ?_⟩
  simp only [Array.getD_eq_getD_getElem?]
  rw [Array.getElem?_setIfInBounds]
  have := hL.iff j hj
  simp only [Array.getD_eq_getD_getElem?] at this
  by_cases h : i = j
  · subst h; simp [hL.size, hj, hp]
  · rw [if_neg h, hp, this]
    constructor
    · exact .inr
    · rintro (h' | h')
      · exact absurd h'.symm h
      · exact h'

theorem Listed.down {ops : Array Oper} {m : Nat} {A : List (List Nat)} (hD : DrawFacts ops m A) {listed : Array Bool} {p : Nat → Prop} (hL : Listed ops listed p)
    (hp : ∀ i, i < ops.size → p i → ∀ o, ops[i]? = some o → ∀ e ∈ o.after.toList, Region.binds .any e = true → p e.on) : Down ops listed := by
  intro i o ho hl e he hb
  have hi : i < ops.size := by
    rcases Nat.lt_or_ge i ops.size with h | h
    · exact h
    · simp [Array.getElem?_eq_none h] at ho
  have hlt := hD.back i o ho e he hb
  exact (hL.iff e.on (by omega)).2 (hp i hi ((hL.iff i hi).1 hl) o ho e he hb)

theorem tail_sound (hT : TT.Ok P T) {m : Nat} (hD : DrawFacts ops m A) {Q : Exit → Fr → AS → Prop} {B : Nat} {γ0 : Gam} {s0 : AS} {w0 : World} : ∀ (fuel k : Nat) (listed : Array Bool) (f : Fr) (s : AS) (γ : Gam) (a : Act) (w : World),
    m ≤ k → k ≤ ops.size → Listed ops listed (· < k) → ops.size - k ≤ fuel → vcOps P T n ops (ops.toList.drop k) f s (fun f s => Q .normal f s) → FRel γ n f a → Rel B γ s w → Did B γ0 s0 w0 γ s w →
    wpAny P .any ops (PostR B γ0 s0 w0 n Q) fuel listed a w := by
  intro fuel
  induction fuel with
  | zero =>
    intro k listed f s γ a w hm hk hL hf h hfr hr hd
    have hk' : k = ops.size := by omega
    subst hk'
    rw [List.drop_eq_nil_of_le (by simp)] at h
    refine ⟨?_, γ, f, s, hfr, hd, hr, h⟩
    rw [List.eq_nil_iff_forall_not_mem]
    intro i hi
    obtain ⟨o, ho, hp, _⟩ := (ready_iff hL i).1 hi
    apply hp
    rcases Nat.lt_or_ge i ops.size with h | h
    · exact h
    · simp [Array.getElem?_eq_none h] at ho
  | succ fuel ih =>
    intro k listed f s γ a w hm hk hL hf h hfr hr hd
    rcases Nat.lt_or_ge k ops.size with hlt | hge
    · have hdr : ops.toList.drop k = ops[k] :: ops.toList.drop (k + 1) := by
        rw [List.drop_eq_getElem_cons (by simpa using hlt)]; simp
      have hok : ops[k]? = some ops[k] := Array.getElem?_eq_getElem hlt
      have hready : ∀ i, i ∈ Region.ready .any ops listed → i = k := by
        intro i hi
        obtain ⟨o, ho, hp, he⟩ := (ready_iff hL i).1 hi
        have hil : i < ops.size := by
          rcases Nat.lt_or_ge i ops.size with h | h
          · exact h
          · simp [Array.getElem?_eq_none h] at ho
        rcases Nat.lt_trichotomy i k with h | h | h
        · exact absurd h hp
        · exact h
        · exfalso
          have hdown := hL.down hD (fun i _ hik o ho e he hb => by have := hD.back i o ho e he hb; omega)
          have := anc_listed hdown i o ho he (hD.tail i hil (by omega) k h)
          have := (hL.iff k hlt).1 this
          omega
      refine ⟨fun hnil => ?_, fun i hi => ?_⟩
      · exfalso
        have : k ∈ Region.ready .any ops listed := by
          refine (ready_iff hL k).2 ⟨_, hok, by omega, fun e he hb => ?_⟩
          have := hD.back k _ hok e he hb
          exact (hL.iff e.on (by omega)).2 this
        rw [hnil] at this; cases this
      · obtain rfl := hready i hi
        rw [hdr] at h
        simp only [vcOps] at h
        have hL' : Listed ops (listed.setIfInBounds i true) (· < i + 1) := hL.set fun j => by omega
        unfold wpOp
        rw [hok]
        simp only
        split at h
        · rename_i hw
          rw [awanted_run hfr hw, if_pos rfl]
          exact .inl (vcOp_sound hT h hfr hr fun γ' f' s' a' w' h1 h2 h3 h4 => ih (i + 1) _ f' s' γ' a' w' (by omega) (by omega) hL' (by omega) h4 h1 h3 (hd.trans h2))
        · rename_i hw
          rw [awanted_run hfr hw, if_neg (by simp)]
          exact ih (i + 1) _ _ s γ _ w (by omega) (by omega) hL' (by omega) h.2 (hfr.put h.1 (vundef γ)) hr hd
        · exact h.elim
    · have hk' : k = ops.size := by omega
      subst hk'
      rw [List.drop_eq_nil_of_le (by simp)] at h
      have hnil : Region.ready .any ops listed = [] := by
        rw [List.eq_nil_iff_forall_not_mem]
        intro i hi
        obtain ⟨o, ho, hp, _⟩ := (ready_iff hL i).1 hi
        apply hp
        rcases Nat.lt_or_ge i ops.size with h | h
        · exact h
        · simp [Array.getElem?_eq_none h] at ho
      refine ⟨fun _ => ⟨γ, f, s, hfr, hd, hr, h⟩, fun i hi => ?_⟩
      rw [hnil] at hi; cases hi

theorem quiet_sound (hT : TT.Ok P T) (hst : 1 ≤ s.st) {m : Nat} (hD : DrawFacts ops m A) (hS : ∀ i k v s s', Ext s s' → S i k v s → S i k v s') {Q : Exit → Fr → AS → Prop} {B : Nat} {γ0 : Gam} {s0 : AS} {w0 : World} :
    ∀ (fuel : Nat) (q : List Nat) (listed : Array Bool) (f : Fr) (F : Facts) (s1 : AS) (γ : Gam) (a : Act) (w : World),
    q.Pairwise (· < ·) → (∀ i ∈ q, i < m) → Listed ops listed (fun i => i < m ∧ i ∉ q) → q.length + (ops.size - m) ≤ fuel →
    dq P T n ops A H V S s (fun f s' => vcOps P T n ops (ops.toList.drop m) f s' (fun f s => Q .normal f s)) q f F → Ext s s1 → (H = [] → s1 = s) → (∀ p ∈ F, p.2 s1) → (∀ p ∈ F, ∀ s s', Ext s s' → p.2 s → p.2 s') →
    FRel γ n f a → Rel B γ s1 w → Did B γ0 s0 w0 γ s1 w → Down ops listed →
    wpAny P .any ops (PostR B γ0 s0 w0 n Q) fuel listed a w := by
  intro fuel
  induction fuel with
  | zero =>
    intro q listed f F s1 γ a w hsort hqm hL hf h hext hsm hF hmono hfr hr hd hdown
    obtain rfl : q = [] := List.length_eq_zero_iff.1 (by omega)
    have hle := hD.le
    refine tail_sound hT hD 0 m listed f s1 γ a w (Nat.le_refl _) hD.le ⟨hL.size, fun i hi => by rw [hL.iff i hi]; simp⟩ (by omega) (h s1 hext hr.wfs hF hsm) hfr hr hd
  | succ fuel ih =>
    intro q listed f F s1 γ a w hsort hqm hL hf h hext hsm hF hmono hfr hr hd hdown
    have hle := hD.le
    cases q with
    | nil => exact tail_sound hT hD (fuel + 1) m listed f s1 γ a w (Nat.le_refl _) hD.le ⟨hL.size, fun i hi => by rw [hL.iff i hi]; simp⟩ (by simpa using hf) (h s1 hext hr.wfs hF hsm) hfr hr hd
    | cons q0 q' =>
      refine ⟨fun hnil => ?_, fun i hi => ?_⟩
      · exfalso
        have hq0 := hqm q0 (by simp)
        have : q0 ∈ Region.ready .any ops listed := by
          refine (ready_iff hL q0).2 ⟨_, Array.getElem?_eq_getElem (by omega), by simp, fun e he hb => ?_⟩
          have := hD.back q0 _ (Array.getElem?_eq_getElem (by omega)) e he hb
          refine (hL.iff e.on (by omega)).2 ⟨by omega, ?_⟩
          simp only [List.mem_cons, not_or]
          refine ⟨by omega, fun hm => ?_⟩
          have := (List.pairwise_cons.1 hsort).1 e.on hm
          omega
        rw [hnil] at this; cases this
      · obtain ⟨o, ho, hp, he⟩ := (ready_iff hL i).1 hi
        have hil : i < ops.size := by
          rcases Nat.lt_or_ge i ops.size with h | h
          · exact h
          · simp [Array.getElem?_eq_none h] at ho
        have him : i < m := by
          rcases Nat.lt_or_ge i m with h | h
          · exact h
          · exfalso
            have hq0 := hqm q0 (by simp)
            have := anc_listed hdown i o ho he (hD.tail i hil h q0 (by omega))
            have := (hL.iff q0 (by omega)).1 this
            exact this.2 (by simp)
        have hiq : i ∈ q0 :: q' := by
          by_cases h : i ∈ q0 :: q'
          · exact h
          · exact absurd ⟨him, h⟩ hp
        obtain ⟨pre, post, hq⟩ := List.append_of_mem hiq
        rw [hq] at h hsort hqm hL hf
        have hpre : ∀ k ∈ pre, k < i := by
          intro k hk
          have := (List.pairwise_append.1 hsort).2.2 k hk i (by simp)
          exact this
        have hfree : ∀ k ∈ pre, ∀ ok, ops[k]? = some ok → Free ops A k i ok o := by
          intro k hk ok hok
          have hki := hpre k hk
          have hkl : k < ops.size := by omega
          have hna : isAnc ops k i = false := by
            cases hq2 : isAnc ops k i with
            | false => rfl
            | true =>
              have := anc_listed hdown i o ho he hq2
              have := (hL.iff k hkl).1 this
              exact absurd (by simp [hk] : k ∈ pre ++ i :: post) this.2
          refine ⟨?_, ?_, ?_⟩
          · rcases hD.free i him k hki with h | ⟨x, y, hx, hy, h⟩
            · rw [hna] at h; cases h
            · rw [hok] at hx; rw [ho] at hy
              obtain rfl := Option.some.inj hx; obtain rfl := Option.some.inj hy
              exact h
          · cases hc : (A.getD i []).contains k with
            | false => rfl
            | true =>
              have := (hD.anc i him k (by simpa using hc)).1
              rw [hna] at this; cases this
          · cases hc : (A.getD k []).contains i with
            | false => rfl
            | true =>
              have := (hD.anc k (by omega) i (by simpa using hc)).2
              omega
        have hstep := dq_pull ho pre post f F hfree h
        have hsort' : (pre ++ post).Pairwise (· < ·) := by
          have := List.pairwise_append.1 hsort
          rw [List.pairwise_append]
          exact ⟨this.1, (List.pairwise_cons.1 this.2.1).2, fun x hx y hy => this.2.2 x hx y (by simp [hy])⟩
        have hnot : i ∉ pre ++ post := by
          intro hm
          rcases List.mem_append.1 hm with h | h
          · have := hpre i h; omega
          · have := (List.pairwise_cons.1 (List.pairwise_append.1 hsort).2.1).1 i h; omega
        have hL' : Listed ops (listed.setIfInBounds i true) (fun k => k < m ∧ k ∉ pre ++ post) := by
          refine hL.set fun k => ?_
          simp only [List.mem_append, List.mem_cons, not_or]
          constructor
          · rintro ⟨h1, h2, h3⟩
            by_cases hk : k = i
            · exact .inl hk
            · exact .inr ⟨h1, h2, hk, h3⟩
          · rintro (rfl | ⟨h1, h2, h3, h4⟩)
            · simp only [List.mem_append, not_or] at hnot
              exact ⟨him, hnot⟩
            · exact ⟨h1, h2, h4⟩
        have hdown' : Down ops (listed.setIfInBounds i true) := by
          intro k ok hok hk e hem hb
          have mono : listed.getD e.on false = true → (listed.setIfInBounds i true).getD e.on false = true := by
            intro h
            have hel : e.on < listed.size := by
              rcases Nat.lt_or_ge e.on listed.size with h' | h'
              · exact h'
              · simp [Array.getD_eq_getD_getElem?, Array.getElem?_eq_none h'] at h
            simp only [Array.getD_eq_getD_getElem?, Array.getElem?_setIfInBounds] at h ⊢
            split
            · rename_i hie; subst hie; simp [hel]
            · exact h
          by_cases hki : i = k
          · subst hki
            rw [ho] at hok; obtain rfl := Option.some.inj hok
            exact mono (he e hem hb)
          · refine mono (hdown k ok hok ?_ e hem hb)
            simp only [Array.getD_eq_getD_getElem?, Array.getElem?_setIfInBounds] at hk ⊢
            rw [if_neg hki] at hk; exact hk
        have hlen : (pre ++ post).length + (ops.size - m) ≤ fuel := by simp at hf ⊢; omega
        have hqm' : ∀ k ∈ pre ++ post, k < m := fun k hk => hqm k (by rcases List.mem_append.1 hk with h | h <;> simp [h])
        obtain ⟨hdst, hstep⟩ := hstep
        unfold wpOp
        rw [ho]
        simp only
        cases hw : awanted ops f o with
        | none => rw [hw] at hstep; exact hstep.elim
        | some b =>
          rw [hw] at hstep
          rw [awanted_run hfr hw]
          cases b with
          | false =>
            rw [if_neg (by simp)]
            exact ih _ _ _ F s1 γ _ w hsort' hqm' hL' hlen hstep hext hsm hF hmono (hfr.put hdst (vundef γ)) hr hd hdown'
          | true =>
            rw [if_pos rfl]
            simp only at hstep
            by_cases hh : H.contains i = true
            · rw [if_pos hh] at hstep
              obtain ⟨hA, _, hK⟩ := hstep
              have hv := hA s1 hext hr.wfs fun p hp _ => hF p hp
              have hop : vcOp P T n o f s1 (fun f2 s2 => ∃ v, f2 = updO f o.dst v ∧ Ext s1 s2 ∧ S i (keyOf f o) v s2 ∧ V i (keyOf f o) v) := vcOp_of_vcV hdst hv fun v s2 ⟨h1, h2, h3⟩ => ⟨v, rfl, h1, h2, h3⟩
              refine .inl (vcOp_sound hT hop hfr hr ?_)
              rintro γ' f' s' a' w' h1 h2 h3 ⟨v, rfl, h4, h5, h6⟩
              refine ih _ _ _ _ s' γ' a' w' hsort' hqm' hL' hlen (hK v h6) (hext.trans h4) (fun e => by rw [e] at hh; cases hh) ?_ ?_ h1 h3 (hd.trans h2) hdown'
              · intro p hp
                rcases List.mem_append.1 hp with h | h
                · exact hmono p h _ _ h4 (hF p h)
                · obtain rfl := List.mem_singleton.1 h; exact h5
              · intro p hp
                rcases List.mem_append.1 hp with h | h
                · exact hmono p h
                · obtain rfl := List.mem_singleton.1 h; exact fun s s' he => hS i _ v s s' he
            · rw [if_neg hh] at hstep
              obtain ⟨hq1, v, hv, hK⟩ := hstep
              have hv1 := aop_quiet hq1 hst hv hext
              have hac : acallee f o.op = none := by
                unfold acallee
                split
                · rename_i c hc
                  rw [hc] at hq1
                  simp only [quietOp] at hq1
                  split
                  · rename_i x hx; rw [hx] at hq1; cases hq1
                  · rfl
                · rfl
              have hop : vcOp P T n o f s1 (fun f2 s2 => f2 = updO f o.dst v ∧ s2 = s1) := by
                refine ⟨hdst, ?_⟩
                rw [hac]
                exact ⟨v, s1, hv1, rfl, rfl⟩
              refine .inl (vcOp_sound hT hop hfr hr ?_)
              rintro γ' f' s' a' w' h1 h2 h3 ⟨rfl, rfl⟩
              exact ih _ _ _ F _ γ' a' w' hsort' hqm' hL' hlen hK hext hsm hF hmono h1 h3 (hd.trans h2) hdown'

end

/-- A region that draws its order: walked once, in the order of the text. -/
theorem AWp.draw {P : Program} {T : TT} (hT : TT.Ok P T) (hmx : P.follows .mixedOrders = true) {n id : Nat} {ops : Array Oper} {f : Fr} {s : AS} {Q : Exit → Fr → AS → Prop} (m : Nat) (A : List (List Nat)) (bs : List Nat) (H : List Nat)
    (V : Nat → List AV → AV → Prop) (S : Nat → List AV → AV → AS → Prop) (hok : drawOk ops m A bs = true) (hS : ∀ i k v s s', Ext s s' → S i k v s → S i k v s')
    (h : dq P T n ops A H V S s (fun f s' => vcOps P T n ops (ops.toList.drop m) f s' (fun f s => Q .normal f s)) (List.range m) f []) : AWp P n (.region id ops true) f s Q := by
  intro B γ a w hf hr
  have hD := drawFacts hok
  have hle := hD.le
  refine wp_region_any hmx ?_
  refine quiet_sound hT hr.stp hD hS ops.size (List.range m) _ f [] s γ a { w with drawn := w.drawn + 1 } List.pairwise_lt_range (fun i hi => List.mem_range.1 hi) ⟨by simp, fun i hi => ?_⟩ (by simp; omega) h (Ext.refl s) (fun _ => rfl) (by simp) (by simp) hf (hr.of_heap rfl) (Did.of_heap rfl) ?_
  · simp [Array.getD_eq_getD_getElem?, hi]
  · intro i o ho hl
    simp only [Array.getD_eq_getD_getElem?] at hl
    by_cases hi : i < ops.size
    · simp [hi] at hl
    · simp [hi] at hl

end Go.Am
