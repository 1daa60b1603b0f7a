/-
  A part of the proof: an abstract machine over the model, and contracts of functions of this program over it.
-/
import Derived.Attr
import Derived.ProofKit
import Derived.IntWalk
import Derived.Test.YtblpmffajlkmjaaDoorP1
set_option linter.unusedVariables false
set_option linter.unusedSimpArgs false
set_option linter.unusedSectionVars false
section
namespace Go.Am
def Ext (s s' : AS) : Prop := (∀ l o, s.h l = some o → s'.h l = some o) ∧ s.nl ≤ s'.nl
theorem Ext.refl (s : AS) : Ext s s := ⟨fun _ _ h => h, Nat.le_refl _⟩
theorem Ext.trans {a b c : AS} (h : Ext a b) (h' : Ext b c) : Ext a c := ⟨fun l o e => h'.1 l o (h.1 l o e), Nat.le_trans h.2 h'.2⟩
def WFs (s : AS) : Prop := 1 ≤ s.st ∧ ∀ k, s.h (s.nl + k * s.st) = none
theorem Rel.wfs {B : Nat} {γ : Gam} {s : AS} {w : World} (h : Rel B γ s w) : WFs s := by
 refine ⟨h.stp, fun k => ?_⟩
 cases hq : s.h (s.nl + k * s.st) with
 | none => rfl
 | some p =>
  obtain ⟨j, hj, _⟩ := h.obj _ p hq
  rw [h.fin k] at hj; cases hj
def quietOp : Op → Bool
 | .move _ | .assign _ | .pick .. | .nilCheck _ | .binOp .. | .unOp .. | .fieldAddr .. | .field .. | .indexAddr .. | .index .. | .slice .. | .extract .. | .load .. | .lookup .. | .makeInterface .. | .makeFunc .. | .convert .. | .build .. => true
 | .call c => match c.callee with
  | .builtin .len | .builtin .cap | .builtin .max | .builtin .min => true
  | _ => false
 | _ => false
theorem rdc_ext {s s' : AS} (h : Ext s s') {l o n : Nat} {cs : List AV} (hr : rdc s l o n = some cs) : rdc s' l o n = some cs := by
 unfold rdc at hr ⊢
 cases hl : s.h l with
 | none => simp [hl] at hr
 | some x => rw [h.1 l x hl]; rw [hl] at hr; exact hr
theorem rd1_ext {s s' : AS} (h : Ext s s') {l o : Nat} {v : AV} (hr : rd1 s l o = some v) : rd1 s' l o = some v := by
 unfold rd1 at hr ⊢
 cases hl : s.h l with
 | none => simp [hl] at hr
 | some x => rw [h.1 l x hl]; rw [hl] at hr; exact hr
theorem ald_ext {s s' : AS} (h : Ext s s') {T : TT} {t : TypeId} {p v : AV} (hr : ald T t s p = some v) : ald T t s' p = some v := by
 unfold ald at hr ⊢
 split at hr
 ·rename_i l o
  split at hr
  ·rename_i ha
   cases hs : T.siz t with
   | none => simp [hs] at hr
   | some n =>
    simp only [hs, Option.bind_some, Option.map_eq_some_iff] at hr ⊢
    obtain ⟨cs, hcs, e⟩ := hr
    exact ⟨cs, rdc_ext h hcs, e⟩
  ·rename_i ha
   exact rd1_ext h hr
  ·cases hr
 ·cases hr
theorem alenB_ext {s s' : AS} (h : Ext s s') {T : TT} {t : TypeId} {x v : AV} (hr : alenB T t x s = some v) : alenB T t x s' = some v := by
 unfold alenB at hr ⊢
 split at hr <;> try (first | exact hr | (cases hr; done))
 rename_i l _
 cases hl : s.h l with
 | none => simp [hl] at hr
 | some o => rw [h.1 l o hl]; rw [hl] at hr; exact hr
theorem aop_quiet {T : TT} {op : Op} (hq : quietOp op = true) {ρ : Operand → AV} {s s' : AS} {v : AV} (hst : 1 ≤ s.st) (h : aop T op ρ s = some (v, s)) (he : Ext s s') : aop T op ρ s' = some (v, s') := by
 cases op <;> (first | (cases hq; done) | skip)
 case move x => simp only [aop] at h ⊢; simpa using h
 case assign x => simp only [aop] at h ⊢; simpa using h
 case pick c a b => simp only [aop] at h ⊢; split at h <;> simp_all
 case build t parts => simp only [aop, Option.map_eq_some_iff] at h ⊢; obtain ⟨u, hu, e⟩ := h; exact ⟨u, hu, by simp_all⟩
 case load t x => simp only [aop, Option.map_eq_some_iff] at h ⊢; obtain ⟨u, hu, e⟩ := h; exact ⟨u, ald_ext he hu, by simp_all⟩
 case nilCheck x => simp only [aop] at h ⊢; split at h <;> simp_all
 case binOp op t x y yt =>
  simp only [aop] at h ⊢
  split at h
  ·rename_i hg; rw [if_pos hg]; simp only [Option.map_eq_some_iff] at h ⊢; obtain ⟨u, hu, e⟩ := h; exact ⟨u, hu, by simp_all⟩
  ·cases h
 case unOp op t x => simp only [aop, Option.map_eq_some_iff] at h ⊢; obtain ⟨u, hu, e⟩ := h; exact ⟨u, hu, by simp_all⟩
 case convert src dst x =>
  simp only [aop] at h ⊢
  unfold aconvert at h ⊢
  split at h
  ·simp_all
  ·simp_all
  ·split at h
   ·simp only [Option.some.injEq, Prod.mk.injEq] at h
    have : s.nl + s.st = s.nl := congrArg AS.nl h.2
    omega
   ·cases h
  ·split at h
   ·split at h <;> simp_all
   ·cases h
  ·split at h <;> simp_all
  ·split at h
   ·rename_i hu
    split at h
    ·rename_i hn0
     rw [if_pos hn0]
     simp only [Option.some.injEq, Prod.mk.injEq] at h ⊢
     exact ⟨h.1, trivial⟩
    rename_i hn0
    rw [if_neg hn0]
    simp only [Option.bind_eq_some_iff, Option.map_eq_some_iff] at h ⊢
    obtain ⟨cs, hcs, bs, hbs, e⟩ := h
    exact ⟨cs, rdc_ext he hcs, bs, hbs, by simp_all⟩
   ·cases h
  ·cases h
 case makeInterface t x => simp only [aop] at h ⊢; split at h <;> simp_all
 case makeFunc fn first captured =>
  cases fn with
  | func g => simp only [aop] at h ⊢; split at h <;> simp_all
  | _ => simp [aop] at h
 case slice t x lo hi mx => simp only [aop, Option.map_eq_some_iff] at h ⊢; obtain ⟨u, hu, e⟩ := h; exact ⟨u, hu, by simp_all⟩
 case fieldAddr t x f => simp only [aop, Option.map_eq_some_iff] at h ⊢; obtain ⟨u, hu, e⟩ := h; exact ⟨u, hu, by simp_all⟩
 case field t x f => simp only [aop, Option.map_eq_some_iff] at h ⊢; obtain ⟨u, hu, e⟩ := h; exact ⟨u, hu, by simp_all⟩
 case indexAddr t x ix => simp only [aop, Option.map_eq_some_iff] at h ⊢; obtain ⟨u, hu, e⟩ := h; exact ⟨u, hu, by simp_all⟩
 case index t x ix => simp only [aop, Option.map_eq_some_iff] at h ⊢; obtain ⟨u, hu, e⟩ := h; exact ⟨u, hu, by simp_all⟩
 case lookup t x ix ok =>
  simp only [aop, Option.map_eq_some_iff] at h ⊢
  obtain ⟨u, hu, e⟩ := h
  refine ⟨u, ?_, by simp_all⟩
  unfold alookup at hu ⊢
  split at hu
  ·rename_i kt et r ht _
   split at hu
   ·rename_i hok
    rw [if_pos hok]
    simp only [Option.bind_eq_some_iff] at hu ⊢
    obtain ⟨es, hes, rest⟩ := hu
    refine ⟨es, ?_, rest⟩
    cases r with
    | none => exact hes
    | some l =>
     simp only at hes ⊢
     cases hl : s.h l with
     | none => simp [hl] at hes
     | some o => rw [he.1 l o hl]; rw [hl] at hes; exact hes
   ·cases hu
  ·cases hu
 case extract t i =>
  simp only [aop] at h ⊢
  split at h
  ·rename_i vs hvs
   simp only [Option.map_eq_some_iff] at h ⊢
   obtain ⟨u, hu, e⟩ := h
   exact ⟨u, hu, by simp_all⟩
  ·cases h
 case call c =>
  simp only [quietOp] at hq
  simp only [aop] at h ⊢
  cases hc : c.callee with
  | value x => simp [hc] at h
  | invoke x m => simp [hc] at h
  | builtin b =>
   simp only [hc] at h hq ⊢
   generalize c.argTypes.toList = ts at h ⊢
   generalize c.args.toList.map ρ = args at h ⊢
   cases b <;> first | (cases hq; done) | skip
   ·cases ts with
    | nil => simp [abuiltin] at h
    | cons t ts =>
     cases args with
     | nil => simp [abuiltin] at h
     | cons x xs =>
      simp only [abuiltin, Option.map_eq_some_iff] at h ⊢
      obtain ⟨u, hu, e⟩ := h
      exact ⟨u, hu, by simp_all⟩
   ·cases ts with
    | nil => simp [abuiltin] at h
    | cons t ts =>
     cases args with
     | nil => simp [abuiltin] at h
     | cons x xs =>
      simp only [abuiltin, Option.map_eq_some_iff] at h ⊢
      obtain ⟨u, hu, e⟩ := h
      exact ⟨u, alenB_ext he hu, by simp_all⟩
   ·simp only [abuiltin, Option.map_eq_some_iff] at h ⊢
    obtain ⟨u, hu, e⟩ := h
    exact ⟨u, hu, by simp_all⟩
   ·simp only [abuiltin, Option.map_eq_some_iff] at h ⊢
    obtain ⟨u, hu, e⟩ := h
    exact ⟨u, hu, by simp_all⟩
def isAnc (ops : Array Oper) (j i : Nat) : Bool := ((Region.before ops).getD i 0).testBit j
theorem fold_bit (acc : Array Nat) (j : Nat) : ∀ (l : List Edge) (s : Nat), (l.foldl (fun s e => if Region.binds .any e then s ||| 2 ^ e.on ||| acc.getD e.on 0 else s) s).testBit j = true →
  s.testBit j = true ∨ ∃ e ∈ l, Region.binds .any e = true ∧ (e.on = j ∨ (acc.getD e.on 0).testBit j = true)
 | [], s, h => .inl h
 | e :: l, s, h => by
  simp only [List.foldl_cons] at h
  rcases fold_bit acc j l _ h with h1 | ⟨e', he', h2⟩
  ·split at h1
   ·rename_i hb
    simp only [Nat.testBit_or, Bool.or_eq_true] at h1
    rcases h1 with (h1 | h1) | h1
    ·exact .inl h1
    ·refine .inr ⟨e, by simp, hb, .inl ?_⟩
     rw [Nat.testBit_two_pow] at h1
     simpa using h1
    ·exact .inr ⟨e, by simp, hb, .inr h1⟩
   ·exact .inl h1
  ·exact .inr ⟨e', by simp [he'], h2⟩
theorem before_fold (j : Nat) : ∀ (l : List Oper) (acc : Array Nat),
  let r := l.foldl (fun acc o => acc.push (o.after.foldl (fun s e => if Region.binds .any e then s ||| 2 ^ e.on ||| acc.getD e.on 0 else s) 0)) acc
  (∀ i, i < acc.size → r.getD i 0 = acc.getD i 0) ∧ (∀ (k : Nat) o, l[k]? = some o → (r.getD (acc.size + k) 0).testBit j = true →
   ∃ e ∈ o.after.toList, Region.binds .any e = true ∧ (e.on = j ∨ (e.on < acc.size + k ∧ (r.getD e.on 0).testBit j = true))) ∧ r.size = acc.size + l.length
 | [], acc => by simp
 | o :: l, acc => by
  simp only [List.foldl_cons]
  obtain ⟨h1, h2, h3⟩ := before_fold j l (acc.push (o.after.foldl (fun s e => if Region.binds .any e then s ||| 2 ^ e.on ||| acc.getD e.on 0 else s) 0))
  generalize hr : l.foldl (fun acc o => acc.push (o.after.foldl (fun s e => if Region.binds .any e then s ||| 2 ^ e.on ||| acc.getD e.on 0 else s) 0)) (acc.push (o.after.foldl (fun s e => if Region.binds .any e then s ||| 2 ^ e.on ||| acc.getD e.on 0 else s) 0)) = r at h1 h2 h3
  simp only [Array.size_push] at h1 h2 h3
  have hold : ∀ i, i < acc.size → r.getD i 0 = acc.getD i 0 := by
   intro i hi
   rw [h1 i (by omega)]
   simp only [Array.getD_eq_getD_getElem?, Array.getElem?_push]
   rw [if_neg (by omega)]
  refine ⟨hold, fun k o' hk hb => ?_, by simp only [List.length_cons]; omega⟩
  cases k with
  | zero =>
   obtain rfl : o = o' := by simpa using hk
   rw [Nat.add_zero, h1 acc.size (by omega)] at hb
   simp only [Array.getD_eq_getD_getElem?, Array.getElem?_push, if_true, Option.getD_some] at hb
   rw [← Array.foldl_toList] at hb
   have hb' : (o.after.toList.foldl (fun s e => if Region.binds .any e then s ||| 2 ^ e.on ||| acc.getD e.on 0 else s) 0).testBit j = true := by
    simpa only [Array.getD_eq_getD_getElem?] using hb
   rcases fold_bit acc j _ _ hb' with h | ⟨e, he, hbind, h⟩
   ·simp at h
   ·refine ⟨e, he, hbind, ?_⟩
    rcases h with h | h
    ·exact .inl h
    ·right
     have hlt : e.on < acc.size := by
      rcases Nat.lt_or_ge e.on acc.size with h' | h'
      ·exact h'
      ·simp [Array.getD_eq_getD_getElem?, Array.getElem?_eq_none h'] at h
     exact ⟨by omega, by rw [hold _ hlt]; exact h⟩
  | succ k =>
   have := h2 k o' (by simpa using hk) (by rw [show acc.size + 1 + k = acc.size + (k + 1) by omega]; exact hb)
   obtain ⟨e, he, hbind, h⟩ := this
   exact ⟨e, he, hbind, h.imp id fun ⟨ha, hb⟩ => ⟨by omega, hb⟩⟩
theorem isAnc_step {ops : Array Oper} {j i : Nat} {o : Oper} (ho : ops[i]? = some o) (h : isAnc ops j i = true) : ∃ e ∈ o.after.toList, Region.binds .any e = true ∧ (e.on = j ∨ (e.on < i ∧ isAnc ops j e.on = true)) := by
 obtain ⟨_, h2, _⟩ := before_fold j ops.toList #[]
 have hb : Region.before ops = ops.toList.foldl (fun acc o => acc.push (o.after.foldl (fun s e => if Region.binds .any e then s ||| 2 ^ e.on ||| acc.getD e.on 0 else s) 0)) #[] := by
  unfold Region.before; rw [← Array.foldl_toList]
 unfold isAnc at h ⊢
 rw [hb] at h ⊢
 have := h2 i o (by simpa using ho) (by simpa using h)
 simpa using this
def Down (ops : Array Oper) (listed : Array Bool) : Prop := ∀ (i : Nat) o, ops[i]? = some o → listed.getD i false = true → ∀ e ∈ o.after.toList, Region.binds .any e = true → listed.getD e.on false = true
theorem anc_listed {ops : Array Oper} {listed : Array Bool} (hd : Down ops listed) {j : Nat} : ∀ (i : Nat) (o : Oper), ops[i]? = some o → (∀ e ∈ o.after.toList, Region.binds .any e = true → listed.getD e.on false = true) → isAnc ops j i = true → listed.getD j false = true := by
 intro i
 induction i using Nat.strongRecOn with
 | _ i ih =>
  intro o ho he ha
  obtain ⟨e, hem, hb, h⟩ := isAnc_step ho ha
  rcases h with rfl | ⟨hlt, h⟩
  ·exact he e hem hb
  ·have hl := he e hem hb
   cases ho' : ops[e.on]? with
   | none =>
    have hi : i < ops.size := by
     rcases Nat.lt_or_ge i ops.size with h | h
     ·exact h
     ·simp [Array.getElem?_eq_none h] at ho
    rw [Array.getElem?_eq_getElem (by omega)] at ho'
    cases ho'
   | some o' => exact ih e.on hlt o' ho' (hd e.on o' ho' hl) h
def vcV (P : Program) (T : TT) (o : Oper) (f : Fr) (s : AS) (R : AV → AS → Prop) : Prop :=
 match acallee f o.op with
 | some (g, args) => ACalls P g args s R
 | none => ∃ v s', aop T o.op (aev f) s = some (v, s') ∧ R v s'
theorem vcOp_of_vcV {P : Program} {T : TT} {n : Nat} {o : Oper} {f : Fr} {s : AS} {R : AV → AS → Prop} {K : Fr → AS → Prop} (hd : dstOk n o.dst = true) (h : vcV P T o f s R) (hk : ∀ v s', R v s' → K (updO f o.dst v) s') : vcOp P T n o f s K := by
 refine ⟨hd, .inl ?_⟩
 unfold vcV at h
 split
 ·rename_i g args hc; rw [hc] at h; exact h.mono hk
 ·rename_i hc; rw [hc] at h; obtain ⟨v, s', h1, h2⟩ := h; exact ⟨v, s', h1, hk _ _ h2⟩
abbrev Facts := List (Nat × (AS → Prop))
def keyOf (f : Fr) (o : Oper) : List AV := o.op.operands.toList.map (aev f)
section
variable (P : Program) (T : TT) (n : Nat) (ops : Array Oper) (A : List (List Nat)) (H : List Nat) (V : Nat → List AV → AV → Prop) (S : Nat → List AV → AV → AS → Prop) (X : AS → AS → Prop) (C : Nat → List AV → AV → AS → Prop) (M : List Nat) (s : AS)
def nextC (i : Nat) (k : List AV) (v : AV) (c : AS → Prop) : AS → Prop := if M.contains i then C i k v else c
def OpStep (i : Nat) (o : Oper) (f : Fr) (F : Facts) (c : AS → Prop) (K' : Fr → Facts → (AS → Prop) → Prop) : Prop :=
 dstOk n o.dst = true ∧
 match awanted ops f o with
 | none => False
 | some false => M.contains i = false ∧ K' (updO f o.dst .undef) F c
 | some true =>
  if H.contains i then
   (∀ s', X s s' → WFs s' → (∀ p ∈ F, (A.getD i []).contains p.1 = true → p.2 s') → (M.contains i = true → c s') → vcV P T o f s' fun v s'' => (if M.contains i then X s' s'' ∧ C i (keyOf f o) v s'' else Ext s' s'') ∧ S i (keyOf f o) v s'' ∧ V i (keyOf f o) v) ∧
   (∃ v, V i (keyOf f o) v) ∧ ∀ v, V i (keyOf f o) v → K' (updO f o.dst v) (F ++ [(i, S i (keyOf f o) v)]) (nextC C M i (keyOf f o) v c)
  else M.contains i = false ∧ quietOp o.op = true ∧ ∃ v, (aop T o.op (aev f) s = some (v, s) ∧ ∀ s', X s s' → WFs s' → aop T o.op (aev f) s' = some (v, s')) ∧ K' (updO f o.dst v) F c
def dq (K : Fr → AS → Prop) : List Nat → Fr → Facts → (AS → Prop) → Prop
 | [], f, F, c => ∀ s', X s s' → WFs s' → (∀ p ∈ F, p.2 s') → c s' → (H = [] → s' = s) → K f s'
 | i :: is, f, F, c => match ops[i]? with
  | some o => OpStep P T n ops A H V S X C M s i o f F c (dq K is)
  | none => False
abbrev dqE (K : Fr → AS → Prop) (is : List Nat) (f : Fr) (F : Facts) := dq P T n ops A H V S Ext (fun _ _ _ _ => True) [] s K is f F (fun _ => True)
end
section
variable {P : Program} {T : TT} {n : Nat} {ops : Array Oper} {A : List (List Nat)} {H : List Nat} {V : Nat → List AV → AV → Prop} {S : Nat → List AV → AV → AS → Prop} {X : AS → AS → Prop} {C : Nat → List AV → AV → AS → Prop} {M : List Nat} {s : AS} {K : Fr → AS → Prop}
theorem OpStep.mono {i : Nat} {o : Oper} {f : Fr} {F : Facts} {c : AS → Prop} {K1 K2 : Fr → Facts → (AS → Prop) → Prop} (h : OpStep P T n ops A H V S X C M s i o f F c K1) (hk : ∀ f F c, K1 f F c → K2 f F c) : OpStep P T n ops A H V S X C M s i o f F c K2 := by
 obtain ⟨hd, h⟩ := h
 refine ⟨hd, ?_⟩
 split
 ·rename_i hw; rw [hw] at h; exact h
 ·rename_i hw; rw [hw] at h; exact ⟨h.1, hk _ _ _ h.2⟩
 ·rename_i hw
  rw [hw] at h
  simp only at h
  split
  ·rename_i hh; rw [if_pos hh] at h; exact ⟨h.1, h.2.1, fun v hv => hk _ _ _ (h.2.2 v hv)⟩
  ·rename_i hh; rw [if_neg hh] at h; obtain ⟨h0, h1, v, h2, h3⟩ := h; exact ⟨h0, h1, v, h2, hk _ _ _ h3⟩
theorem dq_mono {K K' : Fr → AS → Prop} (hk : ∀ f s, K f s → K' f s) : ∀ (is : List Nat) (f : Fr) (F : Facts) (c : AS → Prop), dq P T n ops A H V S X C M s K is f F c → dq P T n ops A H V S X C M s K' is f F c
 | [], f, F, c, h => fun s' h1 h2 h3 h4 h5 => hk _ _ (h s' h1 h2 h3 h4 h5)
 | i :: is, f, F, c, h => by
  simp only [dq] at h ⊢
  split
  ·rename_i o ho; rw [ho] at h; exact OpStep.mono h fun f F c hh => dq_mono hk is f F c hh
  ·rename_i ho; rw [ho] at h; exact h
theorem dq_congr : ∀ (is : List Nat) (f : Fr) (F F' : Facts) (c : AS → Prop), (∀ p, p ∈ F ↔ p ∈ F') → dq P T n ops A H V S X C M s K is f F c → dq P T n ops A H V S X C M s K is f F' c
 | [], f, F, F', c, hF, h => fun s' he hwf hp => h s' he hwf fun p hm => hp p ((hF p).1 hm)
 | i :: is, f, F, F', c, hF, h => by
  simp only [dq] at h ⊢
  cases ho : ops[i]? with
  | none => rw [ho] at h; exact h
  | some o =>
   rw [ho] at h
   obtain ⟨hd, h⟩ := h
   refine ⟨hd, ?_⟩
   split
   ·rename_i hw; rw [hw] at h; exact h
   ·rename_i hw; rw [hw] at h; exact ⟨h.1, dq_congr is _ F F' _ hF h.2⟩
   ·rename_i hw
    rw [hw] at h
    simp only at h
    split
    ·rename_i hh
     rw [if_pos hh] at h
     refine ⟨fun s' he hwf hp => h.1 s' he hwf fun p hm => hp p ((hF p).1 hm), h.2.1, fun v hv => dq_congr is _ _ _ _ ?_ (h.2.2 v hv)⟩
     intro p; simp [hF]
    ·rename_i hh
     rw [if_neg hh] at h
     obtain ⟨h0, h1, v, h2, h3⟩ := h
     exact ⟨h0, h1, v, h2, dq_congr is _ F F' _ hF h3⟩
theorem aop_congr {T : TT} {op : Op} {ρ ρ' : Operand → AV} (h : ∀ x ∈ op.operands, ρ x = ρ' x) (s : AS) : aop T op ρ s = aop T op ρ' s := by
 have hl : ∀ (l : List Operand), (∀ x ∈ l, ρ x = ρ' x) → l.map ρ = l.map ρ' := fun l hl => List.map_congr_left hl
 have ho : ∀ (o : Option Operand), (∀ x ∈ o, ρ x = ρ' x) → o.map ρ = o.map ρ' := by
  intro o ho; cases o with
  | none => rfl
  | some x => simp [ho x (by simp)]
 have hp : ∀ (l : List (Nat × Operand)), (∀ x ∈ l.map (·.2), ρ x = ρ' x) → (l.map fun p => (p.1, ρ p.2)) = (l.map fun p => (p.1, ρ' p.2)) := by
  intro l hl
  refine List.map_congr_left fun p hm => ?_
  rw [hl p.2 (List.mem_map.2 ⟨p, hm, rfl⟩)]
 cases op with
 | move x => simp only [aop, h x (by simp [Op.operands])]
 | assign x => simp only [aop, h x (by simp [Op.operands])]
 | pick c a b => simp only [aop, h c (by simp [Op.operands]), h a (by simp [Op.operands]), h b (by simp [Op.operands])]
 | box t x => simp only [aop, h x (by simp [Op.operands])]
 | load t x => simp only [aop, h x (by simp [Op.operands])]
 | nilCheck x => simp only [aop, h x (by simp [Op.operands])]
 | unOp o t x => simp only [aop, h x (by simp [Op.operands])]
 | convert t u x => simp only [aop, h x (by simp [Op.operands])]
 | makeInterface t x => simp only [aop, h x (by simp [Op.operands])]
 | fieldAddr t x f => simp only [aop, h x (by simp [Op.operands])]
 | field t x f => simp only [aop, h x (by simp [Op.operands])]
 | extract x i => simp only [aop, h x (by simp [Op.operands])]
 | range t x => simp only [aop, h x (by simp [Op.operands])]
 | entry x => simp only [aop, h x (by simp [Op.operands])]
 | build t ps => simp only [aop]; rw [hp ps.toList (by intro x hx; exact h x (by simpa [Op.operands] using hx))]
 | buildSlice t n ps => simp only [aop]; rw [hp ps.toList (by intro x hx; exact h x (by simpa [Op.operands] using hx))]
 | store t a v => simp only [aop, h a (by simp [Op.operands]), h v (by simp [Op.operands])]
 | binOp o t a v u => simp only [aop, h a (by simp [Op.operands]), h v (by simp [Op.operands])]
 | makeSlice t a v => simp only [aop, h a (by simp [Op.operands]), h v (by simp [Op.operands])]
 | indexAddr t a v => simp only [aop, h a (by simp [Op.operands]), h v (by simp [Op.operands])]
 | index t a v => simp only [aop, h a (by simp [Op.operands]), h v (by simp [Op.operands])]
 | lookup t a v ok => simp only [aop, h a (by simp [Op.operands]), h v (by simp [Op.operands])]
 | mapUpdate t m k v => simp only [aop, h m (by simp [Op.operands]), h k (by simp [Op.operands]), h v (by simp [Op.operands])]
 | insert t m k v => simp only [aop, h m (by simp [Op.operands]), h k (by simp [Op.operands]), h v (by simp [Op.operands])]
 | slice t x lo hi mx =>
  simp only [aop, h x (by simp [Op.operands])]
  rw [ho lo (by intro y hy; exact h y (by simp [Op.operands]; simp at hy; simp [hy])), ho hi (by intro y hy; exact h y (by simp [Op.operands]; simp at hy; simp [hy])), ho mx (by intro y hy; exact h y (by simp [Op.operands]; simp at hy; simp [hy]))]
 | makeFunc fn first captured =>
  cases fn with
  | func g => simp only [aop]; rw [hl captured.toList (by intro x hx; exact h x (by simp only [Op.operands, Array.mem_append]; exact .inr (by simpa using hx))), hl first.toList (by intro x hx; exact h x (by simp only [Op.operands, Array.mem_append]; exact .inl (by simpa using hx)))]
  | _ => rfl
 | makeMap t r => cases r <;> rfl
 | call c =>
  simp only [aop]
  cases hc : c.callee with
  | builtin b =>
   simp only
   rw [hl c.args.toList (by intro x hx; exact h x (by simp only [Op.operands, Call.operands, hc, Array.mem_append]; exact .inr (by simpa using hx)))]
  | _ => rfl
 | _ => rfl
theorem aev_updO {f : Fr} {d : Option Nat} {v : AV} {x : Operand} (h : ∀ t, d = some t → x ≠ .tmp t) : aev (updO f d v) x = aev f x := by
 cases x with
 | tmp t =>
  cases d with
  | none => rfl
  | some d => simp only [aev, updO]; exact upd_ne f v (fun e => h d rfl (by rw [e]))
 | _ => cases d <;> rfl
theorem looks_same {o : Oper} {f : Fr} {d : Option Nat} {v : AV} (h : ∀ t, d = some t → t ∉ o.looksAt ops) : awanted ops (updO f d v) o = awanted ops f o ∧ acallee (updO f d v) o.op = acallee f o.op ∧ ∀ s, aop T o.op (aev (updO f d v)) s = aop T o.op (aev f) s := by
 have hop : ∀ x ∈ o.op.operands, aev (updO f d v) x = aev f x := by
  intro x hx
  refine aev_updO fun t ht e => h t ht ?_
  subst e
  simp only [Oper.looksAt, List.mem_append, List.mem_filterMap]
  exact .inl ⟨.tmp t, by simpa using hx, rfl⟩
 refine ⟨?_, ?_, ?_⟩
 ·unfold awanted
  cases hg : o.guard with
  | none => rfl
  | some p =>
   obtain ⟨j, want⟩ := p
   simp only
   cases hd : (ops[j]?).bind (·.dst) with
   | none => rfl
   | some t =>
    simp only
    have ht : updO f d v t = f t := by
     cases d with
     | none => rfl
     | some d =>
      simp only [updO]
      refine upd_ne f v fun e => h d rfl ?_
      subst e
      simp only [Oper.looksAt, List.mem_append, hg, hd]
      right; simp
    rw [ht]
 ·unfold acallee
  cases hq : o.op <;> try rfl
  rename_i c
  simp only
  rw [hq] at hop
  cases hc : c.callee with
  | value x =>
   simp only
   have hx := hop x (by simp [Op.operands, Call.operands, hc])
   have ha : c.args.toList.map (aev (updO f d v)) = c.args.toList.map (aev f) := by
    refine List.map_congr_left fun y hy => hop y ?_
    simp only [Op.operands, Call.operands, hc, Array.mem_append]
    exact .inr (by simpa using hy)
   rw [hx, ha]
  | _ => rfl
 ·intro s
  revert hop
  generalize aev (updO f d v) = ρ
  generalize aev f = ρ'
  intro hop
  exact aop_congr hop s
theorem key_same {o : Oper} {f : Fr} {d : Option Nat} {v : AV} (h : ∀ t, d = some t → t ∉ o.looksAt ops) : keyOf (updO f d v) o = keyOf f o := by
 refine List.map_congr_left fun x hx => aev_updO fun t ht e => h t ht ?_
 subst e
 simp only [Oper.looksAt, List.mem_append, List.mem_filterMap]
 exact .inl ⟨.tmp t, by simpa using hx, rfl⟩
theorem updO_comm {f : Fr} {d e : Option Nat} {u v : AV} (h : ∀ t, d = some t → e ≠ some t) : updO (updO f d u) e v = updO (updO f e v) d u := by
 cases d with
 | none => rfl
 | some d =>
  cases e with
  | none => rfl
  | some e =>
   have hne : e ≠ d := fun x => h d rfl (by rw [x])
   funext t
   simp only [updO, upd]
   by_cases h1 : t = e
   ·subst h1; rw [if_pos rfl, if_neg hne, if_pos rfl]
   ·rw [if_neg h1]
    by_cases h2 : t = d
    ·subst h2; rw [if_pos rfl, if_pos rfl]
    ·rw [if_neg h2, if_neg h2, if_neg h1]
def Free (ops : Array Oper) (A : List (List Nat)) (i j : Nat) (oi oj : Oper) : Prop :=
 oi.apart ops oj = true ∧ (A.getD j []).contains i = false ∧ (A.getD i []).contains j = false
theorem vcV_same {o : Oper} {f : Fr} {d : Option Nat} {v : AV} (h : ∀ t, d = some t → t ∉ o.looksAt ops) {s : AS} {R : AV → AS → Prop} : vcV P T o (updO f d v) s R ↔ vcV P T o f s R := by
 obtain ⟨_, h2, h3⟩ := looks_same (T := T) (ops := ops) (f := f) (v := v) h
 unfold vcV
 rw [h2]
 constructor
 ·intro hh
  split at hh
  ·exact hh
  ·obtain ⟨v, s', a, b⟩ := hh; exact ⟨v, s', by rw [← h3]; exact a, b⟩
 ·intro hh
  split at hh
  ·exact hh
  ·obtain ⟨v, s', a, b⟩ := hh; exact ⟨v, s', by rw [h3]; exact a, b⟩
theorem nextC_comm {i j : Nat} (h : M.contains i = true → M.contains j = false) (k k' : List AV) (v v' : AV) (c : AS → Prop) : nextC C M i k v (nextC C M j k' v' c) = nextC C M j k' v' (nextC C M i k v c) := by
 unfold nextC
 cases hi : M.contains i with
 | false => simp
 | true => rw [h hi]; simp
theorem dq_pull {j : Nat} {oj : Oper} (hoj : ops[j]? = some oj) : ∀ (pre post : List Nat) (f : Fr) (F : Facts) (c : AS → Prop), (∀ i ∈ pre, ∀ oi, ops[i]? = some oi → Free ops A i j oi oj) → (∀ i ∈ pre, M.contains i = true → M.contains j = false) →
    dq P T n ops A H V S X C M s K (pre ++ j :: post) f F c → OpStep P T n ops A H V S X C M s j oj f F c (dq P T n ops A H V S X C M s K (pre ++ post))
  | [], post, f, F, c, _, _, h => by simpa only [List.nil_append, dq, hoj] using h
  | i :: pre, post, f, F, c, hfree, hMM, h => by
    simp only [List.cons_append, dq] at h ⊢
    cases hoi : ops[i]? with
    | none => rw [hoi] at h; exact h.elim
    | some oi =>
      rw [hoi] at h
      simp only at h
      obtain ⟨hap, hAj, hAi⟩ := hfree i (by simp) oi hoi
      obtain ⟨ha1, ha2, ha3⟩ := Oper.apart_spec hap
      have hfree' : ∀ i ∈ pre, ∀ oi, ops[i]? = some oi → Free ops A i j oi oj := fun i hi => hfree i (List.mem_cons_of_mem _ hi)
      have hMM' : ∀ i ∈ pre, M.contains i = true → M.contains j = false := fun i hi => hMM i (List.mem_cons_of_mem _ hi)
      have hMij := hMM i (by simp)
      have hnx : ∀ k v, M.contains i = false → ∀ c, nextC C M i k v c = c := fun k v h c => by simp only [nextC, h, Bool.false_eq_true, if_false]
      have back : ∀ (u : AV) (F2 : Facts) (c2 : AS → Prop), (∀ p ∈ F2, (A.getD j []).contains p.1 = true → p ∈ F) → (M.contains j = true → c2 = c) → ∀ K1 K2 : Fr → Facts → (AS → Prop) → Prop,
          OpStep P T n ops A H V S X C M s j oj (updO f oi.dst u) F2 c2 K1 →
          ((dstOk n oj.dst = true ∧ awanted ops f oj = some false ∧ M.contains j = false) ∨
           (dstOk n oj.dst = true ∧ awanted ops f oj = some true ∧ H.contains j = true ∧ (∀ s', X s s' → WFs s' → (∀ p ∈ F, (A.getD j []).contains p.1 = true → p.2 s') → (M.contains j = true → c s') → vcV P T oj f s' fun v s'' => (if M.contains j then X s' s'' ∧ C j (keyOf f oj) v s'' else Ext s' s'') ∧ S j (keyOf f oj) v s'' ∧ V j (keyOf f oj) v) ∧ ∃ v, V j (keyOf f oj) v) ∨
           (dstOk n oj.dst = true ∧ awanted ops f oj = some true ∧ H.contains j = false ∧ M.contains j = false ∧ quietOp oj.op = true ∧ ∃ v, aop T oj.op (aev f) s = some (v, s) ∧ ∀ s', X s s' → WFs s' → aop T oj.op (aev f) s' = some (v, s'))) := by
        intro u F2 c2 hF2 hc2 K1 K2 hs
        obtain ⟨hd, hs⟩ := hs
        obtain ⟨l1, l2, l3⟩ := looks_same (T := T) (ops := ops) (o := oj) (f := f) (d := oi.dst) (v := u) ha1
        rw [l1, key_same (ops := ops) ha1] at hs
        cases hw : awanted ops f oj with
        | none => rw [hw] at hs; exact hs.elim
        | some b =>
          rw [hw] at hs
          cases b with
          | false => exact .inl ⟨hd, rfl, hs.1⟩
          | true =>
            simp only at hs
            by_cases hh : H.contains j = true
            · rw [if_pos hh] at hs
              refine .inr (.inl ⟨hd, rfl, hh, fun s' he hwf hp => ?_, hs.2.1⟩)
              exact fun hm => (vcV_same ha1).1 (hs.1 s' he hwf (fun p hm hc => hp p (hF2 p hm hc) hc) fun hj => by rw [hc2 hj]; exact hm hj)
            · rw [if_neg hh] at hs
              obtain ⟨h0, h1, v, h2, _⟩ := hs
              exact .inr (.inr ⟨hd, rfl, by simpa using hh, h0, h1, v, by rw [← l3]; exact h2.1, fun s' he hw => by rw [← l3]; exact h2.2 s' he hw⟩)
      have li := fun (u : AV) => looks_same (T := T) (ops := ops) (o := oi) (f := f) (d := oj.dst) (v := u) ha3
      have hcomm : ∀ u v, updO (updO f oi.dst u) oj.dst v = updO (updO f oj.dst v) oi.dst u := fun u v => updO_comm ha2
      obtain ⟨hdi, h⟩ := h
      cases hwi : awanted ops f oi with
      | none => rw [hwi] at h; exact h.elim
      | some bi =>
        rw [hwi] at h
        cases bi with
        | false =>
          simp only at h
          obtain ⟨h0, h⟩ := h
          have ih := dq_pull hoj pre post _ F c hfree' hMM' h
          have fwd : ∀ v F2 c2, dq P T n ops A H V S X C M s K (pre ++ post) (updO (updO f oi.dst .undef) oj.dst v) F2 c2 → OpStep P T n ops A H V S X C M s i oi (updO f oj.dst v) F2 c2 (dq P T n ops A H V S X C M s K (pre ++ post)) := by
            intro v F2 c2 hh
            refine ⟨hdi, ?_⟩
            rw [(li v).1, hwi]
            simp only
            rw [← hcomm]; exact ⟨h0, hh⟩
          obtain ⟨l1, l2, l3⟩ := looks_same (T := T) (ops := ops) (o := oj) (f := f) (d := oi.dst) (v := .undef) ha1
          obtain ⟨hd, ih⟩ := ih
          refine ⟨hd, ?_⟩
          rw [l1, key_same (ops := ops) ha1] at ih
          cases hw : awanted ops f oj with
          | none => rw [hw] at ih; exact ih
          | some b =>
            rw [hw] at ih
            cases b with
            | false => exact ⟨ih.1, fwd _ _ _ ih.2⟩
            | true =>
              simp only at ih ⊢
              by_cases hh : H.contains j = true
              · rw [if_pos hh] at ih ⊢
                exact ⟨fun s' he hwf hp hm => (vcV_same ha1).1 (ih.1 s' he hwf hp hm), ih.2.1, fun v hv => fwd _ _ _ (ih.2.2 v hv)⟩
              · rw [if_neg hh] at ih ⊢
                obtain ⟨h0', h1, v, h2, h3⟩ := ih
                exact ⟨h0', h1, v, ⟨by rw [← l3]; exact h2.1, fun s' he hw => by rw [← l3]; exact h2.2 s' he hw⟩, fwd _ _ _ h3⟩
        | true =>
          simp only at h
          by_cases hhi : H.contains i = true
          · rw [if_pos hhi] at h
            obtain ⟨hA, ⟨v0, hv0⟩, hK⟩ := h
            have ih := fun v hv => dq_pull hoj pre post _ _ _ hfree' hMM' (hK v hv)
            have hF2 : ∀ v, ∀ p ∈ F ++ [(i, S i (keyOf f oi) v)], (A.getD j []).contains p.1 = true → p ∈ F := by
              intro v p hp hc
              rcases List.mem_append.1 hp with h | h
              · exact h
              · obtain rfl := List.mem_singleton.1 h
                rw [hAj] at hc; cases hc
            have fwd : ∀ v F2 c2, (∀ p ∈ F, p ∈ F2) → (M.contains i = true → c2 = c) → (∀ u, V i (keyOf f oi) u → dq P T n ops A H V S X C M s K (pre ++ post) (updO (updO f oi.dst u) oj.dst v) (F2 ++ [(i, S i (keyOf f oi) u)]) (nextC C M i (keyOf f oi) u c2)) →
                OpStep P T n ops A H V S X C M s i oi (updO f oj.dst v) F2 c2 (dq P T n ops A H V S X C M s K (pre ++ post)) := by
              intro v F2 c2 hf2 hc2 hh
              refine ⟨hdi, ?_⟩
              rw [(li v).1, hwi, key_same (ops := ops) ha3]
              simp only
              rw [if_pos hhi]
              exact ⟨fun s' he hwf hp hm => (vcV_same ha3).2 (hA s' he hwf (fun p hm hc => hp p (hf2 p hm) hc) fun hi => by rw [← hc2 hi]; exact hm hi), ⟨v0, hv0⟩, fun u hu => by rw [← hcomm]; exact hh u hu⟩
            have l := fun (u : AV) => looks_same (T := T) (ops := ops) (o := oj) (f := f) (d := oi.dst) (v := u) ha1
            have hcj : ∀ v, M.contains j = true → nextC C M i (keyOf f oi) v c = c := fun v hj => hnx _ _ (by
              cases hi : M.contains i with
              | false => rfl
              | true => rw [hMij hi] at hj; cases hj) c
            rcases back v0 _ _ (hF2 v0) (hcj v0) _ (fun _ _ _ => True) (ih v0 hv0) with ⟨hd, hw, hn0⟩ | ⟨hd, hw, hh, hAj', hVj⟩ | ⟨hd, hw, hh, hn0, hq, v, hv⟩
            · refine ⟨hd, ?_⟩
              rw [hw]
              refine ⟨hn0, fwd _ F c (fun _ h => h) (fun _ => rfl) fun u hu => ?_⟩
              have := (ih u hu).2
              rw [(l u).1, hw, key_same (ops := ops) ha1] at this
              exact this.2
            · refine ⟨hd, ?_⟩
              rw [hw]
              simp only
              rw [if_pos hh]
              refine ⟨hAj', hVj, fun v hv => fwd v _ _ (fun p hp => List.mem_append_left _ hp) (fun hi => by simp only [nextC, hMij hi, Bool.false_eq_true, if_false]) fun u hu => ?_⟩
              have := (ih u hu).2
              rw [(l u).1, hw, key_same (ops := ops) ha1] at this
              simp only at this
              rw [if_pos hh] at this
              rw [nextC_comm hMij]
              refine dq_congr _ _ _ _ _ ?_ (this.2.2 v hv)
              intro p
              simp only [List.mem_append, List.mem_singleton]
              constructor
              · rintro ((h | h) | h)
                · exact .inl (.inl h)
                · exact .inr h
                · exact .inl (.inr h)
              · rintro ((h | h) | h)
                · exact .inl (.inl h)
                · exact .inr h
                · exact .inl (.inr h)
            · refine ⟨hd, ?_⟩
              rw [hw]
              simp only
              rw [if_neg (by rw [hh]; simp)]
              refine ⟨hn0, hq, v, hv, fwd v F c (fun _ h => h) (fun _ => rfl) fun u hu => ?_⟩
              have := (ih u hu).2
              rw [(l u).1, hw, key_same (ops := ops) ha1] at this
              simp only at this
              rw [if_neg (by rw [hh]; simp)] at this
              obtain ⟨_, _, v', ⟨hv', _⟩, hk⟩ := this
              rw [(l u).2.2, hv.1] at hv'
              have e : v = v' := by simpa using hv'
              rw [e]; exact hk
          · rw [if_neg hhi] at h
            obtain ⟨hn0, hq, u, hu, hK⟩ := h
            have ih := dq_pull hoj pre post _ F c hfree' hMM' hK
            have fwd : ∀ v F2 c2, dq P T n ops A H V S X C M s K (pre ++ post) (updO (updO f oi.dst u) oj.dst v) F2 c2 → OpStep P T n ops A H V S X C M s i oi (updO f oj.dst v) F2 c2 (dq P T n ops A H V S X C M s K (pre ++ post)) := by
              intro v F2 c2 hh
              refine ⟨hdi, ?_⟩
              rw [(li v).1, hwi]
              simp only
              rw [if_neg hhi]
              exact ⟨hn0, hq, u, ⟨by rw [(li v).2.2]; exact hu.1, fun s' he hw => by rw [(li v).2.2]; exact hu.2 s' he hw⟩, by rw [← hcomm]; exact hh⟩
            obtain ⟨l1, l2, l3⟩ := looks_same (T := T) (ops := ops) (o := oj) (f := f) (d := oi.dst) (v := u) ha1
            obtain ⟨hd, ih⟩ := ih
            refine ⟨hd, ?_⟩
            rw [l1, key_same (ops := ops) ha1] at ih
            cases hw : awanted ops f oj with
            | none => rw [hw] at ih; exact ih
            | some b =>
              rw [hw] at ih
              cases b with
              | false => exact ⟨ih.1, fwd _ _ _ ih.2⟩
              | true =>
                simp only at ih ⊢
                by_cases hh : H.contains j = true
                · rw [if_pos hh] at ih ⊢
                  exact ⟨fun s' he hwf hp hm => (vcV_same ha1).1 (ih.1 s' he hwf hp hm), ih.2.1, fun v hv => fwd _ _ _ (ih.2.2 v hv)⟩
                · rw [if_neg hh] at ih ⊢
                  obtain ⟨h0', h1, v, h2, h3⟩ := ih
                  exact ⟨h0', h1, v, ⟨by rw [← l3]; exact h2.1, fun s' he hw => by rw [← l3]; exact h2.2 s' he hw⟩, fwd _ _ _ h3⟩
def drawOk (ops : Array Oper) (m : Nat) (A : List (List Nat)) (bs : List Nat) : Bool :=
 decide (Region.before ops = bs.toArray) && decide (m ≤ ops.size) &&
 (List.range ops.size).all fun i => (ops[i]?).all (fun o => o.after.toList.all fun e => decide (e.on < i) || !Region.binds .any e) &&
  if m ≤ i then (List.range i).all fun j => (bs.getD i 0).testBit j
  else ((A.getD i []).all fun j => (bs.getD i 0).testBit j && decide (j < i)) &&
   (List.range i).all fun j => (bs.getD i 0).testBit j || ((ops[j]?).any fun x => (ops[i]?).any fun y => x.apart ops y)
structure DrawFacts (ops : Array Oper) (m : Nat) (A : List (List Nat)) : Prop where
 le : m ≤ ops.size
 back : ∀ (i : Nat) o, ops[i]? = some o → ∀ e ∈ o.after.toList, Region.binds .any e = true → e.on < i
 tail : ∀ i, i < ops.size → m ≤ i → ∀ j, j < i → isAnc ops j i = true
 anc : ∀ i, i < m → ∀ j ∈ A.getD i [], isAnc ops j i = true ∧ j < i
 free : ∀ i, i < m → ∀ j, j < i → isAnc ops j i = true ∨ ∃ x y, ops[j]? = some x ∧ ops[i]? = some y ∧ x.apart ops y = true
theorem drawFacts {ops : Array Oper} {m : Nat} {A : List (List Nat)} {bs : List Nat} (h : drawOk ops m A bs = true) : DrawFacts ops m A := by
 simp only [drawOk, Bool.and_eq_true, decide_eq_true_eq, List.all_eq_true, List.mem_range] at h
 obtain ⟨⟨hb, hm⟩, h⟩ := h
 have hanc : ∀ j i, isAnc ops j i = (bs.getD i 0).testBit j := by
  intro j i; unfold isAnc; rw [hb]; simp [List.getD_eq_getElem?_getD]
 have hlt : ∀ (i : Nat) o, ops[i]? = some o → i < ops.size := by
  intro i o ho
  rcases Nat.lt_or_ge i ops.size with h | h
  ·exact h
  ·simp [Array.getElem?_eq_none h] at ho
 refine ⟨hm, fun i o ho e he hbi => ?_, fun i hi hmi j hj => ?_, fun i hi j hj => ?_, fun i hi j hj => ?_⟩
 ·have := (h i (hlt i o ho)).1
  rw [ho] at this
  simp only [Option.all_some, List.all_eq_true, Bool.or_eq_true, decide_eq_true_eq] at this
  rcases this e he with h | h
  ·exact h
  ·rw [hbi] at h; simp at h
 ·have := (h i hi).2
  rw [if_pos hmi] at this
  rw [hanc]
  simp only [List.all_eq_true, List.mem_range] at this
  exact this j hj
 ·have := (h i (by omega)).2
  rw [if_neg (by omega)] at this
  simp only [Bool.and_eq_true, List.all_eq_true, decide_eq_true_eq] at this
  rw [hanc]
  exact this.1 j hj
 ·have := (h i (by omega)).2
  rw [if_neg (by omega)] at this
  simp only [Bool.and_eq_true, List.all_eq_true, List.mem_range, Bool.or_eq_true] at this
  rcases this.2 j hj with h | h
  ·exact .inl (by rw [hanc]; exact h)
  ·simp only [Option.any_eq_true] at h
   obtain ⟨x, hx, y, hy, h⟩ := h
   exact .inr ⟨x, y, hx, hy, h⟩
structure Listed (ops : Array Oper) (listed : Array Bool) (p : Nat → Prop) : Prop where
 size : listed.size = ops.size
 iff : ∀ i, i < ops.size → (listed.getD i false = true ↔ p i)
theorem ready_iff {ops : Array Oper} {listed : Array Bool} {p : Nat → Prop} (hL : Listed ops listed p) (i : Nat) :
  i ∈ Region.ready .any ops listed ↔ ∃ o, ops[i]? = some o ∧ ¬ p i ∧ ∀ e ∈ o.after.toList, Region.binds .any e = true → listed.getD e.on false = true := by
 unfold Region.ready
 simp only [List.mem_filter, List.mem_range, Bool.and_eq_true, Bool.not_eq_true']
 constructor
 ·rintro ⟨hi, h1, h2⟩
  refine ⟨ops[i], Array.getElem?_eq_getElem hi, ?_, ?_⟩
  ·intro hp
   have := (hL.iff i hi).2 hp
   simp only [Array.getD_eq_getD_getElem?] at h1 this
   rw [Array.getElem?_eq_getElem (by rw [hL.size]; exact hi)] at h1 this
   simp only [Option.getD_some] at h1 this
   rw [h1] at this; cases this
  ·intro e he hb
   rw [Array.getElem?_eq_getElem hi] at h2
   simp only [Option.map_some, Option.getD_some] at h2
   have := Array.all_eq_true'.1 h2 e (by simpa using he)
   rw [hb] at this
   simpa using this
 ·rintro ⟨o, ho, hp, h⟩
  have hi : i < ops.size := by
   rcases Nat.lt_or_ge i ops.size with h | h
   ·exact h
   ·simp [Array.getElem?_eq_none h] at ho
  refine ⟨hi, ?_, ?_⟩
  ·cases hq : listed.getD i true with
   | false => rfl
   | true =>
    exfalso
    apply hp
    rw [← hL.iff i hi]
    simp only [Array.getD_eq_getD_getElem?] at hq ⊢
    rw [Array.getElem?_eq_getElem (by rw [hL.size]; exact hi)] at hq ⊢
    exact hq
  ·rw [ho]
   simp only [Option.map_some, Option.getD_some]
   rw [Array.all_eq_true']
   intro e he
   cases hb : Region.binds .any e with
   | false => simp
   | true => simp [h e (by simpa using he) hb]
theorem Listed.set {ops : Array Oper} {listed : Array Bool} {p p' : Nat → Prop} (hL : Listed ops listed p) {i : Nat} (hp : ∀ j, p' j ↔ (j = i ∨ p j)) : Listed ops (listed.setIfInBounds i true) p' := by
 refine ⟨by simp [hL.size], fun j hj => ?_⟩
 simp only [Array.getD_eq_getD_getElem?]
 rw [Array.getElem?_setIfInBounds]
 have := hL.iff j hj
 simp only [Array.getD_eq_getD_getElem?] at this
 by_cases h : i = j
 ·subst h; simp [hL.size, hj, hp]
 ·rw [if_neg h, hp, this]
  constructor
  ·exact .inr
  ·rintro (h' | h')
   ·exact absurd h'.symm h
   ·exact h'
theorem Listed.down {ops : Array Oper} {m : Nat} {A : List (List Nat)} (hD : DrawFacts ops m A) {listed : Array Bool} {p : Nat → Prop} (hL : Listed ops listed p)
  (hp : ∀ i, i < ops.size → p i → ∀ o, ops[i]? = some o → ∀ e ∈ o.after.toList, Region.binds .any e = true → p e.on) : Down ops listed := by
 intro i o ho hl e he hb
 have hi : i < ops.size := by
  rcases Nat.lt_or_ge i ops.size with h | h
  ·exact h
  ·simp [Array.getElem?_eq_none h] at ho
 have hlt := hD.back i o ho e he hb
 exact (hL.iff e.on (by omega)).2 (hp i hi ((hL.iff i hi).1 hl) o ho e he hb)
theorem tail_sound (hT : TT.Ok P T) {m : Nat} (hD : DrawFacts ops m A) {Q : Exit → Fr → AS → Prop} {B : Nat} {γ0 : Gam} {s0 : AS} {w0 : World} : ∀ (fuel k : Nat) (listed : Array Bool) (f : Fr) (s : AS) (γ : Gam) (a : Act) (w : World),
  m ≤ k → k ≤ ops.size → Listed ops listed (· < k) → ops.size - k ≤ fuel → vcOps P T n ops (ops.toList.drop k) f s (fun f s => Q .normal f s) → FRel γ n f a → Rel B γ s w → Did B γ0 s0 w0 γ s w →
  wpAny P .any ops (PostR B γ0 s0 w0 n Q) fuel listed a w := by
 intro fuel
 induction fuel with
 | zero =>
  intro k listed f s γ a w hm hk hL hf h hfr hr hd
  have hk' : k = ops.size := by omega
  subst hk'
  rw [List.drop_eq_nil_of_le (by simp)] at h
  refine ⟨?_, γ, f, s, hfr, hd, hr, h⟩
  rw [List.eq_nil_iff_forall_not_mem]
  intro i hi
  obtain ⟨o, ho, hp, _⟩ := (ready_iff hL i).1 hi
  apply hp
  rcases Nat.lt_or_ge i ops.size with h | h
  ·exact h
  ·simp [Array.getElem?_eq_none h] at ho
 | succ fuel ih =>
  intro k listed f s γ a w hm hk hL hf h hfr hr hd
  rcases Nat.lt_or_ge k ops.size with hlt | hge
  ·have hdr : ops.toList.drop k = ops[k] :: ops.toList.drop (k + 1) := by
    rw [List.drop_eq_getElem_cons (by simpa using hlt)]; simp
   have hok : ops[k]? = some ops[k] := Array.getElem?_eq_getElem hlt
   have hready : ∀ i, i ∈ Region.ready .any ops listed → i = k := by
    intro i hi
    obtain ⟨o, ho, hp, he⟩ := (ready_iff hL i).1 hi
    have hil : i < ops.size := by
     rcases Nat.lt_or_ge i ops.size with h | h
     ·exact h
     ·simp [Array.getElem?_eq_none h] at ho
    rcases Nat.lt_trichotomy i k with h | h | h
    ·exact absurd h hp
    ·exact h
    ·exfalso
     have hdown := hL.down hD (fun i _ hik o ho e he hb => by have := hD.back i o ho e he hb; omega)
     have := anc_listed hdown i o ho he (hD.tail i hil (by omega) k h)
     have := (hL.iff k hlt).1 this
     omega
   refine ⟨fun hnil => ?_, fun i hi => ?_⟩
   ·exfalso
    have : k ∈ Region.ready .any ops listed := by
     refine (ready_iff hL k).2 ⟨_, hok, by omega, fun e he hb => ?_⟩
     have := hD.back k _ hok e he hb
     exact (hL.iff e.on (by omega)).2 this
    rw [hnil] at this; cases this
   ·obtain rfl := hready i hi
    rw [hdr] at h
    simp only [vcOps] at h
    have hL' : Listed ops (listed.setIfInBounds i true) (· < i + 1) := hL.set fun j => by omega
    unfold wpOp
    rw [hok]
    simp only
    split at h
    ·rename_i hw
     rw [awanted_run hfr hw, if_pos rfl]
     exact .inl (vcOp_sound hT h hfr hr fun γ' f' s' a' w' h1 h2 h3 h4 => ih (i + 1) _ f' s' γ' a' w' (by omega) (by omega) hL' (by omega) h4 h1 h3 (hd.trans h2))
    ·rename_i hw
     rw [awanted_run hfr hw, if_neg (by simp)]
     exact ih (i + 1) _ _ s γ _ w (by omega) (by omega) hL' (by omega) h.2 (hfr.put h.1 (vundef γ)) hr hd
    ·exact h.elim
  ·have hk' : k = ops.size := by omega
   subst hk'
   rw [List.drop_eq_nil_of_le (by simp)] at h
   have hnil : Region.ready .any ops listed = [] := by
    rw [List.eq_nil_iff_forall_not_mem]
    intro i hi
    obtain ⟨o, ho, hp, _⟩ := (ready_iff hL i).1 hi
    apply hp
    rcases Nat.lt_or_ge i ops.size with h | h
    ·exact h
    ·simp [Array.getElem?_eq_none h] at ho
   refine ⟨fun _ => ⟨γ, f, s, hfr, hd, hr, h⟩, fun i hi => ?_⟩
   rw [hnil] at hi; cases hi
theorem quiet_sound (hT : TT.Ok P T) (hst : 1 ≤ s.st) {m : Nat} (hD : DrawFacts ops m A) (hS : ∀ i k v s s', Ext s s' → S i k v s → S i k v s') {Q : Exit → Fr → AS → Prop} {B : Nat} {γ0 : Gam} {s0 : AS} {w0 : World} :
  ∀ (fuel : Nat) (q : List Nat) (listed : Array Bool) (f : Fr) (F : Facts) (s1 : AS) (γ : Gam) (a : Act) (w : World),
  q.Pairwise (· < ·) → (∀ i ∈ q, i < m) → Listed ops listed (fun i => i < m ∧ i ∉ q) → q.length + (ops.size - m) ≤ fuel →
  dqE P T n ops A H V S s (fun f s' => vcOps P T n ops (ops.toList.drop m) f s' (fun f s => Q .normal f s)) q f F → Ext s s1 → (H = [] → s1 = s) → (∀ p ∈ F, p.2 s1) → (∀ p ∈ F, ∀ s s', Ext s s' → p.2 s → p.2 s') →
  FRel γ n f a → Rel B γ s1 w → Did B γ0 s0 w0 γ s1 w → Down ops listed →
  wpAny P .any ops (PostR B γ0 s0 w0 n Q) fuel listed a w := by
 intro fuel
 induction fuel with
 | zero =>
  intro q listed f F s1 γ a w hsort hqm hL hf h hext hsm hF hmono hfr hr hd hdown
  obtain rfl : q = [] := List.length_eq_zero_iff.1 (by omega)
  have hle := hD.le
  refine tail_sound hT hD 0 m listed f s1 γ a w (Nat.le_refl _) hD.le ⟨hL.size, fun i hi => by rw [hL.iff i hi]; simp⟩ (by omega) (h s1 hext hr.wfs hF trivial hsm) hfr hr hd
 | succ fuel ih =>
  intro q listed f F s1 γ a w hsort hqm hL hf h hext hsm hF hmono hfr hr hd hdown
  have hle := hD.le
  cases q with
  | nil => exact tail_sound hT hD (fuel + 1) m listed f s1 γ a w (Nat.le_refl _) hD.le ⟨hL.size, fun i hi => by rw [hL.iff i hi]; simp⟩ (by simpa using hf) (h s1 hext hr.wfs hF trivial hsm) hfr hr hd
  | cons q0 q' =>
   refine ⟨fun hnil => ?_, fun i hi => ?_⟩
   ·exfalso
    have hq0 := hqm q0 (by simp)
    have : q0 ∈ Region.ready .any ops listed := by
     refine (ready_iff hL q0).2 ⟨_, Array.getElem?_eq_getElem (by omega), by simp, fun e he hb => ?_⟩
     have := hD.back q0 _ (Array.getElem?_eq_getElem (by omega)) e he hb
     refine (hL.iff e.on (by omega)).2 ⟨by omega, ?_⟩
     simp only [List.mem_cons, not_or]
     refine ⟨by omega, fun hm => ?_⟩
     have := (List.pairwise_cons.1 hsort).1 e.on hm
     omega
    rw [hnil] at this; cases this
   ·obtain ⟨o, ho, hp, he⟩ := (ready_iff hL i).1 hi
    have hil : i < ops.size := by
     rcases Nat.lt_or_ge i ops.size with h | h
     ·exact h
     ·simp [Array.getElem?_eq_none h] at ho
    have him : i < m := by
     rcases Nat.lt_or_ge i m with h | h
     ·exact h
     ·exfalso
      have hq0 := hqm q0 (by simp)
      have := anc_listed hdown i o ho he (hD.tail i hil h q0 (by omega))
      have := (hL.iff q0 (by omega)).1 this
      exact this.2 (by simp)
    have hiq : i ∈ q0 :: q' := by
     by_cases h : i ∈ q0 :: q'
     ·exact h
     ·exact absurd ⟨him, h⟩ hp
    obtain ⟨pre, post, hq⟩ := List.append_of_mem hiq
    rw [hq] at h hsort hqm hL hf
    have hpre : ∀ k ∈ pre, k < i := by
     intro k hk
     have := (List.pairwise_append.1 hsort).2.2 k hk i (by simp)
     exact this
    have hfree : ∀ k ∈ pre, ∀ ok, ops[k]? = some ok → Free ops A k i ok o := by
     intro k hk ok hok
     have hki := hpre k hk
     have hkl : k < ops.size := by omega
     have hna : isAnc ops k i = false := by
      cases hq2 : isAnc ops k i with
      | false => rfl
      | true =>
       have := anc_listed hdown i o ho he hq2
       have := (hL.iff k hkl).1 this
       exact absurd (by simp [hk] : k ∈ pre ++ i :: post) this.2
     refine ⟨?_, ?_, ?_⟩
     ·rcases hD.free i him k hki with h | ⟨x, y, hx, hy, h⟩
      ·rw [hna] at h; cases h
      ·rw [hok] at hx; rw [ho] at hy
       obtain rfl := Option.some.inj hx; obtain rfl := Option.some.inj hy
       exact h
     ·cases hc : (A.getD i []).contains k with
      | false => rfl
      | true =>
       have := (hD.anc i him k (by simpa using hc)).1
       rw [hna] at this; cases this
     ·cases hc : (A.getD k []).contains i with
      | false => rfl
      | true =>
       have := (hD.anc k (by omega) i (by simpa using hc)).2
       omega
    have hstep := dq_pull ho pre post f F _ hfree (by simp) h
    have hsort' : (pre ++ post).Pairwise (· < ·) := by
     have := List.pairwise_append.1 hsort
     rw [List.pairwise_append]
     exact ⟨this.1, (List.pairwise_cons.1 this.2.1).2, fun x hx y hy => this.2.2 x hx y (by simp [hy])⟩
    have hnot : i ∉ pre ++ post := by
     intro hm
     rcases List.mem_append.1 hm with h | h
     ·have := hpre i h; omega
     ·have := (List.pairwise_cons.1 (List.pairwise_append.1 hsort).2.1).1 i h; omega
    have hL' : Listed ops (listed.setIfInBounds i true) (fun k => k < m ∧ k ∉ pre ++ post) := by
     refine hL.set fun k => ?_
     simp only [List.mem_append, List.mem_cons, not_or]
     constructor
     ·rintro ⟨h1, h2, h3⟩
      by_cases hk : k = i
      ·exact .inl hk
      ·exact .inr ⟨h1, h2, hk, h3⟩
     ·rintro (rfl | ⟨h1, h2, h3, h4⟩)
      ·simp only [List.mem_append, not_or] at hnot
       exact ⟨him, hnot⟩
      ·exact ⟨h1, h2, h4⟩
    have hdown' : Down ops (listed.setIfInBounds i true) := by
     intro k ok hok hk e hem hb
     have mono : listed.getD e.on false = true → (listed.setIfInBounds i true).getD e.on false = true := by
      intro h
      have hel : e.on < listed.size := by
       rcases Nat.lt_or_ge e.on listed.size with h' | h'
       ·exact h'
       ·simp [Array.getD_eq_getD_getElem?, Array.getElem?_eq_none h'] at h
      simp only [Array.getD_eq_getD_getElem?, Array.getElem?_setIfInBounds] at h ⊢
      split
      ·rename_i hie; subst hie; simp [hel]
      ·exact h
     by_cases hki : i = k
     ·subst hki
      rw [ho] at hok; obtain rfl := Option.some.inj hok
      exact mono (he e hem hb)
     ·refine mono (hdown k ok hok ?_ e hem hb)
      simp only [Array.getD_eq_getD_getElem?, Array.getElem?_setIfInBounds] at hk ⊢
      rw [if_neg hki] at hk; exact hk
    have hlen : (pre ++ post).length + (ops.size - m) ≤ fuel := by simp at hf ⊢; omega
    have hqm' : ∀ k ∈ pre ++ post, k < m := fun k hk => hqm k (by rcases List.mem_append.1 hk with h | h <;> simp [h])
    obtain ⟨hdst, hstep⟩ := hstep
    unfold wpOp
    rw [ho]
    simp only
    cases hw : awanted ops f o with
    | none => rw [hw] at hstep; exact hstep.elim
    | some b =>
     rw [hw] at hstep
     rw [awanted_run hfr hw]
     cases b with
     | false =>
      rw [if_neg (by simp)]
      exact ih _ _ _ F s1 γ _ w hsort' hqm' hL' hlen hstep.2 hext hsm hF hmono (hfr.put hdst (vundef γ)) hr hd hdown'
     | true =>
      rw [if_pos rfl]
      simp only at hstep
      by_cases hh : H.contains i = true
      ·rw [if_pos hh] at hstep
       obtain ⟨hA, _, hK⟩ := hstep
       have hv := hA s1 hext hr.wfs (fun p hp _ => hF p hp) (fun _ => trivial)
       have hop : vcOp P T n o f s1 (fun f2 s2 => ∃ v, f2 = updO f o.dst v ∧ Ext s1 s2 ∧ S i (keyOf f o) v s2 ∧ V i (keyOf f o) v) := vcOp_of_vcV hdst hv fun v s2 ⟨h1, h2, h3⟩ => ⟨v, rfl, h1, h2, h3⟩
       refine .inl (vcOp_sound hT hop hfr hr ?_)
       rintro γ' f' s' a' w' h1 h2 h3 ⟨v, rfl, h4, h5, h6⟩
       refine ih _ _ _ _ s' γ' a' w' hsort' hqm' hL' hlen (hK v h6) (hext.trans h4) (fun e => by rw [e] at hh; cases hh) ?_ ?_ h1 h3 (hd.trans h2) hdown'
       ·intro p hp
        rcases List.mem_append.1 hp with h | h
        ·exact hmono p h _ _ h4 (hF p h)
        ·obtain rfl := List.mem_singleton.1 h; exact h5
       ·intro p hp
        rcases List.mem_append.1 hp with h | h
        ·exact hmono p h
        ·obtain rfl := List.mem_singleton.1 h; exact fun s s' he => hS i _ v s s' he
      ·rw [if_neg hh] at hstep
       obtain ⟨_, hq1, v, ⟨hv, hva⟩, hK⟩ := hstep
       have hv1 := hva _ hext hr.wfs
       have hac : acallee f o.op = none := by
        unfold acallee
        split
        ·rename_i c hc
         rw [hc] at hq1
         simp only [quietOp] at hq1
         split
         ·rename_i x hx; rw [hx] at hq1; cases hq1
         ·rfl
        ·rfl
       have hop : vcOp P T n o f s1 (fun f2 s2 => f2 = updO f o.dst v ∧ s2 = s1) := by
        refine ⟨hdst, .inl ?_⟩
        rw [hac]
        exact ⟨v, s1, hv1, rfl, rfl⟩
       refine .inl (vcOp_sound hT hop hfr hr ?_)
       rintro γ' f' s' a' w' h1 h2 h3 ⟨rfl, rfl⟩
       exact ih _ _ _ F _ γ' a' w' hsort' hqm' hL' hlen hK hext hsm hF hmono h1 h3 (hd.trans h2) hdown'
end
theorem AWp.draw {P : Program} {T : TT} (hT : TT.Ok P T) (hmx : P.follows .mixedOrders = true) {n id : Nat} {ops : Array Oper} {f : Fr} {s : AS} {Q : Exit → Fr → AS → Prop} (m : Nat) (A : List (List Nat)) (bs : List Nat) (H : List Nat)
  (V : Nat → List AV → AV → Prop) (S : Nat → List AV → AV → AS → Prop) (hok : drawOk ops m A bs = true) (hS : ∀ i k v s s', Ext s s' → S i k v s → S i k v s')
  (h : dqE P T n ops A H V S s (fun f s' => vcOps P T n ops (ops.toList.drop m) f s' (fun f s => Q .normal f s)) (List.range m) f []) : AWp P n (.region id ops true) f s Q := by
 intro B γ a w hf hr
 have hD := drawFacts hok
 have hle := hD.le
 refine wp_region_any hmx ?_
 refine quiet_sound hT hr.stp hD hS ops.size (List.range m) _ f [] s γ a { w with drawn := w.drawn + 1 } List.pairwise_lt_range (fun i hi => List.mem_range.1 hi) ⟨by simp, fun i hi => ?_⟩ (by simp; omega) h (Ext.refl s) (fun _ => rfl) (by simp) (by simp) hf (hr.of_heap rfl) (Did.of_heap rfl) ?_
 ·simp [Array.getD_eq_getD_getElem?, hi]
 ·intro i o ho hl
  simp only [Array.getD_eq_getD_getElem?] at hl
  by_cases hi : i < ops.size
  ·simp [hi] at hl
  ·simp [hi] at hl
end Go.Am
end

section
namespace Go.Am
def TT.of (P : Program) : TT where
 und t := P.underlying t
 siz t := (P.info? t).map (·.size)
 byt t := (P.info? t).map (·.bytes)
 zer t := (P.info? t).bind fun i => i.zero.map ofV
 eqg t := !P.eqGuardType P.depth t
 eqt t := !P.stoodInHeld t
theorem TT.of_ok (P : Program) : TT.Ok P (TT.of P) where
 und _ _ h := h
 siz _ _ h := h
 byt _ _ h := h
 zer t v h := by
  simp only [TT.of, Option.bind_eq_some_iff, Option.map_eq_some_iff] at h
  obtain ⟨i, hi, c, hc, rfl⟩ := h
  exact ⟨i, c, hi, hc, fun γ => ofV_rel γ c⟩
 eqg t h := by simpa [TT.of] using h
 eqt t h := by simpa [TT.of] using h
section
variable (T : TT) (ρ : Operand → AV) (s : AS)
end
@[simp] theorem acells_int (k : IntKind) (n : Int) : acells (.int k n) = some [.int k n] := rfl
@[simp] theorem acells_bool (b : Bool) : acells (.bool b) = some [.bool b] := rfl
@[simp] theorem acells_str (b : List UInt8) : acells (.str b) = some [.str b] := rfl
@[simp] theorem acells_ptr (a : Option (Nat × Nat)) : acells (.ptr a) = some [.ptr a] := rfl
@[simp] theorem acells_slc (a : Option (Nat × Nat)) (n m : Nat) (e : Bool) : acells (.slc a n m e) = some [.slc a n m e] := rfl
@[simp] theorem acells_emp : acells .emp = some [.emp] := rfl
@[simp] theorem acells_map (a : Option Nat) : acells (.map a) = some [.map a] := rfl
@[simp] theorem one_int (k : IntKind) (n : Int) : (AV.int k n).one = true := rfl
@[simp] theorem one_bool (b : Bool) : (AV.bool b).one = true := rfl
@[simp] theorem one_str (b : List UInt8) : (AV.str b).one = true := rfl
@[simp] theorem one_ptr (a : Option (Nat × Nat)) : (AV.ptr a).one = true := rfl
@[simp] theorem one_slc (a : Option (Nat × Nat)) (n m : Nat) (e : Bool) : (AV.slc a n m e).one = true := rfl
@[simp] theorem one_map (a : Option Nat) : (AV.map a).one = true := rfl
section
variable (T : TT) (t : TypeId) (k : IntKind) (a b : Int)
end
section
variable {P : Program} {T : TT} {n : Nat} {ops : Array Oper} {o : Oper} {os : List Oper} {f : Fr} {s : AS} {K : Fr → AS → Prop}
end
def XRet (T : TT) (rs : List ResultVar) (R : AV → AS → Prop) : Exit → Fr → AS → Prop := fun e f s' => match e with
 | .normal | .ret => ∃ v, ares T rs f s' = some v ∧ R v s'
 | _ => False
theorem ACalls.body {P : Program} {T : TT} (hT : TT.Ok P T) {g : FuncId} {fn : Func} {c : Code} {args : List AV} {s : AS} {R : AV → AS → Prop} {n : Nat} {rs : List ResultVar} (hf : P.funcs[g]? = some fn) (hc : callable P g = true) (hb : fn.body = some c)
  (hn : args.length + (fn.ntmps - args.length) = n) (hrs : fn.results.toList = rs) (h : AWp P n c (ainit args) s (XRet T rs R)) : ACalls P g args s R := by
 subst hn hrs
 exact ACalls.of_body hT hf hc hb h
theorem ald_scalar {T : TT} {t : TypeId} (h : T.agg t = some false) (s : AS) (l o : Nat) : ald T t s (.ptr (some (l, o))) = rd1 s l o := by unfold ald; simp only [h]
theorem rd1_of {s : AS} {l o : Nat} {cs : List AV} {g : Nat} {ro : Bool} (h : s.h l = some (.cells cs g ro)) : rd1 s l o = cs[o]? := by simp [rd1, h]
theorem rdc_of {s : AS} {l o n : Nat} {cs : List AV} {g : Nat} {ro : Bool} (h : s.h l = some (.cells cs g ro)) (hn : o + n ≤ cs.length) : rdc s l o n = some ((cs.drop o).take n) := by simp [rdc, h, hn]
end Go.Am
end

section
namespace Go.Am
abbrev XCall := FuncId → List AV → AS → Option (AV × AS)
def CallOk (P : Program) (call : XCall) : Prop := ∀ g args s v s', call g args s = some (v, s') → ACalls P g args s fun v2 s2 => v2 = v ∧ s2 = s'
section
variable {P : Program} {T : TT} (hT : TT.Ok P T) {call : XCall} (hcall : CallOk P call)
include hT hcall
end
/-! ### A region that draws its order -/
end Go.Am
end

section
namespace Go.Am
section
variable (P : Program) (T : TT) (n : Nat) (ops : Array Oper) (tab : Nat → Option (AV × AS)) (vw : Nat → AS)
end
section
variable {P : Program} {T : TT} {n : Nat} {ops : Array Oper} {tab : Nat → Option (AV × AS)} {vw : Nat → AS} {K : Fr → Prop}
end
/-! ### The heap, half way -/
section
variable {B : Nat} {γ0 γ : Gam} {s : AS} {w0 w : World} {m : Nat} {tab : Nat → Option (AV × AS)} {L : Nat → Prop}
end
/-! ### Every order -/
section
variable {P : Program} {T : TT} {n : Nat} {ops : Array Oper} {tab : Nat → Option (AV × AS)} {vw : Nat → AS} {s sm : AS}
end
end Go.Am
end

section
namespace Go.Am
section
variable {P : Program} {T : TT} (hT : TT.Ok P T) {call : XCall} (hcall : CallOk P call) {n : Nat} {ops : Array Oper} {bs : List Nat} {m : Nat} {s : AS} {K : Fr → Prop}
include hT hcall
end
section
variable {P : Program} {T : TT} (hT : TT.Ok P T) {call : XCall} (hcall : CallOk P call) (hmx : P.follows .mixedOrders = true)
include hT hcall hmx
end
/-! ### A region that draws the order of operations that need no heap -/
end Go.Am
end

section
namespace Go.Am
inductive TK where
 | int (k : IntKind)
 | bool
 | str
 | ptr
 | map
 | agg
 | any
 | tup (l : List TK)
def tk1 (T : TT) (t : TypeId) : TK := match T.und t with
 | some (.int k) => .int k
 | some .bool => .bool
 | some .string => .str
 | some (.pointer _) => .ptr
 | some (.map _ _) => .map
 | some (.struct _) => .agg
 | some (.array _ _) => .agg
 | _ => .any
def tkOf (T : TT) (t : TypeId) : TK := match T.und t with
 | some (.tuple es) => .tup (es.toList.map (tk1 T))
 | _ => tk1 T t
/-! ### the words -/
def RdI (k : IntKind) (o : Option AV) (K : Int → Prop) : Prop := ∃ n, o = some (.int k n) ∧ K n
def RdB (o : Option AV) (K : Bool → Prop) : Prop := ∃ b, o = some (.bool b) ∧ K b
def RdS (o : Option AV) (K : List UInt8 → Prop) : Prop := ∃ b, o = some (.str b) ∧ K b
def RdP (o : Option AV) (K : Option (Nat × Nat) → Prop) : Prop := ∃ a, o = some (.ptr a) ∧ K a
def RdM (o : Option AV) (K : Option Nat → Prop) : Prop := ∃ r, o = some (.map r) ∧ K r
def RdG (o : Option AV) (K : List AV → Prop) : Prop := ∃ l, o = some (.agg l) ∧ K l
def RdA (o : Option AV) (K : AV → Prop) : Prop := ∃ v, o = some v ∧ K v
def RdL (o : Option (List AV)) (K : List AV → Prop) : Prop := ∃ l, o = some l ∧ K l
def RdO (o : Option Bool) (K : Bool → Prop) : Prop := ∃ b, o = some b ∧ K b
def StQ (o : Option AS) (K : AS → Prop) : Prop := ∃ s, o = some s ∧ K s
def Bd2 (o : Option (AV × AS)) (K : AV → AS → Prop) : Prop := ∃ v s, o = some (v, s) ∧ K v s
def IxQ (o : Option AV) (K : Nat → Nat → Prop) : Prop := ∃ l i, o = some (.ptr (some (l, i))) ∧ K l i
def AsSome (a : Option (Nat × Nat)) (K : Nat → Nat → Prop) : Prop := match a with
 | some (l, i) => K l i
 | none => False
def OkC (n : Option Nat) (l : List AV) (P : Prop) : Prop := (l.all AV.one = true ∧ n = some l.length) ∧ P
def One1 (l : List AV) (P : Prop) : Prop := l.all AV.one = true ∧ P
def bsplit (b : Bool) (X Y : Prop) : Prop := match b with
 | true => X
 | false => Y
def NZ (b : Int) (P : Prop) : Prop := b ≠ 0 ∧ P
def NN (b : Int) (P : Prop) : Prop := 0 ≤ b ∧ P
def LenOk (n : Nat) (P : Prop) : Prop := (n : Int) ≤ 9223372036854775807 ∧ P
def ACallV (P : Program) (v : AV) (args : List AV) (s : AS) (R : AV → AS → Prop) : Prop := match v with
 | .func g cap => ACalls P g (args ++ cap) s R
 | .meth g ft cap => ACalls P g (ft ++ (args ++ cap)) s R
 | _ => False
def NewQ (o : AO) (s : AS) (K : Nat → AS → Prop) : Prop := K s.nl (s.new o)
def JoinQ (A : (List AV → AS → Prop) → Prop) : Prop := ∃ J, A J
def LoopQ (A : (Nat → List AV → AS → Prop) → Nat → Prop) : Prop := ∃ I m, A I m
def DrawQ (A : (Nat → List AV → AV → AS → Prop) → (Nat → List AV → AV → Prop) → Prop) : Prop := ∃ S V, (∀ i k v s s', Ext s s' → S i k v s → S i k v s') ∧ A S V
def DrawM (s : AS) (A : (AS → AS → Prop) → (Nat → List AV → AV → AS → Prop) → (AS → Prop) → (Nat → List AV → AV → AS → Prop) → (Nat → List AV → AV → Prop) → Prop) : Prop :=
 ∃ X C c S V, (∀ s s', Ext s s' → X s s') ∧ (∀ a b c, X a b → X b c → X a c) ∧ (∀ i k v s s', Ext s s' → C i k v s → C i k v s') ∧ (∀ i k v s s', X s s' → S i k v s → S i k v s') ∧ (∀ s s', Ext s s' → c s → c s') ∧ c s ∧ A X C c S V
def csL : List TK → List AV → (List AV → Prop) → Prop
 | [], acc, F => F acc
 | .int k :: ks, acc, F => ∃ n : Int, csL ks (acc ++ [.int k n]) F
 | .bool :: ks, acc, F => ∃ b : Bool, csL ks (acc ++ [.bool b]) F
 | .str :: ks, acc, F => ∃ b : List UInt8, csL ks (acc ++ [.str b]) F
 | .ptr :: ks, acc, F => ∃ a : Option (Nat × Nat), csL ks (acc ++ [.ptr a]) F
 | .map :: ks, acc, F => ∃ r : Option Nat, csL ks (acc ++ [.map r]) F
 | .agg :: ks, acc, F => ∃ l : List AV, csL ks (acc ++ [.agg l]) F
 | _ :: ks, acc, F => ∃ v : AV, csL ks (acc ++ [v]) F
theorem csL_some : ∀ {ks : List TK} {acc : List AV} {F : List AV → Prop}, csL ks acc F → ∃ l, F l
 | [], acc, F, h => ⟨acc, h⟩
 | k :: ks, acc, F, h => by
  cases k <;> (simp only [csL] at h; obtain ⟨_, h⟩ := h; exact csL_some h)
def rd (k : TK) (o : Option AV) (K : AV → Prop) : Prop := match k with
 | .int k => RdI k o fun n => K (.int k n)
 | .bool => RdB o fun b => K (.bool b)
 | .str => RdS o fun b => K (.str b)
 | .ptr => RdP o fun a => K (.ptr a)
 | .map => RdM o fun a => K (.map a)
 | .agg => RdG o fun a => K (.agg a)
 | .any => RdA o K
 | .tup ks => csL ks [] fun l => o = some (.tup l) ∧ K (.tup l)
theorem rd_some {k : TK} {o : Option AV} {K : AV → Prop} (h : rd k o K) : ∃ v, o = some v ∧ K v := by
 cases k with
 | tup ks => obtain ⟨l, h1, h2⟩ := csL_some h; exact ⟨_, h1, h2⟩
 | _ => obtain ⟨n, h1, h2⟩ := h; exact ⟨_, h1, h2⟩
def qcs (k : TK) (v : AV) (K : AV → Prop) : Prop := match k with
 | .int k => ∃ n, v = .int k n ∧ K (.int k n)
 | .bool => ∃ b, v = .bool b ∧ K (.bool b)
 | .str => ∃ b, v = .str b ∧ K (.str b)
 | .ptr => ∃ a, v = .ptr a ∧ K (.ptr a)
 | .map => ∃ a, v = .map a ∧ K (.map a)
 | .agg => ∃ a, v = .agg a ∧ K (.agg a)
 | .any => K v
 | .tup ks => csL ks [] fun l => v = .tup l ∧ K (.tup l)
theorem qcs_get {k : TK} {v : AV} {K : AV → Prop} (h : qcs k v K) : K v := by
 cases k with
 | tup ks => obtain ⟨l, rfl, h2⟩ := csL_some h; exact h2
 | any => exact h
 | _ => obtain ⟨n, rfl, h2⟩ := h; exact h2
def absl (T : TT) (t : TypeId) (len : Nat) (parts : List (Nat × AV)) : Option (List AV) :=
 match T.und t with
 | some (.slice elem) =>
  (T.siz elem).bind fun n => (T.zer elem).bind fun z => (acells z).bind fun zc =>
   if zc.length = n ∧ len * n ≤ 2 ^ 24 then afill (fun i => some (i * n, n)) (rep len zc) parts else none
 | _ => none
def qbinI (op : BinOp) (k : IntKind) (a b : Int) (K : AV → Prop) : Prop := match op with
 | .add => K (.int k (k.wrap (a + b)))
 | .sub => K (.int k (k.wrap (a - b)))
 | .mul => K (.int k (k.wrap (a * b)))
 | .quo => NZ b (K (.int k (k.wrap (a.tdiv b))))
 | .rem => NZ b (K (.int k (a.tmod b)))
 | .eql => K (.bool (a == b))
 | .neq => K (.bool (a != b))
 | .lss => K (.bool (decide (a < b)))
 | .leq => K (.bool (decide (a ≤ b)))
 | .gtr => K (.bool (decide (a > b)))
 | .geq => K (.bool (decide (a ≥ b)))
 | op => RdA (abinInt op k a b) K
def agdv (T : TT) (t : TypeId) (c : Bool) : AV → AV → Bool
 | .agg _, .agg _ => T.eqg t
 | .nilIface, .nilIface => c
 | .bad, _ => false
 | _, .bad => false
 | _, _ => true
theorem agdv_eq (T : TT) (t : TypeId) (x y : Operand) (u v : AV) : agd T t x y u v = agdv T t (isC x || isC y) u v := by
 cases u <;> cases v <;> rfl
def qbin (T : TT) (op : BinOp) (t : TypeId) (c : Bool) (x y : AV) (K : AV → Prop) : Prop :=
 match op, x, y with
 | .shl, .int k a, .int _ b => NN b (K (.int k (k.wrap (a * 2 ^ min b.toNat k.bits))))
 | .shr, .int k a, .int _ b => NN b (K (.int k (a.fdiv (2 ^ min b.toNat k.bits))))
 | op, .int k a, .int k' b => bif k == k' then qbinI op k a b K else False
 | .add, .str a, .str b => LenOk (a.length + b.length) (K (.str (a ++ b)))
 | .eql, .str a, .str b => K (.bool (a == b))
 | .neq, .str a, .str b => K (.bool !(a == b))
 | .lss, .str a, .str b => K (.bool (bytesLt a b))
 | .leq, .str a, .str b => K (.bool (bytesLt a b || a == b))
 | .gtr, .str a, .str b => K (.bool !(bytesLt a b || a == b))
 | .geq, .str a, .str b => K (.bool !(bytesLt a b))
 | .eql, .bool a, .bool b => (match T.und t with | some .bool => K (.bool (a == b)) | _ => False)
 | .neq, .bool a, .bool b => (match T.und t with | some .bool => K (.bool !(a == b)) | _ => False)
 | .eql, .agg xs, .agg ys => bif T.eqg t then RdO (aeq T 100 t (.agg xs) (.agg ys)) fun b => K (.bool b) else False
 | .neq, .agg xs, .agg ys => bif T.eqg t then RdO (aeq T 100 t (.agg xs) (.agg ys)) fun b => K (.bool !b) else False
 | .eql, .ptr a, .ptr b => RdO (aeq T 100 t (.ptr a) (.ptr b)) fun b => K (.bool b)
 | .neq, .ptr a, .ptr b => RdO (aeq T 100 t (.ptr a) (.ptr b)) fun b => K (.bool !b)
 | .eql, .map a, .map b => RdO (aeq T 100 t (.map a) (.map b)) fun b => K (.bool b)
 | .neq, .map a, .map b => RdO (aeq T 100 t (.map a) (.map b)) fun b => K (.bool !b)
 | .eql, x, y => agdv T t c x y = true ∧ RdO (aeq T 100 t x y) fun b => K (.bool b)
 | .neq, x, y => agdv T t c x y = true ∧ RdO (aeq T 100 t x y) fun b => K (.bool !b)
 | _, _, _ => False
def isEqT : Option TypeDesc → Bool
 | some (.slice _) => true
 | some (.func _ _ _) => true
 | some (.interface _) => true
 | _ => false
def eqQ (T : TT) (t : TypeId) (c : Bool) (x y : AV) : Option Bool := if agdv T t c x y = true then aeq T 100 t x y else none
def qbinT (T : TT) (op : BinOp) (t : TypeId) (c : Bool) (x y : AV) (K : AV → Prop) : Prop :=
 match isEqT (T.und t), op with
 | true, .eql => RdO (eqQ T t c x y) fun b => K (.bool b)
 | true, .neq => RdO (eqQ T t c x y) fun b => K (.bool !b)
 | _, op => qbin T op t c x y K
def qcells (v : AV) (F : List AV → Prop) : Prop := match v with
 | .agg l => One1 l (F l)
 | .tup _ => False
 | .bad => False
 | v => F [v]
def qstore (T : TT) (t : TypeId) (s : AS) (l off : Nat) (v : AV) (K : AS → Prop) : Prop := match v with
 | .agg cs => OkC (T.siz t) cs (StQ (awr s l off cs) K)
 | .tup _ => False
 | .bad => False
 | v => bif T.siz t == some 1 then StQ (awr s l off [v]) K else False
def arange (T : TT) (t : TypeId) (x : AV) (s : AS) : Option (AV × AS) := match T.und t, x with
 | some .string, .str b => some (.ptr (some (s.nl, 0)), s.new (.strIt b 0 false))
 | some (.map _ _), .map none => some (.ptr (some (s.nl, 0)), s.new (.mapIt none 0 [] 0 false))
 | some (.map _ _), .map (some m) => match s.h m with
  | some (.map _ clock _) => some (.ptr (some (s.nl, 0)), s.new (.mapIt (some m) clock [] clock false))
  | _ => none
 | _, _ => none
def acandM (x : AV) (s : AS) : Option (Bool × List (AV × AV × AS)) := match x with
 | .ptr (some (l, 0)) => match s.h l with
  | some (.mapIt none _ _ _ _) => some (true, [])
  | some (.mapIt (some m) since seen last false) => match s.h m with
   | some (.map es clock _) =>
    if seen ≠ [] ∧ es ≠ [] ∧ (es.all fun e => decide (last ≤ e.2.2)) then none else
    let left := es.filter fun e => !seen.contains e.2.2
    let old := left.filter fun e => decide (e.2.2 < since)
    let new := left.filter fun e => decide (since ≤ e.2.2)
    some (old.isEmpty, (old ++ new).map fun e => (e.1, e.2.1, s.put l (.mapIt (some m) since (seen ++ [e.2.2]) clock false)))
   | _ => none
  | _ => none
 | _ => none
def NextP (o : Option (Bool × List (AV × AV × AS))) (A : Prop) (B : AV → AV → AS → Prop) : Prop :=
 ∃ b l, o = some (b, l) ∧ (b = true → A) ∧ ∀ k v s', (k, v, s') ∈ l → B k v s'
def NextM (o : Option (Bool × List (AV × AV × AS))) (s : AS) (K : AV → AS → Prop) : Prop := NextP o (K (.tup [.bool false]) s) fun k v s' => K (.tup [.bool true, k, v]) s'
def RdE (o : Option AV) (K : AV → AV → Prop) : Prop := ∃ k v, o = some (.tup [k, v]) ∧ K k v
def acandS (x : AV) (s : AS) : Option (Option (Int × Int × AS)) := match x with
 | .ptr (some (l, 0)) => match s.h l with
  | some (.strIt b pos false) =>
   if pos < b.length then some (some (pos, (Utf8.decode ⟨b.toArray⟩ pos).1, s.put l (.strIt b (pos + (Utf8.decode ⟨b.toArray⟩ pos).2) false)))
   else some none
  | _ => none
 | _ => none
def NextR (o : Option (Option (Int × Int × AS))) (A : Prop) (B : Int → Int → AS → Prop) : Prop :=
 ∃ r, o = some r ∧ (r = none → A) ∧ ∀ i c s', r = some (i, c, s') → B i c s'
def NextS (o : Option (Option (Int × Int × AS))) (s : AS) (K : AV → AS → Prop) : Prop := NextR o (K (.tup [.bool false]) s) fun i c s' => K (.tup [.bool true, .int .i64 i, .int .i32 c]) s'
theorem NextM_get {it : Operand} {ρ : Operand → AV} {s : AS} {K : AV → AS → Prop} (h : NextM (acandM (ρ it) s) s K) : ∃ l, acand (.next it false) ρ s = some l ∧ ∀ p ∈ l, K p.1 p.2 := by
 obtain ⟨b, l, h1, h2, h3⟩ := h
 unfold acandM at h1
 unfold acand
 simp only
 split at h1
 ·rename_i l0 hp
  rw [hp]
  simp only
  split at h1
  ·rename_i since seen last ro hl
   obtain ⟨rfl, rfl⟩ : true = b ∧ [] = l := by simpa using h1
   rw [hl]
   exact ⟨_, rfl, fun p hp => by obtain rfl := List.mem_singleton.1 hp; exact h2 rfl⟩
  ·rename_i m since seen last hl
   rw [hl]
   simp only
   split at h1
   ·rename_i es clock ro hm
    rw [hm]
    simp only
    split at h1
    ·cases h1
    ·rename_i hc
     rw [if_neg hc]
     simp only [Option.some.injEq, Prod.mk.injEq] at h1
     obtain ⟨rfl, rfl⟩ := h1
     refine ⟨_, rfl, fun p hp => ?_⟩
     rcases List.mem_append.1 hp with hp | hp
     ·split at hp
      ·rename_i he
       obtain rfl := List.mem_singleton.1 hp
       exact h2 he
      ·cases hp
     ·obtain ⟨e, he, rfl⟩ := List.mem_map.1 hp
      exact h3 _ _ _ (List.mem_map.2 ⟨e, he, rfl⟩)
   ·cases h1
  ·cases h1
 ·cases h1
theorem NextS_get {it : Operand} {ρ : Operand → AV} {s : AS} {K : AV → AS → Prop} (h : NextS (acandS (ρ it) s) s K) : ∃ l, acand (.next it true) ρ s = some l ∧ ∀ p ∈ l, K p.1 p.2 := by
 obtain ⟨r, h1, h2, h3⟩ := h
 unfold acandS at h1
 unfold acand
 simp only
 split at h1
 ·rename_i l0 hp
  rw [hp]
  simp only
  split at h1
  ·rename_i b pos hl
   rw [hl]
   simp only [if_true]
   split at h1
   ·rename_i hc
    obtain rfl := Option.some.inj h1
    rw [if_pos hc]
    exact ⟨_, rfl, fun p hp => by obtain rfl := List.mem_singleton.1 hp; exact h3 _ _ _ rfl⟩
   ·rename_i hc
    obtain rfl := Option.some.inj h1
    rw [if_neg hc]
    exact ⟨_, rfl, fun p hp => by obtain rfl := List.mem_singleton.1 hp; exact h2 rfl⟩
  ·cases h1
 ·cases h1
def qbuiltin (T : TT) (tk : TK) (b : Builtin) (ts : List TypeId) (args : List AV) (s : AS) (K : AV → AS → Prop) : Prop :=
 match b, ts, args with
 | .len, t :: _, x :: _ => RdI .i64 (alenB T t x s) fun n => K (.int .i64 n) s
 | .cap, t :: _, x :: _ => RdI .i64 (acapB T t x) fun n => K (.int .i64 n) s
 | .append, t :: xt :: _, dst :: x :: _ => Bd2 (aappend T t xt dst x s) K
 | .copy, t :: _ :: _, dst :: x :: _ => Bd2 (acopy T t dst x s) K
 | .delete, t :: _, m :: k :: _ => StQ (adelete T t m k s) fun s => K .undef s
 | .clear, t :: _, x :: _ => StQ (aclear T t x s) fun s => K .undef s
 | .max, _, l => rd tk (amax true l) fun v => K v s
 | .min, _, l => rd tk (amax false l) fun v => K v s
 | _, _, _ => False
def qop (P : Program) (T : TT) (o : Oper) (ρ : Operand → AV) (s : AS) (K : AV → AS → Prop) : Prop :=
 match o.op with
 | .move x => K (ρ x) s
 | .assign x => K (ρ x) s
 | .pick c a b => (match ρ c with | .bool t => bsplit t (K (ρ a) s) (K (ρ b) s) | _ => False)
 | .alloc e => (match T.zer e with | some z => (bif z.cells.all AV.one then K (.ptr (some (s.nl, 0))) (s.new (.cells z.cells 0 false)) else False) | none => False)
 | .box _ x => qcells (ρ x) fun cs => K (.ptr (some (s.nl, 0))) (s.new (.cells cs 0 false))
 | .build t parts => RdG (abuild T t (parts.toList.map fun p => (p.1, ρ p.2))) fun cs => K (.agg cs) s
 | .buildSlice t len parts => RdL (absl T t len (parts.toList.map fun p => (p.1, ρ p.2))) fun cs => K (.slc (some (s.nl, 0)) len len true) (s.new (.cells cs 0 false))
 | .load t a => (match ρ a with
  | .ptr a => AsSome a fun l off => (match T.agg t with
   | some true => (match T.siz t with | some n => RdL (rdc s l off n) fun cs => K (.agg cs) s | none => False)
   | some false => rd (tk1 T t) (rd1 s l off) fun v => K v s
   | none => False)
  | _ => False)
 | .store t a x => (match ρ a with | .ptr a => AsSome a fun l off => qstore T t s l off (ρ x) fun s => K .undef s | _ => False)
 | .nilCheck x => (match ρ x with
  | .ptr a => AsSome a fun l off => K (.ptr (some (l, off))) s
  | .func f c => K (.func f c) s
  | .meth f ft c => K (.meth f ft c) s
  | .iface t v => K (.iface t v) s
  | _ => False)
 | .binOp op t x y _ => qbinT T op t (isC x || isC y) (ρ x) (ρ y) fun v => K v s
 | .unOp op _ x => (match op, ρ x with
  | .neg, .int k n => K (.int k (k.wrap (0 - n))) s
  | .not, .bool b => K (.bool !b) s
  | op, v => RdA (aun op v) fun v => K v s)
 | .convert src dst x => (match T.und src, T.und dst, ρ x with
  | some (.slice _), some .string, v => RdS ((aconvert T src dst v s).map (·.1)) fun b => K (.str b) s
  | some _, some (.int k), .int _ n => K (.int k (k.wrap n)) s
  | some _, some .string, .str b => K (.str b) s
  | some _, some (.slice _), v => Bd2 (aconvert T src dst v s) K
  | some _, some .string, v => RdS ((aconvert T src dst v s).map (·.1)) fun b => K (.str b) s
  | _, _, _ => False)
 | .makeInterface t x => (match T.und t with | some (.interface _) => False | some _ => K (.iface t (ρ x)) s | none => False)
 | .makeFunc (.func f) first captured => bif first.isEmpty then K (.func f (captured.toList.map ρ)) s else K (.meth f (first.toList.map ρ) (captured.toList.map ρ)) s
 | .makeMap t none => (match T.und t with | some _ => K (.map (some s.nl)) (s.new (.map [] 0 false)) | none => False)
 | .makeSlice t l c => Bd2 (amakeSlice T t (ρ l) (ρ c) s) K
 | .slice t x lo hi mx => rd (tkOf T o.type) (aslice T t (ρ x) (lo.map ρ) (hi.map ρ) (mx.map ρ)) fun v => K v s
 | .fieldAddr t x f => (match ρ x with | .ptr a => AsSome a fun l off => (match afieldAddr T t (.ptr (some (l, off))) f with | some v => K v s | none => False) | _ => False)
 | .field t x f => (match T.und t, ρ x with
  | some (.struct fields), .agg cs => (match fields[f]? with
   | some fd => (match T.agg fd.type with
    | some true => (match T.siz fd.type with | some n => K (.agg ((cs.drop fd.offset).take n)) s | none => False)
    | some false => rd (tk1 T fd.type) (cs[fd.offset]?) fun v => K v s
    | none => False)
   | none => False)
  | _, _ => False)
 | .indexAddr t x ix => IxQ (aindexAddr T t (ρ x) (ρ ix)) fun l off => K (.ptr (some (l, off))) s
 | .index t x ix => rd (tkOf T o.type) (aindex T t (ρ x) (ρ ix)) fun v => K v s
 | .lookup t x ix ok => rd (tkOf T o.type) (alookup T t (ρ x) (ρ ix) ok s) fun v => K v s
 | .mapUpdate t m k v => StQ (amapUpdate T t (ρ m) (ρ k) (ρ v) s) fun s => K .undef s
 | .insert t m k v => StQ (amapUpdate T t (ρ m) (ρ k) (ρ v) s) fun s => K .undef s
 | .extract t i => (match ρ t with | .tup vs => (match vs[i]? with | some v => K v s | none => False) | _ => False)
 | .call c => (match c.callee with
  | .builtin b => qbuiltin T (tkOf T o.type) b c.argTypes.toList (c.args.toList.map ρ) s K
  | .value x => ACallV P (ρ x) (c.args.toList.map ρ) s fun v s => qcs (tkOf T o.type) v fun v => K v s
  | _ => False)
 | .range t x => Bd2 (arange T t (ρ x) s) K
 | .entry it => rd (tkOf T o.type) (aentry (ρ it) s) fun v => K v s
 | _ => False
section
variable {P : Program} {T : TT}
theorem bsplit_if {b : Bool} {X Y : Prop} (h : bsplit b X Y) : if b = true then X else Y := by cases b <;> simpa [bsplit] using h
theorem asSome_get {a : Option (Nat × Nat)} {F : Nat → Nat → Prop} (h : AsSome a F) : ∃ l o, a = some (l, o) ∧ F l o := by
 unfold AsSome at h
 split at h
 ·exact ⟨_, _, rfl, h⟩
 ·exact h.elim
theorem absl_eq {t : TypeId} {len : Nat} {parts : List (Nat × AV)} {s : AS} {cs : List AV} (h : absl T t len parts = some cs) : abuildSlice T t len parts s = some (.slc (some (s.nl, 0)) len len true, s.new (.cells cs 0 false)) := by
 unfold absl at h
 unfold abuildSlice
 cases hu : T.und t with
 | none => rw [hu] at h; cases h
 | some d =>
  rw [hu] at h
  cases d with
  | slice e =>
   simp only [Option.bind_eq_some_iff] at h
   obtain ⟨n, hn, z, hz, zc, hzc, h⟩ := h
   simp only [hn, hz, hzc, Option.bind_some]
   split at h
   ·rename_i hc
    rw [if_pos hc, h]; rfl
   ·cases h
  | _ => cases h
theorem qcells_get {v : AV} {F : List AV → Prop} (h : qcells v F) : ∃ cs, acells v = some cs ∧ F cs := by
 unfold qcells at h
 split at h
 ·rename_i l
  obtain ⟨h1, h2⟩ := h
  exact ⟨l, by simp only [acells, AV.cells, h1, if_true], h2⟩
 ·exact h.elim
 ·exact h.elim
 ·rename_i h1 h2 h3
  refine ⟨[v], ?_, h⟩
  cases v <;> first | rfl | exact (h1 _ rfl).elim | exact (h2 _ rfl).elim | exact (h3 rfl).elim
theorem qstore_get {t : TypeId} {s : AS} {l off : Nat} {v : AV} {K : AS → Prop} (h : qstore T t s l off v K) : ∃ s', ast T t s (.ptr (some (l, off))) v = some s' ∧ K s' := by
 unfold qstore at h
 split at h
 ·rename_i cs
  obtain ⟨⟨h1, h2⟩, s', h3, h4⟩ := h
  refine ⟨s', ?_, h4⟩
  simp only [ast, acells, AV.cells, h1, if_true, Option.bind_some, h2, h3]
 ·exact h.elim
 ·exact h.elim
 ·rename_i h1 h2 h3
  cases hs : (T.siz t == some 1) with
  | false => rw [hs] at h; exact h.elim
  | true =>
   rw [hs] at h
   obtain ⟨s', h4, h5⟩ := h
   have hs' : T.siz t = some 1 := by simpa using hs
   refine ⟨s', ?_, h5⟩
   have hc : acells v = some [v] := by cases v <;> first | rfl | exact (h1 _ rfl).elim | exact (h2 _ rfl).elim | exact (h3 rfl).elim
   simp only [ast, hc, Option.bind_some, hs', List.length_cons, List.length_nil, Nat.zero_add, if_true, h4]
theorem qbinI_get {op : BinOp} {k : IntKind} {a b : Int} {K : AV → Prop} (h : qbinI op k a b K) : ∃ v, abinInt op k a b = some v ∧ K v := by
 unfold qbinI at h
 split at h
 case h_4 => exact ⟨_, by simp only [abinInt, if_neg h.1], h.2⟩
 case h_5 => exact ⟨_, by simp only [abinInt, if_neg h.1], h.2⟩
 case h_12 => exact h
 all_goals exact ⟨_, by simp only [abinInt], h⟩
theorem qbin_get {op : BinOp} {t : TypeId} {x y : Operand} {u v : AV} {K : AV → Prop} (h : qbin T op t (isC x || isC y) u v K) : agd T t x y u v = true ∧ ∃ r, abin T op t u v = some r ∧ K r := by
 unfold qbin at h
 split at h
 ·rename_i k a k' b; exact ⟨rfl, _, by simp only [abin]; rw [if_neg (by have := h.1; omega)], h.2⟩
 ·rename_i k a k' b; exact ⟨rfl, _, by simp only [abin]; rw [if_neg (by have := h.1; omega)], h.2⟩
 ·rename_i op k a k' b h1 h2
  refine ⟨rfl, ?_⟩
  cases hk : (k == k') with
  | false => rw [hk] at h; exact h.elim
  | true =>
   rw [hk] at h
   obtain rfl : k = k' := by simpa using hk
   obtain ⟨r, hr, hK⟩ := qbinI_get h
   refine ⟨r, ?_, hK⟩
   rw [← hr]
   cases op <;> first | (exact absurd rfl h1) | (exact absurd rfl h2) | simp only [abin, if_true]
 ·exact ⟨rfl, _, by simp only [abin]; rw [if_pos (by have := h.1; simpa using this)], h.2⟩
 ·exact ⟨rfl, _, by simp only [abin], h⟩
 ·exact ⟨rfl, _, by simp only [abin], h⟩
 ·exact ⟨rfl, _, by simp only [abin], h⟩
 ·exact ⟨rfl, _, by simp only [abin], h⟩
 ·exact ⟨rfl, _, by simp only [abin], h⟩
 ·exact ⟨rfl, _, by simp only [abin], h⟩
 ·rename_i a b
  split at h
  ·rename_i hu
   exact ⟨rfl, _, by simp only [abin, aeq, hu, Option.map_some], h⟩
  ·exact h.elim
 ·rename_i a b
  split at h
  ·rename_i hu
   exact ⟨rfl, _, by simp only [abin, aeq, hu, Option.map_some], h⟩
  ·exact h.elim
 ·rename_i xs ys
  cases hg : T.eqg t with
  | false => rw [hg] at h; exact h.elim
  | true => rw [hg] at h; obtain ⟨b, h1, h2⟩ := h; exact ⟨hg, _, by simp only [abin, h1, Option.map_some], h2⟩
 ·rename_i xs ys
  cases hg : T.eqg t with
  | false => rw [hg] at h; exact h.elim
  | true => rw [hg] at h; obtain ⟨b, h1, h2⟩ := h; exact ⟨hg, _, by simp only [abin, h1, Option.map_some], h2⟩
 ·obtain ⟨b, h1, h2⟩ := h; exact ⟨rfl, _, by simp only [abin, h1, Option.map_some], h2⟩
 ·obtain ⟨b, h1, h2⟩ := h; exact ⟨rfl, _, by simp only [abin, h1, Option.map_some], h2⟩
 ·obtain ⟨b, h1, h2⟩ := h; exact ⟨rfl, _, by simp only [abin, h1, Option.map_some], h2⟩
 ·obtain ⟨b, h1, h2⟩ := h; exact ⟨rfl, _, by simp only [abin, h1, Option.map_some], h2⟩
 ·obtain ⟨h0, b, h1, h2⟩ := h
  refine ⟨by rw [agdv_eq]; exact h0, .bool b, ?_, h2⟩
  unfold abin
  split <;> first | (simp_all; done) | (exfalso; simp_all; rename_i hx; exact hx _ _ _ _ rfl rfl rfl rfl) | (exfalso; rename_i hx; simp_all; exact hx _ _ _ _ rfl rfl rfl rfl)
 ·obtain ⟨h0, b, h1, h2⟩ := h
  refine ⟨by rw [agdv_eq]; exact h0, .bool !b, ?_, h2⟩
  unfold abin
  split <;> first | (simp_all; done) | (exfalso; simp_all; rename_i hx; exact hx _ _ _ _ rfl rfl rfl rfl) | (exfalso; rename_i hx; simp_all; exact hx _ _ _ _ rfl rfl rfl rfl)
 ·exact h.elim
theorem qbinT_get {op : BinOp} {t : TypeId} {x y : Operand} {u v : AV} {K : AV → Prop} (h : qbinT T op t (isC x || isC y) u v K) : agd T t x y u v = true ∧ ∃ r, abin T op t u v = some r ∧ K r := by
 unfold qbinT at h
 have key : ∀ b, eqQ T t (isC x || isC y) u v = some b → agd T t x y u v = true ∧ aeq T 100 t u v = some b := by
  intro b hb
  unfold eqQ at hb
  split at hb
  ·rename_i hg; exact ⟨by rw [agdv_eq]; exact hg, hb⟩
  ·cases hb
 have nint : isEqT (T.und t) = true → ∀ b, aeq T 100 t u v = some b → abin T .eql t u v = some (.bool b) ∧ abin T .neq t u v = some (.bool !b) := by
  intro hd b hb
  have : ∀ d, T.und t = some d → isEqT (some d) = true := fun d h => by rw [← h]; exact hd
  have hno : (∀ k n k' n', ¬ (u = .int k n ∧ v = .int k' n')) ∧ (∀ a b, ¬ (u = .str a ∧ v = .str b)) := by
   cases hu : T.und t with
   | none => rw [hu] at hd; cases hd
   | some d =>
    have hd' := this d hu
    refine ⟨fun k n k' n' e => ?_, fun a b e => ?_⟩
    ·obtain ⟨rfl, rfl⟩ := e
     cases d <;> first | (cases hd'; done) | (simp only [aeq, hu] at hb; cases hb)
    ·obtain ⟨rfl, rfl⟩ := e
     cases d <;> first | (cases hd'; done) | (simp only [aeq, hu] at hb; cases hb)
  constructor
  ·unfold abin
   split <;> first
    | (exact absurd ⟨rfl, rfl⟩ (hno.1 _ _ _ _))
    | (exact absurd ⟨rfl, rfl⟩ (hno.2 _ _))
    | (rename_i e; cases e; done)
    | (rw [hb]; rfl)
    | simp_all
  ·unfold abin
   split <;> first
    | (exact absurd ⟨rfl, rfl⟩ (hno.1 _ _ _ _))
    | (exact absurd ⟨rfl, rfl⟩ (hno.2 _ _))
    | (rename_i e; cases e; done)
    | (rw [hb]; rfl)
    | simp_all
 split at h
 ·rename_i hd
  obtain ⟨b, h1, h2⟩ := h
  obtain ⟨g1, g2⟩ := key b h1
  exact ⟨g1, _, (nint hd b g2).1, h2⟩
 ·rename_i hd
  obtain ⟨b, h1, h2⟩ := h
  obtain ⟨g1, g2⟩ := key b h1
  exact ⟨g1, _, (nint hd b g2).2, h2⟩
 ·exact qbin_get h
theorem qbuiltin_get {tk : TK} {b : Builtin} {ts : List TypeId} {args : List AV} {s : AS} {K : AV → AS → Prop} (h : qbuiltin T tk b ts args s K) : ∃ v s', abuiltin T b ts args s = some (v, s') ∧ K v s' := by
 unfold qbuiltin at h
 split at h
 ·obtain ⟨n, h1, h2⟩ := h; exact ⟨_, s, by simp only [abuiltin, h1, Option.map_some], h2⟩
 ·obtain ⟨n, h1, h2⟩ := h; exact ⟨_, s, by simp only [abuiltin, h1, Option.map_some], h2⟩
 ·exact h
 ·exact h
 ·obtain ⟨s', h1, h2⟩ := h; exact ⟨_, s', by simp only [abuiltin, h1, Option.map_some], h2⟩
 ·obtain ⟨s', h1, h2⟩ := h; exact ⟨_, s', by simp only [abuiltin, h1, Option.map_some], h2⟩
 ·obtain ⟨v, h1, h2⟩ := rd_some h; exact ⟨v, s, by simp only [abuiltin, h1, Option.map_some], h2⟩
 ·obtain ⟨v, h1, h2⟩ := rd_some h; exact ⟨v, s, by simp only [abuiltin, h1, Option.map_some], h2⟩
 ·exact h.elim
def isFn : Op → Bool
 | .call c => match c.callee with
  | .value _ => true
  | _ => false
 | _ => false
theorem qop_aop {o : Oper} {ρ : Operand → AV} {s : AS} {K : AV → AS → Prop} (hc : isFn o.op = false) (h : qop P T o ρ s K) : ∃ v s', aop T o.op ρ s = some (v, s') ∧ K v s' := by
 unfold qop at h
 cases hop : o.op <;> rw [hop] at h <;> simp only at h
 case move x => exact ⟨_, _, rfl, h⟩
 case assign x => exact ⟨_, _, rfl, h⟩
 case pick c a b =>
  split at h
  ·rename_i t ht
   have := bsplit_if h
   refine ⟨if t then ρ a else ρ b, s, by simp only [aop, ht], ?_⟩
   cases t <;> simpa using this
  ·exact h.elim
 case alloc e =>
  split at h
  ·rename_i z hz
   cases hq : z.cells.all AV.one with
   | false => rw [hq] at h; exact h.elim
   | true => rw [hq] at h; exact ⟨_, _, by simp only [aop, hz, Option.bind_some, acells, hq, if_true, Option.map_some], h⟩
  ·exact h.elim
 case box e x =>
  obtain ⟨cs, h1, h2⟩ := qcells_get h
  exact ⟨_, _, by simp only [aop, h1, Option.map_some], h2⟩
 case build t parts =>
  obtain ⟨l, h1, h2⟩ := h
  exact ⟨_, _, by simp only [aop, h1, Option.map_some], h2⟩
 case buildSlice t len parts =>
  obtain ⟨l, h1, h2⟩ := h
  exact ⟨_, _, by simp only [aop]; exact absl_eq h1, h2⟩
 case load t a =>
  split at h
  ·rename_i a' ha
   have h2 := asSome_get h
   clear h
   obtain ⟨l, off, rfl, h⟩ := h2
   split at h
   ·rename_i hag
    split at h
    ·rename_i n hn
     obtain ⟨cs, h1, h2⟩ := h
     exact ⟨_, _, by simp only [aop, ald, ha, hag, hn, Option.bind_some, h1, Option.map_some], h2⟩
    ·exact h.elim
   ·rename_i hag
    obtain ⟨v, h1, h2⟩ := rd_some h
    exact ⟨_, _, by simp only [aop, ald, ha, hag, h1, Option.map_some], h2⟩
   ·exact h.elim
  ·exact h.elim
 case store t a x =>
  split at h
  ·rename_i a' ha
   have h2 := asSome_get h
   clear h
   obtain ⟨l, off, rfl, h⟩ := h2
   obtain ⟨s', h1, h2⟩ := qstore_get h
   exact ⟨_, _, by simp only [aop, ha, h1, Option.map_some], h2⟩
  ·exact h.elim
 case nilCheck x =>
  split at h
  ·rename_i a ha
   cases a with
   | none => exact h.elim
   | some p => exact ⟨_, _, by simp only [aop, ha], h⟩
  ·rename_i ha; exact ⟨_, _, by simp only [aop, ha], h⟩
  ·rename_i ha; exact ⟨_, _, by simp only [aop, ha], h⟩
  ·rename_i ha; exact ⟨_, _, by simp only [aop, ha], h⟩
  ·exact h.elim
 case binOp op t x y yt =>
  obtain ⟨h1, r, h2, h3⟩ := qbinT_get h
  exact ⟨_, _, by simp only [aop, h1, if_true, h2, Option.map_some], h3⟩
 case unOp op t x =>
  split at h
  ·rename_i hx; exact ⟨_, _, by simp only [aop, aun, hx, Option.map_some], h⟩
  ·rename_i hx; exact ⟨_, _, by simp only [aop, aun, hx, Option.map_some], h⟩
  ·obtain ⟨v, h1, h2⟩ := h; exact ⟨_, _, by simp only [aop, h1, Option.map_some], h2⟩
 case convert src dst x =>
  split at h
  ·rename_i hs hd
   obtain ⟨b, h1, h2⟩ := h
   simp only [Option.map_eq_some_iff] at h1
   obtain ⟨⟨v, s'⟩, h3, h4⟩ := h1
   simp only at h4
   subst h4
   have hss : s' = s := by
    unfold aconvert at h3
    split at h3 <;> try (first | (cases h3; done) | (simp only [Option.some.injEq, Prod.mk.injEq] at h3; exact h3.2.symm))
    ·rename_i e1 e2; rw [hd] at e1; cases e1
    ·split at h3
     ·split at h3
      ·simp only [Option.some.injEq, Prod.mk.injEq] at h3; exact h3.2.symm
      ·cases h3
     ·cases h3
    ·split at h3
     ·simp only [Option.some.injEq, Prod.mk.injEq] at h3; exact h3.2.symm
     ·cases h3
    ·split at h3
     ·split at h3
      ·simp only [Option.some.injEq, Prod.mk.injEq] at h3; exact h3.2.symm
      simp only [Option.bind_eq_some_iff, Option.map_eq_some_iff] at h3
      obtain ⟨_, _, _, _, h3⟩ := h3
      simp only [Prod.mk.injEq] at h3; exact h3.2.symm
     ·cases h3
   subst hss
   exact ⟨_, _, by simp only [aop]; exact h3, h2⟩
  ·rename_i hs hd hx; exact ⟨_, _, by simp only [aop, aconvert, hs, hd, hx], h⟩
  ·rename_i hs hd hx; exact ⟨_, _, by simp only [aop, aconvert, hs, hd, hx], h⟩
  ·exact h
  ·rename_i hs hd hx
   obtain ⟨b, h1, h2⟩ := h
   simp only [Option.map_eq_some_iff] at h1
   obtain ⟨⟨v, s'⟩, h3, h4⟩ := h1
   simp only at h4
   subst h4
   have hss : s' = s := by
    unfold aconvert at h3
    split at h3 <;> try (first | (cases h3; done) | (simp only [Option.some.injEq, Prod.mk.injEq] at h3; exact h3.2.symm))
    ·rename_i e1 e2; rw [hd] at e1; cases e1
    ·split at h3
     ·split at h3
      ·simp only [Option.some.injEq, Prod.mk.injEq] at h3; exact h3.2.symm
      ·cases h3
     ·cases h3
    ·split at h3
     ·simp only [Option.some.injEq, Prod.mk.injEq] at h3; exact h3.2.symm
     ·cases h3
    ·split at h3
     ·split at h3
      ·simp only [Option.some.injEq, Prod.mk.injEq] at h3; exact h3.2.symm
      simp only [Option.bind_eq_some_iff, Option.map_eq_some_iff] at h3
      obtain ⟨_, _, _, _, h3⟩ := h3
      simp only [Prod.mk.injEq] at h3; exact h3.2.symm
     ·cases h3
   subst hss
   exact ⟨_, _, by simp only [aop]; exact h3, h2⟩
  ·exact h.elim
 case makeInterface t x =>
  split at h
  ·exact h.elim
  ·rename_i d hd hu
   refine ⟨_, _, ?_, h⟩
   simp only [aop, hu]
  ·exact h.elim
 case makeFunc fn first captured =>
  cases fn with
  | func g =>
   simp only at h
   cases hq : first.isEmpty with
   | true => rw [hq] at h; exact ⟨_, _, by simp only [aop, hq, if_true], h⟩
   | false => rw [hq] at h; exact ⟨_, _, by simp only [aop, hq, Bool.false_eq_true, if_false], h⟩
  | _ => exact h.elim
 case makeMap t r =>
  cases r with
  | none =>
   simp only at h
   split at h
   ·rename_i d hd; exact ⟨_, _, by simp only [aop, hd], h⟩
   ·exact h.elim
  | some r => exact h.elim
 case makeSlice t l c => exact h
 case slice t x lo hi mx =>
  obtain ⟨v, h1, h2⟩ := rd_some h
  exact ⟨_, _, by simp only [aop, h1, Option.map_some], h2⟩
 case fieldAddr t x f =>
  split at h
  ·rename_i a' ha
   have h2 := asSome_get h
   clear h
   obtain ⟨l, off, rfl, h⟩ := h2
   split at h
   ·rename_i v hv; exact ⟨_, _, by simp only [aop, ha, hv, Option.map_some], h⟩
   ·exact h.elim
  ·exact h.elim
 case field t x f =>
  split at h
  ·rename_i fields cs hu hx
   split at h
   ·rename_i fd hf
    split at h
    ·rename_i hag
     split at h
     ·rename_i n hn
      exact ⟨_, _, by simp only [aop, afield, hu, hx, hf, Option.bind_some, part, hag, hn, Option.map_some], h⟩
     ·exact h.elim
    ·rename_i hag
     obtain ⟨v, h1, h2⟩ := rd_some h
     exact ⟨_, _, by simp only [aop, afield, hu, hx, hf, Option.bind_some, part, hag, h1, Option.map_some], h2⟩
    ·exact h.elim
   ·exact h.elim
  ·exact h.elim
 case indexAddr t x ix =>
  obtain ⟨l, i, h1, h2⟩ := h
  exact ⟨_, _, by simp only [aop, h1, Option.map_some], h2⟩
 case index t x ix =>
  obtain ⟨v, h1, h2⟩ := rd_some h
  exact ⟨_, _, by simp only [aop, h1, Option.map_some], h2⟩
 case lookup t x ix ok =>
  obtain ⟨v, h1, h2⟩ := rd_some h
  exact ⟨_, _, by simp only [aop, h1, Option.map_some], h2⟩
 case mapUpdate t m k v =>
  obtain ⟨s', h1, h2⟩ := h
  exact ⟨_, _, by simp only [aop, h1, Option.map_some], h2⟩
 case insert t m k v =>
  obtain ⟨s', h1, h2⟩ := h
  exact ⟨_, _, by simp only [aop, h1, Option.map_some], h2⟩
 case extract t i =>
  split at h
  ·rename_i vs hv
   split at h
   ·rename_i v hi; exact ⟨_, _, by simp only [aop, hv, hi, Option.map_some], h⟩
   ·exact h.elim
  ·exact h.elim
 case call c =>
  cases hcc : c.callee with
  | value x => rw [hop] at hc; simp only [isFn, hcc] at hc; cases hc
  | builtin b =>
   rw [hcc] at h
   simp only at h
   obtain ⟨v, s', h1, h2⟩ := qbuiltin_get h
   exact ⟨v, s', by simp only [aop, hcc, h1], h2⟩
  | invoke x m => rw [hcc] at h; exact h.elim
 case range t x => exact h
 case entry it =>
  obtain ⟨v, h1, h2⟩ := rd_some h
  exact ⟨_, _, by simp only [aop, h1, Option.map_some], h2⟩
 all_goals exact h.elim
theorem qop_sound {o : Oper} {f : Fr} {s : AS} {K : AV → AS → Prop} (h : qop P T o (aev f) s K) : vcV P T o f s K := by
 cases hc : isFn o.op with
 | false =>
  have hn : acallee f o.op = none := by
   unfold isFn at hc
   unfold acallee
   split
   ·rename_i c hq
    rw [hq] at hc
    simp only at hc
    split
    ·rename_i x hx; rw [hx] at hc; cases hc
    ·rfl
   ·rfl
  unfold vcV
  rw [hn]
  exact qop_aop hc h
 | true =>
  unfold isFn at hc
  split at hc
  ·rename_i c hq
   split at hc
   ·rename_i x hx
    unfold qop at h
    rw [hq] at h
    simp only [hx] at h
    unfold vcV acallee
    rw [hq]
    simp only [hx]
    unfold ACallV at h
    split at h
    ·rename_i g cap hv
     rw [hv]
     exact h.mono fun v s hh => qcs_get hh
    ·rename_i g ft cap hv
     rw [hv]
     exact h.mono fun v s hh => qcs_get hh
    ·exact h.elim
   ·cases hc
  ·cases hc
end
end Go.Am
end

section
namespace Go.Am
def calmOp : Op → Bool
 | .move _ | .assign _ | .pick .. | .binOp .. | .unOp .. | .fieldAddr .. | .field .. | .indexAddr .. | .index .. | .slice .. | .extract .. => true
 | _ => false
def noCallOp : Op → Bool
 | .call _ => false
 | _ => true
theorem noCallOp_none {op : Op} (h : noCallOp op = true) (f : Fr) : acallee f op = none := by
 cases op <;> first | rfl | cases h
theorem calm_noCall {op : Op} (h : calmOp op = true) : noCallOp op = true := by
 cases op <;> first | rfl | cases h
theorem aop_calm {T : TT} {op : Op} (hq : calmOp op = true) {ρ : Operand → AV} {s s1 : AS} {v : AV} (h : aop T op ρ s = some (v, s1)) : s1 = s ∧ ∀ s', aop T op ρ s' = some (v, s') := by
 have key : ∀ x : Option AV, x.map (·, s) = some (v, s1) → s1 = s ∧ ∀ s' : AS, x.map (·, s') = some (v, s') := by
  intro x hx
  cases x with
  | none => cases hx
  | some u =>
   obtain ⟨rfl, rfl⟩ : u = v ∧ s = s1 := by simpa using hx
   exact ⟨rfl, fun s' => rfl⟩
 have key2 : ∀ u : AV, some (u, s) = some (v, s1) → s1 = s ∧ ∀ s' : AS, some (u, s') = some (v, s') := by
  intro u hx
  obtain ⟨rfl, rfl⟩ : u = v ∧ s = s1 := by simpa using hx
  exact ⟨rfl, fun s' => rfl⟩
 cases op with
 | pick c a b =>
  simp only [aop] at h ⊢
  generalize ρ c = x at h ⊢
  cases x <;> first | exact key2 _ h | cases h
 | binOp op t x y yt =>
  simp only [aop] at h ⊢
  by_cases hg : agd T t x y (ρ x) (ρ y) = true
  ·rw [if_pos hg] at h; simp only [if_pos hg]; exact key _ h
  ·rw [if_neg hg] at h; cases h
 | extract t i =>
  simp only [aop] at h ⊢
  generalize ρ t = x at h ⊢
  cases x <;> first | exact key _ h | cases h
 | _ => first
  | (simp [calmOp] at hq; done)
  | (simp only [aop] at h ⊢; exact key _ h)
  | (simp only [aop] at h ⊢; exact key2 _ h)
def lookOp : Op → Bool
 | .load .. | .lookup .. | .nilCheck _ => true
 | o => calmOp o
theorem look_noCall {op : Op} (h : lookOp op = true) : noCallOp op = true := by
 cases op <;> first | rfl | cases h
theorem aop_look {T : TT} {op : Op} (hq : lookOp op = true) {ρ : Operand → AV} {s s1 : AS} {v : AV} (h : aop T op ρ s = some (v, s1)) : s1 = s := by
  have key : ∀ x : Option AV, x.map (·, s) = some (v, s1) → s1 = s := by
    intro x hx
    cases x with
    | none => cases hx
    | some u =>
      obtain ⟨rfl, rfl⟩ : u = v ∧ s = s1 := by simpa using hx
      rfl
  by_cases hc : calmOp op = true
  · exact (aop_calm hc h).1
  cases op <;> first
    | (simp only [aop] at h
       split at h <;> first
         | (simp only [Option.some.injEq, Prod.mk.injEq] at h; exact h.2.symm)
         | cases h)
    | exact absurd hq hc
    | (simp only [aop] at h; exact key _ h)
def allocOp : Op → Bool
 | .alloc _ => true
 | _ => false
theorem look_quietC {op : Op} (h : lookOp op = true) : quietOp op = true := by
 cases op <;> first | rfl | cases h
theorem aop_allocC {T : TT} {op : Op} (hq : allocOp op = true) {ρ : Operand → AV} {s s1 : AS} {v : AV} (hw : WFs s) (h : aop T op ρ s = some (v, s1)) : Ext s s1 ∧ ∀ ρ', aop T op ρ' s = some (v, s1) := by
 cases op with
 | alloc e =>
  refine ⟨?_, fun ρ' => h⟩
  simp only [aop, Option.bind_eq_some_iff, Option.map_eq_some_iff, Prod.mk.injEq] at h
  obtain ⟨z, _, cs, _, _, rfl⟩ := h
  have hn : s.h s.nl = none := by simpa using hw.2 0
  refine ⟨fun l x hl => ?_, by rw [AS.new_nl]; omega⟩
  rw [AS.new_h _ rfl, if_neg]
  ·exact hl
  ·rintro rfl; rw [hn] at hl; cases hl
 | _ => cases hq
section
variable {P : Program} {T : TT} {n : Nat} {ops : Array Oper}
theorem vcV.mono {o : Oper} {f : Fr} {s : AS} {R R' : AV → AS → Prop} (h : vcV P T o f s R) (hr : ∀ v s', R v s' → R' v s') : vcV P T o f s R' := by
 unfold vcV at h ⊢
 split
 ·rename_i g args hc; rw [hc] at h; exact h.mono hr
 ·rename_i hc; rw [hc] at h; obtain ⟨v, s', a, b⟩ := h; exact ⟨v, s', a, hr _ _ b⟩
def st1 (P : Program) (T : TT) (n : Nat) (ops : Array Oper) (o : Oper) (f : Fr) (s : AS) (K : Fr → AS → Prop) : Prop :=
 match awanted ops f o with
 | some true => dstOk n o.dst = true ∧ vcV P T o f s fun v s' => K (updO f o.dst v) s'
 | some false => dstOk n o.dst = true ∧ K (updO f o.dst .undef) s
 | none => False
theorem st1.mono {o : Oper} {f : Fr} {s : AS} {K K' : Fr → AS → Prop} (h : st1 P T n ops o f s K) (hk : ∀ f s, K f s → K' f s) : st1 P T n ops o f s K' := by
 unfold st1 at h ⊢
 split
 ·rename_i hw; rw [hw] at h; exact ⟨h.1, vcV.mono h.2 fun v s' hh => hk _ _ hh⟩
 ·rename_i hw; rw [hw] at h; exact ⟨h.1, hk _ _ h.2⟩
 ·rename_i hw; rw [hw] at h; exact h
def vcIs (P : Program) (T : TT) (n : Nat) (ops : Array Oper) (K : Fr → AS → Prop) : List Nat → Fr → AS → Prop
 | [], f, s => K f s
 | i :: is, f, s => match ops[i]? with
  | some o => st1 P T n ops o f s (vcIs P T n ops K is)
  | none => False
theorem vcOps_vcIs (hnx : ∀ (i : Nat) o, ops[i]? = some o → isNext o.op = false) {K : Fr → AS → Prop} : ∀ (j k : Nat) (f : Fr) (s : AS), k + j = ops.size → vcOps P T n ops (ops.toList.drop k) f s K → vcIs P T n ops K (List.range' k j) f s
 | 0, k, f, s, hk, h => by
  rw [List.drop_eq_nil_of_le (by simp; omega)] at h
  exact h
 | j + 1, k, f, s, hk, h => by
  have hlt : k < ops.size := by omega
  have hdr : ops.toList.drop k = ops[k] :: ops.toList.drop (k + 1) := by
   rw [List.drop_eq_getElem_cons (by simpa using hlt)]; simp
  rw [hdr] at h
  simp only [List.range'_succ, vcIs, Array.getElem?_eq_getElem hlt]
  simp only [vcOps] at h
  unfold st1
  split at h
  ·rename_i hw
   rw [hw]
   obtain ⟨h1, h2⟩ := h
   refine ⟨h1, ?_⟩
   rcases h2 with h2 | ⟨l, hl, _⟩
   rotate_left
   ·rw [acand_none (hnx k _ (Array.getElem?_eq_getElem hlt))] at hl; cases hl
   unfold vcV
   split
   ·rename_i g args hc; rw [hc] at h2; exact h2.mono fun v s' hh => vcOps_vcIs hnx j (k + 1) _ _ (by omega) hh
   ·rename_i hc; rw [hc] at h2; obtain ⟨v, s', a, b⟩ := h2; exact ⟨v, s', a, vcOps_vcIs hnx j (k + 1) _ _ (by omega) b⟩
  ·rename_i hw
   rw [hw]
   exact ⟨h.1, vcOps_vcIs hnx j (k + 1) _ _ (by omega) h.2⟩
  ·exact h.elim
def Cst (T : TT) (n : Nat) (ops : Array Oper) (o : Oper) (f : Fr) (u : AV) : Prop :=
 dstOk n o.dst = true ∧ ((awanted ops f o = some false ∧ u = .undef) ∨ (awanted ops f o = some true ∧ ∀ s, aop T o.op (aev f) s = some (u, s)))
theorem calm_step {o : Oper} (hp : calmOp o.op = true) {f : Fr} {s : AS} {K : Fr → AS → Prop} (h : st1 P T n ops o f s K) : ∃ u, Cst T n ops o f u ∧ K (updO f o.dst u) s := by
 unfold st1 at h
 split at h
 ·rename_i hw
  obtain ⟨h1, h2⟩ := h
  unfold vcV at h2
  rw [noCallOp_none (calm_noCall hp)] at h2
  obtain ⟨v, s', a, b⟩ := h2
  obtain ⟨rfl, hall⟩ := aop_calm hp a
  exact ⟨v, ⟨h1, .inr ⟨hw, hall⟩⟩, b⟩
 ·rename_i hw; exact ⟨_, ⟨h.1, .inl ⟨hw, rfl⟩⟩, h.2⟩
 ·exact h.elim
theorem Cst.step {o : Oper} (hp : calmOp o.op = true) {f : Fr} {u : AV} (h : Cst T n ops o f u) {s : AS} {K : Fr → AS → Prop} (hk : K (updO f o.dst u) s) : st1 P T n ops o f s K := by
 obtain ⟨h1, ⟨hw, rfl⟩ | ⟨hw, ha⟩⟩ := h
 ·unfold st1; rw [hw]; exact ⟨h1, hk⟩
 ·unfold st1; rw [hw]
  refine ⟨h1, ?_⟩
  unfold vcV
  rw [noCallOp_none (calm_noCall hp)]
  exact ⟨_, _, ha s, hk⟩
theorem Cst.same {o : Oper} {f : Fr} {d : Option Nat} {v u : AV} (h : ∀ t, d = some t → t ∉ o.looksAt ops) : Cst T n ops o (updO f d v) u ↔ Cst T n ops o f u := by
 obtain ⟨l1, _, l3⟩ := looks_same (T := T) (ops := ops) (o := o) (f := f) (d := d) (v := v) h
 unfold Cst
 rw [l1]
 simp only [l3]
def Lst (T : TT) (n : Nat) (ops : Array Oper) (o : Oper) (f : Fr) (s : AS) (u : AV) : Prop :=
 dstOk n o.dst = true ∧ ((awanted ops f o = some false ∧ u = .undef) ∨ (awanted ops f o = some true ∧ aop T o.op (aev f) s = some (u, s)))
theorem look_step {o : Oper} (hp : lookOp o.op = true) {f : Fr} {s : AS} {K : Fr → AS → Prop} (h : st1 P T n ops o f s K) : ∃ u, Lst T n ops o f s u ∧ K (updO f o.dst u) s := by
 unfold st1 at h
 split at h
 ·rename_i hw
  obtain ⟨h1, h2⟩ := h
  unfold vcV at h2
  rw [noCallOp_none (look_noCall hp)] at h2
  obtain ⟨v, s', a, b⟩ := h2
  obtain rfl := aop_look hp a
  exact ⟨v, ⟨h1, .inr ⟨hw, a⟩⟩, b⟩
 ·rename_i hw; exact ⟨_, ⟨h.1, .inl ⟨hw, rfl⟩⟩, h.2⟩
 ·exact h.elim
theorem Lst.step {o : Oper} (hp : lookOp o.op = true) {f : Fr} {s : AS} {u : AV} (h : Lst T n ops o f s u) {K : Fr → AS → Prop} (hk : K (updO f o.dst u) s) : st1 P T n ops o f s K := by
 obtain ⟨h1, ⟨hw, rfl⟩ | ⟨hw, ha⟩⟩ := h
 ·unfold st1; rw [hw]; exact ⟨h1, hk⟩
 ·unfold st1; rw [hw]
  refine ⟨h1, ?_⟩
  unfold vcV
  rw [noCallOp_none (look_noCall hp)]
  exact ⟨_, _, ha, hk⟩
theorem Lst.same {o : Oper} {f : Fr} {d : Option Nat} {v u : AV} {s : AS} (h : ∀ t, d = some t → t ∉ o.looksAt ops) : Lst T n ops o (updO f d v) s u ↔ Lst T n ops o f s u := by
 obtain ⟨l1, _, l3⟩ := looks_same (T := T) (ops := ops) (o := o) (f := f) (d := d) (v := v) h
 unfold Lst
 rw [l1]
 simp only [l3]
theorem st1_comm {oi oj : Oper} (hap : oi.apart ops oj = true) (hp : calmOp oi.op = true ∨ (calmOp oj.op = true ∧ noCallOp oi.op = true) ∨ (lookOp oi.op = true ∧ lookOp oj.op = true)) {f : Fr} {s : AS} {K : Fr → AS → Prop}
  (h : st1 P T n ops oi f s fun f s => st1 P T n ops oj f s K) : st1 P T n ops oj f s fun f s => st1 P T n ops oi f s K := by
 obtain ⟨ha1, ha2, ha3⟩ := Oper.apart_spec hap
 have hcomm : ∀ u v, updO (updO f oi.dst u) oj.dst v = updO (updO f oj.dst v) oi.dst u := fun u v => updO_comm ha2
 rcases hp with hp | ⟨hp, hn⟩ | ⟨hp, hp2⟩
 rotate_left 2
 ·obtain ⟨u, hu, hK⟩ := look_step hp h
  obtain ⟨v, hv, hK⟩ := look_step hp2 hK
  refine Lst.step hp2 ((Lst.same ha1).1 hv) (Lst.step hp ((Lst.same ha3).2 hu) ?_)
  rw [← hcomm]; exact hK
 ·obtain ⟨u, hu, hK⟩ := calm_step hp h
  have l := looks_same (T := T) (ops := ops) (o := oj) (f := f) (d := oi.dst) (v := u) ha1
  unfold st1 at hK ⊢
  rw [l.1] at hK
  split
  ·rename_i hw
   rw [hw] at hK
   refine ⟨hK.1, vcV.mono ((vcV_same ha1).1 hK.2) fun v s' hh => ?_⟩
   refine Cst.step hp ((Cst.same ha3).2 hu) ?_
   rw [← hcomm]; exact hh
  ·rename_i hw
   rw [hw] at hK
   refine ⟨hK.1, Cst.step hp ((Cst.same ha3).2 hu) ?_⟩
   rw [← hcomm]; exact hK.2
  ·rename_i hw
   rw [hw] at hK
   exact hK
 ·unfold st1 at h
  split at h
  ·rename_i hw
   obtain ⟨h1, h2⟩ := h
   unfold vcV at h2
   rw [noCallOp_none hn] at h2
   obtain ⟨v, s', a, b⟩ := h2
   obtain ⟨u, hu, hK⟩ := calm_step hp b
   have hu' := (Cst.same ha1).1 hu
   refine Cst.step hp hu' ?_
   have l := looks_same (T := T) (ops := ops) (o := oi) (f := f) (d := oj.dst) (v := u) ha3
   unfold st1
   rw [l.1, hw]
   refine ⟨h1, ?_⟩
   unfold vcV
   rw [noCallOp_none hn]
   exact ⟨v, s', by rw [l.2.2]; exact a, by show K (updO (updO f oj.dst u) oi.dst v) s'; rw [← hcomm]; exact hK⟩
  ·rename_i hw
   obtain ⟨u, hu, hK⟩ := calm_step hp h.2
   have hu' := (Cst.same ha1).1 hu
   refine Cst.step hp hu' ?_
   have l := looks_same (T := T) (ops := ops) (o := oi) (f := f) (d := oj.dst) (v := u) ha3
   unfold st1
   rw [l.1, hw]
   exact ⟨h.1, by rw [← hcomm]; exact hK⟩
  ·exact h.elim
theorem st1_comm_alloc {oi oj : Oper} (hap : oi.apart ops oj = true) (hp : lookOp oi.op = true) (hp2 : allocOp oj.op = true) {f : Fr} {s : AS} (hw : WFs s) {K : Fr → AS → Prop}
  (h : st1 P T n ops oi f s fun f s => st1 P T n ops oj f s K) : st1 P T n ops oj f s fun f s => st1 P T n ops oi f s K := by
 obtain ⟨ha1, ha2, ha3⟩ := Oper.apart_spec hap
 have hcomm : ∀ u v, updO (updO f oi.dst u) oj.dst v = updO (updO f oj.dst v) oi.dst u := fun u v => updO_comm ha2
 have hnc : ∀ f, acallee f oj.op = none := fun f => by
  cases ho : oj.op <;> first | rfl | (rw [ho] at hp2; cases hp2)
 obtain ⟨u, hu, hK⟩ := look_step hp h
 have l := looks_same (T := T) (ops := ops) (o := oj) (f := f) (d := oi.dst) (v := u) ha1
 unfold st1 at hK ⊢
 rw [l.1] at hK
 split
 ·rename_i hw2
  rw [hw2] at hK
  obtain ⟨h1, h2⟩ := hK
  refine ⟨h1, ?_⟩
  unfold vcV at h2 ⊢
  rw [hnc] at h2 ⊢
  obtain ⟨v, s', a, b⟩ := h2
  obtain ⟨he, hany⟩ := aop_allocC hp2 hw a
  refine ⟨v, s', hany _, ?_⟩
  have hu' : Lst T n ops oi f s' u := by
   obtain ⟨g1, g2⟩ := hu
   refine ⟨g1, g2.imp id fun ⟨g3, g4⟩ => ⟨g3, aop_quiet (look_quietC hp) hw.1 g4 he⟩⟩
  refine Lst.step hp ((Lst.same ha3).2 hu') ?_
  rw [← hcomm]; exact b
 ·rename_i hw2
  rw [hw2] at hK
  refine ⟨hK.1, Lst.step hp ((Lst.same ha3).2 hu) ?_⟩
  rw [← hcomm]; exact hK.2
 ·rename_i hw2
  rw [hw2] at hK
  exact hK
def Free2 (ops : Array Oper) (oi oj : Oper) : Prop := oi.apart ops oj = true ∧ ((lookOp oi.op = true ∧ allocOp oj.op = true) ∨ (allocOp oj.op = false ∧ (calmOp oi.op = true ∨ (calmOp oj.op = true ∧ noCallOp oi.op = true) ∨ (lookOp oi.op = true ∧ lookOp oj.op = true))))
theorem vcIs_pull {K : Fr → AS → Prop} {j : Nat} {oj : Oper} (hoj : ops[j]? = some oj) : ∀ (pre post : List Nat) (f : Fr) (s : AS), (allocOp oj.op = true → WFs s) → (∀ i ∈ pre, ∀ oi, ops[i]? = some oi → Free2 ops oi oj) →
  vcIs P T n ops K (pre ++ j :: post) f s → st1 P T n ops oj f s (vcIs P T n ops K (pre ++ post))
 | [], post, f, s, _, _, h => by simpa only [List.nil_append, vcIs, hoj] using h
 | i :: pre, post, f, s, hws, hfree, h => by
  simp only [List.cons_append, vcIs] at h
  cases hoi : ops[i]? with
  | none => rw [hoi] at h; exact h.elim
  | some oi =>
   rw [hoi] at h
   obtain ⟨h1, h2⟩ := hfree i (by simp) oi hoi
   rcases h2 with ⟨hlook, hal⟩ | ⟨hal, h2⟩
   ·have hws' := hws hal
    obtain ⟨u, hu, hK⟩ := look_step hlook h
    have h3 : st1 P T n ops oi f s fun f s => st1 P T n ops oj f s (vcIs P T n ops K (pre ++ post)) :=
     Lst.step hlook hu (vcIs_pull hoj pre post _ s hws (fun k hk => hfree k (List.mem_cons_of_mem _ hk)) hK)
    refine st1.mono (st1_comm_alloc h1 hlook hal hws' h3) fun f s hh => ?_
    simp only [List.cons_append, vcIs, hoi]
    exact hh
   have h3 : st1 P T n ops oi f s fun f s => st1 P T n ops oj f s (vcIs P T n ops K (pre ++ post)) :=
    st1.mono h fun f s hh => vcIs_pull hoj pre post f s (fun h => by rw [hal] at h; cases h) (fun k hk => hfree k (List.mem_cons_of_mem _ hk)) hh
   refine st1.mono (st1_comm h1 h2 h3) fun f s hh => ?_
   simp only [List.cons_append, vcIs, hoi]
   exact hh
def calmOk (ops : Array Oper) (bs : List Nat) : Bool :=
 decide (Region.before ops = bs.toArray) &&
 (List.range ops.size).all fun i => (ops[i]?).all (fun o => o.after.toList.all fun e => decide (e.on < i) || !Region.binds .any e) &&
  (List.range i).all fun j => (bs.getD i 0).testBit j || ((ops[j]?).any fun x => (ops[i]?).any fun y => x.apart ops y && ((lookOp x.op && allocOp y.op) || (!allocOp y.op && (calmOp x.op || (calmOp y.op && noCallOp x.op) || (lookOp x.op && lookOp y.op)))))
structure CalmFacts (ops : Array Oper) : Prop where
 back : ∀ (i : Nat) o, ops[i]? = some o → ∀ e ∈ o.after.toList, Region.binds .any e = true → e.on < i
 free : ∀ i, i < ops.size → ∀ j, j < i → isAnc ops j i = true ∨ ∃ x y, ops[j]? = some x ∧ ops[i]? = some y ∧ Free2 ops x y
theorem calmFacts {ops : Array Oper} {bs : List Nat} (h : calmOk ops bs = true) : CalmFacts ops := by
 simp only [calmOk, Bool.and_eq_true, decide_eq_true_eq, List.all_eq_true, List.mem_range] at h
 obtain ⟨hb, h⟩ := h
 have hanc : ∀ j i, isAnc ops j i = (bs.getD i 0).testBit j := by
  intro j i; unfold isAnc; rw [hb]; simp [List.getD_eq_getElem?_getD]
 have hlt : ∀ (i : Nat) o, ops[i]? = some o → i < ops.size := by
  intro i o ho
  rcases Nat.lt_or_ge i ops.size with h | h
  ·exact h
  ·simp [Array.getElem?_eq_none h] at ho
 refine ⟨fun i o ho e he hbi => ?_, fun i hi j hj => ?_⟩
 ·have := (h i (hlt i o ho)).1
  rw [ho] at this
  simp only [Option.all_some, List.all_eq_true, Bool.or_eq_true, decide_eq_true_eq] at this
  rcases this e he with h | h
  ·exact h
  ·rw [hbi] at h; simp at h
 ·have := (h i hi).2 j hj
  simp only [Bool.or_eq_true] at this
  rcases this with h | h
  ·exact .inl (by rw [hanc]; exact h)
  ·simp only [Option.any_eq_true, Bool.and_eq_true, Bool.or_eq_true] at h
   obtain ⟨x, hx, y, hy, h1, h2⟩ := h
   exact .inr ⟨x, y, hx, hy, h1, h2.elim .inl fun h => .inr ⟨by simpa using h.1, h.2.elim (fun h => h.elim .inl fun h => .inr (.inl h)) fun h => .inr (.inr h)⟩⟩
theorem calm_sound (hT : TT.Ok P T) (hD : CalmFacts ops) {Q : Exit → Fr → AS → Prop} {B : Nat} {γ0 : Gam} {s0 : AS} {w0 : World} :
  ∀ (fuel : Nat) (q : List Nat) (listed : Array Bool) (f : Fr) (s : AS) (γ : Gam) (a : Act) (w : World),
  q.Pairwise (· < ·) → (∀ i ∈ q, i < ops.size) → Listed ops listed (fun i => i < ops.size ∧ i ∉ q) → q.length ≤ fuel →
  vcIs P T n ops (fun f s => Q .normal f s) q f s →
  FRel γ n f a → Rel B γ s w → Did B γ0 s0 w0 γ s w → Down ops listed →
  wpAny P .any ops (PostR B γ0 s0 w0 n Q) fuel listed a w := by
 have hend : ∀ {listed : Array Bool}, Listed ops listed (fun i => i < ops.size ∧ i ∉ ([] : List Nat)) → Region.ready .any ops listed = [] := by
  intro listed hL
  rw [List.eq_nil_iff_forall_not_mem]
  intro i hi
  obtain ⟨o, ho, hp, _⟩ := (ready_iff hL i).1 hi
  refine hp ⟨?_, by simp⟩
  rcases Nat.lt_or_ge i ops.size with h | h
  ·exact h
  ·simp [Array.getElem?_eq_none h] at ho
 intro fuel
 induction fuel with
 | zero =>
  intro q listed f s γ a w hsort hqm hL hf h hfr hr hd hdown
  obtain rfl : q = [] := List.length_eq_zero_iff.1 (by omega)
  exact ⟨hend hL, γ, f, s, hfr, hd, hr, h⟩
 | succ fuel ih =>
  intro q listed f s γ a w hsort hqm hL hf h hfr hr hd hdown
  cases q with
  | nil =>
   refine ⟨fun _ => ⟨γ, f, s, hfr, hd, hr, h⟩, fun i hi => ?_⟩
   rw [hend hL] at hi; cases hi
  | cons q0 q' =>
   refine ⟨fun hnil => ?_, fun i hi => ?_⟩
   ·exfalso
    have hq0 := hqm q0 (by simp)
    have : q0 ∈ Region.ready .any ops listed := by
     refine (ready_iff hL q0).2 ⟨_, Array.getElem?_eq_getElem hq0, by simp, fun e he hb => ?_⟩
     have := hD.back q0 _ (Array.getElem?_eq_getElem hq0) e he hb
     refine (hL.iff e.on (by omega)).2 ⟨by omega, ?_⟩
     simp only [List.mem_cons, not_or]
     refine ⟨by omega, fun hm => ?_⟩
     have := (List.pairwise_cons.1 hsort).1 e.on hm
     omega
    rw [hnil] at this; cases this
   ·obtain ⟨o, ho, hp, he⟩ := (ready_iff hL i).1 hi
    have hil : i < ops.size := by
     rcases Nat.lt_or_ge i ops.size with h | h
     ·exact h
     ·simp [Array.getElem?_eq_none h] at ho
    have hiq : i ∈ q0 :: q' := by
     by_cases h : i ∈ q0 :: q'
     ·exact h
     ·exact absurd ⟨hil, h⟩ hp
    obtain ⟨pre, post, hq⟩ := List.append_of_mem hiq
    rw [hq] at h hsort hqm hL hf
    have hpre : ∀ k ∈ pre, k < i := by
     intro k hk
     have := (List.pairwise_append.1 hsort).2.2 k hk i (by simp)
     exact this
    have hfree : ∀ k ∈ pre, ∀ ok, ops[k]? = some ok → Free2 ops ok o := by
     intro k hk ok hok
     have hki := hpre k hk
     have hkl : k < ops.size := by omega
     rcases hD.free i hil k hki with h | ⟨x, y, hx, hy, h⟩
     ·exfalso
      have := anc_listed hdown i o ho he h
      have := (hL.iff k hkl).1 this
      exact absurd (by simp [hk] : k ∈ pre ++ i :: post) this.2
     ·rw [hok] at hx; rw [ho] at hy
      obtain rfl := Option.some.inj hx; obtain rfl := Option.some.inj hy
      exact h
    have hstep := vcIs_pull ho pre post f s (fun _ => hr.wfs) hfree h
    have hsort' : (pre ++ post).Pairwise (· < ·) := by
     have := List.pairwise_append.1 hsort
     rw [List.pairwise_append]
     exact ⟨this.1, (List.pairwise_cons.1 this.2.1).2, fun x hx y hy => this.2.2 x hx y (by simp [hy])⟩
    have hnot : i ∉ pre ++ post := by
     intro hm
     rcases List.mem_append.1 hm with h | h
     ·have := hpre i h; omega
     ·have := (List.pairwise_cons.1 (List.pairwise_append.1 hsort).2.1).1 i h; omega
    have hL' : Listed ops (listed.setIfInBounds i true) (fun k => k < ops.size ∧ k ∉ pre ++ post) := by
     refine hL.set fun k => ?_
     simp only [List.mem_append, List.mem_cons, not_or]
     constructor
     ·rintro ⟨h1, h2, h3⟩
      by_cases hk : k = i
      ·exact .inl hk
      ·exact .inr ⟨h1, h2, hk, h3⟩
     ·rintro (rfl | ⟨h1, h2, h3, h4⟩)
      ·simp only [List.mem_append, not_or] at hnot
       exact ⟨hil, hnot⟩
      ·exact ⟨h1, h2, h4⟩
    have hdown' : Down ops (listed.setIfInBounds i true) := by
     intro k ok hok hk e hem hb
     have mono : listed.getD e.on false = true → (listed.setIfInBounds i true).getD e.on false = true := by
      intro h
      have hel : e.on < listed.size := by
       rcases Nat.lt_or_ge e.on listed.size with h' | h'
       ·exact h'
       ·simp [Array.getD_eq_getD_getElem?, Array.getElem?_eq_none h'] at h
      simp only [Array.getD_eq_getD_getElem?, Array.getElem?_setIfInBounds] at h ⊢
      split
      ·rename_i hie; subst hie; simp [hel]
      ·exact h
     by_cases hki : i = k
     ·subst hki
      rw [ho] at hok; obtain rfl := Option.some.inj hok
      exact mono (he e hem hb)
     ·refine mono (hdown k ok hok ?_ e hem hb)
      simp only [Array.getD_eq_getD_getElem?, Array.getElem?_setIfInBounds] at hk ⊢
      rw [if_neg hki] at hk; exact hk
    have hlen : (pre ++ post).length ≤ fuel := by simp at hf ⊢; omega
    have hqm' : ∀ k ∈ pre ++ post, k < ops.size := fun k hk => hqm k (by rcases List.mem_append.1 hk with h | h <;> simp [h])
    unfold wpOp
    rw [ho]
    simp only
    unfold st1 at hstep
    split at hstep
    ·rename_i hw
     rw [awanted_run hfr hw, if_pos rfl]
     have hop : vcOp P T n o f s (vcIs P T n ops (fun f s => Q .normal f s) (pre ++ post)) := vcOp_of_vcV hstep.1 hstep.2 fun v s' hh => hh
     refine .inl (vcOp_sound hT hop hfr hr ?_)
     intro γ' f' s' a' w' h1 h2 h3 h4
     exact ih _ _ _ s' γ' a' w' hsort' hqm' hL' hlen h4 h1 h3 (hd.trans h2) hdown'
    ·rename_i hw
     rw [awanted_run hfr hw, if_neg (by simp)]
     exact ih _ _ _ s γ _ w hsort' hqm' hL' hlen hstep.2 (hfr.put hstep.1 (vundef γ)) hr hd hdown'
    ·exact hstep.elim
theorem AWp.calm (hT : TT.Ok P T) (hmx : P.follows .mixedOrders = true) {id : Nat} {f : Fr} {s : AS} {Q : Exit → Fr → AS → Prop} {bs : List Nat} (hok : calmOk ops bs = true) (hnx : (ops.toList.all fun o => !isNext o.op) = true)
  (h : vcOps P T n ops ops.toList f s fun f s => Q .normal f s) : AWp P n (.region id ops true) f s Q := by
 intro B γ a w hf hr
 have hD := calmFacts hok
 refine wp_region_any hmx ?_
 have h' := vcOps_vcIs (ops := ops) (fun i o ho => by
  rw [List.all_eq_true] at hnx
  simpa using hnx o (List.mem_iff_getElem?.2 ⟨i, by simpa using ho⟩)) ops.size 0 f s (by omega) (by simpa using h)
 rw [← List.range_eq_range'] at h'
 refine calm_sound hT hD ops.size (List.range ops.size) _ f s γ a { w with drawn := w.drawn + 1 } List.pairwise_lt_range (fun i hi => List.mem_range.1 hi) ⟨by simp, fun i hi => ?_⟩ (by simp) h' hf (hr.of_heap rfl) (Did.of_heap rfl) ?_
 ·simp [Array.getD_eq_getD_getElem?, hi]
 ·intro i o ho hl
  simp only [Array.getD_eq_getD_getElem?] at hl
  by_cases hi : i < ops.size
  ·simp [hi] at hl
  ·simp [hi] at hl
end
end Go.Am
end

section
namespace Go.Am
section
variable {P : Program} {T : TT} {n : Nat} {ops : Array Oper}
theorem vcOps_vcIsL {K : Fr → AS → Prop} : ∀ (L : List Nat) (f : Fr) (s : AS), (∀ i ∈ L, i < ops.size) → (∀ i ∈ L, ∀ o, ops[i]? = some o → isNext o.op = false) →
  vcOps P T n ops (L.filterMap fun i => ops[i]?) f s K → vcIs P T n ops K L f s
 | [], f, s, _, _, h => h
 | i :: L, f, s, hlt, hnx, h => by
  have hil := hlt i (by simp)
  have ho : ops[i]? = some ops[i] := Array.getElem?_eq_getElem hil
  simp only [List.filterMap_cons, ho] at h
  simp only [vcIs, ho]
  have rc := fun f s => vcOps_vcIsL (K := K) L f s (fun j hj => hlt j (by simp [hj])) (fun j hj => hnx j (by simp [hj]))
  simp only [vcOps] at h
  unfold st1
  split at h
  ·rename_i hw
   rw [hw]
   obtain ⟨h1, h2⟩ := h
   refine ⟨h1, ?_⟩
   rcases h2 with h2 | ⟨l, hl, _⟩
   rotate_left
   ·rw [acand_none (hnx i (by simp) _ ho)] at hl; cases hl
   unfold vcV
   split
   ·rename_i g args hc; rw [hc] at h2; exact h2.mono fun v s' hh => rc _ _ hh
   ·rename_i hc; rw [hc] at h2; obtain ⟨v, s', a, b⟩ := h2; exact ⟨v, s', a, rc _ _ b⟩
  ·rename_i hw
   rw [hw]
   exact ⟨h.1, rc _ _ h.2⟩
  ·exact h.elim
theorem exists_least : ∀ (L : List Nat), L ≠ [] → ∃ m ∈ L, ∀ j ∈ L, m ≤ j
 | [], h => absurd rfl h
 | [x], _ => ⟨x, by simp, by simp⟩
 | x :: y :: L, _ => by
  obtain ⟨m, hm, hl⟩ := exists_least (y :: L) (by simp)
  rcases Nat.le_total x m with h | h
  ·exact ⟨x, by simp, fun j hj => by
    rcases List.mem_cons.1 hj with rfl | hj
    ·exact Nat.le_refl _
    ·exact Nat.le_trans h (hl j hj)⟩
  ·exact ⟨m, by simp [hm], fun j hj => by
    rcases List.mem_cons.1 hj with rfl | hj
    ·exact h
    ·exact hl j hj⟩
def Two (ops : Array Oper) (k i : Nat) : Prop := isAnc ops k i = true ∨ ∃ x y, ops[k]? = some x ∧ ops[i]? = some y ∧ Free2 ops x y
theorem calmL_sound (hT : TT.Ok P T) (hback : ∀ (i : Nat) o, ops[i]? = some o → ∀ e ∈ o.after.toList, Region.binds .any e = true → e.on < i) {Q : Exit → Fr → AS → Prop} {B : Nat} {γ0 : Gam} {s0 : AS} {w0 : World} :
  ∀ (fuel : Nat) (q : List Nat) (listed : Array Bool) (f : Fr) (s : AS) (γ : Gam) (a : Act) (w : World),
  q.Nodup → q.Pairwise (Two ops) → (∀ i ∈ q, i < ops.size) → Listed ops listed (fun i => i < ops.size ∧ i ∉ q) → q.length ≤ fuel →
  vcIs P T n ops (fun f s => Q .normal f s) q f s →
  FRel γ n f a → Rel B γ s w → Did B γ0 s0 w0 γ s w → Down ops listed →
  wpAny P .any ops (PostR B γ0 s0 w0 n Q) fuel listed a w := by
 have hend : ∀ {listed : Array Bool}, Listed ops listed (fun i => i < ops.size ∧ i ∉ ([] : List Nat)) → Region.ready .any ops listed = [] := by
  intro listed hL
  rw [List.eq_nil_iff_forall_not_mem]
  intro i hi
  obtain ⟨o, ho, hp, _⟩ := (ready_iff hL i).1 hi
  refine hp ⟨?_, by simp⟩
  rcases Nat.lt_or_ge i ops.size with h | h
  ·exact h
  ·simp [Array.getElem?_eq_none h] at ho
 intro fuel
 induction fuel with
 | zero =>
  intro q listed f s γ a w hnd hpw hqm hL hf h hfr hr hd hdown
  obtain rfl : q = [] := List.length_eq_zero_iff.1 (by omega)
  exact ⟨hend hL, γ, f, s, hfr, hd, hr, h⟩
 | succ fuel ih =>
  intro q listed f s γ a w hnd hpw hqm hL hf h hfr hr hd hdown
  by_cases hqn : q = []
  ·subst hqn
   refine ⟨fun _ => ⟨γ, f, s, hfr, hd, hr, h⟩, fun i hi => ?_⟩
   rw [hend hL] at hi; cases hi
  ·refine ⟨fun hnil => ?_, fun i hi => ?_⟩
   ·exfalso
    obtain ⟨q0, hq0, hleast⟩ := exists_least q hqn
    have hlt := hqm q0 hq0
    have : q0 ∈ Region.ready .any ops listed := by
     refine (ready_iff hL q0).2 ⟨_, Array.getElem?_eq_getElem hlt, fun h => h.2 hq0, fun e he hb => ?_⟩
     have := hback q0 _ (Array.getElem?_eq_getElem hlt) e he hb
     refine (hL.iff e.on (by omega)).2 ⟨by omega, fun hm => ?_⟩
     have := hleast e.on hm
     omega
    rw [hnil] at this; cases this
   ·obtain ⟨o, ho, hp, he⟩ := (ready_iff hL i).1 hi
    have hil : i < ops.size := by
     rcases Nat.lt_or_ge i ops.size with h | h
     ·exact h
     ·simp [Array.getElem?_eq_none h] at ho
    have hiq : i ∈ q := by
     by_cases h : i ∈ q
     ·exact h
     ·exact absurd ⟨hil, h⟩ hp
    obtain ⟨pre, post, hq⟩ := List.append_of_mem hiq
    rw [hq] at h hnd hpw hqm hL hf
    have hfree : ∀ k ∈ pre, ∀ ok, ops[k]? = some ok → Free2 ops ok o := by
     intro k hk ok hok
     have hkl : k < ops.size := hqm k (by simp [hk])
     rcases (List.pairwise_append.1 hpw).2.2 k hk i (by simp) with h | ⟨x, y, hx, hy, h⟩
     ·exfalso
      have := anc_listed hdown i o ho he h
      have := (hL.iff k hkl).1 this
      exact absurd (by simp [hk] : k ∈ pre ++ i :: post) this.2
     ·rw [hok] at hx; rw [ho] at hy
      obtain rfl := Option.some.inj hx; obtain rfl := Option.some.inj hy
      exact h
    have hstep := vcIs_pull ho pre post f s (fun _ => hr.wfs) hfree h
    have hsub : (pre ++ post).Sublist (pre ++ i :: post) := List.Sublist.append_left (List.sublist_cons_self _ _) _
    have hnd' := hnd.sublist hsub
    have hpw' := hpw.sublist hsub
    have hnot : i ∉ pre ++ post := by
     intro hm
     have h1 := List.nodup_append.1 hnd
     rcases List.mem_append.1 hm with h | h
     ·exact h1.2.2 i h i (by simp) rfl
     ·exact (List.nodup_cons.1 h1.2.1).1 h
    have hL' : Listed ops (listed.setIfInBounds i true) (fun k => k < ops.size ∧ k ∉ pre ++ post) := by
     refine hL.set fun k => ?_
     simp only [List.mem_append, List.mem_cons, not_or]
     constructor
     ·rintro ⟨h1, h2, h3⟩
      by_cases hk : k = i
      ·exact .inl hk
      ·exact .inr ⟨h1, h2, hk, h3⟩
     ·rintro (rfl | ⟨h1, h2, h3, h4⟩)
      ·simp only [List.mem_append, not_or] at hnot
       exact ⟨hil, hnot⟩
      ·exact ⟨h1, h2, h4⟩
    have hdown' : Down ops (listed.setIfInBounds i true) := by
     intro k ok hok hk e hem hb
     have mono : listed.getD e.on false = true → (listed.setIfInBounds i true).getD e.on false = true := by
      intro h
      have hel : e.on < listed.size := by
       rcases Nat.lt_or_ge e.on listed.size with h' | h'
       ·exact h'
       ·simp [Array.getD_eq_getD_getElem?, Array.getElem?_eq_none h'] at h
      simp only [Array.getD_eq_getD_getElem?, Array.getElem?_setIfInBounds] at h ⊢
      split
      ·rename_i hie; subst hie; simp [hel]
      ·exact h
     by_cases hki : i = k
     ·subst hki
      rw [ho] at hok; obtain rfl := Option.some.inj hok
      exact mono (he e hem hb)
     ·refine mono (hdown k ok hok ?_ e hem hb)
      simp only [Array.getD_eq_getD_getElem?, Array.getElem?_setIfInBounds] at hk ⊢
      rw [if_neg hki] at hk; exact hk
    have hlen : (pre ++ post).length ≤ fuel := by simp at hf ⊢; omega
    have hqm' : ∀ k ∈ pre ++ post, k < ops.size := fun k hk => hqm k (by rcases List.mem_append.1 hk with h | h <;> simp [h])
    unfold wpOp
    rw [ho]
    simp only
    unfold st1 at hstep
    split at hstep
    ·rename_i hw
     rw [awanted_run hfr hw, if_pos rfl]
     have hop : vcOp P T n o f s (vcIs P T n ops (fun f s => Q .normal f s) (pre ++ post)) := vcOp_of_vcV hstep.1 hstep.2 fun v s' hh => hh
     refine .inl (vcOp_sound hT hop hfr hr ?_)
     intro γ' f' s' a' w' h1 h2 h3 h4
     exact ih _ _ _ s' γ' a' w' hnd' hpw' hqm' hL' hlen h4 h1 h3 (hd.trans h2) hdown'
    ·rename_i hw
     rw [awanted_run hfr hw, if_neg (by simp)]
     exact ih _ _ _ s γ _ w hnd' hpw' hqm' hL' hlen hstep.2 (hfr.put hstep.1 (vundef γ)) hr hd hdown'
    ·exact hstep.elim
end
theorem dq_calmIs {P : Program} {T : TT} {n : Nat} {ops : Array Oper} {A : List (List Nat)} {H : List Nat} {V : Nat → List AV → AV → Prop} {S : Nat → List AV → AV → AS → Prop} {X : AS → AS → Prop} {C : Nat → List AV → AV → AS → Prop} {M : List Nat} {s : AS} {K2 : Fr → AS → Prop} {t : List Nat} :
  ∀ (q : List Nat) (f : Fr) (F : Facts) (c : AS → Prop) (s1 : AS), (∀ k ∈ q, ∃ o, ops[k]? = some o ∧ calmOp o.op = true ∧ H.contains k = false) → dq P T n ops A H V S X C M s (fun f s' => vcIs P T n ops K2 t f s') q f F c →
  X s s1 → WFs s1 → (∀ p ∈ F, p.2 s1) → c s1 → (H = [] → s1 = s) → vcIs P T n ops K2 (q ++ t) f s1
 | [], f, F, c, s1, _, h, h1, h2, h3, h5, h4 => h s1 h1 h2 h3 h5 h4
 | k :: q, f, F, c, s1, hc, h, h1, h2, h3, h5, h4 => by
  obtain ⟨o, ho, hco, hH⟩ := hc k (by simp)
  have rc := fun f F hF h => dq_calmIs (P := P) (T := T) (n := n) (A := A) (V := V) (S := S) (M := M) (C := C) (K2 := K2) (t := t) q f F c s1 (fun k hk => hc k (by simp [hk])) h h1 h2 hF h5 h4
  simp only [dq, ho] at h
  simp only [List.cons_append, vcIs, ho]
  obtain ⟨hd, h⟩ := h
  unfold st1
  split at h
  ·exact h.elim
  ·rename_i hw; rw [hw]; exact ⟨hd, rc _ _ h3 h.2⟩
  ·rename_i hw
   rw [hw]
   rw [if_neg (by rw [hH]; simp)] at h
   obtain ⟨_, hq, v, ⟨hv, _⟩, hK⟩ := h
   obtain ⟨_, hall⟩ := aop_calm hco hv
   refine ⟨hd, ?_⟩
   unfold vcV
   rw [noCallOp_none (calm_noCall hco)]
   exact ⟨v, s1, hall s1, rc _ _ h3 hK⟩
def srtB : List Nat → Bool
 | [] => true
 | x :: l => (l.all fun y => decide (x < y)) && srtB l
theorem srtB_pw : ∀ {l : List Nat}, srtB l = true → l.Pairwise (· < ·)
 | [], _ => List.Pairwise.nil
 | x :: l, h => by
  simp only [srtB, Bool.and_eq_true, List.all_eq_true, decide_eq_true_eq] at h
  exact List.pairwise_cons.2 ⟨h.1, srtB_pw h.2⟩
def tailOk (ops : Array Oper) (D t : List Nat) (A : List (List Nat)) (H : List Nat) (bs : List Nat) : Bool :=
 decide (Region.before ops = bs.toArray) &&
 ((List.range ops.size).all fun i => (ops[i]?).all (fun o => o.after.toList.all fun e => decide (e.on < i) || !Region.binds .any e) && (D.contains i || t.contains i)) &&
 srtB D && srtB t &&
 (D.all fun i => decide (i < ops.size) && !t.contains i && ((A.getD i []).all fun j => (bs.getD i 0).testBit j && decide (j < i)) &&
  ((ops[i]?).all fun o => o.after.toList.all fun e => D.contains e.on || !Region.binds .any e) &&
  (D.all fun j => !decide (j < i) || (bs.getD i 0).testBit j || ((ops[j]?).any fun x => (ops[i]?).any fun y => x.apart ops y)) &&
  (t.all fun u => (bs.getD u 0).testBit i || ((ops[i]?).any fun x => (ops[u]?).any fun y => x.apart ops y && calmOp x.op && !allocOp y.op && !H.contains i))) &&
 (t.all fun u => decide (u < ops.size) && ((ops[u]?).all fun o => !isNext o.op) && t.all fun v => !decide (v < u) || (bs.getD u 0).testBit v || ((ops[v]?).any fun x => (ops[u]?).any fun y => x.apart ops y && calmOp x.op && !allocOp y.op))
structure TailFacts (ops : Array Oper) (D t : List Nat) (A : List (List Nat)) (H : List Nat) : Prop where
 back : ∀ (i : Nat) o, ops[i]? = some o → ∀ e ∈ o.after.toList, Region.binds .any e = true → e.on < i
 all : ∀ i, i < ops.size → i ∈ D ∨ i ∈ t
 sD : D.Pairwise (· < ·)
 st : t.Pairwise (· < ·)
 ltD : ∀ i ∈ D, i < ops.size
 ltt : ∀ i ∈ t, i < ops.size
 dis : ∀ i ∈ D, i ∉ t
 anc : ∀ i ∈ D, ∀ j ∈ A.getD i [], isAnc ops j i = true ∧ j < i
 dep : ∀ i ∈ D, ∀ o, ops[i]? = some o → ∀ e ∈ o.after.toList, Region.binds .any e = true → e.on ∈ D
 free : ∀ i ∈ D, ∀ j ∈ D, j < i → isAnc ops j i = true ∨ ∃ x y, ops[j]? = some x ∧ ops[i]? = some y ∧ x.apart ops y = true
 dt : ∀ i ∈ D, ∀ u ∈ t, isAnc ops i u = true ∨ ∃ x y, ops[i]? = some x ∧ ops[u]? = some y ∧ Free2 ops x y ∧ calmOp x.op = true ∧ H.contains i = false
 nx : ∀ u ∈ t, ∀ o, ops[u]? = some o → isNext o.op = false
 tt : ∀ u ∈ t, ∀ v ∈ t, v < u → Two ops v u
theorem tailFacts {ops : Array Oper} {D t : List Nat} {A : List (List Nat)} {H bs : List Nat} (h : tailOk ops D t A H bs = true) : TailFacts ops D t A H := by
 simp only [tailOk, Bool.and_eq_true, decide_eq_true_eq] at h
 obtain ⟨⟨⟨⟨⟨hb, h1⟩, h2⟩, h3⟩, h4⟩, h5⟩ := h
 have hanc : ∀ j i, isAnc ops j i = (bs.getD i 0).testBit j := by
  intro j i; unfold isAnc; rw [hb]; simp [List.getD_eq_getElem?_getD]
 have hlt : ∀ (i : Nat) o, ops[i]? = some o → i < ops.size := by
  intro i o ho
  rcases Nat.lt_or_ge i ops.size with h | h
  ·exact h
  ·simp [Array.getElem?_eq_none h] at ho
 rw [List.all_eq_true] at h1 h4 h5
 have g4 := fun i hi => by
  have := h4 i hi
  simp only [Bool.and_eq_true, decide_eq_true_eq, Bool.not_eq_true'] at this
  exact this
 have g5 := fun i hi => by
  have := h5 i hi
  simp only [Bool.and_eq_true, decide_eq_true_eq] at this
  exact this
 refine ⟨fun i o ho e he hbi => ?_, fun i hi => ?_, srtB_pw h2, srtB_pw h3, fun i hi => (g4 i hi).1.1.1.1.1, fun i hi => (g5 i hi).1.1, fun i hi ht => ?_, fun i hi j hj => ?_, fun i hi o ho e he hbi => ?_, fun i hi j hj hji => ?_, fun i hi u hu => ?_, fun u hu o ho => ?_, fun u hu v hv hvu => ?_⟩
 ·have := h1 i (List.mem_range.2 (hlt i o ho))
  simp only [Bool.and_eq_true] at this
  have := this.1
  rw [ho] at this
  simp only [Option.all_some, List.all_eq_true, Bool.or_eq_true, decide_eq_true_eq] at this
  rcases this e he with h | h
  ·exact h
  ·rw [hbi] at h; simp at h
 ·have := h1 i (List.mem_range.2 hi)
  simp only [Bool.and_eq_true, Bool.or_eq_true, List.contains_iff_mem] at this
  exact this.2
 ·have := (g4 i hi).1.1.1.1.2
  rw [← List.contains_iff_mem] at ht
  rw [ht] at this; cases this
 ·have := (g4 i hi).1.1.1.2
  simp only [List.all_eq_true, Bool.and_eq_true, decide_eq_true_eq] at this
  rw [hanc]; exact this j hj
 ·have := (g4 i hi).1.1.2
  rw [ho] at this
  simp only [Option.all_some, List.all_eq_true, Bool.or_eq_true, List.contains_iff_mem] at this
  rcases this e he with h | h
  ·exact h
  ·rw [hbi] at h; simp at h
 ·have := (g4 i hi).1.2
  simp only [List.all_eq_true, Bool.or_eq_true, Bool.not_eq_true', decide_eq_false_iff_not] at this
  rcases this j hj with (h | h) | h
  ·exact absurd hji h
  ·exact .inl (by rw [hanc]; exact h)
  ·simp only [Option.any_eq_true] at h
   obtain ⟨x, hx, y, hy, h⟩ := h
   exact .inr ⟨x, y, hx, hy, h⟩
 ·have := (g4 i hi).2
  simp only [List.all_eq_true, Bool.or_eq_true] at this
  rcases this u hu with h | h
  ·exact .inl (by rw [hanc]; exact h)
  ·simp only [Option.any_eq_true, Bool.and_eq_true, Bool.not_eq_true'] at h
   obtain ⟨x, hx, y, hy, ⟨⟨h1, h2⟩, h3⟩, h4⟩ := h
   exact .inr ⟨x, y, hx, hy, ⟨h1, .inr ⟨h3, .inl h2⟩⟩, h2, h4⟩
 ·have := (g5 u hu).1.2
  rw [ho] at this
  simpa using this
 ·have := (g5 u hu).2
  simp only [List.all_eq_true, Bool.or_eq_true, Bool.not_eq_true', decide_eq_false_iff_not] at this
  rcases this v hv with (h | h) | h
  ·exact absurd hvu h
  ·exact .inl (by rw [hanc]; exact h)
  ·simp only [Option.any_eq_true, Bool.and_eq_true, Bool.not_eq_true'] at h
   obtain ⟨x, hx, y, hy, ⟨h1, h2⟩, h3⟩ := h
   exact .inr ⟨x, y, hx, hy, h1, .inr ⟨h3, .inl h2⟩⟩
def ancB (bs : List Nat) : List Nat → Bool
 | [] => true
 | a :: M => (M.all fun b => (bs.getD b 0).testBit a) && ancB bs M
def mOk (ops : Array Oper) (D H M : List Nat) (bs : List Nat) : Bool := decide (Region.before ops = bs.toArray) && srtB M && (M.all fun i => D.contains i && H.contains i) && ancB bs M
structure MFacts (ops : Array Oper) (D H M : List Nat) : Prop where
 srt : M.Pairwise (· < ·)
 sub : ∀ i ∈ M, i ∈ D
 subH : ∀ i ∈ M, H.contains i = true
 anc : M.Pairwise fun a b => isAnc ops a b = true
theorem mFacts {ops : Array Oper} {D H M bs : List Nat} (h : mOk ops D H M bs = true) : MFacts ops D H M := by
 simp only [mOk, Bool.and_eq_true, decide_eq_true_eq, List.all_eq_true] at h
 obtain ⟨⟨⟨hb, h1⟩, h2⟩, h3⟩ := h
 refine ⟨srtB_pw h1, fun i hi => List.contains_iff_mem.1 (h2 i hi).1, fun i hi => (h2 i hi).2, ?_⟩
 clear h1 h2
 induction M with
 | nil => exact List.Pairwise.nil
 | cons a M ih =>
  simp only [ancB, Bool.and_eq_true, List.all_eq_true] at h3
  refine List.pairwise_cons.2 ⟨fun b hb' => ?_, ih h3.2⟩
  have := h3.1 b hb'
  unfold isAnc
  rw [hb]
  simpa [List.getD_eq_getElem?_getD] using this
theorem mFacts_nil {ops : Array Oper} {D H : List Nat} : MFacts ops D H [] := ⟨List.Pairwise.nil, by simp, by simp, List.Pairwise.nil⟩
section
variable {P : Program} {T : TT} {n : Nat} {ops : Array Oper} {A : List (List Nat)} {H : List Nat} {V : Nat → List AV → AV → Prop} {S : Nat → List AV → AV → AS → Prop} {X : AS → AS → Prop} {C : Nat → List AV → AV → AS → Prop} {M : List Nat} {s : AS}
theorem quietT_sound (hT : TT.Ok P T) (hst : 1 ≤ s.st) {D t : List Nat} (hD : TailFacts ops D t A H) (hMF : MFacts ops D H M) (hX : ∀ s s', Ext s s' → X s s') (hXt : ∀ a b c, X a b → X b c → X a c) (hC : ∀ i k v s s', Ext s s' → C i k v s → C i k v s') (hS : ∀ i k v s s', X s s' → S i k v s → S i k v s') {Q : Exit → Fr → AS → Prop} {B : Nat} {γ0 : Gam} {s0 : AS} {w0 : World} :
  ∀ (fuel : Nat) (q : List Nat) (listed : Array Bool) (f : Fr) (F : Facts) (c : AS → Prop) (s1 : AS) (γ : Gam) (a : Act) (w : World),
  q.Sublist D → Listed ops listed (fun i => i ∈ D ∧ i ∉ q) → q.length + t.length ≤ fuel →
  dq P T n ops A H V S X C M s (fun f s' => vcIs P T n ops (fun f s => Q .normal f s) t f s') q f F c → X s s1 → c s1 → (∀ s s', Ext s s' → c s → c s') → (H = [] → s1 = s) → (∀ p ∈ F, p.2 s1) → (∀ p ∈ F, ∀ s s', X s s' → p.2 s → p.2 s') →
  FRel γ n f a → Rel B γ s1 w → Did B γ0 s0 w0 γ s1 w → Down ops listed →
  wpAny P .any ops (PostR B γ0 s0 w0 n Q) fuel listed a w := by
 intro fuel
 have calmly : ∀ (fuel : Nat) (q : List Nat) (listed : Array Bool) (f : Fr) (F : Facts) (c : AS → Prop) (s1 : AS) (γ : Gam) (a : Act) (w : World),
   q.Sublist D → Listed ops listed (fun i => i ∈ D ∧ i ∉ q) → q.length + t.length ≤ fuel → (∀ k ∈ q, ∃ o, ops[k]? = some o ∧ calmOp o.op = true ∧ H.contains k = false) →
   dq P T n ops A H V S X C M s (fun f s' => vcIs P T n ops (fun f s => Q .normal f s) t f s') q f F c → X s s1 → c s1 → (H = [] → s1 = s) → (∀ p ∈ F, p.2 s1) →
   FRel γ n f a → Rel B γ s1 w → Did B γ0 s0 w0 γ s1 w → Down ops listed →
   wpAny P .any ops (PostR B γ0 s0 w0 n Q) fuel listed a w := by
  intro fuel q listed f F c s1 γ a w hsub hL hf hc h hext hph hsm hF hfr hr hd hdown
  have hin := fun i hi => hsub.subset (a := i) hi
  refine calmL_sound hT hD.back fuel (q ++ t) listed f s1 γ a w ?_ ?_ ?_ ⟨hL.size, fun i hi => ?_⟩ (by simpa using hf) (dq_calmIs q f F c s1 hc h hext hr.wfs hF hph hsm) hfr hr hd hdown
  ·refine List.nodup_append.2 ⟨(hD.sD.imp fun h => Nat.ne_of_lt h).sublist hsub, hD.st.imp fun h => Nat.ne_of_lt h, fun a ha b hb => ?_⟩
   rintro rfl
   exact hD.dis a (hin a ha) hb
  ·refine List.pairwise_append.2 ⟨?_, ?_, fun k hk u hu => ?_⟩
   ·refine List.Pairwise.imp_of_mem ?_ (hD.sD.sublist hsub)
    intro k i hk hi hlt
    rcases hD.free i (hin i hi) k (hin k hk) hlt with h | ⟨x, y, hx, hy, h⟩
    ·exact .inl h
    ·obtain ⟨o, ho, hco, _⟩ := hc k hk
     obtain ⟨o2, ho2, hco2, _⟩ := hc i hi
     rw [hx] at ho; rw [hy] at ho2
     obtain rfl := Option.some.inj ho; obtain rfl := Option.some.inj ho2
     refine .inr ⟨x, y, hx, hy, h, .inr ⟨?_, .inl hco⟩⟩
     cases hop : y.op <;> first | rfl | (rw [hop] at hco2; cases hco2)
   ·refine List.Pairwise.imp_of_mem ?_ hD.st
    intro v u hv hu hlt
    exact hD.tt u hu v hv hlt
   ·rcases hD.dt k (hin k hk) u hu with h | ⟨x, y, hx, hy, h, _⟩
    ·exact .inl h
    ·exact .inr ⟨x, y, hx, hy, h⟩
  ·intro i hi
   rcases List.mem_append.1 hi with h | h
   ·exact hD.ltD i (hin i h)
   ·exact hD.ltt i h
  ·rw [hL.iff i hi]
   simp only [List.mem_append, not_or]
   constructor
   ·rintro ⟨h1, h2⟩; exact ⟨hi, h2, hD.dis i h1⟩
   ·rintro ⟨_, h2, h3⟩
    exact ⟨(hD.all i hi).resolve_right h3, h2⟩
 induction fuel with
 | zero =>
  intro q listed f F c s1 γ a w hsub hL hf h hext hph hcm hsm hF hmono hfr hr hd hdown
  obtain rfl : q = [] := List.length_eq_zero_iff.1 (by omega)
  exact calmly 0 [] listed f F c s1 γ a w hsub hL hf (by simp) h hext hph hsm hF hfr hr hd hdown
 | succ fuel ih =>
  intro q listed f F c s1 γ a w hsub hL hf h hext hph hcm hsm hF hmono hfr hr hd hdown
  by_cases hall : ∀ k ∈ q, ∃ o, ops[k]? = some o ∧ calmOp o.op = true ∧ H.contains k = false
  ·exact calmly _ q listed f F c s1 γ a w hsub hL hf hall h hext hph hsm hF hfr hr hd hdown
  ·have hin := fun i hi => hsub.subset (a := i) hi
   obtain ⟨kn, hkn, hbad⟩ : ∃ k ∈ q, ¬ ∃ o, ops[k]? = some o ∧ calmOp o.op = true ∧ H.contains k = false := by
    apply Classical.byContradiction
    intro hno
    exact hall fun k hk => Classical.byContradiction fun hb => hno ⟨k, hk, hb⟩
   have hqn : q ≠ [] := by rintro rfl; cases hkn
   have hnota : ∀ u ∈ t, isAnc ops kn u = true := fun u hu => by
    rcases hD.dt kn (hin kn hkn) u hu with h | ⟨x, y, hx, _, _, h1, h2⟩
    ·exact h
    ·exact absurd ⟨x, hx, h1, h2⟩ hbad
   refine ⟨fun hnil => ?_, fun i hi => ?_⟩
   ·exfalso
    obtain ⟨q0, hq0, hleast⟩ := exists_least q hqn
    have hlt := hD.ltD q0 (hin q0 hq0)
    have : q0 ∈ Region.ready .any ops listed := by
     refine (ready_iff hL q0).2 ⟨_, Array.getElem?_eq_getElem hlt, fun h => h.2 hq0, fun e he hb => ?_⟩
     have h1 := hD.back q0 _ (Array.getElem?_eq_getElem hlt) e he hb
     have h2 := hD.dep q0 (hin q0 hq0) _ (Array.getElem?_eq_getElem hlt) e he hb
     refine (hL.iff e.on (by omega)).2 ⟨h2, fun hm => ?_⟩
     have := hleast e.on hm
     omega
    rw [hnil] at this; cases this
   ·obtain ⟨o, ho, hp, he⟩ := (ready_iff hL i).1 hi
    have hil : i < ops.size := by
     rcases Nat.lt_or_ge i ops.size with h | h
     ·exact h
     ·simp [Array.getElem?_eq_none h] at ho
    have hiD : i ∈ D := by
     rcases hD.all i hil with h | h
     ·exact h
     ·exfalso
      have := anc_listed hdown i o ho he (hnota i h)
      have := (hL.iff kn (hD.ltD kn (hin kn hkn))).1 this
      exact this.2 hkn
    have hiq : i ∈ q := by
     by_cases h : i ∈ q
     ·exact h
     ·exact absurd ⟨hiD, h⟩ hp
    obtain ⟨pre, post, hq⟩ := List.append_of_mem hiq
    rw [hq] at h hsub hL hf hin
    have hsort := hD.sD.sublist hsub
    have hpre : ∀ k ∈ pre, k < i := by
     intro k hk
     exact (List.pairwise_append.1 hsort).2.2 k hk i (by simp)
    have hfree : ∀ k ∈ pre, ∀ ok, ops[k]? = some ok → Free ops A k i ok o := by
     intro k hk ok hok
     have hki := hpre k hk
     have hkD : k ∈ D := hin k (by simp [hk])
     have hkl : k < ops.size := hD.ltD k hkD
     have hna : isAnc ops k i = false := by
      cases hq2 : isAnc ops k i with
      | false => rfl
      | true =>
       have := anc_listed hdown i o ho he hq2
       have := (hL.iff k hkl).1 this
       exact absurd (by simp [hk] : k ∈ pre ++ i :: post) this.2
     refine ⟨?_, ?_, ?_⟩
     ·rcases hD.free i hiD k hkD hki with h | ⟨x, y, hx, hy, h⟩
      ·rw [hna] at h; cases h
      ·rw [hok] at hx; rw [ho] at hy
       obtain rfl := Option.some.inj hx; obtain rfl := Option.some.inj hy
       exact h
     ·cases hc : (A.getD i []).contains k with
      | false => rfl
      | true =>
       have := (hD.anc i hiD k (by simpa using hc)).1
       rw [hna] at this; cases this
     ·cases hc : (A.getD k []).contains i with
      | false => rfl
      | true =>
       have := (hD.anc k hkD i (by simpa using hc)).2
       omega
    have hMM : ∀ k ∈ pre, M.contains k = true → M.contains i = false := by
     intro k hk hkM
     cases hiM : M.contains i with
     | false => rfl
     | true =>
      exfalso
      have hki := hpre k hk
      have h1 : isAnc ops k i = true := by
       obtain ⟨M1, M2, e⟩ := List.append_of_mem (List.contains_iff_mem.1 hkM)
       have hpa := hMF.anc
       have hps := hMF.srt
       have him := List.contains_iff_mem.1 hiM
       rw [e] at hpa hps him
       rcases List.mem_append.1 him with h | h
       ·have := (List.pairwise_append.1 hps).2.2 i h k (by simp)
        omega
       ·rcases List.mem_cons.1 h with rfl | h
        ·omega
        ·exact (List.pairwise_cons.1 (List.pairwise_append.1 hpa).2.1).1 i h
      have h2 := anc_listed hdown i o ho he h1
      exact ((hL.iff k (hD.ltD k (hin k (by simp [hk])))).1 h2).2 (by simp [hk])
    have hstep := dq_pull ho pre post f F c hfree hMM h
    have hsub2 : (pre ++ post).Sublist (pre ++ i :: post) := List.Sublist.append_left (List.sublist_cons_self _ _) _
    have hsub' : (pre ++ post).Sublist D := hsub2.trans hsub
    have hnot : i ∉ pre ++ post := by
     intro hm
     rcases List.mem_append.1 hm with h | h
     ·have := hpre i h; omega
     ·have := (List.pairwise_cons.1 (List.pairwise_append.1 hsort).2.1).1 i h; omega
    have hL' : Listed ops (listed.setIfInBounds i true) (fun k => k ∈ D ∧ k ∉ pre ++ post) := by
     refine hL.set fun k => ?_
     simp only [List.mem_append, List.mem_cons, not_or]
     constructor
     ·rintro ⟨h1, h2, h3⟩
      by_cases hk : k = i
      ·exact .inl hk
      ·exact .inr ⟨h1, h2, hk, h3⟩
     ·rintro (rfl | ⟨h1, h2, h3, h4⟩)
      ·simp only [List.mem_append, not_or] at hnot
       exact ⟨hiD, hnot⟩
      ·exact ⟨h1, h2, h4⟩
    have hdown' : Down ops (listed.setIfInBounds i true) := by
     intro k ok hok hk e hem hb
     have mono : listed.getD e.on false = true → (listed.setIfInBounds i true).getD e.on false = true := by
      intro h
      have hel : e.on < listed.size := by
       rcases Nat.lt_or_ge e.on listed.size with h' | h'
       ·exact h'
       ·simp [Array.getD_eq_getD_getElem?, Array.getElem?_eq_none h'] at h
      simp only [Array.getD_eq_getD_getElem?, Array.getElem?_setIfInBounds] at h ⊢
      split
      ·rename_i hie; subst hie; simp [hel]
      ·exact h
     by_cases hki : i = k
     ·subst hki
      rw [ho] at hok; obtain rfl := Option.some.inj hok
      exact mono (he e hem hb)
     ·refine mono (hdown k ok hok ?_ e hem hb)
      simp only [Array.getD_eq_getD_getElem?, Array.getElem?_setIfInBounds] at hk ⊢
      rw [if_neg hki] at hk; exact hk
    have hlen : (pre ++ post).length + t.length ≤ fuel := by simp at hf ⊢; omega
    obtain ⟨hdst, hstep⟩ := hstep
    unfold wpOp
    rw [ho]
    simp only
    cases hw : awanted ops f o with
    | none => rw [hw] at hstep; exact hstep.elim
    | some b =>
     rw [hw] at hstep
     rw [awanted_run hfr hw]
     cases b with
     | false =>
      rw [if_neg (by simp)]
      exact ih _ _ _ F c s1 γ _ w hsub' hL' hlen hstep.2 hext hph hcm hsm hF hmono (hfr.put hdst (vundef γ)) hr hd hdown'
     | true =>
      rw [if_pos rfl]
      simp only at hstep
      by_cases hh : H.contains i = true
      ·rw [if_pos hh] at hstep
       obtain ⟨hA, _, hK⟩ := hstep
       have hv := hA s1 hext hr.wfs (fun p hp _ => hF p hp) (fun _ => hph)
       have hpost : ∀ v s2, (if M.contains i then X s1 s2 ∧ C i (keyOf f o) v s2 else Ext s1 s2) → X s1 s2 ∧ nextC C M i (keyOf f o) v c s2 := by
        intro v s2 hm
        unfold nextC
        split at hm
        ·rename_i hk; rw [if_pos hk]; exact hm
        ·rename_i hk; rw [if_neg hk]; exact ⟨hX _ _ hm, hcm _ _ hm hph⟩
       have hnc : ∀ v s s', Ext s s' → nextC C M i (keyOf f o) v c s → nextC C M i (keyOf f o) v c s' := by
        intro v s s' e h
        unfold nextC at h ⊢
        split at h
        ·rename_i hk; rw [if_pos hk]; exact hC _ _ _ _ _ e h
        ·rename_i hk; rw [if_neg hk]; exact hcm _ _ e h
       have hop : vcOp P T n o f s1 (fun f2 s2 => ∃ v, f2 = updO f o.dst v ∧ (if M.contains i then X s1 s2 ∧ C i (keyOf f o) v s2 else Ext s1 s2) ∧ S i (keyOf f o) v s2 ∧ V i (keyOf f o) v) := vcOp_of_vcV hdst hv fun v s2 ⟨h1, h2, h3⟩ => ⟨v, rfl, h1, h2, h3⟩
       refine .inl (vcOp_sound hT hop hfr hr ?_)
       rintro γ' f' s' a' w' h1 h2 h3 ⟨v, rfl, h4, h5, h6⟩
       refine ih _ _ _ _ _ s' γ' a' w' hsub' hL' hlen (hK v h6) (hXt _ _ _ hext (hpost _ _ h4).1) (hpost _ _ h4).2 (hnc v) (fun e => by rw [e] at hh; cases hh) ?_ ?_ h1 h3 (hd.trans h2) hdown'
       ·intro p hp
        rcases List.mem_append.1 hp with h | h
        ·exact hmono p h _ _ (hpost _ _ h4).1 (hF p h)
        ·obtain rfl := List.mem_singleton.1 h; exact h5
       ·intro p hp
        rcases List.mem_append.1 hp with h | h
        ·exact hmono p h
        ·obtain rfl := List.mem_singleton.1 h; exact fun s s' he => hS i _ v s s' he
      ·rw [if_neg hh] at hstep
       obtain ⟨h0, hq1, v, ⟨_, hva⟩, hK⟩ := hstep
       have hv1 := hva _ hext hr.wfs
       have hac : acallee f o.op = none := by
        unfold acallee
        split
        ·rename_i c hc
         rw [hc] at hq1
         simp only [quietOp] at hq1
         split
         ·rename_i x hx; rw [hx] at hq1; cases hq1
         ·rfl
        ·rfl
       have hop : vcOp P T n o f s1 (fun f2 s2 => f2 = updO f o.dst v ∧ s2 = s1) := by
        refine ⟨hdst, .inl ?_⟩
        rw [hac]
        exact ⟨v, s1, hv1, rfl, rfl⟩
       refine .inl (vcOp_sound hT hop hfr hr ?_)
       rintro γ' f' s' a' w' h1 h2 h3 ⟨rfl, rfl⟩
       exact ih _ _ _ F c _ γ' a' w' hsub' hL' hlen hK hext hph hcm hsm hF hmono h1 h3 (hd.trans h2) hdown'
end
open Classical in
theorem nodup_lenT {α : Type} : ∀ {d es : List α}, d.Nodup → (∀ e ∈ d, e ∈ es) → d.length ≤ es.length
 | [], es, _, _ => Nat.zero_le _
 | x :: d, es, h, hs => by
  obtain ⟨n1, n2⟩ := List.nodup_cons.1 h
  have hx := hs x (by simp)
  have := nodup_lenT (d := d) (es := es.erase x) n2 fun e he => (List.mem_erase_of_ne (fun h => n1 (by rw [← h]; exact he))).2 (hs e (by simp [he]))
  have hp : 0 < es.length := List.length_pos_of_mem hx
  rw [List.length_erase_of_mem hx] at this
  simp only [List.length_cons]; omega
theorem AWp.tail {P : Program} {T : TT} (hT : TT.Ok P T) (hmx : P.follows .mixedOrders = true) {n id : Nat} {ops : Array Oper} {f : Fr} {s : AS} {Q : Exit → Fr → AS → Prop} (D t : List Nat) (A : List (List Nat)) (bs : List Nat) (H : List Nat)
  (V : Nat → List AV → AV → Prop) (S : Nat → List AV → AV → AS → Prop) (X : AS → AS → Prop) (C : Nat → List AV → AV → AS → Prop) (M : List Nat) (hok : tailOk ops D t A H bs = true) (hMF : MFacts ops D H M) (hX : ∀ s s', Ext s s' → X s s') (hXt : ∀ a b c, X a b → X b c → X a c) (hC : ∀ i k v s s', Ext s s' → C i k v s → C i k v s') (hS : ∀ i k v s s', X s s' → S i k v s → S i k v s')
  {c : AS → Prop} (hc : ∀ s s', Ext s s' → c s → c s') (h0 : c s) (h : dq P T n ops A H V S X C M s (fun f s' => vcOps P T n ops (t.filterMap fun i => ops[i]?) f s' (fun f s => Q .normal f s)) D f [] c) : AWp P n (.region id ops true) f s Q := by
 intro B γ a w hf hr
 have hD := tailFacts hok
 refine wp_region_any hmx ?_
 have hlen : D.length + t.length ≤ ops.size := by
  have hnd : (D ++ t).Nodup := by
   refine List.nodup_append.2 ⟨hD.sD.imp fun h => Nat.ne_of_lt h, hD.st.imp fun h => Nat.ne_of_lt h, fun a ha b hb => ?_⟩
   rintro rfl
   exact hD.dis a ha hb
  have hsub : ∀ i ∈ D ++ t, i ∈ List.range ops.size := by
   intro i hi
   rw [List.mem_range]
   rcases List.mem_append.1 hi with h | h
   ·exact hD.ltD i h
   ·exact hD.ltt i h
  have := nodup_lenT hnd hsub
  simpa using this
 have h' := dq_mono (fun f s hh => vcOps_vcIsL t f s hD.ltt hD.nx hh) D f [] c h
 refine quietT_sound hT hr.stp hD hMF hX hXt hC hS ops.size D _ f [] c s γ a { w with drawn := w.drawn + 1 } (List.Sublist.refl _) ⟨by simp, fun i hi => ?_⟩ hlen h' (hX _ _ (Ext.refl s)) h0 hc (fun _ => rfl) (by simp) (by simp) hf (hr.of_heap rfl) (Did.of_heap rfl) ?_
 ·simp [Array.getD_eq_getD_getElem?, hi]
 ·intro i o ho hl
  simp only [Array.getD_eq_getD_getElem?] at hl
  by_cases hi : i < ops.size
  ·simp [hi] at hl
  ·simp [hi] at hl
end Go.Am
end

section
namespace Go.Am
inductive QA where
 | leaf
 | calm
 | draw (m : Nat)
 | drawH (m : Nat) (A : List (List Nat)) (H : List Nat)
 | drawT (D t : List Nat) (A : List (List Nat)) (H : List Nat)
 | drawM (D t : List Nat) (A : List (List Nat)) (H M : List Nat)
 | seq (a b : QA)
 | join (L : List (Nat × TK)) (W : List (Nat × Nat)) (a b : QA)
 | cond (a b : QA)
 | loop (L : List (Nat × TK)) (W : List (Nat × Nat)) (a : QA)
 | wrap (a : QA)
def gdst (l : List Oper) (j : Nat) : Option Nat := (l[j]?).bind (·.dst)
def qguard (l : List Oper) (g : Option (Nat × Bool)) (f : Fr) (A B : Fr → Prop) : Prop := match g with
 | none => A f
 | some (j, want) => match gdst l j with
  | none => B f
  | some d => match f d with
   | .bool b => bsplit b (match want with | true => A (upd f d (.bool true)) | false => B (upd f d (.bool true))) (match want with | true => B (upd f d (.bool false)) | false => A (upd f d (.bool false)))
   | .tup _ => B f
   | _ => False
def isEnt (l : List Oper) (d : Nat) : Bool := l.any fun o => match o.op, o.dst with
 | .entry _, some d' => d' == d
 | _, _ => false
def extE (v : AV) (i : Nat) (K : AV → Prop) : Prop := match v with
 | .tup vs => (match vs[i]? with | some v => K v | none => False)
 | _ => False
def qopN (P : Program) (T : TT) (l : List Oper) (o : Oper) (ρ : Operand → AV) (s : AS) (K : AV → AS → Prop) : Prop := match o.op with
 | .next it false => NextM (acandM (ρ it) s) s K
 | .next it true => NextS (acandS (ρ it) s) s K
 | .entry it => RdE (aentry (ρ it) s) fun k v => K (.tup [k, v]) s
 | .extract (.tmp d) i => bif isEnt l d then extE (ρ (.tmp d)) i fun v => qcs (tkOf T o.type) v fun v => K v s else qop P T o ρ s K
 | _ => qop P T o ρ s K
def qops (P : Program) (T : TT) (l : List Oper) : List Oper → Fr → AS → (Fr → AS → Prop) → Prop
 | [], f, s, K => K f s
 | o :: os, f, s, K => qguard l o.guard f (fun f => qopN P T l o (aev f) s fun v s => qops P T l os (updO f o.dst v) s K) (fun f => qops P T l os (updO f o.dst .undef) s K)
def FAll : Facts → AS → Prop
 | [], _ => True
 | p :: ps, s => p.2 s ∧ FAll ps s
def opK (T : TT) (o : Oper) : TK := match o.op with
 | .alloc _ => .ptr
 | .box .. => .ptr
 | _ => tkOf T o.type
def qdq (P : Program) (T : TT) (l : List Oper) (A : List (List Nat)) (H : List Nat) (V : Nat → List AV → AV → Prop) (S : Nat → List AV → AV → AS → Prop) (s : AS) (K : Fr → AS → Prop) : List Nat → Fr → Facts → Prop
 | [], f, F => ∀ s', Ext s s' → WFs s' → FAll F s' → K f s'
 | i :: is, f, F => match l[i]? with
  | none => False
  | some o => qguard l o.guard f
   (fun f => match H.contains i with
    | true => (∀ s', Ext s s' → WFs s' → FAll (F.filter fun p => (A.getD i []).contains p.1) s' → qop P T o (aev f) s' fun v s'' => Ext s' s'' ∧ S i (keyOf f o) v s'' ∧ V i (keyOf f o) v) ∧
     (∃ v, V i (keyOf f o) v) ∧ ∀ v, V i (keyOf f o) v → qcs (opK T o) v fun v => qdq P T l A H V S s K is (updO f o.dst v) (F ++ [(i, S i (keyOf f o) v)])
    | false => qop P T o (aev f) s fun v _ => qdq P T l A H V S s K is (updO f o.dst v) F)
   (fun f => qdq P T l A H V S s K is (updO f o.dst .undef) F)
def calmB : Op → Bool
 | .build .. => true
 | o => calmOp o
theorem aop_calmB {T : TT} {op : Op} (hq : calmB op = true) {ρ : Operand → AV} {s s1 : AS} {v : AV} (h : aop T op ρ s = some (v, s1)) (s' : AS) : aop T op ρ s' = some (v, s') := by
 by_cases hb : calmOp op = true
 ·exact (aop_calm hb h).2 s'
 ·cases op <;> first | exact absurd hq hb | skip
  simp only [aop, Option.map_eq_some_iff, Prod.mk.injEq] at h ⊢
  obtain ⟨u, h1, rfl, rfl⟩ := h
  exact ⟨_, h1, by simp⟩
def qdqM (P : Program) (T : TT) (l : List Oper) (A : List (List Nat)) (H : List Nat) (V : Nat → List AV → AV → Prop) (S : Nat → List AV → AV → AS → Prop) (X : AS → AS → Prop) (C : Nat → List AV → AV → AS → Prop) (M : List Nat) (s : AS) (K : Fr → AS → Prop) : List Nat → Fr → Facts → (AS → Prop) → Prop
 | [], f, F, c => ∀ s', X s s' → WFs s' → FAll F s' → c s' → K f s'
 | i :: is, f, F, c => match l[i]? with
  | none => False
  | some o => qguard l o.guard f
   (fun f => match H.contains i with
    | true => (∀ s', X s s' → WFs s' → FAll (F.filter fun p => (A.getD i []).contains p.1) s' → match M.contains i with
      | true => c s' → qop P T o (aev f) s' fun v s'' => (X s' s'' ∧ C i (keyOf f o) v s'') ∧ S i (keyOf f o) v s'' ∧ V i (keyOf f o) v
      | false => qop P T o (aev f) s' fun v s'' => Ext s' s'' ∧ S i (keyOf f o) v s'' ∧ V i (keyOf f o) v) ∧
     (∃ v, V i (keyOf f o) v) ∧ ∀ v, V i (keyOf f o) v → qcs (opK T o) v fun v => qdqM P T l A H V S X C M s K is (updO f o.dst v) (F ++ [(i, S i (keyOf f o) v)]) (match M.contains i with | true => C i (keyOf f o) v | false => c)
    | false => match M.contains i with
     | true => False
     | false => qop P T o (aev f) s fun v _ => match calmB o.op with
      | true => qdqM P T l A H V S X C M s K is (updO f o.dst v) F c
      | false => (∀ s', X s s' → WFs s' → qop P T o (aev f) s' fun v' _ => v' = v) ∧ qdqM P T l A H V S X C M s K is (updO f o.dst v) F c)
   (fun f => match M.contains i with
    | true => False
    | false => qdqM P T l A H V S X C M s K is (updO f o.dst .undef) F c)
def allK (k : TK) (K : AV → Prop) : Prop := match k with
 | .int k => ∀ n : Int, K (.int k n)
 | .bool => ∀ b : Bool, K (.bool b)
 | .str => ∀ b : List UInt8, K (.str b)
 | .ptr => ∀ a : Option (Nat × Nat), K (.ptr a)
 | .map => ∀ r : Option Nat, K (.map r)
 | .agg => ∀ l : List AV, K (.agg l)
 | _ => ∀ v : AV, K v
def isK (k : TK) (v : AV) (K : AV → Prop) : Prop := match k, v with
 | .int k, .int k' n => bif k' == k then K (.int k n) else False
 | .bool, .bool b => K (.bool b)
 | .str, .str b => K (.str b)
 | .ptr, .ptr a => K (.ptr a)
 | .map, .map r => K (.map r)
 | .agg, .agg l => K (.agg l)
 | .any, v => K v
 | .tup _, v => K v
 | _, _ => False
theorem allK_isK {k : TK} {v : AV} {K K' : AV → Prop} (h : allK k K) (h' : isK k v K') : K v ∧ K' v := by
  unfold isK at h'
  split at h'
  · rename_i k k' n
    cases hk : (k' == k) with
    | false => rw [hk] at h'; exact h'.elim
    | true => rw [hk] at h'; obtain rfl : k' = k := by simpa using hk
              exact ⟨h n, h'⟩
  all_goals first | exact ⟨h _, h'⟩ | exact h'.elim
def qall : List (Nat × TK) → Fr → (List AV → Fr → Prop) → Prop
 | [], f, K => K [] f
 | p :: L, f, K => allK p.2 fun v => qall L (upd f p.1 v) fun vs f => K (v :: vs) f
def qjmp : List (Nat × TK) → Fr → (List AV → Prop) → Prop
 | [], _, K => K []
 | p :: L, f, K => isK p.2 (f p.1) fun v => qjmp L f fun vs => K (v :: vs)
def inW (W : List (Nat × Nat)) (t : Nat) : Bool := W.any fun p => Nat.ble p.1 t && Nat.ble t p.2
def forget (W : List (Nat × Nat)) (f : Fr) : Fr := fun t => bif inW W t then .bad else f t
theorem qall_jmp : ∀ (L : List (Nat × TK)) (f0 f : Fr) {K : List AV → Fr → Prop} {K' : List AV → Prop}, qall L f0 K → qjmp L f K' → ∃ vs f1, K vs f1 ∧ K' vs ∧ ∀ t, f1 t = if t ∈ L.map (·.1) then f t else f0 t
 | [], f0, f, K, K', h, h' => ⟨[], f0, h, h', fun t => by simp⟩
 | p :: L, f0, f, K, K', h, h' => by
  obtain ⟨h1, h2⟩ := allK_isK h h'
  obtain ⟨vs, f1, h3, h4, h5⟩ := qall_jmp L _ f h1 h2
  refine ⟨_, f1, h3, h4, fun t => ?_⟩
  rw [h5 t]
  simp only [List.map_cons, List.mem_cons, upd]
  by_cases ht : t ∈ L.map (·.1)
  ·rw [if_pos ht, if_pos (.inr ht)]
  ·rw [if_neg ht]
   by_cases hp : t = p.1
   ·rw [if_pos hp, if_pos (.inl hp), hp]
   ·rw [if_neg hp, if_neg (by simp [hp, ht])]
def qcode (P : Program) (T : TT) : QA → Code → Fr → AS → (Exit → Fr → AS → Prop) → Prop
 | .leaf, .skip, f, s, Q => Q .normal f s
 | .leaf, .label _, f, s, Q => Q .normal f s
 | .leaf, .exit id, f, s, Q => Q (.exit id) f s
 | .leaf, .ret, f, s, Q => Q .ret f s
 | .leaf, .region _ ops false, f, s, Q => qops P T ops.toList ops.toList f s fun f s => Q .normal f s
 | .calm, .region _ ops true, f, s, Q => qops P T ops.toList ops.toList f s fun f s => Q .normal f s
 | .draw _, .region _ ops true, f, s, Q => qops P T ops.toList ops.toList f s fun f s => Q .normal f s
 | .drawH m A H, .region _ ops true, f, s, Q => DrawQ fun S V => qdq P T ops.toList A H V S s (fun f s => qops P T ops.toList (ops.toList.drop m) f s fun f s => Q .normal f s) (List.range m) f []
 | .drawT D t A H, .region _ ops true, f, s, Q => DrawQ fun S V => qdq P T ops.toList A H V S s (fun f s => qops P T ops.toList (t.filterMap fun i => ops[i]?) f s fun f s => Q .normal f s) D f []
 | .drawM D t A H M, .region _ ops true, f, s, Q => DrawM s fun X C c S V => qdqM P T ops.toList A H V S X C M s (fun f s => qops P T ops.toList (t.filterMap fun i => ops[i]?) f s fun f s => Q .normal f s) D f [] c
 | .seq a b, .seq x y, f, s, Q => qcode P T a x f s (XThen (fun f s => qcode P T b y f s Q) Q)
 | .join L W a b, .seq x y, f, s, Q => JoinQ fun J => (qall L (forget W f) fun vs f => ∀ s, J vs s → qcode P T b y f s Q) ∧ qcode P T a x f s (XThen (fun f s => qjmp L f fun vs => J vs s) Q)
 | .cond a b, .cond c x y, f, s, Q => (match aev f c with | .bool t => bsplit t (qcode P T a x f s Q) (qcode P T b y f s Q) | _ => False)
 | .wrap a, .block id x, f, s, Q => qcode P T a x f s (XBlock id Q)
 | .wrap a, .scope x, f, s, Q => qcode P T a x f s (XScope Q)
 | .loop L W a, .loop x, f, s, Q => LoopQ fun I m0 => (qjmp L f fun vs => I m0 vs s) ∧ ∀ m, qall L (forget W f) fun vs f => ∀ s, I m vs s → qcode P T a x f s (XThen (fun f s => qjmp L f fun vs => ∃ m', m' < m ∧ I m' vs s) Q)
 | _, _, _, _, _ => False
def dstQ : QA → Code → List (Nat × Nat)
 | .join _ W _ b, .seq _ y => W ++ dstQ b y
 | .loop _ W _, _ => W
 | .seq a b, .seq x y => dstQ a x ++ dstQ b y
 | .cond a b, .cond _ x y => dstQ a x ++ dstQ b y
 | .wrap a, .block _ x => dstQ a x
 | .wrap a, .scope x => dstQ a x
 | _, .region _ ops _ => ops.toList.filterMap fun o => o.dst.map fun d => (d, d)
 | _, _ => []
def quietQ (T : TT) (o : Op) : Bool := quietOp o && (match o with
 | .convert _ d _ => (match T.und d with | some (.slice _) => false | _ => true)
 | _ => true)
def subW (l W : List (Nat × Nat)) : Bool := l.all fun p => W.any fun q => Nat.ble q.1 p.1 && Nat.ble p.2 q.2
def codeOk (T : TT) (n : Nat) : QA → Code → Bool
 | .leaf, .region _ ops false => ops.toList.all fun o => dstOk n o.dst
 | .leaf, _ => true
 | .calm, .region _ ops true => (ops.toList.all fun o => dstOk n o.dst) && calmOk ops (Region.before ops).toList && ops.toList.all fun o => !isNext o.op
 | .draw m, .region _ ops true => (ops.toList.all fun o => dstOk n o.dst) && drawOk ops m [] (Region.before ops).toList && (ops.toList.take m).all fun o => quietQ T o.op
 | .drawH m A H, .region _ ops true => (ops.toList.all fun o => dstOk n o.dst) && drawOk ops m A (Region.before ops).toList && !H.isEmpty && (List.range m).all fun i => H.contains i || (ops.toList[i]?).any fun o => quietQ T o.op
 | .drawT D t A H, .region _ ops true => (ops.toList.all fun o => dstOk n o.dst) && tailOk ops D t A H (Region.before ops).toList && !H.isEmpty && D.all fun i => H.contains i || (ops.toList[i]?).any fun o => quietQ T o.op
 | .drawM D t A H M, .region _ ops true => (ops.toList.all fun o => dstOk n o.dst) && tailOk ops D t A H (Region.before ops).toList && mOk ops D H M (Region.before ops).toList && D.all fun i => H.contains i || (ops.toList[i]?).any fun o => quietQ T o.op
 | .seq a b, .seq x y => codeOk T n a x && codeOk T n b y
 | .join L W a b, .seq x y => codeOk T n a x && codeOk T n b y && subW (dstQ a x) W && L.all fun p => inW W p.1
 | .cond a b, .cond _ x y => codeOk T n a x && codeOk T n b y
 | .wrap a, .block _ x => codeOk T n a x
 | .wrap a, .scope x => codeOk T n a x
 | .loop L W a, .loop x => codeOk T n a x && subW (dstQ a x) W && L.all fun p => inW W p.1
 | _, _ => false
def Off (W : List (Nat × Nat)) (f f' : Fr) : Prop := ∀ t, inW W t = false → f' t = f t
theorem Off.refl (W : List (Nat × Nat)) (f : Fr) : Off W f f := fun _ _ => rfl
theorem Off.trans {W : List (Nat × Nat)} {f g h : Fr} (a : Off W f g) (b : Off W g h) : Off W f h := fun t ht => (b t ht).trans (a t ht)
theorem inW_append (W W' : List (Nat × Nat)) (t : Nat) : inW (W ++ W') t = (inW W t || inW W' t) := by simp [inW, List.any_append]
theorem Off.left {W W' : List (Nat × Nat)} {f f' : Fr} (h : Off W f f') : Off (W ++ W') f f' := fun t ht => h t (by rw [inW_append] at ht; simp at ht; exact ht.1)
theorem Off.right {W W' : List (Nat × Nat)} {f f' : Fr} (h : Off W' f f') : Off (W ++ W') f f' := fun t ht => h t (by rw [inW_append] at ht; simp at ht; exact ht.2)
theorem Off.sub {W W' : List (Nat × Nat)} {f f' : Fr} (h : Off W f f') (hs : subW W W' = true) : Off W' f f' := by
 intro t ht
 refine h t ?_
 cases hw : inW W t with
 | false => rfl
 | true =>
  exfalso
  simp only [inW, List.any_eq_true, Bool.and_eq_true, Nat.ble_eq] at hw
  obtain ⟨p, hp, h1, h2⟩ := hw
  simp only [subW, List.all_eq_true, List.any_eq_true, Bool.and_eq_true, Nat.ble_eq] at hs
  obtain ⟨q, hq, h3, h4⟩ := hs p hp
  have : inW W' t = true := by
   simp only [inW, List.any_eq_true, Bool.and_eq_true, Nat.ble_eq]
   exact ⟨q, hq, Nat.le_trans h3 h1, Nat.le_trans h2 h4⟩
  rw [this] at ht; cases ht
def opW (os : List Oper) : List (Nat × Nat) := os.filterMap fun o => o.dst.map fun d => (d, d)
theorem Off.upd {os : List Oper} {o : Oper} {f : Fr} {v : AV} : Off (opW (o :: os)) f (updO f o.dst v) := by
 intro t ht
 cases hd : o.dst with
 | none => rfl
 | some d =>
  simp only [updO, Am.upd]
  rw [if_neg]
  intro e
  subst e
  simp only [opW, List.filterMap_cons, hd, Option.map_some, inW, List.any_cons, Bool.or_eq_false_iff, Bool.and_eq_false_iff] at ht
  have e : Nat.ble t t = true := by simp
  rcases ht.1 with h | h <;> (rw [e] at h; cases h)
theorem Off.cons {os : List Oper} {o : Oper} {f f' : Fr} (h : Off (opW os) f f') : Off (opW (o :: os)) f f' := by
 intro t ht
 refine h t ?_
 simp only [opW, List.filterMap_cons] at ht
 cases hd : o.dst with
 | none => rw [hd] at ht; exact ht
 | some d =>
  rw [hd] at ht
  simp only [inW, Option.map_some, List.any_cons, Bool.or_eq_false_iff] at ht
  exact ht.2
section
variable {P : Program} {T : TT} {n : Nat}
theorem AWp.weaken {c : Code} {f f1 : Fr} {s : AS} {Q : Exit → Fr → AS → Prop} (h : ∀ t, f1 t = f t ∨ f1 t = .bad) (hw : AWp P n c f1 s Q) : AWp P n c f s Q := by
 intro B γ a w hf hr
 refine hw B γ a w ⟨hf.size, hf.defers, fun t => ?_⟩ hr
 rcases h t with e | e
 ·rw [e]; exact hf.vals t
 ·rw [e]; simp [VRel]
theorem upd_self {f : Fr} {d : Nat} {v : AV} (h : f d = v) : upd f d v = f := by
 funext t
 simp only [upd]
 split
 ·rename_i e; rw [e, h]
 ·rfl
theorem qguard_get {ops : Array Oper} {o : Oper} {f : Fr} {A B : Fr → Prop} (h : qguard ops.toList o.guard f A B) : (awanted ops f o = some true ∧ A f) ∨ (awanted ops f o = some false ∧ B f) := by
 have hg : ∀ j, (ops[j]?).bind (·.dst) = gdst ops.toList j := by intro j; simp [gdst]
 unfold qguard at h
 unfold awanted
 split at h
 ·rename_i e; rw [e]; exact .inl ⟨rfl, h⟩
 ·rename_i j want e
  rw [e]
  simp only [hg]
  split at h
  ·rename_i e2; rw [e2]; exact .inr ⟨rfl, h⟩
  ·rename_i d e2
   rw [e2]
   simp only
   split at h
   ·rename_i b e3
    rw [e3]
    have h' := bsplit_if h
    cases b <;> cases want <;> simp only [Bool.false_eq_true, if_false, if_true] at h' <;> rw [upd_self e3] at h'
    ·exact .inl ⟨rfl, h'⟩
    ·exact .inr ⟨rfl, h'⟩
    ·exact .inr ⟨rfl, h'⟩
    ·exact .inl ⟨rfl, h'⟩
   ·rename_i e3; rw [e3]; exact .inr ⟨rfl, h⟩
   ·exact h.elim
theorem acallee_nofn {f : Fr} {o : Op} (hc : isFn o = false) : acallee f o = none := by
 unfold isFn at hc
 unfold acallee
 split
 ·rename_i c
  simp only at hc
  split
  ·rename_i x hx; rw [hx] at hc; cases hc
  ·rfl
 ·rfl
theorem qops_sound {ops : Array Oper} {K : Fr → AS → Prop} : ∀ (os : List Oper) (f : Fr) (s : AS), (os.all fun o => dstOk n o.dst) = true → qops P T ops.toList os f s K → vcOps P T n ops os f s fun f' s' => K f' s' ∧ Off (opW os) f f'
 | [], f, s, _, h => ⟨h, Off.refl _ _⟩
 | o :: os, f, s, hd, h => by
  simp only [List.all_cons, Bool.and_eq_true] at hd
  simp only [qops] at h
  simp only [vcOps]
  have mono : ∀ (os : List Oper) (f : Fr) (s : AS) (K K' : Fr → AS → Prop), (∀ f s, K f s → K' f s) → vcOps P T n ops os f s K → vcOps P T n ops os f s K' := by
   intro os
   induction os with
   | nil => intro f s K K' hk h; exact hk _ _ h
   | cons o os ih =>
    intro f s K K' hk h
    simp only [vcOps] at h ⊢
    split at h
    ·obtain ⟨h1, h2⟩ := h
     rcases h2 with h2 | ⟨l, hl, h2⟩
     rotate_left
     ·exact ⟨h1, .inr ⟨l, hl, fun p hp => ih _ _ _ _ hk (h2 p hp)⟩⟩
     refine ⟨h1, .inl ?_⟩
     split at h2
     ·exact h2.mono fun v s' hh => ih _ _ _ _ hk hh
     ·obtain ⟨v, s', h3, h4⟩ := h2; exact ⟨v, s', h3, ih _ _ _ _ hk h4⟩
    ·exact ⟨h.1, ih _ _ _ _ hk h.2⟩
    ·exact h
  rcases qguard_get h with ⟨hw, h⟩ | ⟨hw, h⟩
  ·rw [hw]
   have key : ∀ v s', qops P T ops.toList os (updO f o.dst v) s' K → vcOps P T n ops os (updO f o.dst v) s' fun f' s' => K f' s' ∧ Off (opW (o :: os)) f f' :=
    fun v s' hh => mono _ _ _ _ _ (fun f' s'' ⟨a, b⟩ => ⟨a, Off.upd.trans b.cons⟩) (qops_sound os _ _ hd.2 hh)
   unfold qopN at h
   split at h
   ·rename_i it hop
    obtain ⟨l, h1, h2⟩ := NextM_get h
    exact ⟨hd.1, .inr ⟨l, by rw [hop]; exact h1, fun p hp => key _ _ (h2 p hp)⟩⟩
   ·rename_i it hop
    obtain ⟨l, h1, h2⟩ := NextS_get h
    exact ⟨hd.1, .inr ⟨l, by rw [hop]; exact h1, fun p hp => key _ _ (h2 p hp)⟩⟩
   ·rename_i it hop
    obtain ⟨k, v, h1, h2⟩ := h
    refine ⟨hd.1, .inl ?_⟩
    rw [acallee_nofn (by rw [hop]; rfl)]
    exact ⟨_, s, by rw [hop]; simp only [aop, h1, Option.map_some], key _ _ h2⟩
   ·rename_i d i hop
    cases hE : isEnt ops.toList d with
    | false => rw [hE] at h; simp only [cond_false] at h; exact vcOp_of_vcV hd.1 (qop_sound h) key
    | true =>
     rw [hE] at h
     simp only [cond_true] at h
     unfold extE at h
     split at h
     ·rename_i vs hv
      split at h
      ·rename_i v hi
       refine ⟨hd.1, .inl ?_⟩
       rw [acallee_nofn (by rw [hop]; rfl)]
       exact ⟨v, s, by rw [hop]; simp only [aop, hv, hi, Option.map_some], key _ _ (qcs_get h)⟩
      ·exact h.elim
     ·exact h.elim
   ·exact vcOp_of_vcV hd.1 (qop_sound h) key
  ·rw [hw]
   exact ⟨hd.1, mono _ _ _ _ _ (fun f' s'' ⟨a, b⟩ => ⟨a, Off.upd.trans b.cons⟩) (qops_sound os _ _ hd.2 h)⟩
theorem quiet_nofn {o : Op} (h : quietQ T o = true) : quietOp o = true ∧ isFn o = false := by
 simp only [quietQ, Bool.and_eq_true] at h
 refine ⟨h.1, ?_⟩
 unfold isFn
 split
 ·rename_i c
  have := h.1
  simp only [quietOp] at this
  split
  ·rename_i x hx; rw [hx] at this; cases this
  ·rfl
 ·rfl
theorem aop_quietQ {o : Op} {ρ : Operand → AV} {s s' : AS} {v : AV} (hq : quietQ T o = true) (h : aop T o ρ s = some (v, s')) : s' = s := by
 have h1 := (quiet_nofn hq).1
 cases o <;> first | (cases h1; done) | skip
 case convert src dst x =>
  simp only [aop] at h
  simp only [quietQ, Bool.and_eq_true] at hq
  have hq2 := hq.2
  unfold aconvert at h
  split at h
  ·simp_all
  ·simp_all
  ·rename_i e1 e2; rw [e1] at hq2; cases hq2
  ·split at h
   ·split at h <;> simp_all
   ·cases h
  ·split at h <;> simp_all
  ·split at h
   ·split at h
    ·simp only [Option.some.injEq, Prod.mk.injEq] at h; exact h.2.symm
    simp only [Option.bind_eq_some_iff, Option.map_eq_some_iff] at h
    obtain ⟨_, _, _, _, h3⟩ := h
    simp only [Prod.mk.injEq] at h3; exact h3.2.symm
   ·cases h
  ·cases h
 case call c =>
  simp only [quietOp] at h1
  simp only [aop] at h
  cases hc : c.callee with
  | value x => rw [hc] at h1; cases h1
  | invoke x m => rw [hc] at h; cases h
  | builtin b =>
   rw [hc] at h1 h
   simp only at h
   unfold abuiltin at h
   split at h <;> first
    | (cases h1; done)
    | (cases h; done)
    | (simp only [Option.map_eq_some_iff, Prod.mk.injEq] at h; obtain ⟨_, _, _, h⟩ := h; exact h.symm)
 case makeFunc fn first captured =>
  cases fn with
  | func g => simp only [aop] at h; split at h <;> simp_all
  | _ => simp [aop] at h
 all_goals
  simp only [aop] at h
  first
  | (simp only [Option.some.injEq, Prod.mk.injEq] at h; exact h.2.symm)
  | (simp only [Option.map_eq_some_iff, Prod.mk.injEq] at h; obtain ⟨_, _, _, h⟩ := h; exact h.symm)
  | (split at h <;> first | (cases h; done) | (simp only [Option.some.injEq, Prod.mk.injEq] at h; exact h.2.symm) | (simp only [Option.map_eq_some_iff, Prod.mk.injEq] at h; obtain ⟨_, _, _, h⟩ := h; exact h.symm))
theorem vc_dq {ops : Array Oper} {s : AS} {K : Fr → AS → Prop} {m : Nat} {V : Nat → List AV → AV → Prop} {S : Nat → List AV → AV → AS → Prop} (hst : 1 ≤ s.st) (hm : m ≤ ops.size) (hq : ∀ i o, i < m → ops[i]? = some o → quietQ T o.op = true) : ∀ (k a : Nat) (f : Fr), a + k = m →
  vcOps P T n ops (ops.toList.drop a) f s K → dqE P T n ops [] [] V S s (fun f s' => vcOps P T n ops (ops.toList.drop m) f s' K) (List.range' a k) f []
 | 0, a, f, ha, h => by
  simp only [Nat.add_zero] at ha
  subst ha
  simp only [List.range'_zero, dq]
  intro s' _ _ _ _ hs
  rw [hs (by trivial)]
  exact h
 | k + 1, a, f, ha, h => by
  have hlt : a < ops.size := by omega
  have hdr : ops.toList.drop a = ops[a] :: ops.toList.drop (a + 1) := by
   rw [List.drop_eq_getElem_cons (by simpa using hlt)]; simp
  have hok : ops[a]? = some ops[a] := Array.getElem?_eq_getElem hlt
  rw [hdr] at h
  simp only [vcOps] at h
  rw [List.range'_succ]
  simp only [dq, hok]
  have hqa := hq a _ (by omega) hok
  obtain ⟨q1, q2⟩ := quiet_nofn hqa
  split at h
  ·rename_i hw
   obtain ⟨hd, h⟩ := h
   rcases h with h | ⟨l, hl, _⟩
   rotate_left
   ·rw [acand_none (by
     have q1' := q1
     cases hop : ops[a].op <;> first | rfl | (rw [hop] at q1'; cases q1'))] at hl
    cases hl
   rw [acallee_nofn q2] at h
   obtain ⟨v, s', h1, h2⟩ := h
   obtain rfl := aop_quietQ hqa h1
   refine ⟨hd, ?_⟩
   rw [hw]
   simp only [List.contains_nil, Bool.false_eq_true, if_false]
   exact ⟨by trivial, q1, v, ⟨h1, fun s' he _ => aop_quiet q1 hst h1 he⟩, vc_dq hst hm hq k (a + 1) _ (by omega) h2⟩
  ·rename_i hw
   refine ⟨h.1, ?_⟩
   rw [hw]
   exact ⟨rfl, vc_dq hst hm hq k (a + 1) _ (by omega) h.2⟩
  ·exact h.elim
theorem FAll_iff {F : Facts} {s : AS} : FAll F s ↔ ∀ p ∈ F, p.2 s := by
 induction F with
 | nil => simp [FAll]
 | cons p ps ih => simp [FAll, ih]
theorem qdq_sound {ops : Array Oper} {A : List (List Nat)} {H : List Nat} {V : Nat → List AV → AV → Prop} {S : Nat → List AV → AV → AS → Prop} {s : AS} {K : Fr → AS → Prop} {W : List (Nat × Nat)} (hst : 1 ≤ s.st) (hH : H ≠ []) (hd : ∀ (i : Nat) (o : Oper), ops[i]? = some o → dstOk n o.dst = true)
  (hW : ∀ (i : Nat) (o : Oper) (d : Nat), ops[i]? = some o → o.dst = some d → inW W d = true) :
  ∀ (is : List Nat) (f : Fr) (F : Facts), (∀ i ∈ is, H.contains i = true ∨ ∃ o, ops[i]? = some o ∧ quietQ T o.op = true) → qdq P T ops.toList A H V S s K is f F → dqE P T n ops A H V S s (fun f' s' => K f' s' ∧ Off W f f') is f F := by
 intro is
 have key : ∀ (f0 : Fr) (is : List Nat) (f : Fr) (F : Facts), Off W f0 f → (∀ i ∈ is, H.contains i = true ∨ ∃ o, ops[i]? = some o ∧ quietQ T o.op = true) → qdq P T ops.toList A H V S s K is f F → dqE P T n ops A H V S s (fun f' s' => K f' s' ∧ Off W f0 f') is f F := by
  intro f0 is
  induction is with
  | nil =>
   intro f F ho hq h
   simp only [qdq] at h
   simp only [dq]
   intro s' he hwf hF _ _
   exact ⟨h s' he hwf (FAll_iff.2 hF), ho⟩
  | cons i is ih =>
   intro f F ho hq h
   simp only [qdq] at h
   simp only [dq]
   cases hoi : ops[i]? with
   | none => simp [hoi] at h
   | some o =>
    have hoi' : ops.toList[i]? = some o := by simpa using hoi
    rw [hoi'] at h
    simp only at h ⊢
    refine ⟨hd i o hoi, ?_⟩
    have hup : ∀ v, Off W f0 (updO f o.dst v) := by
     intro v t ht
     cases hdo : o.dst with
     | none => exact ho t ht
     | some d =>
      have := hW i o d hoi hdo
      simp only [updO, upd]
      rw [if_neg (fun e => by rw [e, this] at ht; cases ht)]
      exact ho t ht
    rcases qguard_get h with ⟨hw, h⟩ | ⟨hw, h⟩
    ·rw [hw]
     simp only
     cases hc : H.contains i with
     | true =>
      rw [hc] at h
      simp only at h
      rw [if_pos rfl]
      obtain ⟨h1, h2, h3⟩ := h
      refine ⟨fun s' he hwf hp _ => ?_, h2, fun v hv => ih _ _ (hup v) (fun j hj => hq j (List.mem_cons_of_mem _ hj)) (qcs_get (h3 v hv))⟩
      refine qop_sound (h1 s' he hwf (FAll_iff.2 fun p hp' => ?_))
      simp only [List.mem_filter] at hp'
      exact hp p hp'.1 hp'.2
     | false =>
      rw [hc] at h
      simp only at h
      rw [if_neg (by simp)]
      rcases hq i (by simp) with h' | ⟨o', ho', hqo⟩
      ·rw [hc] at h'; cases h'
      ·rw [hoi] at ho'; obtain rfl := Option.some.inj ho'
       obtain ⟨q1, q2⟩ := quiet_nofn hqo
       obtain ⟨v, s', h1, h2⟩ := qop_aop q2 h
       obtain rfl := aop_quietQ hqo h1
       exact ⟨rfl, q1, v, ⟨h1, fun s' he _ => aop_quiet q1 hst h1 he⟩, ih _ _ (hup v) (fun j hj => hq j (List.mem_cons_of_mem _ hj)) h2⟩
    ·rw [hw]
     exact ⟨rfl, ih _ _ (hup _) (fun j hj => hq j (List.mem_cons_of_mem _ hj)) h⟩
 exact fun f F hq h => key f is f F (Off.refl _ _) hq h
theorem qdqM_sound {ops : Array Oper} {A : List (List Nat)} {H : List Nat} {V : Nat → List AV → AV → Prop} {S : Nat → List AV → AV → AS → Prop} {X : AS → AS → Prop} {C : Nat → List AV → AV → AS → Prop} {M : List Nat} {s : AS} {K : Fr → AS → Prop} {W : List (Nat × Nat)} (hd : ∀ (i : Nat) (o : Oper), ops[i]? = some o → dstOk n o.dst = true)
  (hW : ∀ (i : Nat) (o : Oper) (d : Nat), ops[i]? = some o → o.dst = some d → inW W d = true) :
  ∀ (f0 : Fr) (is : List Nat) (f : Fr) (F : Facts) (c : AS → Prop), Off W f0 f → (∀ i ∈ is, H.contains i = true ∨ ∃ o, ops[i]? = some o ∧ quietQ T o.op = true) → qdqM P T ops.toList A H V S X C M s K is f F c → dq P T n ops A H V S X C M s (fun f' s' => K f' s' ∧ Off W f0 f') is f F c
 | f0, [], f, F, c, ho, hq, h => by
  simp only [qdqM] at h
  simp only [dq]
  intro s' he hwf hF hp _
  exact ⟨h s' he hwf (FAll_iff.2 hF) hp, ho⟩
 | f0, i :: is, f, F, c, ho, hq, h => by
  have ih := fun f F c0 a b c => qdqM_sound (A := A) (H := H) (V := V) (S := S) (X := X) (C := C) (M := M) (s := s) (K := K) hd hW f0 is f F c0 a b c
  simp only [qdqM] at h
  simp only [dq]
  cases hoi : ops[i]? with
  | none => simp [hoi] at h
  | some o =>
   have hoi' : ops.toList[i]? = some o := by simpa using hoi
   rw [hoi'] at h
   simp only at h ⊢
   refine ⟨hd i o hoi, ?_⟩
   have hup : ∀ v, Off W f0 (updO f o.dst v) := by
    intro v t ht
    cases hdo : o.dst with
    | none => exact ho t ht
    | some d =>
     have := hW i o d hoi hdo
     simp only [updO, upd]
     rw [if_neg (fun e => by rw [e, this] at ht; cases ht)]
     exact ho t ht
   rcases qguard_get h with ⟨hw, h⟩ | ⟨hw, h⟩
   ·rw [hw]
    simp only
    cases hc : H.contains i with
    | true =>
     rw [hc] at h
     simp only at h
     rw [if_pos rfl]
     obtain ⟨h1, h2, h3⟩ := h
     refine ⟨fun s' he hwf hp hm => ?_, h2, fun v hv => ?_⟩
     ·have h1' := h1 s' he hwf (FAll_iff.2 fun p hp' => by
       simp only [List.mem_filter] at hp'
       exact hp p hp'.1 hp'.2)
      cases hcm : M.contains i with
      | true =>
       rw [hcm] at h1'
       simp only [if_true]
       exact qop_sound (h1' (hm hcm))
      | false =>
       rw [hcm] at h1'
       simp only [Bool.false_eq_true, if_false]
       exact qop_sound h1'
     ·have h3' := qcs_get (h3 v hv)
      have e : nextC C M i (keyOf f o) v c = (match M.contains i with | true => C i (keyOf f o) v | false => c) := by
       unfold nextC
       cases M.contains i <;> simp
      rw [e]
      exact ih _ _ _ (hup v) (fun j hj => hq j (List.mem_cons_of_mem _ hj)) h3'
    | false =>
     rw [hc] at h
     simp only at h
     rw [if_neg (by simp)]
     rcases hq i (by simp) with h' | ⟨o', ho', hqo⟩
     ·rw [hc] at h'; cases h'
     ·rw [hoi] at ho'; obtain rfl := Option.some.inj ho'
      obtain ⟨q1, q2⟩ := quiet_nofn hqo
      split at h
      ·exact h.elim
      ·rename_i hpos
       obtain ⟨v, s', h1, h2⟩ := qop_aop q2 h
       obtain rfl := aop_quietQ hqo h1
       cases hcal : calmB o.op with
       | true =>
        rw [hcal] at h2
        exact ⟨hpos, q1, v, ⟨h1, fun s' _ _ => aop_calmB hcal h1 s'⟩, ih _ _ _ (hup v) (fun j hj => hq j (List.mem_cons_of_mem _ hj)) h2⟩
       | false =>
        rw [hcal] at h2
        refine ⟨hpos, q1, v, ⟨h1, fun s' he hwf => ?_⟩, ih _ _ _ (hup v) (fun j hj => hq j (List.mem_cons_of_mem _ hj)) h2.2⟩
        obtain ⟨v', s'', h3, h4⟩ := qop_aop q2 (h2.1 s' he hwf)
        obtain rfl := aop_quietQ hqo h3
        rw [← h4]; exact h3
   ·rw [hw]
    split at h
    ·exact h.elim
    ·rename_i hpos
     exact ⟨hpos, ih _ _ _ (hup _) (fun j hj => hq j (List.mem_cons_of_mem _ hj)) h⟩
end
end Go.Am
end

section
namespace Go.Am
section
variable {P : Program} {T : TT} {n : Nat}
theorem AWp.pre {c : Code} {f : Fr} {s : AS} {Q : Exit → Fr → AS → Prop} (h : WFs s → AWp P n c f s Q) : AWp P n c f s Q := fun B γ a w hf hr => h hr.wfs B γ a w hf hr
theorem dstOk_all {os : List Oper} {n : Nat} (h : (os.all fun o => dstOk n o.dst) = true) : (∀ o ∈ os, dstOk n o.dst = true) := by
 simpa [List.all_eq_true] using h
theorem inW_opW {os : List Oper} {o : Oper} {d : Nat} (ho : o ∈ os) (hd : o.dst = some d) : inW (opW os) d = true := by
 simp only [inW, List.any_eq_true, Bool.and_eq_true, Nat.ble_eq, opW, List.mem_filterMap, Option.map_eq_some_iff]
 exact ⟨(d, d), ⟨o, ho, d, hd, rfl⟩, Nat.le_refl _, Nat.le_refl _⟩
theorem qcode_sound (hT : TT.Ok P T) (hmx : P.follows .mixedOrders = true) : ∀ (a : QA) (c : Code) (f : Fr) (s : AS) (Q : Exit → Fr → AS → Prop), codeOk T n a c = true → qcode P T a c f s Q → AWp P n c f s fun e f' s' => Q e f' s' ∧ Off (dstQ a c) f f' := by
 intro a
 induction a with
 | leaf =>
  intro c f s Q hok h
  cases c with
  | skip => exact AWp.skip ⟨h, Off.refl _ _⟩
  | label l => exact AWp.label ⟨h, Off.refl _ _⟩
  | exit id => exact AWp.exit ⟨h, Off.refl _ _⟩
  | ret => exact AWp.ret ⟨h, Off.refl _ _⟩
  | region id ops dr =>
   cases dr with
   | false => exact AWp.region hT (qops_sound ops.toList f s hok h)
   | true => exact h.elim
  | _ => exact h.elim
 | calm =>
  intro c f s Q hok h
  cases c with
  | region id ops dr =>
   cases dr with
   | false => exact h.elim
   | true =>
    simp only [codeOk, Bool.and_eq_true] at hok
    exact AWp.calm hT hmx hok.1.2 hok.2 (qops_sound ops.toList f s hok.1.1 h)
  | _ => exact h.elim
 | draw m =>
  intro c f s Q hok h
  cases c with
  | region id ops dr =>
   cases dr with
   | false => exact h.elim
   | true =>
    simp only [codeOk, Bool.and_eq_true] at hok
    obtain ⟨⟨hd, hdr⟩, hq⟩ := hok
    have hv := qops_sound (n := n) ops.toList f s hd h
    have hD := drawFacts hdr
    refine AWp.pre fun hwf => ?_
    have hq' : ∀ i o, i < m → ops[i]? = some o → quietQ T o.op = true := by
     intro i o hi ho
     rw [List.all_eq_true] at hq
     refine hq o ?_
     rw [List.mem_iff_getElem?]
     exact ⟨i, by rw [List.getElem?_take, if_pos hi]; simpa using ho⟩
    refine AWp.draw hT hmx m [] (Region.before ops).toList [] (fun _ _ _ => True) (fun _ _ _ _ => True) hdr (fun _ _ _ _ _ _ _ => trivial) ?_
    have := vc_dq (n := n) (V := fun _ _ _ => True) (S := fun _ _ _ _ => True) hwf.1 hD.le hq' m 0 f (by omega) (by simpa using hv)
    rw [← List.range_eq_range'] at this
    exact this
  | _ => exact h.elim
 | drawH m A H =>
  intro c f s Q hok h
  cases c with
  | region id ops dr =>
   cases dr with
   | false => exact h.elim
   | true =>
    simp only [codeOk, Bool.and_eq_true] at hok
    obtain ⟨⟨⟨hd, hdr⟩, hH⟩, hq⟩ := hok
    obtain ⟨S, V, hS, h⟩ := h
    refine AWp.pre fun hwf => ?_
    have hH' : H ≠ [] := by intro e; rw [e] at hH; cases hH
    have hmem : ∀ (i : Nat) (o : Oper), ops[i]? = some o → o ∈ ops.toList := fun i o ho => List.mem_iff_getElem?.2 ⟨i, by simpa using ho⟩
    have hdq := qdq_sound (n := n) (W := opW ops.toList) hwf.1 hH' (fun i o ho => dstOk_all hd o (hmem i o ho)) (fun i o d ho hdd => inW_opW (hmem i o ho) hdd) (List.range m) f [] (by
     intro i hi
     rw [List.all_eq_true] at hq
     have := hq i hi
     simp only [Bool.or_eq_true, Option.any_eq_true] at this
     rcases this with h | ⟨o, h1, h2⟩
     ·exact .inl h
     ·exact .inr ⟨o, by simpa using h1, h2⟩) h
    refine AWp.draw hT hmx m A (Region.before ops).toList H V S hdr hS ?_
    refine dq_mono (fun f' s' ⟨h1, h2⟩ => ?_) _ _ _ _ hdq
    have hd2 : ((ops.toList.drop m).all fun o => dstOk n o.dst) = true := by
     rw [List.all_eq_true]
     intro o ho
     exact dstOk_all hd o (List.mem_of_mem_drop ho)
    have hv := qops_sound (n := n) (ops.toList.drop m) f' s' hd2 h1
    have mono : ∀ (os : List Oper) (f : Fr) (s : AS) (K K' : Fr → AS → Prop), (∀ f s, K f s → K' f s) → vcOps P T n ops os f s K → vcOps P T n ops os f s K' := by
     intro os
     induction os with
     | nil => intro f s K K' hk h; exact hk _ _ h
     | cons o os ih =>
      intro f s K K' hk h
      simp only [vcOps] at h ⊢
      split at h
      ·obtain ⟨h1, h2⟩ := h
       rcases h2 with h2 | ⟨l, hl, h2⟩
       rotate_left
       ·exact ⟨h1, .inr ⟨l, hl, fun p hp => ih _ _ _ _ hk (h2 p hp)⟩⟩
       refine ⟨h1, .inl ?_⟩
       split at h2
       ·exact h2.mono fun v s' hh => ih _ _ _ _ hk hh
       ·obtain ⟨v, s', h3, h4⟩ := h2; exact ⟨v, s', h3, ih _ _ _ _ hk h4⟩
      ·exact ⟨h.1, ih _ _ _ _ hk h.2⟩
      ·exact h
    refine mono _ _ _ _ _ (fun f2 s2 ⟨g1, g2⟩ => ⟨g1, h2.trans (fun t ht => g2 t ?_)⟩) hv
    cases hw : inW (opW (ops.toList.drop m)) t with
    | false => rfl
    | true =>
     exfalso
     simp only [inW, List.any_eq_true, opW, List.mem_filterMap, Option.map_eq_some_iff] at hw
     obtain ⟨p, ⟨o, ho, d, hdd, rfl⟩, hp⟩ := hw
     simp only [Bool.and_eq_true, Nat.ble_eq] at hp
     obtain rfl : d = t := by omega
     rw [inW_opW (List.mem_of_mem_drop ho) hdd] at ht
     cases ht
  | _ => exact h.elim
 | drawT D t A H =>
  intro c f s Q hok h
  cases c with
  | region id ops dr =>
   cases dr with
   | false => exact h.elim
   | true =>
    simp only [codeOk, Bool.and_eq_true] at hok
    obtain ⟨⟨⟨hd, hdr⟩, hH⟩, hq⟩ := hok
    obtain ⟨S, V, hS, h⟩ := h
    refine AWp.pre fun hwf => ?_
    have hH' : H ≠ [] := by intro e; rw [e] at hH; cases hH
    have hmem : ∀ (i : Nat) (o : Oper), ops[i]? = some o → o ∈ ops.toList := fun i o ho => List.mem_iff_getElem?.2 ⟨i, by simpa using ho⟩
    have hmemt : ∀ o, o ∈ (t.filterMap fun i => ops[i]?) → o ∈ ops.toList := fun o ho => by
     obtain ⟨i, _, hi⟩ := List.mem_filterMap.1 ho
     exact hmem i o hi
    have hdq := qdq_sound (n := n) (W := opW ops.toList) hwf.1 hH' (fun i o ho => dstOk_all hd o (hmem i o ho)) (fun i o d ho hdd => inW_opW (hmem i o ho) hdd) D f [] (by
     intro i hi
     rw [List.all_eq_true] at hq
     have := hq i hi
     simp only [Bool.or_eq_true, Option.any_eq_true] at this
     rcases this with h | ⟨o, h1, h2⟩
     ·exact .inl h
     ·exact .inr ⟨o, by simpa using h1, h2⟩) h
    refine AWp.tail hT hmx D t A (Region.before ops).toList H V S Ext (fun _ _ _ _ => True) [] hdr mFacts_nil (fun _ _ h => h) (fun _ _ _ => Ext.trans) (fun _ _ _ _ _ _ _ => trivial) hS (c := fun _ => True) (fun _ _ _ _ => trivial) trivial ?_
    refine dq_mono (fun f' s' ⟨h1, h2⟩ => ?_) _ _ _ _ hdq
    have hd2 : ((t.filterMap fun i => ops[i]?).all fun o => dstOk n o.dst) = true := by
     rw [List.all_eq_true]
     intro o ho
     exact dstOk_all hd o (hmemt _ ho)
    have hv := qops_sound (n := n) (t.filterMap fun i => ops[i]?) f' s' hd2 h1
    have mono : ∀ (os : List Oper) (f : Fr) (s : AS) (K K' : Fr → AS → Prop), (∀ f s, K f s → K' f s) → vcOps P T n ops os f s K → vcOps P T n ops os f s K' := by
     intro os
     induction os with
     | nil => intro f s K K' hk h; exact hk _ _ h
     | cons o os ih =>
      intro f s K K' hk h
      simp only [vcOps] at h ⊢
      split at h
      ·obtain ⟨h1, h2⟩ := h
       rcases h2 with h2 | ⟨l, hl, h2⟩
       rotate_left
       ·exact ⟨h1, .inr ⟨l, hl, fun p hp => ih _ _ _ _ hk (h2 p hp)⟩⟩
       refine ⟨h1, .inl ?_⟩
       split at h2
       ·exact h2.mono fun v s' hh => ih _ _ _ _ hk hh
       ·obtain ⟨v, s', h3, h4⟩ := h2; exact ⟨v, s', h3, ih _ _ _ _ hk h4⟩
      ·exact ⟨h.1, ih _ _ _ _ hk h.2⟩
      ·exact h
    refine mono _ _ _ _ _ (fun f2 s2 ⟨g1, g2⟩ => ⟨g1, h2.trans (fun tt ht => g2 tt ?_)⟩) hv
    cases hw : inW (opW (t.filterMap fun i => ops[i]?)) tt with
    | false => rfl
    | true =>
     exfalso
     simp only [inW, List.any_eq_true, opW, List.mem_filterMap, Option.map_eq_some_iff] at hw
     obtain ⟨p, ⟨o, ho, d, hdd, rfl⟩, hp⟩ := hw
     simp only [Bool.and_eq_true, Nat.ble_eq] at hp
     obtain rfl : d = tt := by omega
     rw [inW_opW (by obtain ⟨i, _, hi⟩ := ho; exact hmem i o hi) hdd] at ht
     cases ht
  | _ => exact h.elim
 | drawM D t A H M =>
  intro c f s Q hok h
  cases c with
  | region id ops dr =>
   cases dr with
   | false => exact h.elim
   | true =>
    simp only [codeOk, Bool.and_eq_true] at hok
    obtain ⟨⟨⟨hd, hdr⟩, hM⟩, hq⟩ := hok
    obtain ⟨X, C, c0, S, V, hX, hXt, hC, hS, hc, h0, h⟩ := h
    have hmem : ∀ (i : Nat) (o : Oper), ops[i]? = some o → o ∈ ops.toList := fun i o ho => List.mem_iff_getElem?.2 ⟨i, by simpa using ho⟩
    have hmemt : ∀ o, o ∈ (t.filterMap fun i => ops[i]?) → o ∈ ops.toList := fun o ho => by
     obtain ⟨i, _, hi⟩ := List.mem_filterMap.1 ho
     exact hmem i o hi
    have hdq := qdqM_sound (n := n) (W := opW ops.toList) (fun i o ho => dstOk_all hd o (hmem i o ho)) (fun i o d ho hdd => inW_opW (hmem i o ho) hdd) f D f [] c0 (Off.refl _ _) (by
     intro i hi
     rw [List.all_eq_true] at hq
     have := hq i hi
     simp only [Bool.or_eq_true, Option.any_eq_true] at this
     rcases this with h | ⟨o, h1, h2⟩
     ·exact .inl h
     ·exact .inr ⟨o, by simpa using h1, h2⟩) h
    refine AWp.tail hT hmx D t A (Region.before ops).toList H V S X C M hdr (mFacts hM) hX hXt hC hS hc h0 ?_
    refine dq_mono (fun f' s' ⟨h1, h2⟩ => ?_) _ _ _ _ hdq
    have hd2 : ((t.filterMap fun i => ops[i]?).all fun o => dstOk n o.dst) = true := by
     rw [List.all_eq_true]
     intro o ho
     exact dstOk_all hd o (hmemt _ ho)
    have hv := qops_sound (n := n) (t.filterMap fun i => ops[i]?) f' s' hd2 h1
    have mono : ∀ (os : List Oper) (f : Fr) (s : AS) (K K' : Fr → AS → Prop), (∀ f s, K f s → K' f s) → vcOps P T n ops os f s K → vcOps P T n ops os f s K' := by
     intro os
     induction os with
     | nil => intro f s K K' hk h; exact hk _ _ h
     | cons o os ih =>
      intro f s K K' hk h
      simp only [vcOps] at h ⊢
      split at h
      ·obtain ⟨h1, h2⟩ := h
       rcases h2 with h2 | ⟨l, hl, h2⟩
       rotate_left
       ·exact ⟨h1, .inr ⟨l, hl, fun p hp => ih _ _ _ _ hk (h2 p hp)⟩⟩
       refine ⟨h1, .inl ?_⟩
       split at h2
       ·exact h2.mono fun v s' hh => ih _ _ _ _ hk hh
       ·obtain ⟨v, s', h3, h4⟩ := h2; exact ⟨v, s', h3, ih _ _ _ _ hk h4⟩
      ·exact ⟨h.1, ih _ _ _ _ hk h.2⟩
      ·exact h
    refine mono _ _ _ _ _ (fun f2 s2 ⟨g1, g2⟩ => ⟨g1, h2.trans (fun tt ht => g2 tt ?_)⟩) hv
    cases hw : inW (opW (t.filterMap fun i => ops[i]?)) tt with
    | false => rfl
    | true =>
     exfalso
     simp only [inW, List.any_eq_true, opW, List.mem_filterMap, Option.map_eq_some_iff] at hw
     obtain ⟨p, ⟨o, ho, d, hdd, rfl⟩, hp⟩ := hw
     simp only [Bool.and_eq_true, Nat.ble_eq] at hp
     obtain rfl : d = tt := by omega
     rw [inW_opW (by obtain ⟨i, _, hi⟩ := ho; exact hmem i o hi) hdd] at ht
     cases ht
  | _ => exact h.elim
 | seq a b iha ihb =>
  intro c f s Q hok h
  cases c with
  | seq x y =>
   simp only [codeOk, Bool.and_eq_true] at hok
   refine AWp.seq ((iha x f s _ hok.1 h).mono ?_)
   rintro e f1 s1 ⟨h1, h2⟩
   cases e with
   | normal =>
    exact (ihb y f1 s1 Q hok.2 h1).mono fun e f2 s2 ⟨g1, g2⟩ => ⟨g1, h2.left.trans g2.right⟩
   | _ => exact ⟨h1, h2.left⟩
  | _ => exact h.elim
 | join L W a b iha ihb =>
  intro c f s Q hok h
  cases c with
  | seq x y =>
   simp only [codeOk, Bool.and_eq_true] at hok
   obtain ⟨⟨⟨hok1, hok2⟩, hsub⟩, hL⟩ := hok
   obtain ⟨J, hJ, h⟩ := h
   refine AWp.seq ((iha x f s _ hok1 h).mono ?_)
   rintro e f1 s1 ⟨h1, h2⟩
   cases e with
   | normal =>
    obtain ⟨vs, g, hg1, hg2, hg3⟩ := qall_jmp L _ _ hJ h1
    have ho := h2.sub hsub
    refine AWp.weaken (f1 := g) (fun t => ?_) ?_
    ·rw [hg3 t]
     split
     ·exact .inl rfl
     ·simp only [forget]
      cases hw : inW W t with
      | true => exact .inr rfl
      | false => exact .inl (ho t hw).symm
    ·refine (ihb y g s1 Q hok2 (hg1 s1 hg2)).mono fun e f2 s2 ⟨k1, k2⟩ => ⟨k1, fun t ht => ?_⟩
     simp only [dstQ] at ht
     rw [inW_append] at ht
     simp only [Bool.or_eq_false_iff] at ht
     rw [k2 t ht.2, hg3 t, if_neg, forget, ht.1]
     ·rfl
     ·intro hm
      obtain ⟨p, hp, rfl⟩ := List.mem_map.1 hm
      rw [List.all_eq_true] at hL
      have := hL p hp
      rw [this] at ht; cases ht.1
   | _ => exact ⟨h1, (h2.sub hsub).left⟩
  | _ => exact h.elim
 | cond a b iha ihb =>
  intro c f s Q hok h
  cases c with
  | cond v x y =>
   simp only [codeOk, Bool.and_eq_true] at hok
   simp only [qcode] at h
   split at h
   ·rename_i t ht
    have h' := bsplit_if h
    refine AWp.cond ht ?_
    cases t with
    | true => exact (iha x f s Q hok.1 (by simpa using h')).mono fun e f2 s2 ⟨k1, k2⟩ => ⟨k1, k2.left⟩
    | false => exact (ihb y f s Q hok.2 (by simpa using h')).mono fun e f2 s2 ⟨k1, k2⟩ => ⟨k1, k2.right⟩
   ·exact h.elim
  | _ => exact h.elim
 | wrap a iha =>
  intro c f s Q hok h
  cases c with
  | block id x =>
   refine AWp.block ((iha x f s _ hok h).mono ?_)
   rintro e f1 s1 ⟨h1, h2⟩
   cases e with
   | exit id' =>
    simp only [XBlock] at h1 ⊢
    split
    ·rename_i hid; rw [if_pos hid] at h1; exact ⟨h1, h2⟩
    ·rename_i hid; rw [if_neg hid] at h1; exact ⟨h1, h2⟩
   | _ => exact ⟨h1, h2⟩
  | scope x =>
   refine AWp.scope ((iha x f s _ hok h).mono ?_)
   rintro e f1 s1 ⟨h1, h2⟩
   cases e with
   | goto l => exact h1.elim
   | _ => exact ⟨h1, h2⟩
  | _ => exact h.elim
 | loop L W a iha =>
  intro c f s Q hok h
  cases c with
  | loop x =>
   simp only [codeOk, Bool.and_eq_true] at hok
   obtain ⟨⟨hok1, hsub⟩, hL⟩ := hok
   obtain ⟨I, m0, h0, hr⟩ := h
   refine AWp.loop (fun m f' s' => (qjmp L f' fun vs => I m vs s') ∧ Off W f f') m0 ⟨h0, Off.refl _ _⟩ ?_
   rintro m f1 s1 ⟨h1, ho⟩
   obtain ⟨vs, g, hg1, hg2, hg3⟩ := qall_jmp L _ _ (hr m) h1
   have hgo : Off W f g := by
    intro t ht
    rw [hg3 t, if_neg, forget, ht]
    ·rfl
    ·intro hm
     obtain ⟨p, hp, rfl⟩ := List.mem_map.1 hm
     rw [List.all_eq_true] at hL
     have := hL p hp
     rw [this] at ht; cases ht
   refine AWp.weaken (f1 := g) (fun t => ?_) ?_
   ·rw [hg3 t]
    split
    ·exact .inl rfl
    ·simp only [forget]
     cases hw : inW W t with
     | true => exact .inr rfl
     | false => exact .inl (ho t hw).symm
   ·refine (iha x g s1 _ hok1 (hg1 s1 hg2)).mono ?_
    rintro e f2 s2 ⟨k1, k2⟩
    have k3 := hgo.trans (k2.sub hsub)
    cases e with
    | normal =>
     have key : ∀ (L : List (Nat × TK)) (f : Fr) (K : List AV → Nat → Prop), (qjmp L f fun vs => ∃ m', m' < m ∧ K vs m') → ∃ m', m' < m ∧ qjmp L f fun vs => K vs m' := by
      intro L
      induction L with
      | nil => intro f K h; exact h
      | cons p L ih =>
       intro f K h
       have hone : ∀ (k : TK) (v : AV) (G : AV → Nat → Prop), (isK k v fun u => ∃ m', m' < m ∧ G u m') → ∃ m', m' < m ∧ isK k v fun u => G u m' := by
        intro k v G h
        unfold isK at h
        split at h
        ·rename_i k k' n
         cases hk : (k' == k) with
         | false => rw [hk] at h; exact h.elim
         | true => rw [hk] at h; obtain ⟨m', h1, h2⟩ := h; exact ⟨m', h1, by simp only [isK, hk, cond_true]; exact h2⟩
        all_goals first | exact h.elim | (obtain ⟨m', h1, h2⟩ := h; exact ⟨m', h1, by simp only [isK]; exact h2⟩)
       refine hone _ _ _ ?_
       have hm : ∀ (k : TK) (v : AV) (G G' : AV → Prop), (∀ u, G u → G' u) → isK k v G → isK k v G' := by
        intro k v G G' hg h
        unfold isK at h ⊢
        split at h
        ·rename_i k k' n
         cases hk : (k' == k) with
         | false => rw [hk] at h; exact h.elim
         | true => rw [hk] at h; exact hg _ h
        all_goals first | exact hg _ h | exact h.elim
       exact hm _ _ _ _ (fun u hu => ih f (fun vs m' => K (u :: vs) m') hu) h
     obtain ⟨m', hm', hj⟩ := key L f2 (fun vs m' => I m' vs s2) k1
     exact ⟨m', hm', hj, k3⟩
    | _ => exact ⟨k1, k3⟩
  | _ => exact h.elim
def tupOf : List AV → AV
 | [v] => v
 | l => .tup l
def qres (T : TT) : List ResultVar → Fr → AS → List AV → (List AV → Prop) → Prop
 | [], _, _, acc, K => K acc
 | .tmp t :: rs, f, s, acc, K => qres T rs f s (acc ++ [f t]) K
 | .cell x t :: rs, f, s, acc, K => (match f x with
  | .ptr (some (l, off)) => (match T.agg t with
   | some true => (match T.siz t with | some n => RdL (rdc s l off n) fun cs => qres T rs f s (acc ++ [.agg cs]) K | none => False)
   | some false => rd (tk1 T t) (rd1 s l off) fun v => qres T rs f s (acc ++ [v]) K
   | none => False)
  | _ => False)
theorem qres_get : ∀ (rs : List ResultVar) (f : Fr) (s : AS) (acc : List AV) {K : List AV → Prop}, qres T rs f s acc K → ∃ vs, ares.resL T f s rs = some vs ∧ K (acc ++ vs)
 | [], f, s, acc, K, h => ⟨[], rfl, by simpa [qres] using h⟩
 | .tmp t :: rs, f, s, acc, K, h => by
  obtain ⟨vs, h1, h2⟩ := qres_get rs f s _ h
  exact ⟨f t :: vs, by simp only [ares.resL, h1, Option.map_some], by simpa using h2⟩
 | .cell x t :: rs, f, s, acc, K, h => by
  simp only [qres] at h
  split at h
  ·rename_i l off hp
   split at h
   ·rename_i hag
    split at h
    ·rename_i n hn
     obtain ⟨cs, g1, g2⟩ := h
     obtain ⟨vs, h1, h2⟩ := qres_get rs f s _ g2
     exact ⟨.agg cs :: vs, by simp only [ares.resL, ald, hp, hag, hn, Option.bind_some, g1, Option.map_some, h1], by simpa using h2⟩
    ·exact h.elim
   ·rename_i hag
    obtain ⟨v, g1, g2⟩ := rd_some h
    obtain ⟨vs, h1, h2⟩ := qres_get rs f s _ g2
    exact ⟨v :: vs, by simp only [ares.resL, ald, hp, hag, g1, Option.bind_some, h1, Option.map_some], by simpa using h2⟩
   ·exact h.elim
  ·exact h.elim
def qend (T : TT) (rs : List ResultVar) (R : AV → AS → Prop) : Exit → Fr → AS → Prop
 | .normal, f, s => qres T rs f s [] fun l => R (tupOf l) s
 | .ret, f, s => qres T rs f s [] fun l => R (tupOf l) s
 | _, _, _ => False
theorem ACalls.q (hT : TT.Ok P T) (hmx : P.follows .mixedOrders = true) {g : FuncId} {fn : Func} {c : Code} {args : List AV} {s : AS} {R : AV → AS → Prop} {n : Nat} {rs : List ResultVar} {A : QA} (hf : P.funcs[g]? = some fn) (hc : callable P g = true) (hb : fn.body = some c)
  (hn : args.length + (fn.ntmps - args.length) = n) (hrs : fn.results.toList = rs) (hok : codeOk T n A c = true) {Q : Prop} (hQ : Q = qcode P T A c (ainit args) s (qend T rs R)) (h : Q) : ACalls P g args s R := by
 rw [hQ] at h
 refine ACalls.body hT hf hc hb hn hrs ((qcode_sound hT hmx A c _ s _ hok h).mono ?_)
 rintro e f s ⟨h1, _⟩
 have key : (qres T rs f s [] fun l => R (tupOf l) s) → ∃ v, ares T rs f s = some v ∧ R v s := by
  intro h
  obtain ⟨vs, h2, h3⟩ := qres_get rs f s [] h
  refine ⟨tupOf vs, ?_, by simpa using h3⟩
  unfold ares
  rw [h2]
  simp only [Option.map_some]
  cases vs with
  | nil => rfl
  | cons a l => cases l <;> rfl
 cases e with
 | normal => exact key h1
 | ret => exact key h1
 | _ => exact h1.elim
end
end Go.Am
end

section
namespace Go.Minster
structure Dot where
 r : Int
 c : Int
 deriving DecidableEq
def Dot.lt (a b : Dot) : Bool := decide (a.r < b.r) || (a.r == b.r && decide (a.c < b.c))
theorem Dot.lt_iff {a b : Dot} : a.lt b = true ↔ a.r < b.r ∨ a.r = b.r ∧ a.c < b.c := by simp [Dot.lt]
end Go.Minster
namespace Go.Minster
def pos (l : List Dot) (d : Dot) : Nat := (l.takeWhile fun x => x.lt d).length
end Go.Minster
namespace Go.Minster
end Go.Minster
namespace Go.Minster
end Go.Minster
end

section
namespace Go.Minster.SG
structure OE where
 α : Type
 d0 : α
 lt : α → α → Bool
 cmp : α → α → Int
 cmp_lt : ∀ a b, cmp a b < 0 ↔ lt a b = true
 le_trans : ∀ a b c, lt b a = false → lt c b = false → lt c a = false
 le_refl : ∀ a, lt a a = false
 lt_le : ∀ a b, lt a b = true → lt b a = false
def El (O : OE) : Type := O.α
variable {O : OE}
noncomputable instance elDec : DecidableEq (El O) := fun a b => Classical.propDecidable (a = b)
def El.d0 : El O := O.d0
def El.lt (a b : El O) : Bool := O.lt a b
def El.cmp (a b : El O) : Int := O.cmp a b
def El.le (x y : El O) : Prop := y.lt x = false
theorem El.cmp_lt {a b : El O} : a.cmp b < 0 ↔ a.lt b = true := O.cmp_lt a b
theorem El.le_trans {a b c : El O} (h : a.le b) (h' : b.le c) : a.le c := O.le_trans a b c h h'
theorem El.le_refl (a : El O) : a.le a := O.le_refl a
theorem El.lt_le {a b : El O} (h : a.lt b = true) : a.le b := O.lt_le a b h
theorem El.nlt_le {a b : El O} (h : ¬ a.lt b = true) : b.le a := by unfold El.le; simpa using h
def el (l : List (El O)) (i : Nat) : El O := l.getD i El.d0
theorem el_get {l : List (El O)} {i : Nat} (h : i < l.length) : l[i]? = some (el l i) := by
 rw [el, List.getD_eq_getElem?_getD, List.getElem?_eq_getElem h]; rfl
theorem el_set {l : List (El O)} {i k : Nat} {x : El O} (h : i < l.length) : el (l.set i x) k = if k = i then x else el l k := by
 simp only [el, List.getD_eq_getElem?_getD, List.getElem?_set]
 by_cases hk : i = k
 ·subst hk; simp [h]
 ·rw [if_neg hk, if_neg (fun e => hk e.symm)]
def swp (l : List (El O)) (i j : Nat) : List (El O) := (l.set i (el l j)).set j (el l i)
theorem swp_len (l : List (El O)) (i j : Nat) : (swp l i j).length = l.length := by simp [swp]
theorem el_swp {l : List (El O)} {i j : Nat} (hi : i < l.length) (hj : j < l.length) (k : Nat) : el (swp l i j) k = if k = j then el l i else if k = i then el l j else el l k := by
 unfold swp
 rw [el_set (by simpa using hj), el_set hi]
inductive Sw (a b : Nat) : List (El O) → List (El O) → Prop
 | refl (l : List (El O)) : Sw a b l l
 | step {l l' : List (El O)} {i j : Nat} (h : Sw a b l l') (hi : a ≤ i ∧ i < b) (hj : a ≤ j ∧ j < b) (hb : b ≤ l'.length) : Sw a b l (swp l' i j)
theorem Sw.len {a b : Nat} {l l' : List (El O)} (h : Sw a b l l') : l'.length = l.length := by
 induction h with
 | refl => rfl
 | step h hi hj hb ih => rw [swp_len, ih]
theorem Sw.trans {a b : Nat} {l l' l'' : List (El O)} (h : Sw a b l l') (h' : Sw a b l' l'') : Sw a b l l'' := by
 induction h' with
 | refl => exact h
 | step _ hi hj hb ih => exact .step ih hi hj hb
theorem Sw.widen {a b a' b' : Nat} {l l' : List (El O)} (h : Sw a b l l') (ha : a' ≤ a) (hb : b ≤ b') (hl : b' ≤ l.length) : Sw a' b' l l' := by
 induction h with
 | refl => exact .refl _
 | step h hi hj hb2 ih => exact .step ih ⟨by omega, by omega⟩ ⟨by omega, by omega⟩ (by rw [ih.len]; exact hl)
theorem Sw.out {a b : Nat} {l l' : List (El O)} (h : Sw a b l l') {k : Nat} (hk : k < a ∨ b ≤ k) : el l' k = el l k := by
 induction h with
 | refl => rfl
 | step h hi hj hb ih => rw [el_swp (by omega) (by omega), if_neg (by omega), if_neg (by omega), ih]
theorem Sw.mem {a b : Nat} {l l' : List (El O)} (h : Sw a b l l') {k : Nat} (hk : a ≤ k ∧ k < b) : ∃ j, (a ≤ j ∧ j < b) ∧ el l' k = el l j := by
 induction h generalizing k with
 | refl => exact ⟨k, hk, rfl⟩
 | step h hi hj hb ih =>
  rw [el_swp (by omega) (by omega)]
  split
  ·exact ih hi
  ·split
   ·exact ih hj
   ·exact ih hk
theorem swp_perm {l : List (El O)} {i j : Nat} (hi : i < l.length) (hj : j < l.length) : (swp l i j).Perm l := by
 rw [List.perm_iff_count]
 intro x
 unfold swp
 rw [List.count_set (by simpa using hj), List.count_set hi]
 have e1 : l[i] = el l i := by have := el_get hi; rw [List.getElem?_eq_getElem hi] at this; exact Option.some.inj this
 have e2 : (l.set i (el l j))[j]'(by simpa using hj) = el l j := by
  rw [List.getElem_set]
  split
  ·rfl
  ·have := el_get hj; rw [List.getElem?_eq_getElem hj] at this; exact Option.some.inj this
 rw [e1, e2]
 have h1 : el l i = x → 0 < l.count x := fun e => List.count_pos_iff.2 (e ▸ List.mem_of_getElem? (el_get hi))
 by_cases hx : el l i = x <;> by_cases hy : el l j = x <;> simp [hx, hy]
 ·have := h1 hx; omega
 ·have := h1 hx; omega
theorem Sw.perm {a b : Nat} {l l' : List (El O)} (h : Sw a b l l') : l'.Perm l := by
 induction h with
 | refl => exact .refl _
 | step h hi hj hb ih => exact (swp_perm (by omega) (by omega)).trans ih
def Srt (l : List (El O)) (a b : Nat) : Prop := ∀ i j, a ≤ i → i < j → j < b → (el l i).le (el l j)
theorem ins_step {l : List (El O)} {a i j : Nat} (hl : i < l.length) (hj : a < j) (hji : j ≤ i) (hlt : (el l j).lt (el l (j - 1)) = true)
  (h : ∀ p q, a ≤ p → p < q → q ≤ i → q ≠ j → (el l p).le (el l q)) : ∀ p q, a ≤ p → p < q → q ≤ i → q ≠ j - 1 → (el (swp l j (j - 1)) p).le (el (swp l j (j - 1)) q) := by
 intro p q hp hpq hq hne
 rw [el_swp (by omega) (by omega), el_swp (by omega) (by omega), if_neg hne]
 by_cases hqj : q = j
 ·rw [if_pos hqj]
  by_cases hp1 : p = j - 1
  ·rw [if_pos hp1]; exact El.lt_le hlt
  ·rw [if_neg hp1, if_neg (by omega)]; exact h p (j - 1) hp (by omega) (by omega) (by omega)
 ·rw [if_neg hqj]
  by_cases hp1 : p = j - 1
  ·rw [if_pos hp1]; exact h j q (by omega) (by omega) hq hqj
  ·rw [if_neg hp1]
   by_cases hpj : p = j
   ·rw [if_pos hpj]; exact h (j - 1) q (by omega) (by omega) hq hqj
   ·rw [if_neg hpj]; exact h p q hp hpq hq hqj
theorem ins_end {l : List (El O)} {a i j : Nat} (hj : a ≤ j) (hji : j ≤ i) (hle : j = a ∨ (el l (j - 1)).le (el l j))
  (h : ∀ p q, a ≤ p → p < q → q ≤ i → q ≠ j → (el l p).le (el l q)) : Srt l a (i + 1) := by
 intro p q hp hpq hq
 by_cases hqj : q = j
 ·subst hqj
  rcases hle with rfl | hle
  ·omega
  ·by_cases hp1 : p = q - 1
   ·rw [hp1]; exact hle
   ·exact El.le_trans (h p (q - 1) hp (by omega) (by omega) (by omega)) hle
 ·exact h p q hp hpq (by omega) hqj
def Heap (l : List (El O)) (f n k : Nat) : Prop := ∀ c, 0 < c → c < n → k ≤ (c - 1) / 2 → (el l (f + c)).le (el l (f + (c - 1) / 2))
structure Sift (l : List (El O)) (f n k root : Nat) : Prop where
 lo : k ≤ root
 other : ∀ c, 0 < c → c < n → k ≤ (c - 1) / 2 → (c - 1) / 2 ≠ root → (el l (f + c)).le (el l (f + (c - 1) / 2))
 up : k < root → k ≤ (root - 1) / 2 → ∀ c, 0 < c → c < n → (c - 1) / 2 = root → (el l (f + c)).le (el l (f + (root - 1) / 2))
theorem Heap.sift {l : List (El O)} {f n k : Nat} (h : Heap l f n (k + 1)) : Sift l f n k k :=
 ⟨by omega, fun c h0 hc hk hne => h c h0 hc (by omega), fun h => by omega⟩
theorem Sift.done {l : List (El O)} {f n k root : Nat} (h : Sift l f n k root) (hc : ∀ c, 0 < c → c < n → (c - 1) / 2 = root → (el l (f + c)).le (el l (f + root))) : Heap l f n k := by
 intro c h0 hcn hk
 by_cases he : (c - 1) / 2 = root
 ·rw [he]; exact hc c h0 hcn he
 ·exact h.other c h0 hcn hk he
theorem Sift.step {l : List (El O)} {f n k root child : Nat} (h : Sift l f n k root) (hl : f + n ≤ l.length) (hch : child = 2 * root + 1 ∨ child = 2 * root + 2) (hcn : child < n)
  (hlt : (el l (f + root)).lt (el l (f + child)) = true) (hmax : ∀ c, 0 < c → c < n → (c - 1) / 2 = root → (el l (f + c)).le (el l (f + child))) : Sift (swp l (f + root) (f + child)) f n k child := by
 have hlo := h.lo
 have E := fun q => el_swp (l := l) (i := f + root) (j := f + child) (by omega) (by omega) q
 refine ⟨by omega, fun c h0 hc hk hne => ?_, fun _ _ c h0 hc hp => ?_⟩
 ·rw [E, E]
  rw [if_neg (show ¬ f + (c - 1) / 2 = f + child by omega)]
  by_cases hpr : (c - 1) / 2 = root
  ·rw [if_pos (show f + (c - 1) / 2 = f + root by omega)]
   by_cases hcc : c = child
   ·rw [if_pos (by omega)]; exact El.lt_le hlt
   ·rw [if_neg (by omega), if_neg (by omega)]; exact hmax c h0 hc hpr
  ·rw [if_neg (show ¬ f + (c - 1) / 2 = f + root by omega), if_neg (show ¬ f + c = f + child by omega)]
   by_cases hcr : c = root
   ·rw [if_pos (by omega)]
    subst hcr
    exact h.up (by omega) hk child (by omega) hcn (by omega)
   ·rw [if_neg (by omega)]; exact h.other c h0 hc hk hpr
 ·rw [E, E]
  have e : (child - 1) / 2 = root := by omega
  rw [if_neg (show ¬ f + c = f + child by omega), if_neg (show ¬ f + c = f + root by omega), e, if_neg (show ¬ f + root = f + child by omega), if_pos rfl]
  have := h.other c h0 hc (by omega) (by omega)
  rw [hp] at this
  exact this
theorem Heap.top {l : List (El O)} {f n : Nat} (h : Heap l f n 0) : ∀ c, c < n → (el l (f + c)).le (el l f) := by
 intro c
 induction c using Nat.strongRecOn with
 | _ c ih =>
  intro hc
  by_cases h0 : c = 0
  ·subst h0; exact El.le_refl _
  ·exact El.le_trans (h c (by omega) hc (by omega)) (ih ((c - 1) / 2) (by omega) (by omega))
def Tail (l : List (El O)) (f b n : Nat) : Prop := ∀ p q, f ≤ p → p < q → q < b → f + n ≤ q → (el l p).le (el l q)
theorem Tail.swap {l : List (El O)} {f b n : Nat} (hl : b ≤ l.length) (hb : f + (n + 1) ≤ b) (h : Tail l f b (n + 1)) (hh : Heap l f (n + 1) 0) : Tail (swp l f (f + n)) f b n ∧ Heap (swp l f (f + n)) f n 1 := by
 have E := fun q => el_swp (l := l) (i := f) (j := f + n) (by omega) (by omega) q
 constructor
 ·intro p q hp hpq hqb hq
  rw [E, E]
  by_cases hqn : q = f + n
  ·rw [if_pos hqn, if_neg (by omega)]
   split
   ·exact hh.top n (by omega)
   ·have := hh.top (p - f) (by omega)
    rw [show f + (p - f) = p by omega] at this
    exact this
  ·rw [if_neg hqn, if_neg (show ¬ q = f by omega)]
   split
   ·exact h f q (by omega) (by omega) hqb (by omega)
   ·split
    ·exact h (f + n) q (by omega) (by omega) hqb (by omega)
    ·exact h p q hp hpq hqb (by omega)
 ·intro c h0 hc hk
  rw [E, E, if_neg (by omega), if_neg (by omega), if_neg (by omega), if_neg (by omega)]
  exact hh c h0 (by omega) (by omega)
theorem Tail.sw {l l' : List (El O)} {f b n : Nat} (h : Tail l f b n) (hs : Sw f (f + n) l l') : Tail l' f b n := by
 intro p q hp hpq hqb hq
 rw [hs.out (k := q) (.inr hq)]
 by_cases hpn : p < f + n
 ·obtain ⟨j, hj, e⟩ := hs.mem (k := p) ⟨hp, hpn⟩
  rw [e]
  exact h j q hj.1 (by omega) hqb hq
 ·rw [hs.out (.inr (by omega))]; exact h p q hp hpq hqb hq
structure Prt (L G : El O → El O → Prop) (l : List (El O)) (x y i j : Nat) : Prop where
 xi : x < i
 ij : i ≤ j + 1
 jy : j < y
 lt : ∀ k, x < k → k < i → L (el l k) (el l x)
 ge : ∀ k, j < k → k < y → G (el l k) (el l x)
theorem Prt.left {L G : El O → El O → Prop} {l : List (El O)} {x y i j : Nat} (h : Prt L G l x y i j) (hij : i ≤ j) (hl : L (el l i) (el l x)) : Prt L G l x y (i + 1) j :=
 ⟨by have := h.xi; omega, by omega, h.jy, fun k h1 h2 => by
  by_cases e : k = i
  ·rw [e]; exact hl
  ·exact h.lt k h1 (by omega), h.ge⟩
theorem Prt.right {L G : El O → El O → Prop} {l : List (El O)} {x y i j : Nat} (h : Prt L G l x y i j) (hij : i ≤ j) (hl : G (el l j) (el l x)) : Prt L G l x y i (j - 1) :=
 ⟨h.xi, by have := h.xi; omega, by have := h.jy; omega, h.lt, fun k h1 h2 => by
  by_cases e : k = j
  ·rw [e]; exact hl
  ·exact h.ge k (by omega) h2⟩
theorem Prt.swap {L G : El O → El O → Prop} {l : List (El O)} {x y i j : Nat} (h : Prt L G l x y i j) (hy : y ≤ l.length) (hij : i < j) (hl : L (el l j) (el l x)) (hg : G (el l i) (el l x)) : Prt L G (swp l i j) x y (i + 1) (j - 1) := by
 have h1 := h.xi
 have h2 := h.jy
 have E := fun q => el_swp (l := l) (i := i) (j := j) (by omega) (by omega) q
 have ex : el (swp l i j) x = el l x := by rw [E, if_neg (by omega), if_neg (by omega)]
 refine ⟨by omega, by omega, by omega, fun k h3 h4 => ?_, fun k h3 h4 => ?_⟩
 ·rw [ex, E, if_neg (by omega)]
  split
  ·exact hl
  ·exact h.lt k h3 (by omega)
 ·rw [ex, E]
  split
  ·exact hg
  ·rw [if_neg (by omega)]; exact h.ge k (by omega) h4
def Lt (a p : El O) : Prop := a.lt p = true
def Ge (a p : El O) : Prop := p.le a
structure Parted (l : List (El O)) (x y m : Nat) : Prop where
 xm : x ≤ m
 my : m < y
 lt : ∀ k, x ≤ k → k < m → (el l k).le (el l m)
 ge : ∀ k, m < k → k < y → (el l m).le (el l k)
theorem Prt.fin {l : List (El O)} {x y i j : Nat} (h : Prt Lt Ge l x y i j) (hy : y ≤ l.length) (hij : j < i) : Parted (swp l j x) x y j := by
 have h1 := h.xi
 have h2 := h.jy
 have h3 := h.ij
 have E := fun q => el_swp (l := l) (i := j) (j := x) (by omega) (by omega) q
 have ej : el (swp l j x) j = el l x := by
  rw [E]
  split
  ·rename_i e; rw [e]
  ·rw [if_pos rfl]
 refine ⟨by omega, h2, fun k h4 h5 => ?_, fun k h4 h5 => ?_⟩
 ·rw [ej, E]
  by_cases hk : k = x
  ·rw [if_pos hk]; exact El.lt_le (h.lt j (by omega) (by omega))
  ·rw [if_neg hk, if_neg (by omega)]; exact El.lt_le (h.lt k (by omega) (by omega))
 ·rw [ej, E, if_neg (by omega), if_neg (by omega)]; exact h.ge k h4 h5
theorem Prt.start {L G : El O → El O → Prop} {l : List (El O)} {x y : Nat} (h : x < y) : Prt L G l x y (x + 1) (y - 1) := ⟨by omega, by omega, by omega, fun k h1 h2 => by omega, fun k h1 h2 => by omega⟩
def Le' (a p : El O) : Prop := a.le p
def Gt' (a p : El O) : Prop := p.lt a = true
def Around (l : List (El O)) (a0 b0 a b : Nat) : Prop := ∀ p q, a0 ≤ p → p < q → q < b0 → (p < a ∨ b ≤ q) → (el l p).le (el l q)
theorem Around.sw {l l' : List (El O)} {a0 b0 a b : Nat} (ha : a0 ≤ a) (hb : b ≤ b0) (h : Around l a0 b0 a b) (hs : Sw a b l l') : Around l' a0 b0 a b := by
 intro p q h1 h2 h3 h4
 have P : (p < a ∨ b ≤ p) ∨ (a ≤ p ∧ p < b) := by omega
 have Q : (q < a ∨ b ≤ q) ∨ (a ≤ q ∧ q < b) := by omega
 rcases P with hp | hp <;> rcases Q with hq | hq
 ·rw [hs.out hp, hs.out hq]; exact h p q h1 h2 h3 h4
 ·obtain ⟨j, hj, e⟩ := hs.mem hq
  rw [hs.out hp, e]; exact h p j h1 (by omega) (by omega) (by omega)
 ·obtain ⟨j, hj, e⟩ := hs.mem hp
  rw [hs.out hq, e]; exact h j q (by omega) (by omega) h3 (by omega)
 ·omega
theorem Around.srt {l : List (El O)} {a0 b0 a b : Nat} (h : Around l a0 b0 a b) (hs : Srt l a b) : Srt l a0 b0 := by
 intro p q h1 h2 h3
 by_cases h4 : p < a ∨ b ≤ q
 ·exact h p q h1 h2 h3 h4
 ·exact hs p q (by omega) h2 (by omega)
theorem Around.start (l : List (El O)) (a b : Nat) : Around l a b a b := fun p q _ _ _ _ => by omega
theorem Around.right {l l' : List (El O)} {a0 b0 a b m : Nat} (ha : a0 ≤ a) (hb : b ≤ b0) (h : Around l a0 b0 a b) (hp : Parted l a b m) (hs : Sw a m l l') (hso : Srt l' a m) : Around l' a0 b0 (m + 1) b := by
 have h1 := hp.xm
 have h2 := hp.my
 intro p q g1 g2 g3 g4
 have src : ∀ k, ∃ j, el l' k = el l j ∧ ((a ≤ k ∧ k < m ∧ a ≤ j ∧ j < m) ∨ (j = k ∧ (k < a ∨ m ≤ k))) := by
  intro k
  by_cases hk : a ≤ k ∧ k < m
  ·obtain ⟨j, hj, e⟩ := hs.mem hk; exact ⟨j, e, .inl ⟨hk.1, hk.2, hj.1, hj.2⟩⟩
  ·exact ⟨k, hs.out (by omega), .inr ⟨rfl, by omega⟩⟩
 by_cases hin : a ≤ p ∧ q < b
 ·
  by_cases hq : q < m
  ·exact hso p q hin.1 g2 hq
  ·obtain ⟨j, e, hj⟩ := src p
   rw [e, hs.out (k := q) (by omega)]
   have hpm : p ≤ m := by omega
   have le1 : (el l j).le (el l m) := by
    by_cases hjm : j = m
    ·rw [hjm]; exact El.le_refl _
    ·exact hp.lt j (by omega) (by omega)
   by_cases hqm : q = m
   ·rw [hqm]; exact le1
   ·exact El.le_trans le1 (hp.ge q (by omega) hin.2)
 ·obtain ⟨j, e, hj⟩ := src p
  obtain ⟨k, e', hk⟩ := src q
  rw [e, e']
  exact h j k (by omega) (by omega) (by omega) (by omega)
theorem Around.left {l l' : List (El O)} {a0 b0 a b m : Nat} (ha : a0 ≤ a) (hb : b ≤ b0) (h : Around l a0 b0 a b) (hp : Parted l a b m) (hs : Sw (m + 1) b l l') (hso : Srt l' (m + 1) b) : Around l' a0 b0 a m := by
 have h1 := hp.xm
 have h2 := hp.my
 intro p q g1 g2 g3 g4
 have src : ∀ k, ∃ j, el l' k = el l j ∧ ((m < k ∧ k < b ∧ m < j ∧ j < b) ∨ (j = k ∧ (k ≤ m ∨ b ≤ k))) := by
  intro k
  by_cases hk : m + 1 ≤ k ∧ k < b
  ·obtain ⟨j, hj, e⟩ := hs.mem hk; exact ⟨j, e, .inl ⟨by omega, hk.2, by omega, hj.2⟩⟩
  ·exact ⟨k, hs.out (by omega), .inr ⟨rfl, by omega⟩⟩
 by_cases hin : a ≤ p ∧ q < b
 ·by_cases hp' : m < p
  ·exact hso p q (by omega) g2 hin.2
  ·obtain ⟨k, e, hk⟩ := src q
   rw [e, hs.out (k := p) (by omega)]
   have le1 : (el l m).le (el l k) := by
    by_cases hkm : k = m
    ·rw [hkm]; exact El.le_refl _
    ·exact hp.ge k (by omega) (by omega)
   by_cases hpm : p = m
   ·rw [hpm]; exact le1
   ·exact El.le_trans (hp.lt p hin.1 (by omega)) le1
 ·obtain ⟨j, e, hj⟩ := src p
  obtain ⟨k, e', hk⟩ := src q
  rw [e, e']
  exact h j k (by omega) (by omega) (by omega) (by omega)
theorem Around.equal {l : List (El O)} {a0 b0 a b i j : Nat} (h : Around l a0 b0 a b) (ha : a0 ≤ a) (hb : b ≤ b0) (hp : Prt Le' Gt' l a b i j) (hij : j < i) (hmin : ∀ k, a ≤ k → k < b → (el l a).le (el l k)) : Around l a0 b0 i b := by
 have h1 := hp.xi
 have h2 := hp.ij
 have h3 := hp.jy
 intro p q g1 g2 g3 g4
 by_cases hin : a ≤ p ∧ q < b
 ·have hle : (el l p).le (el l a) := by
   by_cases e : p = a
   ·rw [e]; exact El.le_refl _
   ·exact hp.lt p (by omega) (by omega)
  exact El.le_trans hle (hmin q (by omega) hin.2)
 ·exact h p q g1 g2 g3 (by omega)
end Go.Minster.SG
end

section
namespace Go.Am
section
variable {P : Program} {T : TT} (hT : TT.Ok P T) {call : XCall} (hcall : CallOk P call) (hmx : P.follows .mixedOrders = true)
include hT hcall hmx
end
end Go.Am
end

section
namespace Go.Am
open Go.ChangeShapes Go.WideShapes Go.ChangeAt Go.RowKit
def s0 : AS := { lay := [], cur := .E, nl := 0, st := 1 }
theorem s0_h (l : Nat) : s0.h l = none := by simp [AS.h, s0, Tr.get, layGet]
theorem rel0 (W : World) : Rel W.heap.size (fun _ => none) s0 W := by
 refine ⟨fun l o h => ?_, fun l l' o o' i i' h => ?_, fun _ => rfl, Nat.le_refl 1, Nat.le_refl _⟩
 ·rw [s0_h] at h; cases h
 ·rw [s0_h] at h; cases h
theorem Did.below {B : Nat} {γ γ' : Gam} {s s' : AS} {w w' : World} (h : Did B γ s w γ' s' w') (hro : ∀ l o, s.h l = some o → o.ro = true) : Below w.heap.size w w' :=
 ⟨h.env.1, h.env.2.1, h.env.2.2, h.siz, fun k hk => h.frm k hk fun l o i h1 h2 _ => by rw [hro l o h1] at h2; cases h2⟩
theorem below_of_closed {P : Program} {g : FuncId} {b : Bool} (hg : callable P g = true) (h : ACalls P g [] s0 fun v s' => v = .bool b) (W : World) : Calls P g #[] W fun e W' => e = .returned (.bool b) ∧ Below W.heap.size W W' := by
 have hl : Calls P g #[] W (fun e w' => ∃ γ' v cv s', e = .returned cv ∧ VRel γ' v cv ∧ Did W.heap.size (fun _ => none) s0 W γ' s' w' ∧ Rel W.heap.size γ' s' w' ∧ v = .bool b) := by
  rcases h W.heap.size (fun _ => none) #[] W VRels.nil (rel0 W) with ⟨_, h1⟩ | ⟨cv, w', h1, _⟩
  ·exact h1
  ·rw [run_callFunc hg] at h1; cases h1
 refine hl.mono ?_
 rintro e w' ⟨γ', v, cv, s', rfl, hv, hd, hr, rfl⟩
 simp only [VRel] at hv
 subst hv
 exact ⟨rfl, hd.below fun l o h => by rw [s0_h] at h; cases h⟩
theorem post_law {H : Type} {enc : TypeId × Value → H} {P : Program} {f : Func} {s : ChangeSpec} {fresh : Bool} {W W' : World} {args : Array Value} {ds : List (DataW H)} {before pa : List MemPlace} {rt : TypeId}
  (hW : DataW.Whole enc P f.params.toList s.vars false W args.toList ds [] before) (hv : s.vars = []) (hb : Below W.heap.size W W') (hrt : f.resultTypes = #[rt]) (hru : P.underlying rt = some .bool)
  (hsp : (s.fn H (ds ++ [])) = { results := [.lit (.bool true)], args := ds }) (hpa : DataW.TrodAll enc P W' 0 (fun b => decide (b < W.heap.size)) true f.params.toList args.toList ds pa) :
  s.post enc P f false fresh false false W args (.bool true) W' := by
 refine ⟨ds, [], before, [], pa, [], hW, ?_, ?_, ?_, hb.frame _, fun h => by cases h⟩
 ·rw [hsp, hrt]
  exact trodAll_mk1 (shut_bool hru true)
 ·rw [hsp]; exact hpa
 ·rw [hsp, hv]; rfl
end Go.Am
end

section
namespace Go.Am
/-! ### heaps -/
theorem WFs.none {s : AS} (h : WFs s) : s.h s.nl = none := by simpa using h.2 0
def Mut (L : List Nat) (s s' : AS) : Prop := (∀ x o, x ∉ L → s.h x = some o → s'.h x = some o) ∧ s.nl ≤ s'.nl
theorem Mut.refl (L : List Nat) (s : AS) : Mut L s s := ⟨fun _ _ _ h => h, Nat.le_refl _⟩
theorem Mut.trans {L : List Nat} {a b c : AS} (h : Mut L a b) (h' : Mut L b c) : Mut L a c := ⟨fun x o hx e => h'.1 x o hx (h.1 x o hx e), Nat.le_trans h.2 h'.2⟩
theorem Ext.mut {L : List Nat} {s s' : AS} (h : Ext s s') : Mut L s s' := ⟨fun x o _ e => h.1 x o e, h.2⟩
theorem Mut.ext {s s' : AS} (h : Mut [] s s') : Ext s s' := ⟨fun x o e => h.1 x o (by simp) e, h.2⟩
theorem Mut.mono {L L' : List Nat} {s s' : AS} (h : Mut L s s') (hl : ∀ x ∈ L, x ∈ L') : Mut L' s s' := ⟨fun x o hx e => h.1 x o (fun m => hx (hl x m)) e, h.2⟩
def At (s : AS) (l : Nat) (cs : List AV) : Prop := ∃ g ro, s.h l = some (.cells cs g ro)
def Own (s : AS) (l : Nat) (cs : List AV) : Prop := s.h l = some (.cells cs 0 false)
theorem Own.at {s : AS} {l : Nat} {cs : List AV} (h : Own s l cs) : At s l cs := ⟨_, _, h⟩
theorem At.ext {s s' : AS} {l : Nat} {cs : List AV} (h : At s l cs) (e : Ext s s') : At s' l cs := by obtain ⟨g, ro, h⟩ := h; exact ⟨g, ro, e.1 _ _ h⟩
theorem Own.ext {s s' : AS} {l : Nat} {cs : List AV} (h : Own s l cs) (e : Ext s s') : Own s' l cs := e.1 _ _ h
theorem Own.mut {s s' : AS} {L : List Nat} {l : Nat} {cs : List AV} (h : Own s l cs) (e : Mut L s s') (hl : l ∉ L) : Own s' l cs := e.1 _ _ hl h
theorem At.rd1 {s : AS} {l : Nat} {cs : List AV} (h : At s l cs) (o : Nat) : rd1 s l o = cs[o]? := by obtain ⟨g, ro, h⟩ := h; exact rd1_of h
theorem At.rdc {s : AS} {l : Nat} {cs : List AV} (h : At s l cs) {o n : Nat} (hn : o + n ≤ cs.length) : rdc s l o n = some ((cs.drop o).take n) := by obtain ⟨g, ro, h⟩ := h; exact rdc_of h hn
theorem At.inj {s : AS} {l : Nat} {cs cs' : List AV} (h : At s l cs) (h' : At s l cs') : cs = cs' := by
 obtain ⟨g, ro, h⟩ := h
 obtain ⟨g', ro', h'⟩ := h'
 rw [h] at h'
 simp only [Option.some.injEq, AO.cells.injEq] at h'
 exact h'.1
structure Fresh (s s' : AS) (l : Nat) (o : AO) : Prop where
 «at» : s'.h l = some o
 ext : Ext s s'
 wf : WFs s'
 no : s.h l = none
 eq : ∀ x, x ≠ l → s'.h x = s.h x
 nl : s.nl ≤ l ∧ l < s'.nl
 st : s'.st = s.st
theorem Fresh.ne {s s' : AS} {l : Nat} {o : AO} (h : Fresh s s' l o) {x : Nat} {o' : AO} (hx : s.h x = some o') : x ≠ l := by
 intro e; subst e; rw [h.no] at hx; cases hx
theorem Fresh.own {s s' : AS} {l : Nat} {cs : List AV} (h : Fresh s s' l (.cells cs 0 false)) : Own s' l cs := h.at
theorem WFs.new {s : AS} (h : WFs s) {o : AO} (ho : o.live = true) : Fresh s (s.new o) s.nl o := by
 have hst := h.1
 refine ⟨by rw [AS.new_h _ ho, if_pos rfl], ⟨fun x p hx => ?_, by rw [AS.new_nl]; omega⟩, ⟨hst, fun k => ?_⟩, h.none, fun x hx => by rw [AS.new_h _ ho, if_neg hx], ⟨Nat.le_refl _, by rw [AS.new_nl]; omega⟩, rfl⟩
 ·rw [AS.new_h _ ho, if_neg]
  ·exact hx
  ·intro e; subst e; rw [h.none] at hx; cases hx
 ·rw [AS.new_nl, AS.new_st, AS.new_h _ ho]
  have e1 : s.nl + s.st + k * s.st = s.nl + (k + 1) * s.st := by rw [Nat.add_mul, Nat.one_mul]; omega
  rw [if_neg (by omega), e1]
  exact h.2 (k + 1)
theorem NewQ.intro {o : AO} {s : AS} {K : Nat → AS → Prop} (hw : WFs s) (ho : o.live = true) (h : ∀ l s', Fresh s s' l o → K l s') : NewQ o s K := h _ _ (hw.new ho)
structure Put (s s' : AS) (l : Nat) (o : AO) : Prop where
 «at» : s'.h l = some o
 wf : WFs s'
 eq : ∀ x, x ≠ l → s'.h x = s.h x
 nl : s'.nl = s.nl
 st : s'.st = s.st
theorem Put.mut {s s' : AS} {l : Nat} {o : AO} (h : Put s s' l o) : Mut [l] s s' := ⟨fun x p hx hp => by rw [h.eq x (by simpa using hx)]; exact hp, by rw [h.nl]; exact Nat.le_refl _⟩
theorem WFs.put {s : AS} (h : WFs s) {l : Nat} {o o' : AO} (hl : s.h l = some o') (ho : o.live = true) : Put s (s.put l o) l o := by
 refine ⟨by rw [AS.put_h _ _ ho, if_pos rfl], ⟨h.1, fun k => ?_⟩, fun x hx => by rw [AS.put_h _ _ ho, if_neg hx], rfl, rfl⟩
 rw [AS.put_nl, AS.put_st, AS.put_h _ _ ho, if_neg]
 ·exact h.2 k
 ·intro e; rw [← e, h.2 k] at hl; cases hl
theorem StQ.awr {s : AS} {l o g : Nat} {cs vs : List AV} {K : AS → Prop} (hw : WFs s) (hl : s.h l = some (.cells cs g false)) (hn : o + vs.length ≤ cs.length) (h : ∀ s', Put s s' l (.cells (wrs cs o vs) g false) → K s') : StQ (awr s l o vs) K := by
 refine ⟨s.put l (.cells (wrs cs o vs) g false), ?_, h _ (hw.put hl rfl)⟩
 simp only [Am.awr, hl, if_pos hn]
theorem StQ.own {s : AS} {l o : Nat} {cs vs : List AV} {K : AS → Prop} (hw : WFs s) (hl : Own s l cs) (hn : o + vs.length ≤ cs.length) (h : ∀ s', Put s s' l (.cells (wrs cs o vs) 0 false) → K s') : StQ (Am.awr s l o vs) K := StQ.awr hw hl hn h
/-! ### calls -/
def Nxt (s s' : AS) : Prop := (∃ k, s'.nl = s.nl + k * s.st) ∧ s'.st = s.st
section
variable {P : Program} {g : FuncId} {args : List AV} {s : AS} {R : AV → AS → Prop}
theorem ACalls.pre (h : WFs s → ACalls P g args s R) : ACalls P g args s R :=
 fun B γ ca w h1 h2 => h h2.wfs B γ ca w h1 h2
theorem ACalls.post (h : ACalls P g args s R) : ACalls P g args s fun v s' => R v s' ∧ WFs s' ∧ Nxt s s' :=
 fun B γ ca w h1 h2 => (h B γ ca w h1 h2).mono fun e w' ⟨γ', v, cv, s', a, b, c, d, e⟩ => ⟨γ', v, cv, s', a, b, c, d, e, d.wfs, c.nl, c.st⟩
theorem ACalls.use {R' : AV → AS → Prop} (h : ACalls P g args s R) (hr : ∀ v s', R v s' → WFs s' → R' v s') : ACalls P g args s R' :=
 h.post.mono fun v s' ⟨a, b, _⟩ => hr v s' a b
theorem ACalls.closed {b : Bool} (hg : callable P g = true) (h : ACalls P g [] s0 fun v s' => v = .bool b) : ACalls P g [] s fun v s' => v = .bool b ∧ s' = s := by
 intro B γ cargs w h1 h2
 have hc : cargs = #[] := by
  have := VRels.nil_iff.1 h1
  exact Array.ext' (by simpa using this)
 subst hc
 refine .inl ⟨run_callFunc hg _ _, ?_⟩
 refine (below_of_closed hg h w).mono ?_
 rintro e W' ⟨rfl, hb⟩
 have hsz : w.heap.size ≤ W'.heap.size := hb.size
 have hold : ∀ k, k < w.heap.size → W'.heap[k]? = w.heap[k]? := hb.block
 refine ⟨γ, .bool b, .bool b, s, rfl, by simp [VRel], ?_, ?_, rfl, rfl⟩
 ·exact ⟨Gam.le_refl γ, fun k hk _ => hold k hk, hsz, fun l o i a b c => .inr ⟨l, o, i, a, b, c, rfl⟩, ⟨0, by simp⟩, rfl, rfl, fun _ a b => absurd a b, fun _ _ a _ _ => a, ⟨hb.os, hb.tape, hb.output⟩⟩
 ·refine ⟨fun l o hl => ?_, h2.inj, h2.fin, h2.stp, Nat.le_trans h2.base hsz⟩
  obtain ⟨i, hi, hO, hB⟩ := h2.obj l o hl
  exact ⟨i, hi, hO.congr (hold _ hO.lt), hB⟩
end
/-! ### words -/
theorem RdI_some {k : IntKind} {n : Int} {K : Int → Prop} : RdI k (some (.int k n)) K ↔ K n := ⟨fun ⟨m, h, hk⟩ => by simp only [Option.some.injEq, AV.int.injEq] at h; rw [h.2]; exact hk, fun h => ⟨n, rfl, h⟩⟩
theorem RdB_some {b : Bool} {K : Bool → Prop} : RdB (some (.bool b)) K ↔ K b := ⟨fun ⟨m, h, hk⟩ => by simp only [Option.some.injEq, AV.bool.injEq] at h; rw [h]; exact hk, fun h => ⟨b, rfl, h⟩⟩
theorem RdS_some {b : List UInt8} {K : List UInt8 → Prop} : RdS (some (.str b)) K ↔ K b := ⟨fun ⟨m, h, hk⟩ => by simp only [Option.some.injEq, AV.str.injEq] at h; rw [h]; exact hk, fun h => ⟨b, rfl, h⟩⟩
theorem RdP_some {a : Option (Nat × Nat)} {K : Option (Nat × Nat) → Prop} : RdP (some (.ptr a)) K ↔ K a := ⟨fun ⟨m, h, hk⟩ => by simp only [Option.some.injEq, AV.ptr.injEq] at h; rw [h]; exact hk, fun h => ⟨a, rfl, h⟩⟩
theorem RdM_some {a : Option Nat} {K : Option Nat → Prop} : RdM (some (.map a)) K ↔ K a := ⟨fun ⟨m, h, hk⟩ => by simp only [Option.some.injEq, AV.map.injEq] at h; rw [h]; exact hk, fun h => ⟨a, rfl, h⟩⟩
theorem RdG_some {a : List AV} {K : List AV → Prop} : RdG (some (.agg a)) K ↔ K a := ⟨fun ⟨m, h, hk⟩ => by simp only [Option.some.injEq, AV.agg.injEq] at h; rw [h]; exact hk, fun h => ⟨a, rfl, h⟩⟩
theorem RdA_some {a : AV} {K : AV → Prop} : RdA (some a) K ↔ K a := ⟨fun ⟨m, h, hk⟩ => by simp only [Option.some.injEq] at h; rw [h]; exact hk, fun h => ⟨a, rfl, h⟩⟩
theorem RdL_some {a : List AV} {K : List AV → Prop} : RdL (some a) K ↔ K a := ⟨fun ⟨m, h, hk⟩ => by simp only [Option.some.injEq] at h; rw [h]; exact hk, fun h => ⟨a, rfl, h⟩⟩
theorem RdO_some {a : Bool} {K : Bool → Prop} : RdO (some a) K ↔ K a := ⟨fun ⟨m, h, hk⟩ => by simp only [Option.some.injEq] at h; rw [h]; exact hk, fun h => ⟨a, rfl, h⟩⟩
theorem StQ_some {a : AS} {K : AS → Prop} : StQ (some a) K ↔ K a := ⟨fun ⟨m, h, hk⟩ => by simp only [Option.some.injEq] at h; rw [h]; exact hk, fun h => ⟨a, rfl, h⟩⟩
theorem Bd2_some {a : AV} {s : AS} {K : AV → AS → Prop} : Bd2 (some (a, s)) K ↔ K a s := ⟨fun ⟨m, t, h, hk⟩ => by simp only [Option.some.injEq, Prod.mk.injEq] at h; rw [h.1, h.2]; exact hk, fun h => ⟨a, s, rfl, h⟩⟩
theorem IxQ_some {l i : Nat} {K : Nat → Nat → Prop} : IxQ (some (.ptr (some (l, i)))) K ↔ K l i := ⟨fun ⟨m, t, h, hk⟩ => by simp only [Option.some.injEq, AV.ptr.injEq, Prod.mk.injEq] at h; rw [h.1, h.2]; exact hk, fun h => ⟨l, i, rfl, h⟩⟩
theorem AsSome_some {l i : Nat} {K : Nat → Nat → Prop} : AsSome (some (l, i)) K ↔ K l i := Iff.rfl
theorem bsplit_true {X Y : Prop} : bsplit true X Y ↔ X := Iff.rfl
theorem bsplit_false {X Y : Prop} : bsplit false X Y ↔ Y := Iff.rfl
theorem bsplit_iff {b : Bool} {X Y : Prop} : bsplit b X Y ↔ (b = true → X) ∧ (b = false → Y) := by cases b <;> simp [bsplit]
theorem bsplit.mk {b : Bool} {X Y : Prop} (h1 : b = true → X) (h2 : b = false → Y) : bsplit b X Y := bsplit_iff.2 ⟨h1, h2⟩
theorem bsplit.dec {p : Prop} [Decidable p] {X Y : Prop} (h1 : p → X) (h2 : ¬ p → Y) : bsplit (decide p) X Y := bsplit_iff.2 ⟨fun h => h1 (by simpa using h), fun h => h2 (by simpa using h)⟩
theorem bsplit.yes {b : Bool} {X Y : Prop} (hb : b = true) (h : X) : bsplit b X Y := by subst hb; exact h
theorem bsplit.no {b : Bool} {X Y : Prop} (hb : b = false) (h : Y) : bsplit b X Y := by subst hb; exact h
@[congr] theorem RdI.congr {k : IntKind} {o o' : Option AV} {K : Int → Prop} (h : o = o') : RdI k o K = RdI k o' K := by rw [h]
@[congr] theorem RdB.congr {o o' : Option AV} {K : Bool → Prop} (h : o = o') : RdB o K = RdB o' K := by rw [h]
@[congr] theorem RdS.congr {o o' : Option AV} {K : List UInt8 → Prop} (h : o = o') : RdS o K = RdS o' K := by rw [h]
@[congr] theorem RdP.congr {o o' : Option AV} {K : Option (Nat × Nat) → Prop} (h : o = o') : RdP o K = RdP o' K := by rw [h]
@[congr] theorem RdM.congr {o o' : Option AV} {K : Option Nat → Prop} (h : o = o') : RdM o K = RdM o' K := by rw [h]
@[congr] theorem RdG.congr {o o' : Option AV} {K : List AV → Prop} (h : o = o') : RdG o K = RdG o' K := by rw [h]
@[congr] theorem RdA.congr {o o' : Option AV} {K : AV → Prop} (h : o = o') : RdA o K = RdA o' K := by rw [h]
@[congr] theorem RdL.congr {o o' : Option (List AV)} {K : List AV → Prop} (h : o = o') : RdL o K = RdL o' K := by rw [h]
@[congr] theorem RdO.congr {o o' : Option Bool} {K : Bool → Prop} (h : o = o') : RdO o K = RdO o' K := by rw [h]
@[congr] theorem StQ.congr {o o' : Option AS} {K : AS → Prop} (h : o = o') : StQ o K = StQ o' K := by rw [h]
@[congr] theorem Bd2.congr {o o' : Option (AV × AS)} {K : AV → AS → Prop} (h : o = o') : Bd2 o K = Bd2 o' K := by rw [h]
@[congr] theorem IxQ.congr {o o' : Option AV} {K : Nat → Nat → Prop} (h : o = o') : IxQ o K = IxQ o' K := by rw [h]
@[congr] theorem AsSome.congr {o o' : Option (Nat × Nat)} {K : Nat → Nat → Prop} (h : o = o') : AsSome o K = AsSome o' K := by rw [h]
@[congr] theorem bsplit.congr {b b' : Bool} {X Y : Prop} (h : b = b') : bsplit b X Y = bsplit b' X Y := by rw [h]
@[congr] theorem One1.congr {l l' : List AV} {X : Prop} (h : l = l') : One1 l X = One1 l' X := by rw [h]
@[congr] theorem OkC.congr {n : Option Nat} {l l' : List AV} {X : Prop} (h : l = l') : OkC n l X = OkC n l' X := by rw [h]
@[congr] theorem NewQ.congr {o o' : AO} {s : AS} {K : Nat → AS → Prop} (h : o = o') : NewQ o s K = NewQ o' s K := by rw [h]
@[congr] theorem ACalls.congr {P : Program} {g : FuncId} {a a' : List AV} {s : AS} {R : AV → AS → Prop} (h : a = a') : ACalls P g a s R = ACalls P g a' s R := by rw [h]
@[congr] theorem JoinQ.congr {A : (List AV → AS → Prop) → Prop} : JoinQ A = JoinQ A := rfl
@[congr] theorem LoopQ.congr {A : (Nat → List AV → AS → Prop) → Nat → Prop} : LoopQ A = LoopQ A := rfl
@[congr] theorem DrawQ.congr {A : (Nat → List AV → AV → AS → Prop) → (Nat → List AV → AV → Prop) → Prop} : DrawQ A = DrawQ A := rfl
@[congr] theorem DrawM.congr {s : AS} {A : (AS → AS → Prop) → (Nat → List AV → AV → AS → Prop) → (AS → Prop) → (Nat → List AV → AV → AS → Prop) → (Nat → List AV → AV → Prop) → Prop} : DrawM s A = DrawM s A := rfl
@[congr] theorem LenOk.congr {n : Nat} {X : Prop} : LenOk n X = LenOk n X := rfl
@[congr] theorem NZ.congr {n n' : Int} {X : Prop} (h : n = n') : NZ n X = NZ n' X := by rw [h]
@[congr] theorem NN.congr {n n' : Int} {X : Prop} (h : n = n') : NN n X = NN n' X := by rw [h]
attribute [go_sem] RdI_some RdB_some RdS_some RdP_some RdM_some RdG_some RdA_some RdL_some RdO_some StQ_some Bd2_some IxQ_some AsSome_some bsplit_true bsplit_false
end Go.Am
end

section
namespace Go.Am
def SlAt (s : AS) (v : AV) (sz : Nat) (cs : List AV) (n : Nat) : Prop :=
 (v = .emp ∧ n = 0 ∧ cs = []) ∨ ∃ a c e, v = .slc a n c e ∧ (cs.length = n * sz ∧ n ≤ c) ∧ (n = 0 ∨ ∃ la o C, a = some (la, o) ∧ At s la C ∧ (C.drop o).take (n * sz) = cs)
theorem SlAt.ext {s s' : AS} {v : AV} {sz n : Nat} {cs : List AV} (h : SlAt s v sz cs n) (e : Ext s s') : SlAt s' v sz cs n := by
 rcases h with h | ⟨a, c, e', h1, h2, h3⟩
 ·exact .inl h
 ·refine .inr ⟨a, c, e', h1, h2, ?_⟩
  rcases h3 with h3 | ⟨la, o, C, g1, g2, g3⟩
  ·exact .inl h3
  ·exact .inr ⟨la, o, C, g1, g2.ext e, g3⟩
section
variable {T : TT} {t el : TypeId} {sz : Nat} (hu : T.und t = some (.slice el)) (hs : T.siz el = some sz)
include hu
theorem SlAt.lenB {s s' : AS} {v : AV} {n sz : Nat} {cs : List AV} (h : SlAt s v sz cs n) : alenB T t v s' = some (.int .i64 (n : Nat)) := by
 rcases h with ⟨rfl, rfl, rfl⟩ | ⟨a, c, e, rfl, _⟩
 ·simp [alenB, hu]
 ·simp [alenB, hu]
include hs
theorem SlAt.ix (hz : 0 < sz) {s : AS} {v : AV} {n : Nat} {cs : List AV} (h : SlAt s v sz cs n) {i : Nat} (hi : i < n) : ∃ la o, (∀ k, aindexAddr T t v (.int k (i : Nat)) = some (.ptr (some (la, o)))) ∧
  ∀ s', Ext s s' → (∀ j, j < sz → rd1 s' la (o + j) = cs[i * sz + j]?) ∧ rdc s' la o sz = some ((cs.drop (i * sz)).take sz) := by
 rcases h with ⟨_, rfl, _⟩ | ⟨a, c, e, rfl, hl, h3⟩
 ·omega
 ·obtain ⟨hl, hnc⟩ := hl
  rcases h3 with h3 | ⟨la, o, C, rfl, hC, hcs⟩
  ·omega
  ·have hlen := congrArg List.length hcs
   rw [List.length_take, List.length_drop, hl] at hlen
   have hmul : i * sz + sz ≤ n * sz := by rw [← Nat.succ_mul]; exact Nat.mul_le_mul_right _ hi
   refine ⟨la, o + i * sz, fun k => ?_, fun s' he => ⟨fun j hj => ?_, ?_⟩⟩
   ·have : (0 : Int) ≤ (i : Int) ∧ (i : Int) < (n : Int) := by omega
    simp only [aindexAddr, hu, hs, Option.bind_some]
    rw [if_pos this]
    simp
   ·rw [(hC.ext he).rd1, ← hcs, List.getElem?_take, if_pos (by omega), List.getElem?_drop]
    congr 1; omega
   ·rw [(hC.ext he).rdc (by omega), ← hcs]
    congr 1
    apply List.ext_getElem?
    intro k
    simp only [List.getElem?_take, List.getElem?_drop]
    split
    ·rw [if_pos (by omega)]; congr 1; omega
    ·rfl
end
section
variable {T : TT} {t el : TypeId} {sz : Nat} (hu : T.und t = some (.slice el)) (hs : T.siz el = some sz)
include hu hs
theorem SlAt.from {s : AS} {v : AV} {n : Nat} {cs : List AV} (h : SlAt s v sz cs n) (hv : v ≠ .emp) {i : Nat} (hi : i ≤ n) (k : IntKind) : ∃ v', aslice T t v (some (.int k (i : Nat))) none none = some v' ∧ SlAt s v' sz (cs.drop (i * sz)) (n - i) := by
 rcases h with ⟨rfl, _⟩ | ⟨a, c, e, rfl, ⟨hl, hnc⟩, h3⟩
 ·exact absurd rfl hv
 ·have hab : abounds n c (some (.int k (i : Nat))) none none = some (i, n, c) := by
   have : (0 : Int) ≤ (i : Int) ∧ (i : Int) ≤ ((n : Nat) : Int) := by omega
   simp only [abounds, aopt, ahigh, abound1, Option.isNone_none, Option.isSome_none, Bool.false_eq_true, and_false, if_false, Option.bind_some, hnc, if_true, this, and_self, Option.map_some, Int.toNat_natCast]
  have hlen : (cs.drop (i * sz)).length = (n - i) * sz := by rw [List.length_drop, hl, Nat.mul_sub_right_distrib]
  have h0 : n - i = 0 → cs.drop (i * sz) = [] := fun h => List.length_eq_zero_iff.1 (by rw [hlen, h, Nat.zero_mul])
  simp only [aslice, hu, hs, Option.bind_some, hab]
  rcases a with _ | ⟨b, o⟩
  ·refine ⟨_, rfl, .inr ⟨_, _, _, rfl, ⟨hlen, by omega⟩, .inl ?_⟩⟩
   rcases h3 with h3 | ⟨la, o, C, h, _⟩
   ·omega
   ·cases h
  ·have key : ∀ o' e', (n - i = 0 ∨ o' = o + i * sz) → SlAt s (.slc (some (b, o')) (n - i) (c - i) e') sz (cs.drop (i * sz)) (n - i) := by
    intro o' e' ho
    refine .inr ⟨_, _, _, rfl, ⟨hlen, by omega⟩, ?_⟩
    by_cases hz : n - i = 0
    ·exact .inl hz
    ·rcases ho with ho | rfl
     ·exact absurd ho hz
     ·rcases h3 with h3 | ⟨la, o2, C, h, hC, hcs⟩
      ·omega
      ·simp only [Option.some.injEq, Prod.mk.injEq] at h
       obtain ⟨rfl, rfl⟩ := h
       refine .inr ⟨b, _, C, rfl, hC, ?_⟩
       rw [← hcs, List.drop_take, List.drop_drop, Nat.mul_sub_right_distrib]
   by_cases hm : c = i
   ·cases e
    ·refine ⟨.emp, by simp [hm], .inl ⟨rfl, by omega, h0 (by omega)⟩⟩
    ·refine ⟨.slc (some (b, o)) (n - i) (c - i) true, by simp [hm], key _ _ (.inl (by omega))⟩
   ·cases e
    ·refine ⟨.slc (some (b, o + i * sz)) (n - i) (c - i) false, by simp [hm], key _ _ (.inr rfl)⟩
    ·refine ⟨.slc (some (b, o + i * sz)) (n - i) (c - i) true, by simp [hm], key _ _ (.inr rfl)⟩
end
theorem SlAt.nil {s : AS} {sz c : Nat} {e : Bool} {a : Option (Nat × Nat)} : SlAt s (.slc a 0 c e) sz [] 0 := .inr ⟨a, c, e, rfl, ⟨by simp, Nat.zero_le _⟩, .inl rfl⟩
theorem SlAt.emp {s : AS} {sz : Nat} : SlAt s .emp sz [] 0 := .inl ⟨rfl, rfl, rfl⟩
theorem SlAt.mk {s : AS} {la o n c sz : Nat} {e : Bool} {C cs : List AV} (hC : At s la C) (hl : cs.length = n * sz) (h : (C.drop o).take (n * sz) = cs) (hc : n ≤ c := by first | omega | simp) : SlAt s (.slc (some (la, o)) n c e) sz cs n :=
 .inr ⟨_, c, e, rfl, ⟨hl, hc⟩, .inr ⟨la, o, C, rfl, hC, h⟩⟩
theorem flat_len {α : Type} {f : α → List AV} {sz : Nat} (hf : ∀ x, (f x).length = sz) (l : List α) : (l.flatMap f).length = l.length * sz := by
 induction l with
 | nil => simp
 | cons x xs ih => simp [ih, hf, Nat.add_mul]; omega
theorem flat_drop {α : Type} {f : α → List AV} {sz : Nat} (hf : ∀ x, (f x).length = sz) : ∀ (l : List α) (i : Nat), (l.flatMap f).drop (i * sz) = (l.drop i).flatMap f
 | l, 0 => by simp
 | [], i + 1 => by simp
 | x :: xs, i + 1 => by
  rw [List.flatMap_cons, List.drop_succ_cons, ← flat_drop hf xs i, Nat.add_mul, Nat.one_mul, Nat.add_comm, ← List.drop_drop]
  congr 1
  rw [List.drop_append_of_le_length (by rw [hf]; exact Nat.le_refl _), List.drop_eq_nil_of_le (by rw [hf]; exact Nat.le_refl _), List.nil_append]
theorem flat_take {α : Type} {f : α → List AV} {sz : Nat} (hf : ∀ x, (f x).length = sz) : ∀ (l : List α) (i : Nat), (l.flatMap f).take (i * sz) = (l.take i).flatMap f
 | l, 0 => by simp
 | [], i + 1 => by simp
 | x :: xs, i + 1 => by
  rw [List.flatMap_cons, List.take_succ_cons, List.flatMap_cons, ← flat_take hf xs i, Nat.add_mul, Nat.one_mul, Nat.add_comm, List.take_append]
  rw [hf, List.take_of_length_le (by rw [hf]; omega), Nat.add_sub_cancel_left]
theorem flat_elem {α : Type} {f : α → List AV} {sz : Nat} (hf : ∀ x, (f x).length = sz) {l : List α} {i : Nat} {x : α} (h : l[i]? = some x) : ((l.flatMap f).drop (i * sz)).take sz = f x := by
 rw [flat_drop hf]
 have hi : i < l.length := by
  rcases Nat.lt_or_ge i l.length with h' | h'
  ·exact h'
  ·rw [List.getElem?_eq_none h'] at h; cases h
 rw [List.drop_eq_getElem_cons hi, List.flatMap_cons, List.take_append_of_le_length (by rw [hf]; exact Nat.le_refl _), List.take_of_length_le (by rw [hf]; exact Nat.le_refl _)]
 rw [List.getElem?_eq_getElem hi] at h
 rw [Option.some.inj h]
theorem flat_get {α : Type} {f : α → List AV} {sz : Nat} (hf : ∀ x, (f x).length = sz) {l : List α} {i j : Nat} {x : α} (h : l[i]? = some x) (hj : j < sz) : (l.flatMap f)[i * sz + j]? = (f x)[j]? := by
 have := congrArg (fun c : List AV => c[j]?) (flat_elem hf h)
 simp only [List.getElem?_take, List.getElem?_drop, if_pos hj] at this
 exact this
def Sl {α : Type} (f : α → List AV) (sz : Nat) (s : AS) (v : AV) (l : List α) : Prop := SlAt s v sz (l.flatMap f) l.length
section
variable {α : Type} {f : α → List AV} {sz : Nat} {s s' : AS} {v : AV} {l : List α}
theorem Sl.ext (h : Sl f sz s v l) (e : Ext s s') : Sl f sz s' v l := SlAt.ext h e
theorem Sl.nil {c : Nat} {e : Bool} {a : Option (Nat × Nat)} : Sl f sz s (.slc a 0 c e) [] := SlAt.nil
theorem Sl.lenB {T : TT} {t el : TypeId} (hu : T.und t = some (.slice el)) (h : Sl f sz s v l) (s' : AS) : alenB T t v s' = some (.int .i64 (l.length : Nat)) := SlAt.lenB hu h
theorem Sl.ix (hz : 0 < sz) {T : TT} {t el : TypeId} (hf : ∀ x, (f x).length = sz) (hu : T.und t = some (.slice el)) (hs : T.siz el = some sz) (h : Sl f sz s v l) {i : Nat} {x : α} (hi : l[i]? = some x) : ∃ la o, (∀ k, aindexAddr T t v (.int k (i : Nat)) = some (.ptr (some (la, o)))) ∧
  ∀ s', Ext s s' → (∀ j, j < sz → rd1 s' la (o + j) = (f x)[j]?) ∧ rdc s' la o sz = some (f x) := by
 have hi' : i < l.length := by
  rcases Nat.lt_or_ge i l.length with h' | h'
  ·exact h'
  ·rw [List.getElem?_eq_none h'] at hi; cases hi
 obtain ⟨la, o, h1, h2⟩ := SlAt.ix hu hs hz h hi'
 refine ⟨la, o, h1, fun s' he => ⟨fun j hj => ?_, ?_⟩⟩
 ·rw [(h2 s' he).1 j hj, flat_get hf hi hj]
 ·rw [(h2 s' he).2, flat_elem hf hi]
theorem Sl.from {T : TT} {t el : TypeId} (hf : ∀ x, (f x).length = sz) (hu : T.und t = some (.slice el)) (hs : T.siz el = some sz) (h : Sl f sz s v l) (hv : v ≠ .emp) {i : Nat} (hi : i ≤ l.length) (k : IntKind) : ∃ v', aslice T t v (some (.int k (i : Nat))) none none = some v' ∧ Sl f sz s v' (l.drop i) := by
 obtain ⟨v', h1, h2⟩ := SlAt.from hu hs h hv hi k
 exact ⟨v', h1, by rw [flat_drop hf] at h2; simpa [Sl] using h2⟩
end
end Go.Am
end

section
namespace Go.Am
theorem wrs_all0 {cs vs : List AV} (h : vs.length = cs.length) : wrs cs 0 vs = vs := by
 apply List.ext_getElem?
 intro k
 rw [wrs_get _ _ _ _ (by omega)]
 by_cases hk : k < vs.length
 ·rw [if_pos (by omega), Nat.sub_zero]
 ·rw [if_neg (by omega), List.getElem?_eq_none (by omega), List.getElem?_eq_none (by omega)]
structure SlTy (T : TT) (t el : TypeId) (sz by_ : Nat) : Prop where
 u : T.und t = some (.slice el)
 z : T.siz el = some sz
 b : T.byt el = some by_
 zr : ∃ z zc, T.zer el = some z ∧ acells z = some zc ∧ zc.length = sz
 pos : 0 < sz
 small : sz ≤ 1024 ∧ by_ ≤ 65536
def labOf : AV → List Nat
 | .slc (some (la, _)) _ _ false => [la]
 | _ => []
def Gro {α : Type} (f : α → List AV) (sz : Nat) (s : AS) (v : AV) (l : List α) : Prop :=
 (l = [] ∧ ∃ a, v = .slc a 0 0 true) ∨ ∃ la, v = .slc (some (la, 0)) l.length l.length false ∧ s.h la = some (.cells (l.flatMap f) sz false)
theorem Gro.nil {α : Type} {f : α → List AV} {sz : Nat} {s : AS} {a : Option (Nat × Nat)} : Gro f sz s (.slc a 0 0 true) ([] : List α) := .inl ⟨rfl, a, rfl⟩
theorem Gro.mut {α : Type} {f : α → List AV} {sz : Nat} {s s' : AS} {v : AV} {l : List α} {L : List Nat} (h : Gro f sz s v l) (e : Mut L s s') (hl : ∀ x ∈ labOf v, x ∉ L) : Gro f sz s' v l := by
 rcases h with h | ⟨la, rfl, h⟩
 ·exact .inl h
 ·exact .inr ⟨la, rfl, e.1 _ _ (hl la (by simp [labOf])) h⟩
theorem Gro.ext {α : Type} {f : α → List AV} {sz : Nat} {s s' : AS} {v : AV} {l : List α} (h : Gro f sz s v l) (e : Ext s s') : Gro f sz s' v l := h.mut (L := []) e.mut (by simp)
theorem Gro.sl {α : Type} {f : α → List AV} {sz : Nat} (hf : ∀ x, (f x).length = sz) {s : AS} {v : AV} {l : List α} (h : Gro f sz s v l) : Sl f sz s v l := by
 rcases h with ⟨rfl, a, rfl⟩ | ⟨la, rfl, h⟩
 ·exact Sl.nil
 ·exact SlAt.mk ⟨_, _, h⟩ (flat_len hf l) (by rw [List.drop_zero, List.take_of_length_le (by rw [flat_len hf]; exact Nat.le_refl _)])
section
variable {T : TT} {t el : TypeId} {sz by_ : Nat} (ht : SlTy T t el sz by_)
include ht
theorem absl_agg {c : List AV} (hc : c.length = sz) (h1 : c.all AV.one = true) : absl T t 1 [(0, .agg c)] = some c := by
 obtain ⟨z, zc, hz, hzc, hl⟩ := ht.zr
 have hp := ht.pos
 have hs := ht.small
 simp only [absl, ht.u, ht.z, hz, hzc, Option.bind_some]
 rw [if_pos ⟨hl, by omega⟩]
 have h2 : acells (.agg c) = some c := by simp [acells, AV.cells, h1]
 have hrl : (rep 1 zc).length = sz := by simp [rep, hl]
 simp only [afill, h2, Nat.zero_mul, Nat.zero_add, hc, hrl, true_and, Nat.le_refl, if_true]
 congr 1
 apply List.ext_getElem?
 intro k
 rw [wrs_get _ _ _ _ (by rw [hrl, hc]; omega)]
 by_cases hk : k < sz
 ·rw [if_pos (by omega)]; simp
 ·rw [if_neg (by omega), List.getElem?_eq_none (by omega), List.getElem?_eq_none (by omega)]
theorem absl_one {v : AV} (hsz : sz = 1) (hv : v.one = true) : absl T t 1 [(0, v)] = some [v] := by
 obtain ⟨z, zc, hz, hzc, hl⟩ := ht.zr
 simp only [absl, ht.u, ht.z, hz, hzc, Option.bind_some]
 subst hsz
 rw [if_pos ⟨hl, by omega⟩]
 have h2 : acells v = some [v] := by cases v <;> first | rfl | cases hv
 have hrl : (rep 1 zc).length = 1 := by simp [rep, hl]
 simp only [afill, h2, Nat.zero_mul, Nat.zero_add, List.length_cons, List.length_nil, hrl, true_and, Nat.le_refl, if_true]
 congr 1
 match hq : rep 1 zc with
 | [] => rw [hq] at hrl; simp at hrl
 | [x] => rfl
 | x :: y :: r => rw [hq] at hrl; simp at hrl
theorem SlAt.src {s : AS} {v : AV} {n : Nat} {cs : List AV} (h : SlAt s v sz cs n) : asrc sz n s v = some cs ∧ alen v = some n := by
 rcases h with ⟨rfl, rfl, rfl⟩ | ⟨a, c, e, rfl, hl, h3⟩
 ·exact ⟨rfl, rfl⟩
 ·obtain ⟨hl, _⟩ := hl
  refine ⟨?_, rfl⟩
  by_cases hn : n = 0
  ·subst hn
   obtain rfl : cs = [] := List.length_eq_zero_iff.1 (by simpa using hl)
   rcases a with _ | ⟨l, o⟩
   ·rfl
   ·simp [asrc]
  ·rcases h3 with h3 | ⟨la, o, C, rfl, hC, hcs⟩
   ·exact absurd h3 hn
   ·have hlen := congrArg List.length hcs
    rw [List.length_take, List.length_drop, hl] at hlen
    have hp := ht.pos
    have : 0 < n * sz := Nat.mul_pos (by omega) hp
    simp only [asrc, if_neg hn]
    rw [hC.rdc (by omega), hcs]
theorem aappend_core {base : Option (Nat × Nat)} {len cap n : Nat} {ex : Bool} {x : AV} {new : List AV} {s : AS} {xt : TypeId} (hxt : T.und xt = some (.slice el)) (hlen : alen x = some n) (hsrc : asrc sz n s x = some new) (hnew : new.length = n * sz) (hb : len + n ≤ 2 ^ 30) :
  aappend T t xt (.slc base len cap ex) x s = if len + n ≤ cap then
    (match base with
     | none => some (.slc none (len + n) cap ex, s)
     | some (l, o) =>
      if new = [] then some (.slc base (len + n) cap ex, s)
      else (awr s l (o + len * sz) new).map fun s' => (.slc base (len + n) cap ex, s'))
   else
    (asrc sz len s (.slc base len cap ex)).bind fun old =>
     if ex then some (.slc (some (s.nl, 0)) (len + n) (len + n) false, s.new (.cells (old ++ new) sz false))
     else match base with
      | none => none
      | some (l, o) =>
       match s.h l with
       | some (.cells cs g false) =>
        if g = sz ∧ sz ≠ 0 ∧ o + cap * sz = cs.length then
         some (.slc (some (s.nl, 0)) (len + n) (len + n) false, (s.kill l).new (.cells (old ++ new) sz false))
        else none
       | _ => none := by
 obtain ⟨z, zc, hz, hzc, hl⟩ := ht.zr
 obtain ⟨hs1, hs2⟩ := ht.small
 have hnint : (match TypeDesc.slice el with | .int _ => true | _ => false) = false := rfl
 have hnn : ¬ (zc.length ≠ sz ∨ new.length ≠ n * sz ∨ 2 ^ 40 < len + n ∨ 2 * ((len + n + 256) * by_) > 2 ^ 48) := by
  have : (len + n + 256) * by_ ≤ (2 ^ 30 + 256) * 65536 := Nat.mul_le_mul (by omega) hs2
  rw [hl, hnew]; omega
 simp only [aappend, ht.u, hxt, hnint, Bool.false_eq_true, if_false, ht.z, ht.b, hz, hzc, Option.bind_some, hlen, hsrc]
 rw [if_neg hnn]
 rfl
theorem Gro.append {α : Type} {f : α → List AV} (hf : ∀ x, (f x).length = sz) (hone : ∀ x, (f x).all AV.one = true) {s : AS} (hw : WFs s) {v x : AV} {l xs : List α} (h : Gro f sz s v l) (hx : Sl f sz s x xs) (hb : l.length + xs.length ≤ 2 ^ 30) {xt : TypeId} (hxt : T.und xt = some (.slice el)) :
  ∃ v' s', aappend T t xt v x s = some (v', s') ∧ Gro f sz s' v' (l ++ xs) ∧ Mut (labOf v) s s' ∧ WFs s' ∧ (∀ la ∈ labOf v', la ∈ labOf v ∨ s.h la = none) := by
 have hp := ht.pos
 obtain ⟨hsrc, hlen⟩ := SlAt.src ht hx
 have hfl := flat_len hf xs
 have hst := hw.1
 have h0iff : xs.flatMap f = [] ↔ xs = [] := by
  rw [← List.length_eq_zero_iff, hfl, ← List.length_eq_zero_iff]
  constructor
  ·intro h; rcases Nat.mul_eq_zero.1 h with h | h <;> omega
  ·intro h; rw [h, Nat.zero_mul]
 rcases h with ⟨rfl, a, rfl⟩ | ⟨la, rfl, hla⟩
 ·rw [aappend_core ht hxt hlen hsrc hfl (by simpa using hb)]
  by_cases h0 : xs = []
  ·subst h0
   refine ⟨.slc a 0 0 true, s, ?_, by simpa using Gro.nil, Mut.refl _ _, hw, fun la h => .inl h⟩
   rw [if_pos (by simp)]
   rcases a with _ | ⟨l, o⟩ <;> simp
  ·have hpos : 0 < xs.length := List.length_pos_iff.2 h0
   have hF := hw.new (o := .cells (xs.flatMap f) sz false) rfl
   refine ⟨.slc (some (s.nl, 0)) xs.length xs.length false, s.new (.cells (xs.flatMap f) sz false), ?_, .inr ⟨s.nl, by simp, by simpa using hF.at⟩, hF.ext.mut, hF.wf, fun la h => ?_⟩
   ·rw [if_neg (by omega)]
    have : asrc sz 0 s (.slc a 0 0 true) = some [] := by rcases a with _ | ⟨l, o⟩ <;> rfl
    rw [this]
    simp
   ·simp only [labOf, List.mem_singleton] at h
    subst h; exact .inr hw.none
 ·have hfl2 := flat_len hf l
  have hold : asrc sz l.length s (.slc (some (la, 0)) l.length l.length false) = some (l.flatMap f) := by
   by_cases hl0 : l.length = 0
   ·rw [List.length_eq_zero_iff.1 hl0]; simp [asrc]
   ·simp only [asrc, if_neg hl0]
    rw [rdc_of hla (by rw [hfl2]; omega), List.drop_zero, List.take_of_length_le (by rw [hfl2]; exact Nat.le_refl _)]
  rw [aappend_core ht hxt hlen hsrc hfl hb]
  by_cases h0 : xs = []
  ·subst h0
   refine ⟨.slc (some (la, 0)) l.length l.length false, s, ?_, by rw [List.append_nil]; exact Or.inr ⟨la, rfl, hla⟩, Mut.refl _ _, hw, fun la h => .inl h⟩
   rw [if_pos (by simp)]
   simp
  ·have hpos : 0 < xs.length := List.length_pos_iff.2 h0
   have hk : WFs (s.kill la) := by
    refine ⟨hst, fun k => ?_⟩
    rw [AS.kill_h, AS.kill_nl, AS.kill_st]
    split
    ·rfl
    ·exact hw.2 k
   have hF := hk.new (o := .cells (l.flatMap f ++ xs.flatMap f) sz false) rfl
   refine ⟨.slc (some (s.nl, 0)) (l.length + xs.length) (l.length + xs.length) false, (s.kill la).new (.cells (l.flatMap f ++ xs.flatMap f) sz false), ?_, .inr ⟨s.nl, by simp, by rw [List.flatMap_append]; exact hF.at⟩, ⟨fun y o hy ho => hF.ext.1 y o ?_, hF.ext.2⟩, hF.wf, fun la h => ?_⟩
   ·rw [if_neg (by omega), hold]
    simp only [Option.bind_some, hla, Nat.zero_add, hfl2, Bool.false_eq_true, if_false]
    rw [if_pos ⟨trivial, by omega, trivial⟩]
   ·rw [AS.kill_h, if_neg (by simpa [labOf] using hy)]; exact ho
   ·simp only [labOf, List.mem_singleton] at h
    subst h; exact .inr hw.none
end
structure GroN {α : Type} (f : α → List AV) (sz : Nat) (M : List Nat) (s0 s : AS) (v : AV) (l : List α) : Prop where
 gro : Gro f sz s v l
 chg : Mut M s0 s
 new : ∀ la ∈ labOf v, s0.h la = none
theorem GroN.nil {α : Type} {f : α → List AV} {sz : Nat} {M : List Nat} {s : AS} {a : Option (Nat × Nat)} : GroN f sz M s s (.slc a 0 0 true) ([] : List α) := ⟨Gro.nil, Mut.refl _ _, by simp [labOf]⟩
theorem GroN.start {α : Type} {f : α → List AV} {sz : Nat} {M : List Nat} {s0 s : AS} {a : Option (Nat × Nat)} (h : Mut M s0 s) : GroN f sz M s0 s (.slc a 0 0 true) ([] : List α) := ⟨Gro.nil, h, by simp [labOf]⟩
theorem Ext.none {s s' : AS} (h : Ext s s') {l : Nat} (hl : s'.h l = none) : s.h l = none := by
 cases hq : s.h l with
 | none => rfl
 | some o => rw [h.1 l o hq] at hl; cases hl
theorem Mut.fresh {M : List Nat} {s s' : AS} (h : Mut M s s') (hM : ∀ x ∈ M, s'.h x ≠ none) {l : Nat} (hl : s'.h l = none) : s.h l = none := by
 cases hq : s.h l with
 | none => rfl
 | some o =>
  by_cases hm : l ∈ M
  ·exact absurd hl (hM l hm)
  ·rw [h.1 l o hm hq] at hl; cases hl
section
variable {α : Type} {f : α → List AV} {sz : Nat} {M : List Nat} {s0 s s' : AS} {v : AV} {l : List α}
theorem GroN.step (h : GroN f sz M s0 s v l) (e : Ext s s') : GroN f sz M s0 s' v l := ⟨h.gro.ext e, h.chg.trans e.mut, h.new⟩
theorem GroN.wr (h : GroN f sz M s0 s v l) (hM : ∀ x ∈ M, s0.h x ≠ none) (e : Mut M s s') : GroN f sz M s0 s' v l :=
 ⟨h.gro.mut e fun x hx hm => hM x hm (h.new x hx), h.chg.trans e, h.new⟩
theorem GroN.isSlc (h : GroN f sz M s0 s v l) : v ≠ .emp ∧ v.one = true := by
 rcases h.gro with ⟨_, a, rfl⟩ | ⟨la, rfl, _⟩ <;> exact ⟨(fun e => by cases e), rfl⟩
theorem GroN.sl (hf : ∀ x, (f x).length = sz) (h : GroN f sz M s0 s v l) : Sl f sz s v l := h.gro.sl hf
end
section
variable {T : TT} {t el : TypeId} {sz by_ : Nat} (ht : SlTy T t el sz by_)
include ht
theorem GroN.appendS {α : Type} {f : α → List AV} (hf : ∀ x, (f x).length = sz) (hone : ∀ x, (f x).all AV.one = true) {M : List Nat} {s0 s : AS} (hw : WFs s) {v x : AV} {l xs : List α} (h : GroN f sz M s0 s v l) (hM : ∀ x ∈ M, s.h x ≠ none) (hx : Sl f sz s x xs) (hb : l.length + xs.length ≤ 2 ^ 30) {xt : TypeId} (hxt : T.und xt = some (.slice el))
  {K : AV → AS → Prop} (hK : ∀ v' s', GroN f sz M s0 s' v' (l ++ xs) → WFs s' → Mut (labOf v) s s' → K v' s') : Bd2 (aappend T t xt v x s) K := by
 obtain ⟨v', s', h1, h2, h3, h4, h5⟩ := Gro.append ht hf hone hw h.gro hx hb hxt
 refine ⟨v', s', h1, hK v' s' ⟨h2, ⟨fun y o hyM ho => h3.1 y o (fun hm => ?_) (h.chg.1 y o hyM ho), Nat.le_trans h.chg.2 h3.2⟩, fun la hla => ?_⟩ h4 h3⟩
 ·rw [h.new y hm] at ho; cases ho
 ·rcases h5 la hla with h6 | h6
  ·exact h.new la h6
  ·exact h.chg.fresh hM h6
theorem GroN.append1 {α : Type} {f : α → List AV} (hf : ∀ x, (f x).length = sz) (hone : ∀ x, (f x).all AV.one = true) {M : List Nat} {s0 s : AS} (hw : WFs s) {v : AV} {l : List α} (h : GroN f sz M s0 s v l) (hM : ∀ x ∈ M, s.h x ≠ none) (x : α) (hb : l.length + 1 ≤ 2 ^ 30)
  {K : AV → AS → Prop} (hK : ∀ v' s', GroN f sz M s0 s' v' (l ++ [x]) → WFs s' → Mut (labOf v) s s' → K v' s') : RdL (absl T t 1 [(0, .agg (f x))]) fun g => NewQ (.cells g 0 false) s fun la s1 => Bd2 (aappend T t t v (.slc (some (la, 0)) 1 1 true) s1) K := by
 refine ⟨_, absl_agg ht (hf x) (hone x), NewQ.intro hw rfl fun la s1 F => ?_⟩
 have hM1 : ∀ x ∈ M, s1.h x ≠ none := fun x hx he => hM x hx (F.ext.none he)
 refine GroN.appendS ht hf hone F.wf (h.step F.ext) hM1 (xs := [x]) (SlAt.mk F.own.at (by simp [hf]) (by simp [List.take_of_length_le, hf])) (by simpa using hb) ht.u fun v' s' g w m => hK v' s' g w (F.ext.mut.trans m)
theorem GroN.append1s {α : Type} {f : α → AV} (hsz : sz = 1) (hone : ∀ x, (f x).one = true) {M : List Nat} {s0 s : AS} (hw : WFs s) {v : AV} {l : List α} (h : GroN (fun x => [f x]) sz M s0 s v l) (hM : ∀ x ∈ M, s.h x ≠ none) (x : α) (hb : l.length + 1 ≤ 2 ^ 30)
  {K : AV → AS → Prop} (hK : ∀ v' s', GroN (fun x => [f x]) sz M s0 s' v' (l ++ [x]) → WFs s' → Mut (labOf v) s s' → K v' s') : RdL (absl T t 1 [(0, f x)]) fun g => NewQ (.cells g 0 false) s fun la s1 => Bd2 (aappend T t t v (.slc (some (la, 0)) 1 1 true) s1) K := by
 refine ⟨_, absl_one ht hsz (hone x), NewQ.intro hw rfl fun la s1 F => ?_⟩
 have hM1 : ∀ x ∈ M, s1.h x ≠ none := fun x hx he => hM x hx (F.ext.none he)
 refine GroN.appendS ht (by simp [hsz]) (by simp [hone]) F.wf (h.step F.ext) hM1 (xs := [x]) (SlAt.mk F.own.at (by simp [hsz]) (by simp [hsz])) (by simpa using hb) ht.u fun v' s' g w m => hK v' s' g w (F.ext.mut.trans m)
end
theorem qstore_one {T : TT} {t : TypeId} {s : AS} {l off : Nat} {v : AV} {K : AS → Prop} (hv : v.one = true) (hs : T.siz t = some 1) (h : StQ (awr s l off [v]) K) : qstore T t s l off v K := by
 unfold qstore
 split
 ·cases hv
 ·cases hv
 ·cases hv
 ·rw [hs]; exact h
theorem NewSt {zc g : List AV} {n : Nat} {s : AS} {K : Nat → AS → Prop} (hw : WFs s) (hg : g.length = n) (hz : zc.length = n) (h1 : g.all AV.one = true) (h : ∀ l s', Fresh s s' l (.cells g 0 false) → K l s') :
  NewQ (.cells zc 0 false) s fun l s1 => OkC (some n) g (StQ (awr s1 l 0 g) fun s2 => K l s2) := by
 refine NewQ.intro hw rfl fun l s1 F => ⟨⟨h1, by rw [hg]⟩, StQ.own F.wf F.own (by omega) fun s2 P => h l s2 ?_⟩
 have hat : s2.h l = some (.cells g 0 false) := by rw [P.at, wrs_all0 (by omega)]
 exact ⟨hat, ⟨fun x o ho => by rw [P.eq x (F.ne ho)]; exact F.ext.1 x o ho, by rw [P.nl]; exact F.ext.2⟩, P.wf, F.no, fun x hx => by rw [P.eq x hx, F.eq x hx], by rw [P.nl]; exact F.nl, by rw [P.st, F.st]⟩
end Go.Am
end

section
namespace Go.Am
def triples (d : Option TypeDesc) : Option (List (Bool × TypeId × Nat)) := match d with
 | some (.struct fs) => some (fs.toList.map fun f => (f.name == "_", f.type, f.offset))
 | _ => none
def eqTri (T : TT) (eqv : TypeId → AV → AV → Option Bool) (xs ys : List AV) : List (Bool × TypeId × Nat) → Option Bool
 | [] => some true
 | f :: fs => bif f.1 then eqTri T eqv xs ys fs else
   (part T f.2.1 xs f.2.2).bind fun a => (part T f.2.1 ys f.2.2).bind fun b =>
    match eqv f.2.1 a b with
    | some true => eqTri T eqv xs ys fs
    | r => r
theorem eqFields_tri {T : TT} {eqv : TypeId → AV → AV → Option Bool} {xs ys : List AV} : ∀ (fs : List Field), eqFields T eqv xs ys fs = eqTri T eqv xs ys (fs.map fun f => (f.name == "_", f.type, f.offset))
 | [] => rfl
 | f :: fs => by
  simp only [eqFields, List.map_cons, eqTri]
  have ih := eqFields_tri (T := T) (eqv := eqv) (xs := xs) (ys := ys) fs
  rw [ih]
  by_cases h : f.name = "_"
  ·simp [h]
  ·have : (f.name == "_") = false := by simpa using h
   simp only [ne_eq, h, not_false_eq_true, if_true, this, cond_false]
   first
    | done
    | (congr 1; done)
    | (congr 1; funext a; congr 1; funext b; cases eqv f.type a b with
     | none => rfl
     | some x => cases x <;> rfl)
theorem aeq_tri {T : TT} {t : TypeId} {l : List (Bool × TypeId × Nat)} (h : triples (T.und t) = some l) (he : T.eqt t = true) (d : Nat) (xs ys : List AV) : aeq T (d + 1) t (.agg xs) (.agg ys) = eqTri T (aeq T d) xs ys l := by
 unfold triples at h
 split at h
 ·rename_i fs hu
  obtain rfl := Option.some.inj h
  simp only [aeq, hu, he, if_true, eqFields_tri]
 ·cases h
theorem aeqInt {T : TT} {t : TypeId} {k k' : IntKind} (hu : T.und t = some (.int k)) (d : Nat) (a b : Int) : aeq T (d + 1) t (.int k' a) (.int k' b) = some (a == b) := by simp [aeq, hu]
theorem aeqStr {T : TT} {t : TypeId} (hu : T.und t = some .string) (d : Nat) (a b : List UInt8) : aeq T (d + 1) t (.str a) (.str b) = some (a == b) := by simp [aeq, hu]
theorem part_s {T : TT} {t : TypeId} (h : T.agg t = some false) (cs : List AV) (o : Nat) : part T t cs o = cs[o]? := by simp [part, h]
end Go.Am
namespace Go.Am
/-! ### a struct built of its parts -/
def places (T : TT) (t : TypeId) : Option (List (Nat × Nat)) := match T.und t with
 | some (.struct fs) => if fs.all (fun f => (T.siz f.type).isSome) then some (fs.toList.map fun f => (f.offset, (T.siz f.type).getD 0)) else none
 | _ => none
theorem wrs_mid (pre mid mid' post : List AV) (h : mid'.length = mid.length) : wrs (pre ++ mid ++ post) pre.length mid' = pre ++ mid' ++ post := by
 apply List.ext_getElem?
 intro k
 rw [wrs_get _ _ _ _ (by simp; omega)]
 by_cases h1 : k < pre.length
 ·rw [if_neg (by omega), List.append_assoc, List.append_assoc, List.getElem?_append_left h1, List.getElem?_append_left h1]
 ·by_cases h2 : k < pre.length + mid'.length
  ·rw [if_pos (by omega), List.append_assoc, List.getElem?_append_right (by omega), List.getElem?_append_left (by omega)]
  ·rw [if_neg (by omega), List.append_assoc, List.append_assoc, List.getElem?_append_right (by omega), List.getElem?_append_right (by omega), List.getElem?_append_right (by omega), List.getElem?_append_right (by omega), h]
end Go.Am
end

section
namespace Go.Minster
def el (l : List Dot) (i : Nat) : Dot := l.getD i ⟨0, 0⟩
theorem el_get {l : List Dot} {i : Nat} (h : i < l.length) : l[i]? = some (el l i) := by
 rw [el, List.getD_eq_getElem?_getD, List.getElem?_eq_getElem h]; rfl
theorem el_set {l : List Dot} {i k : Nat} {x : Dot} (h : i < l.length) : el (l.set i x) k = if k = i then x else el l k := by
 simp only [el, List.getD_eq_getElem?_getD, List.getElem?_set]
 by_cases hk : i = k
 ·subst hk; simp [h]
 ·rw [if_neg hk, if_neg (fun e => hk e.symm)]
def swp (l : List Dot) (i j : Nat) : List Dot := (l.set i (el l j)).set j (el l i)
theorem swp_len (l : List Dot) (i j : Nat) : (swp l i j).length = l.length := by simp [swp]
theorem el_swp {l : List Dot} {i j : Nat} (hi : i < l.length) (hj : j < l.length) (k : Nat) : el (swp l i j) k = if k = j then el l i else if k = i then el l j else el l k := by
 unfold swp
 rw [el_set (by simpa using hj), el_set hi]
def Dot.le (x y : Dot) : Prop := y.lt x = false
theorem Dot.le_iff {x y : Dot} : x.le y ↔ x.r < y.r ∨ x.r = y.r ∧ x.c ≤ y.c := by
 unfold Dot.le
 rw [← Bool.not_eq_true, Dot.lt_iff]; omega
theorem Dot.le_trans {a b c : Dot} (h : a.le b) (h' : b.le c) : a.le c := by rw [Dot.le_iff] at *; omega
theorem Dot.lt_le {a b : Dot} (h : a.lt b = true) : a.le b := by rw [Dot.lt_iff] at h; rw [Dot.le_iff]; omega
inductive Sw (a b : Nat) : List Dot → List Dot → Prop
 | refl (l : List Dot) : Sw a b l l
 | step {l l' : List Dot} {i j : Nat} (h : Sw a b l l') (hi : a ≤ i ∧ i < b) (hj : a ≤ j ∧ j < b) (hb : b ≤ l'.length) : Sw a b l (swp l' i j)
def Srt (l : List Dot) (a b : Nat) : Prop := ∀ i j, a ≤ i → i < j → j < b → (el l i).le (el l j)
theorem ins_step {l : List Dot} {a i j : Nat} (hl : i < l.length) (hj : a < j) (hji : j ≤ i) (hlt : (el l j).lt (el l (j - 1)) = true)
  (h : ∀ p q, a ≤ p → p < q → q ≤ i → q ≠ j → (el l p).le (el l q)) : ∀ p q, a ≤ p → p < q → q ≤ i → q ≠ j - 1 → (el (swp l j (j - 1)) p).le (el (swp l j (j - 1)) q) := by
 intro p q hp hpq hq hne
 rw [el_swp (by omega) (by omega), el_swp (by omega) (by omega), if_neg hne]
 by_cases hqj : q = j
 ·rw [if_pos hqj]
  by_cases hp1 : p = j - 1
  ·rw [if_pos hp1]; exact Dot.lt_le hlt
  ·rw [if_neg hp1, if_neg (by omega)]; exact h p (j - 1) hp (by omega) (by omega) (by omega)
 ·rw [if_neg hqj]
  by_cases hp1 : p = j - 1
  ·rw [if_pos hp1]; exact h j q (by omega) (by omega) hq hqj
  ·rw [if_neg hp1]
   by_cases hpj : p = j
   ·rw [if_pos hpj]; exact h (j - 1) q (by omega) (by omega) hq hqj
   ·rw [if_neg hpj]; exact h p q hp hpq hq hqj
theorem ins_end {l : List Dot} {a i j : Nat} (hj : a ≤ j) (hji : j ≤ i) (hle : j = a ∨ (el l (j - 1)).le (el l j))
  (h : ∀ p q, a ≤ p → p < q → q ≤ i → q ≠ j → (el l p).le (el l q)) : Srt l a (i + 1) := by
 intro p q hp hpq hq
 by_cases hqj : q = j
 ·subst hqj
  rcases hle with rfl | hle
  ·omega
  ·by_cases hp1 : p = q - 1
   ·rw [hp1]; exact hle
   ·exact Dot.le_trans (h p (q - 1) hp (by omega) (by omega) (by omega)) hle
 ·exact h p q hp hpq (by omega) hqj
end Go.Minster
end

section
namespace Go.Minster2
open Go.Minster
end Go.Minster2
end

section
namespace Go.Minster2
open Go.Minster Go.Am
theorem bytesLt_irrefl : ∀ a : List UInt8, bytesLt a a = false
 | [] => rfl
 | a :: x => by simp [bytesLt, bytesLt_irrefl x]
theorem bytesLt_trans : ∀ {a b c : List UInt8}, bytesLt a b = true → bytesLt b c = true → bytesLt a c = true
 | _, [], _, h, _ => by cases ‹List UInt8› <;> simp [bytesLt] at h
 | _, _ :: _, [], _, h => by simp [bytesLt] at h
 | [], _ :: _, _ :: _, _, _ => rfl
 | a :: x, b :: y, c :: z, h, h' => by
  simp only [bytesLt, Bool.or_eq_true, Bool.and_eq_true, decide_eq_true_eq, beq_iff_eq] at h h' ⊢
  rcases h with h | ⟨rfl, h⟩
  ·rcases h' with h' | ⟨rfl, h'⟩
   ·exact .inl (UInt8.lt_trans h h')
   ·exact .inl h
  ·rcases h' with h' | ⟨rfl, h'⟩
   ·exact .inl h'
   ·exact .inr ⟨rfl, bytesLt_trans h h'⟩
theorem bytesLt_total : ∀ a b : List UInt8, bytesLt a b = true ∨ a = b ∨ bytesLt b a = true
 | [], [] => .inr (.inl rfl)
 | [], _ :: _ => .inl rfl
 | _ :: _, [] => .inr (.inr rfl)
 | a :: x, b :: y => by
  simp only [bytesLt, Bool.or_eq_true, Bool.and_eq_true, decide_eq_true_eq, beq_iff_eq, List.cons.injEq]
  rcases bytesLt_total x y with h | h | h
  ·rcases Nat.lt_trichotomy a.toNat b.toNat with g | g | g
   ·exact .inl (.inl g)
   ·exact .inl (.inr ⟨UInt8.toNat_inj.1 g, h⟩)
   ·exact .inr (.inr (.inl g))
  ·rcases Nat.lt_trichotomy a.toNat b.toNat with g | g | g
   ·exact .inl (.inl g)
   ·exact .inr (.inl ⟨UInt8.toNat_inj.1 g, h⟩)
   ·exact .inr (.inr (.inl g))
  ·rcases Nat.lt_trichotomy a.toNat b.toNat with g | g | g
   ·exact .inl (.inl g)
   ·exact .inr (.inr (.inr ⟨(UInt8.toNat_inj.1 g).symm, h⟩))
   ·exact .inr (.inr (.inl g))
end Go.Minster2
end

section
namespace Go.Trail
structure Hop where
 kind : Int
 act : Int
 region : Int
 src : Int
 code : Int
 device : List UInt8
 deriving DecidableEq
theorem inc_eq : ∀ (a b : List Int), a.Pairwise (· < ·) → b.Pairwise (· < ·) → (∀ x, x ∈ a ↔ x ∈ b) → a = b
 | [], [], _, _, _ => rfl
 | [], y :: b, _, _, h => by have := (h y).2 (by simp); simp at this
 | x :: a, [], _, _, h => by have := (h x).1 (by simp); simp at this
 | x :: a, y :: b, ha, hb, h => by
  rw [List.pairwise_cons] at ha hb
  have hxy : x = y := by
   have h1 := (h x).1 (by simp)
   have h2 := (h y).2 (by simp)
   rw [List.mem_cons] at h1 h2
   rcases h1 with h1 | h1
   ·exact h1
   ·rcases h2 with h2 | h2
    ·exact h2.symm
    ·have := hb.1 x h1
     have := ha.1 y h2
     omega
  subst hxy
  congr 1
  refine inc_eq a b ha.2 hb.2 fun z => ?_
  constructor
  ·intro hz
   have h1 := (h z).1 (by simp [hz])
   rw [List.mem_cons] at h1
   rcases h1 with rfl | h1
   ·have := ha.1 z hz; omega
   ·exact h1
  ·intro hz
   have h1 := (h z).2 (by simp [hz])
   rw [List.mem_cons] at h1
   rcases h1 with rfl | h1
   ·have := hb.1 z hz; omega
   ·exact h1
def insR : List (Int × Int) → Int × Int → List (Int × Int)
 | [], x => [x]
 | y :: o, x => if y.1 < x.1 then y :: insR o x else if y.1 = x.1 then y :: o else x :: y :: o
def stepR (r0 : Int) (g : Hop → Int) (o : List (Int × Int)) (h : Hop) : List (Int × Int) :=
 if h.kind ≠ 2 ∨ h.region = r0 then o else insR o (h.region, g h)
theorem insR_mem : ∀ (o : List (Int × Int)) (x e : Int × Int), o.Pairwise (fun a b => a.1 < b.1) → (e ∈ insR o x ↔ e ∈ o ∨ (e = x ∧ ∀ y ∈ o, y.1 ≠ x.1))
 | [], x, e, _ => by simp [insR]
 | y :: o, x, e, h => by
  rw [List.pairwise_cons] at h
  unfold insR
  split
  ·rename_i hlt
   rw [List.mem_cons, insR_mem o x e h.2]
   simp only [List.mem_cons, forall_eq_or_imp]
   have : y.1 ≠ x.1 := by omega
   simp only [this, ne_eq, not_false_eq_true, true_and]
   exact or_assoc.symm
  ·rename_i hge
   split
   ·rename_i heq
    simp only [List.mem_cons, forall_eq_or_imp, ne_eq, heq, not_true_eq_false, false_and, and_false, or_false]
   ·rename_i hne
    simp only [List.mem_cons, forall_eq_or_imp]
    constructor
    ·rintro (rfl | rfl | h1)
     ·refine .inr ⟨rfl, hne, fun z hz => ?_⟩
      have := h.1 z hz; omega
     ·exact .inl (.inl rfl)
     ·exact .inl (.inr h1)
    ·rintro ((rfl | h1) | ⟨rfl, _⟩)
     ·exact .inr (.inl rfl)
     ·exact .inr (.inr h1)
     ·exact .inl rfl
theorem insR_inc : ∀ (o : List (Int × Int)) (x : Int × Int), o.Pairwise (fun a b => a.1 < b.1) → (insR o x).Pairwise (fun a b => a.1 < b.1)
 | [], x, _ => by simp [insR]
 | y :: o, x, h => by
  have h' := h
  rw [List.pairwise_cons] at h
  unfold insR
  split
  ·rename_i hlt
   rw [List.pairwise_cons]
   refine ⟨fun z hz => ?_, insR_inc o x h.2⟩
   rcases (insR_mem o x z h.2).1 hz with h1 | ⟨rfl, _⟩
   ·exact h.1 z h1
   ·exact hlt
  ·split
   ·exact h'
   ·rw [List.pairwise_cons]
    refine ⟨fun z hz => ?_, h'⟩
    rcases List.mem_cons.1 hz with rfl | hz
    ·omega
    ·have := h.1 z hz; omega
structure SameF (f : Int → Option Int) (o : List (Int × Int)) : Prop where
 inc : o.Pairwise fun a b => a.1 < b.1
 mem : ∀ e : Int × Int, e ∈ o ↔ f e.1 = some e.2
theorem SameF.nil : SameF (fun _ => none) [] := ⟨by simp, by simp⟩
def newH (r0 : Int) (f : Int → Option Int) (h : Hop) : Prop := h.kind = 2 ∧ f h.region = none ∧ h.region ≠ r0
theorem SameF.add {r0 : Int} {g : Hop → Int} {f f' : Int → Option Int} {o : List (Int × Int)} (h : SameF f o) (x : Hop) (hn : newH r0 f x) (hf : ∀ k, f' k = if k = x.region then some (g x) else f k) : SameF f' (stepR r0 g o x) := by
 obtain ⟨hk, hl, hr⟩ := hn
 unfold stepR
 rw [if_neg (by simp [hk, hr])]
 refine ⟨insR_inc _ _ h.inc, fun e => ?_⟩
 rw [insR_mem _ _ _ h.inc, hf]
 have hno : ∀ y ∈ o, y.1 ≠ x.region := fun y hy he => by
  have := (h.mem y).1 hy
  rw [he, hl] at this; cases this
 by_cases he : e.1 = x.region
 ·rw [if_pos he]
  constructor
  ·rintro (h1 | ⟨rfl, _⟩)
   ·exact absurd he (hno e h1)
   ·rfl
  ·intro h1
   refine .inr ⟨?_, hno⟩
   obtain ⟨e1, e2⟩ := e
   simp only [Option.some.injEq] at he h1 ⊢
   rw [he, ← h1]
 ·rw [if_neg he, h.mem]
  constructor
  ·rintro (h1 | ⟨rfl, _⟩)
   ·exact h1
   ·exact absurd rfl he
  ·exact .inl
theorem SameF.keep {r0 : Int} {g : Hop → Int} {f : Int → Option Int} {o : List (Int × Int)} (h : SameF f o) (x : Hop) (hn : ¬ newH r0 f x) : SameF f (stepR r0 g o x) := by
 unfold stepR
 by_cases hc : x.kind ≠ 2 ∨ x.region = r0
 ·rw [if_pos hc]; exact h
 ·rw [if_neg hc]
  have hk : x.kind = 2 := by
   rcases Decidable.em (x.kind = 2) with h1 | h1
   ·exact h1
   ·exact absurd (.inl h1) hc
  have hr : x.region ≠ r0 := fun h1 => hc (.inr h1)
  have hl : f x.region ≠ none := fun h1 => hn ⟨hk, h1, hr⟩
  refine ⟨insR_inc _ _ h.inc, fun e => ?_⟩
  rw [insR_mem _ _ _ h.inc, ← h.mem]
  constructor
  ·rintro (h1 | ⟨rfl, h2⟩)
   ·exact h1
   ·cases hv : f x.region with
    | none => exact absurd hv hl
    | some v => exact absurd rfl (h2 (x.region, v) ((h.mem _).2 hv))
  ·exact .inl
theorem insR_len : ∀ (o : List (Int × Int)) (x : Int × Int), (insR o x).length ≤ o.length + 1
 | [], x => by simp [insR]
 | y :: o, x => by
  unfold insR
  split
  ·have := insR_len o x; simp; omega
  ·split <;> simp
theorem stepR_len (r0 : Int) (g : Hop → Int) (o : List (Int × Int)) (x : Hop) : (stepR r0 g o x).length ≤ o.length + 1 := by
 unfold stepR
 split
 ·omega
 ·exact insR_len _ _
theorem foldR_len (r0 : Int) (g : Hop → Int) : ∀ (l : List Hop) (o : List (Int × Int)), (l.foldl (stepR r0 g) o).length ≤ o.length + l.length
 | [], o => by simp
 | x :: l, o => by
  have := foldR_len r0 g l (stepR r0 g o x)
  have := stepR_len r0 g o x
  simp only [List.foldl_cons, List.length_cons]; omega
theorem SameF.sorted {f : Int → Option Int} {o : List (Int × Int)} (h : SameF f o) {ks : List Int} (hn : ks.Nodup) (hm : ∀ k, k ∈ ks ↔ f k ≠ none) (hs : ks.Pairwise (· ≤ ·)) : ks.map (fun k => (k, (f k).getD 0)) = o := by
 have hlt : ks.Pairwise (· < ·) := by
  have := hs.and hn
  exact this.imp fun ⟨h1, h2⟩ => by omega
 have ho : (o.map (·.1)).Pairwise (· < ·) := by
  rw [List.pairwise_map]; exact h.inc
 have hk : ks = o.map (·.1) := by
  refine inc_eq _ _ hlt ho fun x => ?_
  rw [hm]
  simp only [List.mem_map]
  constructor
  ·intro hx
   cases hv : f x with
   | none => exact absurd hv hx
   | some v => exact ⟨(x, v), (h.mem _).2 hv, rfl⟩
  ·rintro ⟨e, he, rfl⟩
   rw [(h.mem e).1 he]; simp
 rw [hk, List.map_map]
 have : ∀ e ∈ o, ((fun k => (k, (f k).getD 0)) ∘ (·.1)) e = e := by
  intro e he
  simp only [Function.comp]
  rw [(h.mem e).1 he]
  rfl
 exact (List.map_congr_left this).trans (List.map_id _)
def pubOf (l : List Hop) : Option Hop := l.find? fun h => h.kind == 1
def gapOf (p h : Hop) : Int := Go.IntKind.wrap .i64 (h.act - p.act)
def spread (l : List Hop) : List (Int × Int) := match pubOf l with
 | none => []
 | some p => l.foldl (stepR p.region (gapOf p)) []
def isF (k r : Int) (h : Hop) : Bool := h.kind == k && (r == 0 || h.region == r)
def first (l : List Hop) (k r : Int) : Int × Bool := match l.find? (isF k r) with
 | none => (0, false)
 | some h => (h.act, true)
theorem find_at {α : Type} {P : α → Bool} : ∀ {l : List α} {k : Nat} {x : α}, l[k]? = some x → P x = true → (∀ j y, j < k → l[j]? = some y → P y = false) → l.find? P = some x
 | [], k, x, h, _, _ => by simp at h
 | y :: l, 0, x, h, hp, _ => by
  simp only [List.getElem?_cons_zero, Option.some.injEq] at h
  subst h
  rw [List.find?_cons_of_pos hp]
 | y :: l, k + 1, x, h, hp, hall => by
  rw [List.find?_cons_of_neg (by rw [hall 0 y (by omega) rfl]; simp)]
  exact find_at (by simpa using h) hp fun j z hj hz => hall (j + 1) z (by omega) (by simpa using hz)
theorem find_none {α : Type} {P : α → Bool} {l : List α} (h : l.any P = false) : l.find? P = none := by
 rw [List.find?_eq_none]
 intro x hx
 have := List.any_eq_false.1 h x hx
 simpa using this
end Go.Trail
end

section
namespace Go.Am
section
variable {T : TT} {t el : TypeId} {sz : Nat} (hu : T.und t = some (.slice el)) (hs : T.siz el = some sz)
include hu hs
theorem SlAt.upto {s : AS} {v : AV} {n : Nat} {cs : List AV} (h : SlAt s v sz cs n) (hv : v ≠ .emp) {i : Nat} (hi : i ≤ n) (k : IntKind) : ∃ v', aslice T t v none (some (.int k (i : Nat))) none = some v' ∧ SlAt s v' sz (cs.take (i * sz)) i := by
 rcases h with ⟨rfl, _⟩ | ⟨a, c, e, rfl, ⟨hl, hnc⟩, h3⟩
 ·exact absurd rfl hv
 ·have hab : abounds n c none (some (.int k (i : Nat))) none = some (0, i, c) := by
   have : (0 : Int) ≤ (i : Int) ∧ (i : Int) ≤ ((c : Nat) : Int) := by omega
   simp [abounds, aopt, ahigh, abound1, this, hnc, show i ≤ c by omega]
  have hlen : (cs.take (i * sz)).length = i * sz := by
   rw [List.length_take, hl, Nat.min_eq_left (Nat.mul_le_mul_right _ hi)]
  have h0 : i = 0 → cs.take (i * sz) = [] := fun h => List.length_eq_zero_iff.1 (by rw [hlen, h, Nat.zero_mul])
  simp only [aslice, hu, hs, Option.bind_some, hab]
  rcases a with _ | ⟨b, o⟩
  ·refine ⟨_, rfl, .inr ⟨_, _, _, rfl, ⟨by simpa using hlen, by omega⟩, .inl ?_⟩⟩
   rcases h3 with h3 | ⟨la, o, C, h, _⟩
   ·omega
   ·cases h
  ·have key : ∀ o' c' e', i ≤ c' → (i = 0 ∨ o' = o) → SlAt s (.slc (some (b, o')) i c' e') sz (cs.take (i * sz)) i := by
    intro o' c' e' hc' ho
    refine .inr ⟨_, _, _, rfl, ⟨hlen, hc'⟩, ?_⟩
    by_cases hz : i = 0
    ·exact .inl hz
    ·rcases ho with ho | rfl
     ·exact absurd ho hz
     ·rcases h3 with h3 | ⟨la, o2, C, h, hC, hcs⟩
      ·omega
      ·simp only [Option.some.injEq, Prod.mk.injEq] at h
       obtain ⟨rfl, rfl⟩ := h
       refine .inr ⟨b, _, C, rfl, hC, ?_⟩
       rw [← hcs, List.take_take, Nat.min_eq_left (Nat.mul_le_mul_right _ hi)]
   by_cases hm : c = 0
   ·subst hm
    obtain rfl : i = 0 := by omega
    cases e
    ·exact ⟨.emp, by simp, .inl ⟨rfl, rfl, by simp⟩⟩
    ·exact ⟨.slc (some (b, o)) 0 0 true, by simp, key _ _ _ (by omega) (.inl rfl)⟩
   ·cases e
    ·exact ⟨.slc (some (b, o)) i c false, by simp [hm], key _ _ _ (by omega) (.inr rfl)⟩
    ·exact ⟨.slc (some (b, o)) i c true, by simp [hm], key _ _ _ (by omega) (.inr rfl)⟩
end
section
variable {T : TT} {t el : TypeId} {sz : Nat} (hu : T.und t = some (.slice el)) (hs : T.siz el = some sz)
include hu hs
end
theorem Sl.upto {α : Type} {f : α → List AV} {sz : Nat} {s : AS} {v : AV} {l : List α} {T : TT} {t el : TypeId} (hf : ∀ x, (f x).length = sz) (hu : T.und t = some (.slice el)) (hs : T.siz el = some sz) (h : Sl f sz s v l) (hv : v ≠ .emp) {i : Nat} (hi : i ≤ l.length) (k : IntKind) : ∃ v', aslice T t v none (some (.int k (i : Nat))) none = some v' ∧ Sl f sz s v' (l.take i) := by
 obtain ⟨v', h1, h2⟩ := SlAt.upto hu hs h hv hi k
 refine ⟨v', h1, ?_⟩
 rw [flat_take hf] at h2
 have : (l.take i).length = i := by rw [List.length_take]; omega
 unfold Sl
 rw [this]; exact h2
end Go.Am
end
