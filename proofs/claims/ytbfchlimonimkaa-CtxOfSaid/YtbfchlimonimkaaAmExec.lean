/-
  The abstract machine Am, run: a function that does what the rules say, and that what it comes to is what the model does.
-/
import Derived.Test.YtbfchlimonimkaaAmPre
set_option linter.unusedSectionVars false
set_option linter.unusedSimpArgs false
set_option linter.unusedVariables false
namespace Go.Am

def xfr (t : Tr AV) : Fr := fun x => (t.get x).getD .undef
theorem xfr_set (t : Tr AV) (d : Nat) (v : AV) : xfr (t.set d v) = upd (xfr t) d v := by
  funext x
  simp only [xfr, upd, Tr.get_set]
  split <;> rfl
def xupd (t : Tr AV) (d : Option Nat) (v : AV) : Tr AV := match d with | some d => t.set d v | none => t
theorem xfr_xupd (t : Tr AV) (d : Option Nat) (v : AV) : xfr (xupd t d v) = updO (xfr t) d v := by
  cases d with
  | none => rfl
  | some d => exact xfr_set t d v

abbrev XCall := FuncId → List AV → AS → Option (AV × AS)

def xop1 (T : TT) (call : XCall) (o : Oper) (f : Fr) (s : AS) : Option (AV × AS) :=
  match acallee f o.op with
  | some (g, args) => call g args s
  | none => aop T o.op (aev f) s

def xops (T : TT) (call : XCall) (n : Nat) (ops : Array Oper) : List Oper → Tr AV → AS → Option (Tr AV × AS)
  | [], f, s => some (f, s)
  | o :: os, f, s =>
    if dstOk n o.dst then
      match awanted ops (xfr f) o with
      | none => none
      | some false => xops T call n ops os (xupd f o.dst .undef) s
      | some true => match xop1 T call o (xfr f) s with
        | some (v, s') => xops T call n ops os (xupd f o.dst v) s'
        | none => none
    else none

/-- what calls come to is so -/
def CallOk (P : Program) (call : XCall) : Prop := ∀ g args s v s', call g args s = some (v, s') → ACalls P g args s fun v2 s2 => v2 = v ∧ s2 = s'

section
variable {P : Program} {T : TT} (hT : TT.Ok P T) {call : XCall} (hcall : CallOk P call)
include hT hcall

theorem xop1_sound {o : Oper} {f : Fr} {s s' : AS} {v : AV} (h : xop1 T call o f s = some (v, s')) : vcV P T o f s fun v2 s2 => v2 = v ∧ s2 = s' := by
  unfold xop1 at h
  unfold vcV
  split at h
  · rename_i g args hc; rw [hc]; exact hcall _ _ _ _ _ h
  · rename_i hc; rw [hc]; exact ⟨v, s', h, rfl, rfl⟩

theorem xops_sound {n : Nat} {ops : Array Oper} {K : Fr → AS → Prop} : ∀ (os : List Oper) (f : Tr AV) (s : AS) (f' : Tr AV) (s' : AS), xops T call n ops os f s = some (f', s') → K (xfr f') s' → vcOps P T n ops os (xfr f) s K
  | [], f, s, f', s', h, hk => by
    simp only [xops, Option.some.injEq, Prod.mk.injEq] at h
    obtain ⟨rfl, rfl⟩ := h
    exact hk
  | o :: os, f, s, f', s', h, hk => by
    simp only [xops] at h
    split at h
    · rename_i hd
      simp only [vcOps]
      split at h
      · cases h
      · rename_i hw
        rw [hw]
        exact ⟨hd, by rw [← xfr_xupd]; exact xops_sound os _ _ _ _ h hk⟩
      · rename_i hw
        rw [hw]
        split at h
        · rename_i v s1 h1
          exact vcOp_of_vcV hd (xop1_sound hT hcall h1) fun v2 s2 ⟨e1, e2⟩ => by
            subst e1 e2
            rw [← xfr_xupd]
            exact xops_sound os _ _ _ _ h hk
        · cases h
    · cases h
end

/-! ### A region that draws its order -/

/-- an operation that needs no heap -/
def pureOp : Op → Bool
  | .move _ | .assign _ | .pick .. | .nilCheck _ | .unOp .. | .fieldAddr .. | .field .. | .indexAddr .. | .index .. | .slice .. | .extract .. | .binOp .. => true
  | _ => false

def isE {α : Type} : Tr α → Bool
  | .E => true
  | _ => false

/-- the layers that an operation sees -/
def xlay (bs : List Nat) (i : Nat) : List (Nat × Tr AO) → List (Tr AO)
  | [] => []
  | (k, t) :: ds => if (bs.getD i 0).testBit k then t :: xlay bs i ds else xlay bs i ds

def xview (s : AS) (bs : List Nat) (m i : Nat) (op : Op) (ds : List (Nat × Tr AO)) : AS :=
  { lay := if pureOp op then [] else xlay bs i ds ++ s.cur :: s.lay, cur := .E, nl := s.nl + i * s.st, st := m * s.st }

def xq (T : TT) (call : XCall) (n : Nat) (ops : Array Oper) (bs : List Nat) (m : Nat) (s : AS) : List Nat → Tr AV → List (Nat × Tr AO) → Nat → Option (Tr AV × List (Nat × Tr AO) × Nat)
  | [], f, ds, mx => some (f, ds, mx)
  | i :: is, f, ds, mx =>
    match ops[i]? with
    | none => none
    | some o =>
      if dstOk n o.dst then
        match awanted ops (xfr f) o with
        | none => none
        | some false => xq T call n ops bs m s is (xupd f o.dst .undef) ds mx
        | some true => match xop1 T call o (xfr f) (xview s bs m i o.op ds) with
          | some (v, s') => xq T call n ops bs m s is (xupd f o.dst v) (if isE s'.cur then ds else (i, s'.cur) :: ds) (max mx s'.nl)
          | none => none
      else none

def Tr.union {α : Type} : Tr α → Tr α → Tr α
  | t, .E => t
  | .E, t => t
  | .N l v r, .N l' v' r' => .N (l.union l') (match v' with | some x => some x | none => v) (r.union r')

theorem Tr.get_union {α : Type} : ∀ (a b : Tr α) (n : Nat), (a.union b).get n = match b.get n with | some x => some x | none => a.get n
  | a, .E, n => by cases a <;> simp [Tr.union, Tr.get]
  | .E, .N l v r, n => by simp only [Tr.union]; cases (Tr.N l v r).get n <;> rfl
  | .N l v r, .N l' v' r', n => by
    simp only [Tr.union]
    rw [Tr.get_step, Tr.get_step (.N l v r), Tr.get_step (.N l' v' r')]
    simp only [Tr.val, Tr.left, Tr.right]
    split
    · cases v' <;> rfl
    · split
      · rw [Tr.get_union l l']
      · rw [Tr.get_union r r']

/-- where the part begins whose operations wait for all ahead of them -/
def tailFrom (bs : List Nat) : Nat → Nat
  | 0 => 0
  | k + 1 => if Nat.beq (Nat.land (bs.getD k 0) (2 ^ k - 1)) (2 ^ k - 1) then tailFrom bs k else k + 1

def xdraw (T : TT) (call : XCall) (n : Nat) (ops : Array Oper) (f : Tr AV) (s : AS) : Option (Tr AV × AS) :=
  let bs := (Region.before ops).toList
  let m := tailFrom bs ops.size
  if drawOk ops m [] bs then
    match xq T call n ops bs m s (List.range m) f [] s.nl with
    | some (f', ds, mx) => xops T call n ops (ops.toList.drop m) f' { s with cur := ds.foldl (fun c p => c.union p.2) s.cur, nl := mx }
    | none => none
  else none

inductive XE where
  | normal
  | ret
  | exit (id : Nat)

def XE.out : XE → Exit
  | .normal => .normal
  | .ret => .ret
  | .exit id => .exit id

def xcode (T : TT) (call : XCall) (n : Nat) : Nat → Code → Tr AV → AS → Option (XE × Tr AV × AS)
  | 0, _, _, _ => none
  | k + 1, c, f, s =>
    match c with
    | .skip => some (.normal, f, s)
    | .label _ => some (.normal, f, s)
    | .ret => some (.ret, f, s)
    | .exit id => some (.exit id, f, s)
    | .seq a b => match xcode T call n k a f s with
      | some (.normal, f', s') => xcode T call n k b f' s'
      | r => r
    | .cond c a b => match aev (xfr f) c with
      | .bool t => xcode T call n k (if t then a else b) f s
      | _ => none
    | .block id b => match xcode T call n k b f s with
      | some (.exit id', f', s') => some (if Nat.beq id' id then .normal else .exit id', f', s')
      | r => r
    | .loop b => match xcode T call n k b f s with
      | some (.normal, f', s') => xcode T call n k (.loop b) f' s'
      | r => r
    | .scope b => xcode T call n k b f s
    | .region _ ops false => match xops T call n ops ops.toList f s with
      | some (f', s') => some (.normal, f', s')
      | none => none
    | .region _ ops true => match xdraw T call n ops f s with
      | some (f', s') => some (.normal, f', s')
      | none => none
    | _ => none

/-- a function, as the machine runs it -/
structure XFn where
  body : Code
  n : Nat
  rs : List ResultVar

structure XP where
  T : TT
  fn : Nat → Option XFn
  intr : XCall

def xinit : List AV → Nat → Tr AV → Tr AV
  | [], _, t => t
  | v :: vs, i, t => xinit vs (i + 1) (t.set i v)

def xcall (X : XP) : Nat → XCall
  | 0, _, _, _ => none
  | k + 1, g, args, s =>
    match X.intr g args s with
    | some r => some r
    | none => match X.fn g with
      | none => none
      | some fx => if args.length ≤ fx.n then
          match xcode X.T (xcall X k) fx.n k fx.body (xinit args 0 .E) s with
          | some (.normal, f, s') => match ares X.T fx.rs (xfr f) s' with
            | some v => some (v, s')
            | none => none
          | some (.ret, f, s') => match ares X.T fx.rs (xfr f) s' with
            | some v => some (v, s')
            | none => none
          | _ => none
        else none

end Go.Am
