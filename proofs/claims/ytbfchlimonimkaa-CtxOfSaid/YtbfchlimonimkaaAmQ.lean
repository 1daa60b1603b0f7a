/-
  The abstract machine Am: what a code asks, as one plain proposition (no frame, no code in it): each operation bound by name; joins and loops by their variables.
-/
import Derived.Test.YtbfchlimonimkaaAmRun2
import Derived.Attr
set_option linter.unusedSectionVars false
set_option linter.unusedSimpArgs false
set_option linter.unusedVariables false
namespace Go.Am

/-- kinds of values -/
inductive TK where
  | int (k : IntKind)
  | bool
  | str
  | ptr
  | map
  | agg
  | any
  | tup (l : List TK)

def tk1 (T : TT) (t : TypeId) : TK := match T.und t with
  | some (.int k) => .int k
  | some .bool => .bool
  | some .string => .str
  | some (.pointer _) => .ptr
  | some (.map _ _) => .map
  | some (.struct _) => .agg
  | some (.array _ _) => .agg
  | _ => .any
def tkOf (T : TT) (t : TypeId) : TK := match T.und t with
  | some (.tuple es) => .tup (es.toList.map (tk1 T))
  | _ => tk1 T t

/-! ### the words -/
def RdI (k : IntKind) (o : Option AV) (K : Int → Prop) : Prop := ∃ n, o = some (.int k n) ∧ K n
def RdB (o : Option AV) (K : Bool → Prop) : Prop := ∃ b, o = some (.bool b) ∧ K b
def RdS (o : Option AV) (K : List UInt8 → Prop) : Prop := ∃ b, o = some (.str b) ∧ K b
def RdP (o : Option AV) (K : Option (Nat × Nat) → Prop) : Prop := ∃ a, o = some (.ptr a) ∧ K a
def RdM (o : Option AV) (K : Option Nat → Prop) : Prop := ∃ r, o = some (.map r) ∧ K r
def RdG (o : Option AV) (K : List AV → Prop) : Prop := ∃ l, o = some (.agg l) ∧ K l
def RdA (o : Option AV) (K : AV → Prop) : Prop := ∃ v, o = some v ∧ K v
def RdL (o : Option (List AV)) (K : List AV → Prop) : Prop := ∃ l, o = some l ∧ K l
def RdO (o : Option Bool) (K : Bool → Prop) : Prop := ∃ b, o = some b ∧ K b
def StQ (o : Option AS) (K : AS → Prop) : Prop := ∃ s, o = some s ∧ K s
def Bd2 (o : Option (AV × AS)) (K : AV → AS → Prop) : Prop := ∃ v s, o = some (v, s) ∧ K v s
def IxQ (o : Option AV) (K : Nat → Nat → Prop) : Prop := ∃ l i, o = some (.ptr (some (l, i))) ∧ K l i
def AsSome (a : Option (Nat × Nat)) (K : Nat → Nat → Prop) : Prop := match a with
  | some (l, i) => K l i
  | none => False
def OkC (n : Option Nat) (l : List AV) (P : Prop) : Prop := (l.all AV.one = true ∧ n = some l.length) ∧ P
def One1 (l : List AV) (P : Prop) : Prop := l.all AV.one = true ∧ P
def bsplit (b : Bool) (X Y : Prop) : Prop := match b with
  | true => X
  | false => Y
def NZ (b : Int) (P : Prop) : Prop := b ≠ 0 ∧ P
def NN (b : Int) (P : Prop) : Prop := 0 ≤ b ∧ P
def LenOk (n : Nat) (P : Prop) : Prop := (n : Int) ≤ 9223372036854775807 ∧ P
def ACallV (P : Program) (v : AV) (args : List AV) (s : AS) (R : AV → AS → Prop) : Prop := match v with
  | .func g cap => ACalls P g (args ++ cap) s R
  | .meth g ft cap => ACalls P g (ft ++ (args ++ cap)) s R
  | _ => False
/-- a new object: its name, and the heap with it -/
def NewQ (o : AO) (s : AS) (K : Nat → AS → Prop) : Prop := K s.nl (s.new o)
def JoinQ (A : (List AV → AS → Prop) → Prop) : Prop := ∃ J, A J
def LoopQ (A : (Nat → List AV → AS → Prop) → Nat → Prop) : Prop := ∃ I m, A I m
def DrawQ (A : (Nat → List AV → AV → AS → Prop) → (Nat → List AV → AV → Prop) → Prop) : Prop := ∃ S V, (∀ i k v s s', Ext s s' → S i k v s → S i k v s') ∧ A S V

/-- a list of kinds -/
def csL : List TK → List AV → (List AV → Prop) → Prop
  | [], acc, F => F acc
  | .int k :: ks, acc, F => ∃ n : Int, csL ks (acc ++ [.int k n]) F
  | .bool :: ks, acc, F => ∃ b : Bool, csL ks (acc ++ [.bool b]) F
  | .str :: ks, acc, F => ∃ b : List UInt8, csL ks (acc ++ [.str b]) F
  | .ptr :: ks, acc, F => ∃ a : Option (Nat × Nat), csL ks (acc ++ [.ptr a]) F
  | .map :: ks, acc, F => ∃ r : Option Nat, csL ks (acc ++ [.map r]) F
  | .agg :: ks, acc, F => ∃ l : List AV, csL ks (acc ++ [.agg l]) F
  | _ :: ks, acc, F => ∃ v : AV, csL ks (acc ++ [v]) F

theorem csL_some : ∀ {ks : List TK} {acc : List AV} {F : List AV → Prop}, csL ks acc F → ∃ l, F l
  | [], acc, F, h => ⟨acc, h⟩
  | k :: ks, acc, F, h => by
    cases k <;> (simp only [csL] at h; obtain ⟨_, h⟩ := h; exact csL_some h)

def rd (k : TK) (o : Option AV) (K : AV → Prop) : Prop := match k with
  | .int k => RdI k o fun n => K (.int k n)
  | .bool => RdB o fun b => K (.bool b)
  | .str => RdS o fun b => K (.str b)
  | .ptr => RdP o fun a => K (.ptr a)
  | .map => RdM o fun a => K (.map a)
  | .agg => RdG o fun a => K (.agg a)
  | .any => RdA o K
  | .tup ks => csL ks [] fun l => o = some (.tup l) ∧ K (.tup l)

theorem rd_some {k : TK} {o : Option AV} {K : AV → Prop} (h : rd k o K) : ∃ v, o = some v ∧ K v := by
  cases k with
  | tup ks => obtain ⟨l, h1, h2⟩ := csL_some h; exact ⟨_, h1, h2⟩
  | _ => obtain ⟨n, h1, h2⟩ := h; exact ⟨_, h1, h2⟩

def qcs (k : TK) (v : AV) (K : AV → Prop) : Prop := match k with
  | .int k => ∃ n, v = .int k n ∧ K (.int k n)
  | .bool => ∃ b, v = .bool b ∧ K (.bool b)
  | .str => ∃ b, v = .str b ∧ K (.str b)
  | .ptr => ∃ a, v = .ptr a ∧ K (.ptr a)
  | .map => ∃ a, v = .map a ∧ K (.map a)
  | .agg => ∃ a, v = .agg a ∧ K (.agg a)
  | .any => K v
  | .tup ks => csL ks [] fun l => v = .tup l ∧ K (.tup l)

theorem qcs_get {k : TK} {v : AV} {K : AV → Prop} (h : qcs k v K) : K v := by
  cases k with
  | tup ks => obtain ⟨l, rfl, h2⟩ := csL_some h; exact h2
  | any => exact h
  | _ => obtain ⟨n, rfl, h2⟩ := h; exact h2

def absl (T : TT) (t : TypeId) (len : Nat) (parts : List (Nat × AV)) : Option (List AV) :=
  match T.und t with
  | some (.slice elem) =>
    (T.siz elem).bind fun n => (T.zer elem).bind fun z => (acells z).bind fun zc =>
      if zc.length = n ∧ len * n ≤ 2 ^ 24 then afill (fun i => some (i * n, n)) (rep len zc) parts else none
  | _ => none

def qbinI (op : BinOp) (k : IntKind) (a b : Int) (K : AV → Prop) : Prop := match op with
  | .add => K (.int k (k.wrap (a + b)))
  | .sub => K (.int k (k.wrap (a - b)))
  | .mul => K (.int k (k.wrap (a * b)))
  | .quo => NZ b (K (.int k (k.wrap (a.tdiv b))))
  | .rem => NZ b (K (.int k (a.tmod b)))
  | .eql => K (.bool (a == b))
  | .neq => K (.bool (a != b))
  | .lss => K (.bool (decide (a < b)))
  | .leq => K (.bool (decide (a ≤ b)))
  | .gtr => K (.bool (decide (a > b)))
  | .geq => K (.bool (decide (a ≥ b)))
  | op => RdA (abinInt op k a b) K

def agdv (T : TT) (t : TypeId) (c : Bool) : AV → AV → Bool
  | .agg _, .agg _ => T.eqg t
  | .nilIface, .nilIface => c
  | .bad, _ => false
  | _, .bad => false
  | _, _ => true
theorem agdv_eq (T : TT) (t : TypeId) (x y : Operand) (u v : AV) : agd T t x y u v = agdv T t (isC x || isC y) u v := by
  cases u <;> cases v <;> rfl

def qbin (T : TT) (op : BinOp) (t : TypeId) (c : Bool) (x y : AV) (K : AV → Prop) : Prop :=
  match op, x, y with
  | .shl, .int k a, .int _ b => NN b (K (.int k (k.wrap (a * 2 ^ min b.toNat k.bits))))
  | .shr, .int k a, .int _ b => NN b (K (.int k (a.fdiv (2 ^ min b.toNat k.bits))))
  | op, .int k a, .int k' b => bif k == k' then qbinI op k a b K else False
  | .add, .str a, .str b => LenOk (a.length + b.length) (K (.str (a ++ b)))
  | .eql, .str a, .str b => K (.bool (a == b))
  | .neq, .str a, .str b => K (.bool !(a == b))
  | .lss, .str a, .str b => K (.bool (bytesLt a b))
  | .leq, .str a, .str b => K (.bool (bytesLt a b || a == b))
  | .gtr, .str a, .str b => K (.bool !(bytesLt a b || a == b))
  | .geq, .str a, .str b => K (.bool !(bytesLt a b))
  | .eql, .bool a, .bool b => (match T.und t with | some .bool => K (.bool (a == b)) | _ => False)
  | .neq, .bool a, .bool b => (match T.und t with | some .bool => K (.bool !(a == b)) | _ => False)
  | .eql, .agg xs, .agg ys => bif T.eqg t then RdO (aeq T 100 t (.agg xs) (.agg ys)) fun b => K (.bool b) else False
  | .neq, .agg xs, .agg ys => bif T.eqg t then RdO (aeq T 100 t (.agg xs) (.agg ys)) fun b => K (.bool !b) else False
  | .eql, .ptr a, .ptr b => RdO (aeq T 100 t (.ptr a) (.ptr b)) fun b => K (.bool b)
  | .neq, .ptr a, .ptr b => RdO (aeq T 100 t (.ptr a) (.ptr b)) fun b => K (.bool !b)
  | .eql, .map a, .map b => RdO (aeq T 100 t (.map a) (.map b)) fun b => K (.bool b)
  | .neq, .map a, .map b => RdO (aeq T 100 t (.map a) (.map b)) fun b => K (.bool !b)
  | .eql, x, y => agdv T t c x y = true ∧ RdO (aeq T 100 t x y) fun b => K (.bool b)
  | .neq, x, y => agdv T t c x y = true ∧ RdO (aeq T 100 t x y) fun b => K (.bool !b)
  | _, _, _ => False

def isEqT : Option TypeDesc → Bool
  | some (.slice _) => true
  | some (.func _ _ _) => true
  | some (.interface _) => true
  | _ => false
def eqQ (T : TT) (t : TypeId) (c : Bool) (x y : AV) : Option Bool := if agdv T t c x y = true then aeq T 100 t x y else none
def qbinT (T : TT) (op : BinOp) (t : TypeId) (c : Bool) (x y : AV) (K : AV → Prop) : Prop :=
  match isEqT (T.und t), op with
  | true, .eql => RdO (eqQ T t c x y) fun b => K (.bool b)
  | true, .neq => RdO (eqQ T t c x y) fun b => K (.bool !b)
  | _, op => qbin T op t c x y K

def qcells (v : AV) (F : List AV → Prop) : Prop := match v with
  | .agg l => One1 l (F l)
  | .tup _ => False
  | .bad => False
  | v => F [v]

def qstore (T : TT) (t : TypeId) (s : AS) (l off : Nat) (v : AV) (K : AS → Prop) : Prop := match v with
  | .agg cs => OkC (T.siz t) cs (StQ (awr s l off cs) K)
  | .tup _ => False
  | .bad => False
  | v => bif T.siz t == some 1 then StQ (awr s l off [v]) K else False

def arange (T : TT) (t : TypeId) (x : AV) (s : AS) : Option (AV × AS) := match T.und t, x with
  | some .string, .str b => some (.ptr (some (s.nl, 0)), s.new (.strIt b 0 false))
  | some (.map _ _), .map none => some (.ptr (some (s.nl, 0)), s.new (.mapIt none 0 [] 0 false))
  | some (.map _ _), .map (some m) => match s.h m with
    | some (.map _ clock _) => some (.ptr (some (s.nl, 0)), s.new (.mapIt (some m) clock [] clock false))
    | _ => none
  | _, _ => none

def qbuiltin (T : TT) (tk : TK) (b : Builtin) (ts : List TypeId) (args : List AV) (s : AS) (K : AV → AS → Prop) : Prop :=
  match b, ts, args with
  | .len, t :: _, x :: _ => RdI .i64 (alenB T t x s) fun n => K (.int .i64 n) s
  | .cap, t :: _, x :: _ => RdI .i64 (acapB T t x) fun n => K (.int .i64 n) s
  | .append, t :: xt :: _, dst :: x :: _ => Bd2 (aappend T t xt dst x s) K
  | .copy, t :: _ :: _, dst :: x :: _ => Bd2 (acopy T t dst x s) K
  | .delete, t :: _, m :: k :: _ => StQ (adelete T t m k s) fun s => K .undef s
  | .clear, t :: _, x :: _ => StQ (aclear T t x s) fun s => K .undef s
  | .max, _, l => rd tk (amax true l) fun v => K v s
  | .min, _, l => rd tk (amax false l) fun v => K v s
  | _, _, _ => False

/-- one operation -/
def qop (P : Program) (T : TT) (o : Oper) (ρ : Operand → AV) (s : AS) (K : AV → AS → Prop) : Prop :=
  match o.op with
  | .move x => K (ρ x) s
  | .assign x => K (ρ x) s
  | .pick c a b => (match ρ c with | .bool t => bsplit t (K (ρ a) s) (K (ρ b) s) | _ => False)
  | .alloc e => (match T.zer e with | some z => (bif z.cells.all AV.one then K (.ptr (some (s.nl, 0))) (s.new (.cells z.cells 0 false)) else False) | none => False)
  | .box _ x => qcells (ρ x) fun cs => K (.ptr (some (s.nl, 0))) (s.new (.cells cs 0 false))
  | .build t parts => RdG (abuild T t (parts.toList.map fun p => (p.1, ρ p.2))) fun cs => K (.agg cs) s
  | .buildSlice t len parts => RdL (absl T t len (parts.toList.map fun p => (p.1, ρ p.2))) fun cs => K (.slc (some (s.nl, 0)) len len true) (s.new (.cells cs 0 false))
  | .load t a => (match ρ a with
    | .ptr a => AsSome a fun l off => (match T.agg t with
      | some true => (match T.siz t with | some n => RdL (rdc s l off n) fun cs => K (.agg cs) s | none => False)
      | some false => rd (tk1 T t) (rd1 s l off) fun v => K v s
      | none => False)
    | _ => False)
  | .store t a x => (match ρ a with | .ptr a => AsSome a fun l off => qstore T t s l off (ρ x) fun s => K .undef s | _ => False)
  | .nilCheck x => (match ρ x with
    | .ptr a => AsSome a fun l off => K (.ptr (some (l, off))) s
    | .func f c => K (.func f c) s
    | .meth f ft c => K (.meth f ft c) s
    | .iface t v => K (.iface t v) s
    | _ => False)
  | .binOp op t x y _ => qbinT T op t (isC x || isC y) (ρ x) (ρ y) fun v => K v s
  | .unOp op _ x => (match op, ρ x with
    | .neg, .int k n => K (.int k (k.wrap (0 - n))) s
    | .not, .bool b => K (.bool !b) s
    | op, v => RdA (aun op v) fun v => K v s)
  | .convert src dst x => (match T.und src, T.und dst, ρ x with
    | some _, some (.int k), .int _ n => K (.int k (k.wrap n)) s
    | some _, some .string, .str b => K (.str b) s
    | some _, some (.slice _), v => Bd2 (aconvert T src dst v s) K
    | some _, some .string, v => RdS ((aconvert T src dst v s).map (·.1)) fun b => K (.str b) s
    | _, _, _ => False)
  | .makeInterface t x => (match T.und t with | some (.interface _) => False | some _ => K (.iface t (ρ x)) s | none => False)
  | .makeFunc (.func f) first captured => bif first.isEmpty then K (.func f (captured.toList.map ρ)) s else K (.meth f (first.toList.map ρ) (captured.toList.map ρ)) s
  | .makeMap t none => (match T.und t with | some _ => K (.map (some s.nl)) (s.new (.map [] 0 false)) | none => False)
  | .makeSlice t l c => Bd2 (amakeSlice T t (ρ l) (ρ c) s) K
  | .slice t x lo hi mx => rd (tkOf T o.type) (aslice T t (ρ x) (lo.map ρ) (hi.map ρ) (mx.map ρ)) fun v => K v s
  | .fieldAddr t x f => (match ρ x with | .ptr a => AsSome a fun l off => (match afieldAddr T t (.ptr (some (l, off))) f with | some v => K v s | none => False) | _ => False)
  | .field t x f => (match T.und t, ρ x with
    | some (.struct fields), .agg cs => (match fields[f]? with
      | some fd => (match T.agg fd.type with
        | some true => (match T.siz fd.type with | some n => K (.agg ((cs.drop fd.offset).take n)) s | none => False)
        | some false => rd (tk1 T fd.type) (cs[fd.offset]?) fun v => K v s
        | none => False)
      | none => False)
    | _, _ => False)
  | .indexAddr t x ix => IxQ (aindexAddr T t (ρ x) (ρ ix)) fun l off => K (.ptr (some (l, off))) s
  | .index t x ix => rd (tkOf T o.type) (aindex T t (ρ x) (ρ ix)) fun v => K v s
  | .lookup t x ix ok => rd (tkOf T o.type) (alookup T t (ρ x) (ρ ix) ok s) fun v => K v s
  | .mapUpdate t m k v => StQ (amapUpdate T t (ρ m) (ρ k) (ρ v) s) fun s => K .undef s
  | .insert t m k v => StQ (amapUpdate T t (ρ m) (ρ k) (ρ v) s) fun s => K .undef s
  | .extract t i => (match ρ t with | .tup vs => (match vs[i]? with | some v => K v s | none => False) | _ => False)
  | .call c => (match c.callee with
    | .builtin b => qbuiltin T (tkOf T o.type) b c.argTypes.toList (c.args.toList.map ρ) s K
    | .value x => ACallV P (ρ x) (c.args.toList.map ρ) s fun v s => qcs (tkOf T o.type) v fun v => K v s
    | _ => False)
  | .range t x => Bd2 (arange T t (ρ x) s) K
  | _ => False

section
variable {P : Program} {T : TT}

theorem bsplit_if {b : Bool} {X Y : Prop} (h : bsplit b X Y) : if b = true then X else Y := by cases b <;> simpa [bsplit] using h

theorem asSome_get {a : Option (Nat × Nat)} {F : Nat → Nat → Prop} (h : AsSome a F) : ∃ l o, a = some (l, o) ∧ F l o := by
  unfold AsSome at h
  split at h
  · exact ⟨_, _, rfl, h⟩
  · exact h.elim
theorem absl_eq {t : TypeId} {len : Nat} {parts : List (Nat × AV)} {s : AS} {cs : List AV} (h : absl T t len parts = some cs) : abuildSlice T t len parts s = some (.slc (some (s.nl, 0)) len len true, s.new (.cells cs 0 false)) := by
  unfold absl at h
  unfold abuildSlice
  cases hu : T.und t with
  | none => rw [hu] at h; cases h
  | some d =>
    rw [hu] at h
    cases d with
    | slice e =>
      simp only [Option.bind_eq_some_iff] at h
      obtain ⟨n, hn, z, hz, zc, hzc, h⟩ := h
      simp only [hn, hz, hzc, Option.bind_some]
      split at h
      · rename_i hc
        rw [if_pos hc, h]; rfl
      · cases h
    | _ => cases h

theorem qcells_get {v : AV} {F : List AV → Prop} (h : qcells v F) : ∃ cs, acells v = some cs ∧ F cs := by
  unfold qcells at h
  split at h
  · rename_i l
    obtain ⟨h1, h2⟩ := h
    exact ⟨l, by simp only [acells, AV.cells, h1, if_true], h2⟩
  · exact h.elim
  · exact h.elim
  · rename_i h1 h2 h3
    refine ⟨[v], ?_, h⟩
    cases v <;> first | rfl | exact (h1 _ rfl).elim | exact (h2 _ rfl).elim | exact (h3 rfl).elim

theorem qstore_get {t : TypeId} {s : AS} {l off : Nat} {v : AV} {K : AS → Prop} (h : qstore T t s l off v K) : ∃ s', ast T t s (.ptr (some (l, off))) v = some s' ∧ K s' := by
  unfold qstore at h
  split at h
  · rename_i cs
    obtain ⟨⟨h1, h2⟩, s', h3, h4⟩ := h
    refine ⟨s', ?_, h4⟩
    simp only [ast, acells, AV.cells, h1, if_true, Option.bind_some, h2, h3]
  · exact h.elim
  · exact h.elim
  · rename_i h1 h2 h3
    cases hs : (T.siz t == some 1) with
    | false => rw [hs] at h; exact h.elim
    | true =>
      rw [hs] at h
      obtain ⟨s', h4, h5⟩ := h
      have hs' : T.siz t = some 1 := by simpa using hs
      refine ⟨s', ?_, h5⟩
      have hc : acells v = some [v] := by cases v <;> first | rfl | exact (h1 _ rfl).elim | exact (h2 _ rfl).elim | exact (h3 rfl).elim
      simp only [ast, hc, Option.bind_some, hs', List.length_cons, List.length_nil, Nat.zero_add, if_true, h4]

theorem qbinI_get {op : BinOp} {k : IntKind} {a b : Int} {K : AV → Prop} (h : qbinI op k a b K) : ∃ v, abinInt op k a b = some v ∧ K v := by
  unfold qbinI at h
  split at h
  case h_4 => exact ⟨_, by simp only [abinInt, if_neg h.1], h.2⟩
  case h_5 => exact ⟨_, by simp only [abinInt, if_neg h.1], h.2⟩
  case h_12 => exact h
  all_goals exact ⟨_, by simp only [abinInt], h⟩


theorem qbin_get {op : BinOp} {t : TypeId} {x y : Operand} {u v : AV} {K : AV → Prop} (h : qbin T op t (isC x || isC y) u v K) : agd T t x y u v = true ∧ ∃ r, abin T op t u v = some r ∧ K r := by
  unfold qbin at h
  split at h
  · rename_i k a k' b; exact ⟨rfl, _, by simp only [abin]; rw [if_neg (by have := h.1; omega)], h.2⟩
  · rename_i k a k' b; exact ⟨rfl, _, by simp only [abin]; rw [if_neg (by have := h.1; omega)], h.2⟩
  · rename_i op k a k' b h1 h2
    refine ⟨rfl, ?_⟩
    cases hk : (k == k') with
    | false => rw [hk] at h; exact h.elim
    | true =>
      rw [hk] at h
      obtain rfl : k = k' := by simpa using hk
      obtain ⟨r, hr, hK⟩ := qbinI_get h
      refine ⟨r, ?_, hK⟩
      rw [← hr]
      cases op <;> first | (exact absurd rfl h1) | (exact absurd rfl h2) | simp only [abin, if_true]
  · exact ⟨rfl, _, by simp only [abin]; rw [if_pos (by have := h.1; simpa using this)], h.2⟩
  · exact ⟨rfl, _, by simp only [abin], h⟩
  · exact ⟨rfl, _, by simp only [abin], h⟩
  · exact ⟨rfl, _, by simp only [abin], h⟩
  · exact ⟨rfl, _, by simp only [abin], h⟩
  · exact ⟨rfl, _, by simp only [abin], h⟩
  · exact ⟨rfl, _, by simp only [abin], h⟩
  · rename_i a b
    split at h
    · rename_i hu
      exact ⟨rfl, _, by simp only [abin, aeq, hu, Option.map_some], h⟩
    · exact h.elim
  · rename_i a b
    split at h
    · rename_i hu
      exact ⟨rfl, _, by simp only [abin, aeq, hu, Option.map_some], h⟩
    · exact h.elim
  · rename_i xs ys
    cases hg : T.eqg t with
    | false => rw [hg] at h; exact h.elim
    | true => rw [hg] at h; obtain ⟨b, h1, h2⟩ := h; exact ⟨hg, _, by simp only [abin, h1, Option.map_some], h2⟩
  · rename_i xs ys
    cases hg : T.eqg t with
    | false => rw [hg] at h; exact h.elim
    | true => rw [hg] at h; obtain ⟨b, h1, h2⟩ := h; exact ⟨hg, _, by simp only [abin, h1, Option.map_some], h2⟩
  · obtain ⟨b, h1, h2⟩ := h; exact ⟨rfl, _, by simp only [abin, h1, Option.map_some], h2⟩
  · obtain ⟨b, h1, h2⟩ := h; exact ⟨rfl, _, by simp only [abin, h1, Option.map_some], h2⟩
  · obtain ⟨b, h1, h2⟩ := h; exact ⟨rfl, _, by simp only [abin, h1, Option.map_some], h2⟩
  · obtain ⟨b, h1, h2⟩ := h; exact ⟨rfl, _, by simp only [abin, h1, Option.map_some], h2⟩
  · obtain ⟨h0, b, h1, h2⟩ := h
    refine ⟨by rw [agdv_eq]; exact h0, .bool b, ?_, h2⟩
    unfold abin
    split <;> first | (simp_all; done) | (exfalso; simp_all; rename_i hx; exact hx _ _ _ _ rfl rfl rfl rfl) | (exfalso; rename_i hx; simp_all; exact hx _ _ _ _ rfl rfl rfl rfl)
  · obtain ⟨h0, b, h1, h2⟩ := h
    refine ⟨by rw [agdv_eq]; exact h0, .bool !b, ?_, h2⟩
    unfold abin
    split <;> first | (simp_all; done) | (exfalso; simp_all; rename_i hx; exact hx _ _ _ _ rfl rfl rfl rfl) | (exfalso; rename_i hx; simp_all; exact hx _ _ _ _ rfl rfl rfl rfl)
  · exact h.elim

theorem qbinT_get {op : BinOp} {t : TypeId} {x y : Operand} {u v : AV} {K : AV → Prop} (h : qbinT T op t (isC x || isC y) u v K) : agd T t x y u v = true ∧ ∃ r, abin T op t u v = some r ∧ K r := by
  unfold qbinT at h
  have key : ∀ b, eqQ T t (isC x || isC y) u v = some b → agd T t x y u v = true ∧ aeq T 100 t u v = some b := by
    intro b hb
    unfold eqQ at hb
    split at hb
    · rename_i hg; exact ⟨by rw [agdv_eq]; exact hg, hb⟩
    · cases hb
  have nint : isEqT (T.und t) = true → ∀ b, aeq T 100 t u v = some b → abin T .eql t u v = some (.bool b) ∧ abin T .neq t u v = some (.bool !b) := by
    intro hd b hb
    have : ∀ d, T.und t = some d → isEqT (some d) = true := fun d h => by rw [← h]; exact hd
    have hno : (∀ k n k' n', ¬ (u = .int k n ∧ v = .int k' n')) ∧ (∀ a b, ¬ (u = .str a ∧ v = .str b)) := by
      cases hu : T.und t with
      | none => rw [hu] at hd; cases hd
      | some d =>
        have hd' := this d hu
        refine ⟨fun k n k' n' e => ?_, fun a b e => ?_⟩
        · obtain ⟨rfl, rfl⟩ := e
          cases d <;> first | (cases hd'; done) | (simp only [aeq, hu] at hb; cases hb)
        · obtain ⟨rfl, rfl⟩ := e
          cases d <;> first | (cases hd'; done) | (simp only [aeq, hu] at hb; cases hb)
    constructor
    · unfold abin
      split <;> first
        | (exact absurd ⟨rfl, rfl⟩ (hno.1 _ _ _ _))
        | (exact absurd ⟨rfl, rfl⟩ (hno.2 _ _))
        | (rename_i e; cases e; done)
        | (rw [hb]; rfl)
        | simp_all
    · unfold abin
      split <;> first
        | (exact absurd ⟨rfl, rfl⟩ (hno.1 _ _ _ _))
        | (exact absurd ⟨rfl, rfl⟩ (hno.2 _ _))
        | (rename_i e; cases e; done)
        | (rw [hb]; rfl)
        | simp_all
  split at h
  · rename_i hd
    obtain ⟨b, h1, h2⟩ := h
    obtain ⟨g1, g2⟩ := key b h1
    exact ⟨g1, _, (nint hd b g2).1, h2⟩
  · rename_i hd
    obtain ⟨b, h1, h2⟩ := h
    obtain ⟨g1, g2⟩ := key b h1
    exact ⟨g1, _, (nint hd b g2).2, h2⟩
  · exact qbin_get h

theorem arange_eq {t : TypeId} {x : Operand} {ρ : Operand → AV} {s : AS} : aop T (.range t x) ρ s = arange T t (ρ x) s := rfl

theorem qbuiltin_get {tk : TK} {b : Builtin} {ts : List TypeId} {args : List AV} {s : AS} {K : AV → AS → Prop} (h : qbuiltin T tk b ts args s K) : ∃ v s', abuiltin T b ts args s = some (v, s') ∧ K v s' := by
  unfold qbuiltin at h
  split at h
  · obtain ⟨n, h1, h2⟩ := h; exact ⟨_, s, by simp only [abuiltin, h1, Option.map_some], h2⟩
  · obtain ⟨n, h1, h2⟩ := h; exact ⟨_, s, by simp only [abuiltin, h1, Option.map_some], h2⟩
  · exact h
  · exact h
  · obtain ⟨s', h1, h2⟩ := h; exact ⟨_, s', by simp only [abuiltin, h1, Option.map_some], h2⟩
  · obtain ⟨s', h1, h2⟩ := h; exact ⟨_, s', by simp only [abuiltin, h1, Option.map_some], h2⟩
  · obtain ⟨v, h1, h2⟩ := rd_some h; exact ⟨v, s, by simp only [abuiltin, h1, Option.map_some], h2⟩
  · obtain ⟨v, h1, h2⟩ := rd_some h; exact ⟨v, s, by simp only [abuiltin, h1, Option.map_some], h2⟩
  · exact h.elim

/-- an operation that is no call of a function -/
def isFn : Op → Bool
  | .call c => match c.callee with
    | .value _ => true
    | _ => false
  | _ => false

theorem qop_aop {o : Oper} {ρ : Operand → AV} {s : AS} {K : AV → AS → Prop} (hc : isFn o.op = false) (h : qop P T o ρ s K) : ∃ v s', aop T o.op ρ s = some (v, s') ∧ K v s' := by
  unfold qop at h
  cases hop : o.op <;> rw [hop] at h <;> simp only at h
  case move x => exact ⟨_, _, rfl, h⟩
  case assign x => exact ⟨_, _, rfl, h⟩
  case pick c a b =>
    split at h
    · rename_i t ht
      have := bsplit_if h
      refine ⟨if t then ρ a else ρ b, s, by simp only [aop, ht], ?_⟩
      cases t <;> simpa using this
    · exact h.elim
  case alloc e =>
    split at h
    · rename_i z hz
      cases hq : z.cells.all AV.one with
      | false => rw [hq] at h; exact h.elim
      | true => rw [hq] at h; exact ⟨_, _, by simp only [aop, hz, Option.bind_some, acells, hq, if_true, Option.map_some], h⟩
    · exact h.elim
  case box e x =>
    obtain ⟨cs, h1, h2⟩ := qcells_get h
    exact ⟨_, _, by simp only [aop, h1, Option.map_some], h2⟩
  case build t parts =>
    obtain ⟨l, h1, h2⟩ := h
    exact ⟨_, _, by simp only [aop, h1, Option.map_some], h2⟩
  case buildSlice t len parts =>
    obtain ⟨l, h1, h2⟩ := h
    exact ⟨_, _, by simp only [aop]; exact absl_eq h1, h2⟩
  case load t a =>
    split at h
    · rename_i a' ha
      have h2 := asSome_get h
      clear h
      obtain ⟨l, off, rfl, h⟩ := h2
      split at h
      · rename_i hag
        split at h
        · rename_i n hn
          obtain ⟨cs, h1, h2⟩ := h
          exact ⟨_, _, by simp only [aop, ald, ha, hag, hn, Option.bind_some, h1, Option.map_some], h2⟩
        · exact h.elim
      · rename_i hag
        obtain ⟨v, h1, h2⟩ := rd_some h
        exact ⟨_, _, by simp only [aop, ald, ha, hag, h1, Option.map_some], h2⟩
      · exact h.elim
    · exact h.elim
  case store t a x =>
    split at h
    · rename_i a' ha
      have h2 := asSome_get h
      clear h
      obtain ⟨l, off, rfl, h⟩ := h2
      obtain ⟨s', h1, h2⟩ := qstore_get h
      exact ⟨_, _, by simp only [aop, ha, h1, Option.map_some], h2⟩
    · exact h.elim
  case nilCheck x =>
    split at h
    · rename_i a ha
      cases a with
      | none => exact h.elim
      | some p => exact ⟨_, _, by simp only [aop, ha], h⟩
    · rename_i ha; exact ⟨_, _, by simp only [aop, ha], h⟩
    · rename_i ha; exact ⟨_, _, by simp only [aop, ha], h⟩
    · rename_i ha; exact ⟨_, _, by simp only [aop, ha], h⟩
    · exact h.elim
  case binOp op t x y yt =>
    obtain ⟨h1, r, h2, h3⟩ := qbinT_get h
    exact ⟨_, _, by simp only [aop, h1, if_true, h2, Option.map_some], h3⟩
  case unOp op t x =>
    split at h
    · rename_i hx; exact ⟨_, _, by simp only [aop, aun, hx, Option.map_some], h⟩
    · rename_i hx; exact ⟨_, _, by simp only [aop, aun, hx, Option.map_some], h⟩
    · obtain ⟨v, h1, h2⟩ := h; exact ⟨_, _, by simp only [aop, h1, Option.map_some], h2⟩
  case convert src dst x =>
    split at h
    · rename_i hs hd hx; exact ⟨_, _, by simp only [aop, aconvert, hs, hd, hx], h⟩
    · rename_i hs hd hx; exact ⟨_, _, by simp only [aop, aconvert, hs, hd, hx], h⟩
    · exact h
    · rename_i hs hd hx
      obtain ⟨b, h1, h2⟩ := h
      simp only [Option.map_eq_some_iff] at h1
      obtain ⟨⟨v, s'⟩, h3, h4⟩ := h1
      simp only at h4
      subst h4
      have hss : s' = s := by
        unfold aconvert at h3
        split at h3 <;> try (first | (cases h3; done) | (simp only [Option.some.injEq, Prod.mk.injEq] at h3; exact h3.2.symm))
        · rename_i e1 e2; rw [hd] at e1; cases e1
        · split at h3
          · split at h3
            · simp only [Option.some.injEq, Prod.mk.injEq] at h3; exact h3.2.symm
            · cases h3
          · cases h3
        · split at h3
          · simp only [Option.some.injEq, Prod.mk.injEq] at h3; exact h3.2.symm
          · cases h3
        · split at h3
          · simp only [Option.bind_eq_some_iff, Option.map_eq_some_iff] at h3
            obtain ⟨_, _, _, _, h3⟩ := h3
            simp only [Prod.mk.injEq] at h3; exact h3.2.symm
          · cases h3
      subst hss
      exact ⟨_, _, by simp only [aop]; exact h3, h2⟩
    · exact h.elim
  case makeInterface t x =>
    split at h
    · exact h.elim
    · rename_i d hd hu
      refine ⟨_, _, ?_, h⟩
      simp only [aop, hu]
    · exact h.elim
  case makeFunc fn first captured =>
    cases fn with
    | func g =>
      simp only at h
      cases hq : first.isEmpty with
      | true => rw [hq] at h; exact ⟨_, _, by simp only [aop, hq, if_true], h⟩
      | false => rw [hq] at h; exact ⟨_, _, by simp only [aop, hq, Bool.false_eq_true, if_false], h⟩
    | _ => exact h.elim
  case makeMap t r =>
    cases r with
    | none =>
      simp only at h
      split at h
      · rename_i d hd; exact ⟨_, _, by simp only [aop, hd], h⟩
      · exact h.elim
    | some r => exact h.elim
  case makeSlice t l c => exact h
  case slice t x lo hi mx =>
    obtain ⟨v, h1, h2⟩ := rd_some h
    exact ⟨_, _, by simp only [aop, h1, Option.map_some], h2⟩
  case fieldAddr t x f =>
    split at h
    · rename_i a' ha
      have h2 := asSome_get h
      clear h
      obtain ⟨l, off, rfl, h⟩ := h2
      split at h
      · rename_i v hv; exact ⟨_, _, by simp only [aop, ha, hv, Option.map_some], h⟩
      · exact h.elim
    · exact h.elim
  case field t x f =>
    split at h
    · rename_i fields cs hu hx
      split at h
      · rename_i fd hf
        split at h
        · rename_i hag
          split at h
          · rename_i n hn
            exact ⟨_, _, by simp only [aop, afield, hu, hx, hf, Option.bind_some, part, hag, hn, Option.map_some], h⟩
          · exact h.elim
        · rename_i hag
          obtain ⟨v, h1, h2⟩ := rd_some h
          exact ⟨_, _, by simp only [aop, afield, hu, hx, hf, Option.bind_some, part, hag, h1, Option.map_some], h2⟩
        · exact h.elim
      · exact h.elim
    · exact h.elim
  case indexAddr t x ix =>
    obtain ⟨l, i, h1, h2⟩ := h
    exact ⟨_, _, by simp only [aop, h1, Option.map_some], h2⟩
  case index t x ix =>
    obtain ⟨v, h1, h2⟩ := rd_some h
    exact ⟨_, _, by simp only [aop, h1, Option.map_some], h2⟩
  case lookup t x ix ok =>
    obtain ⟨v, h1, h2⟩ := rd_some h
    exact ⟨_, _, by simp only [aop, h1, Option.map_some], h2⟩
  case mapUpdate t m k v =>
    obtain ⟨s', h1, h2⟩ := h
    exact ⟨_, _, by simp only [aop, h1, Option.map_some], h2⟩
  case insert t m k v =>
    obtain ⟨s', h1, h2⟩ := h
    exact ⟨_, _, by simp only [aop, h1, Option.map_some], h2⟩
  case extract t i =>
    split at h
    · rename_i vs hv
      split at h
      · rename_i v hi; exact ⟨_, _, by simp only [aop, hv, hi, Option.map_some], h⟩
      · exact h.elim
    · exact h.elim
  case call c =>
    cases hcc : c.callee with
    | value x => rw [hop] at hc; simp only [isFn, hcc] at hc; cases hc
    | builtin b =>
      rw [hcc] at h
      simp only at h
      obtain ⟨v, s', h1, h2⟩ := qbuiltin_get h
      exact ⟨v, s', by simp only [aop, hcc, h1], h2⟩
    | invoke x m => rw [hcc] at h; exact h.elim
  case range t x => exact h
  all_goals exact h.elim

theorem qop_sound {o : Oper} {f : Fr} {s : AS} {K : AV → AS → Prop} (h : qop P T o (aev f) s K) : vcV P T o f s K := by
  cases hc : isFn o.op with
  | false =>
    have hn : acallee f o.op = none := by
      unfold isFn at hc
      unfold acallee
      split
      · rename_i c hq
        rw [hq] at hc
        simp only at hc
        split
        · rename_i x hx; rw [hx] at hc; cases hc
        · rfl
      · rfl
    unfold vcV
    rw [hn]
    exact qop_aop hc h
  | true =>
    unfold isFn at hc
    split at hc
    · rename_i c hq
      split at hc
      · rename_i x hx
        unfold qop at h
        rw [hq] at h
        simp only [hx] at h
        unfold vcV acallee
        rw [hq]
        simp only [hx]
        unfold ACallV at h
        split at h
        · rename_i g cap hv
          rw [hv]
          exact h.mono fun v s hh => qcs_get hh
        · rename_i g ft cap hv
          rw [hv]
          exact h.mono fun v s hh => qcs_get hh
        · exact h.elim
      · cases hc
    · cases hc
end
end Go.Am
