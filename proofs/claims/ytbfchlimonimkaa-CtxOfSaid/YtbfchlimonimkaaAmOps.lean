/-
  The abstract machine Am: what each operation does, as a function.
-/
import Derived.Test.YtbfchlimonimkaaAmHeap
namespace Go.Am

/-- What the abstract machine knows of the program's types. -/
structure TT where
  und : TypeId → Option TypeDesc
  siz : TypeId → Option Nat
  byt : TypeId → Option Nat
  zer : TypeId → Option AV
  eqg : TypeId → Bool
  eqt : TypeId → Bool

structure TT.Ok (P : Program) (T : TT) : Prop where
  und : ∀ t d, T.und t = some d → P.underlying t = some d
  siz : ∀ t n, T.siz t = some n → (P.info? t).map (·.size) = some n
  byt : ∀ t n, T.byt t = some n → (P.info? t).map (·.bytes) = some n
  zer : ∀ t v, T.zer t = some v → ∃ i c, P.info? t = some i ∧ i.zero = some c ∧ ∀ γ, VRel γ v c
  eqg : ∀ t, T.eqg t = true → P.eqGuardType P.depth t = false
  eqt : ∀ t, T.eqt t = true → P.stoodInHeld t = false

mutual
/-- A constant of the program as an abstract value. -/
def ofV : Value → AV
  | .bool b => .bool b
  | .int k n => .int k n
  | .string s => .str s.data.toList
  | .pointer none => .ptr none
  | .slice none n m => .slc none n m true
  | .map none => .map none
  | .func (.func f) ⟨[]⟩ ⟨c⟩ => .func f (ofVs c)
  | .nilFunc => .nilFunc
  | .iface t v => .iface t (ofV v)
  | .nilIface => .nilIface
  | .agg ⟨l⟩ => .agg (ofVs l)
  | .tuple ⟨l⟩ => .tup (ofVs l)
  | _ => .bad
def ofVs : List Value → List AV
  | [] => []
  | v :: vs => ofV v :: ofVs vs
end

mutual
theorem ofV_rel (γ : Gam) : ∀ v, VRel γ (ofV v) v
  | .bool b => by simp [ofV, VRel]
  | .int k n => by simp [ofV, VRel]
  | .string s => by simp [ofV, VRel]
  | .pointer none => by simp [ofV, VRel]
  | .pointer (some _) => by simp [ofV, VRel]
  | .slice none n m => by simp [ofV, VRel]
  | .slice (some _) n m => by simp [ofV, VRel]
  | .map none => by simp [ofV, VRel]
  | .map (some _) => by simp [ofV, VRel]
  | .func (.func f) ⟨[]⟩ ⟨c⟩ => by simp only [ofV, VRel]; exact ⟨⟨c⟩, rfl, ofVs_rel γ c⟩
  | .func (.func f) ⟨_ :: _⟩ ⟨c⟩ => by simp [ofV, VRel]
  | .func (.method _) _ _ => by simp [ofV, VRel]
  | .func (.methodOf _ _) _ _ => by simp [ofV, VRel]
  | .func (.via _ _ _ _) _ _ => by simp [ofV, VRel]
  | .func (.yield _) _ _ => by simp [ofV, VRel]
  | .nilFunc => by simp [ofV, VRel]
  | .iface t v => by simp only [ofV, VRel]; exact ⟨v, rfl, ofV_rel γ v⟩
  | .nilIface => by simp [ofV, VRel]
  | .agg ⟨l⟩ => by simp only [ofV, VRel]; exact ⟨⟨l⟩, rfl, ofVs_rel γ l⟩
  | .tuple ⟨l⟩ => by simp only [ofV, VRel]; exact ⟨⟨l⟩, rfl, ofVs_rel γ l⟩
  | .float _ _ => by simp [ofV, VRel]
  | .complex _ _ _ => by simp [ofV, VRel]
  | .chan _ => by simp [ofV, VRel]
theorem ofVs_rel (γ : Gam) : ∀ l, VRels γ (ofVs l) l
  | [] => by simp [ofVs, VRels]
  | v :: vs => by simp only [ofVs]; exact VRels.cons (ofV_rel γ v) (ofVs_rel γ vs)
end

def aev (f : Nat → AV) : Operand → AV
  | .tmp t => f t
  | .const v => ofV v
  | .func g => .func g []
  | .global _ => .bad

def acells (v : AV) : Option (List AV) := if v.cells.all AV.one then some v.cells else none

def TT.agg (T : TT) (t : TypeId) : Option Bool :=
  match T.und t with
  | some (.struct _) | some (.array _ _) => some true
  | some _ => some false
  | none => none

/-- cells from a place on are rewritten -/
def wrs (cs : List AV) (o : Nat) : List AV → List AV
  | [] => cs
  | v :: vs => wrs (cs.set o v) (o + 1) vs

def rdc (s : AS) (l o n : Nat) : Option (List AV) :=
  match s.h l with
  | some (.cells cs _ _) => if o + n ≤ cs.length then some ((cs.drop o).take n) else none
  | _ => none

def rd1 (s : AS) (l o : Nat) : Option AV :=
  match s.h l with
  | some (.cells cs _ _) => cs[o]?
  | _ => none

def ald (T : TT) (t : TypeId) (s : AS) : AV → Option AV
  | .ptr (some (l, o)) =>
    match T.agg t with
    | some true => (T.siz t).bind fun n => (rdc s l o n).map .agg
    | some false => rd1 s l o
    | none => none
  | _ => none

def awr (s : AS) (l o : Nat) (vs : List AV) : Option AS :=
  match s.h l with
  | some (.cells cs g false) => if o + vs.length ≤ cs.length then some (s.put l (.cells (wrs cs o vs) g false)) else none
  | _ => none

def ast (T : TT) (t : TypeId) (s : AS) (p v : AV) : Option AS :=
  match p with
  | .ptr (some (l, o)) => (acells v).bind fun vs => if T.siz t = some vs.length then awr s l o vs else none
  | _ => none

def part (T : TT) (t : TypeId) (cs : List AV) (off : Nat) : Option AV :=
  match T.agg t with
  | some true => (T.siz t).map fun n => .agg ((cs.drop off).take n)
  | some false => cs[off]?
  | none => none

def afill (place : Nat → Option (Nat × Nat)) (cells : List AV) : List (Nat × AV) → Option (List AV)
  | [] => some cells
  | (i, v) :: rest =>
    match place i, acells v with
    | some (off, size), some vc => if vc.length = size ∧ off + vc.length ≤ cells.length then afill place (wrs cells off vc) rest else none
    | _, _ => none

def rep (n : Nat) (z : List AV) : List AV := (List.replicate n z).flatten

def abuild (T : TT) (t : TypeId) (parts : List (Nat × AV)) : Option AV :=
  (T.zer t).bind fun z => (acells z).bind fun zc =>
    match T.und t with
    | some (.struct fields) =>
      if fields.all (fun f => (T.siz f.type).isSome) then
        (afill (fun i => (fields[i]?).bind fun f => (T.siz f.type).map fun n => (f.offset, n)) zc parts).map .agg
      else none
    | some (.array _ elem) => (T.siz elem).bind fun n => (afill (fun i => some (i * n, n)) zc parts).map .agg
    | _ => none

def abuildSlice (T : TT) (t : TypeId) (len : Nat) (parts : List (Nat × AV)) (s : AS) : Option (AV × AS) :=
  match T.und t with
  | some (.slice elem) =>
    (T.siz elem).bind fun n => (T.zer elem).bind fun z => (acells z).bind fun zc =>
      if zc.length = n ∧ len * n ≤ 2 ^ 24 then
        (afill (fun i => some (i * n, n)) (rep len zc) parts).map fun cs => (.slc (some (s.nl, 0)) len len true, s.new (.cells cs 0 false))
      else none
  | _ => none

def eqFields (T : TT) (eqv : TypeId → AV → AV → Option Bool) (xs ys : List AV) : List Field → Option Bool
  | [] => some true
  | f :: fs =>
    if f.name ≠ "_" then
      (part T f.type xs f.offset).bind fun a => (part T f.type ys f.offset).bind fun b =>
        match eqv f.type a b with
        | some true => eqFields T eqv xs ys fs
        | r => r
    else eqFields T eqv xs ys fs

def eqElems (T : TT) (eqv : TypeId → AV → AV → Option Bool) (elem : TypeId) (n : Nat) (xs ys : List AV) : Nat → Nat → Option Bool
  | 0, _ => some true
  | len + 1, i =>
    (part T elem xs (i * n)).bind fun a => (part T elem ys (i * n)).bind fun b =>
      match eqv elem a b with
      | some true => eqElems T eqv elem n xs ys len (i + 1)
      | r => r

/-- Equality of two values of a type. -/
def aeq (T : TT) : Nat → TypeId → AV → AV → Option Bool
  | 0, _, _, _ => none
  | d + 1, t, x, y =>
    match T.und t, x, y with
    | some .bool, .bool a, .bool b => some (a == b)
    | some (.int _), .int k a, .int k' b => if k = k' then some (a == b) else none
    | some .string, .str a, .str b => some (a == b)
    | some (.pointer _), .ptr none, .ptr b => some b.isNone
    | some (.pointer _), .ptr _, .ptr none => some false
    | some (.slice _), .slc none _ _ _, .slc b _ _ _ => some b.isNone
    | some (.slice _), .slc _ _ _ _, .slc none _ _ _ => some false
    | some (.slice _), .emp, .slc none _ _ _ => some false
    | some (.slice _), .slc none _ _ _, .emp => some false
    | some (.map _ _), .map none, .map b => some b.isNone
    | some (.map _ _), .map _, .map none => some false
    | some (.func _ _ _), .nilFunc, .nilFunc => some true
    | some (.func _ _ _), .nilFunc, .func _ _ => some false
    | some (.func _ _ _), .nilFunc, .meth _ _ _ => some false
    | some (.func _ _ _), .meth _ _ _, .nilFunc => some false
    | some (.func _ _ _), .func _ _, .nilFunc => some false
    | some (.interface _), .nilIface, .nilIface => some true
    | some (.interface _), .nilIface, .iface _ _ => some false
    | some (.interface _), .iface _ _, .nilIface => some false
    | some (.struct fields), .agg xs, .agg ys => if T.eqt t then eqFields T (aeq T d) xs ys fields.toList else none
    | some (.array len elem), .agg xs, .agg ys => (T.siz elem).bind fun n => eqElems T (aeq T d) elem n xs ys len 0
    | _, _, _ => none

def bytesLt : List UInt8 → List UInt8 → Bool
  | _, [] => false
  | [], _ :: _ => true
  | a :: x, b :: y => a < b || (a == b && bytesLt x y)

def abinInt (op : BinOp) (k : IntKind) (x y : Int) : Option AV :=
  match op with
  | .add => some (.int k (k.wrap (x + y)))
  | .sub => some (.int k (k.wrap (x - y)))
  | .mul => some (.int k (k.wrap (x * y)))
  | .quo => if y = 0 then none else some (.int k (k.wrap (x.tdiv y)))
  | .rem => if y = 0 then none else some (.int k (x.tmod y))
  | .and => some (.int k (k.wrap (BitVec.ofInt k.bits x &&& BitVec.ofInt k.bits y).toNat))
  | .or => some (.int k (k.wrap (BitVec.ofInt k.bits x ||| BitVec.ofInt k.bits y).toNat))
  | .xor => some (.int k (k.wrap (BitVec.ofInt k.bits x ^^^ BitVec.ofInt k.bits y).toNat))
  | .andNot => some (.int k (k.wrap (BitVec.ofInt k.bits x &&& ~~~ BitVec.ofInt k.bits y).toNat))
  | .eql => some (.bool (x == y))
  | .neq => some (.bool (x != y))
  | .lss => some (.bool (x < y))
  | .leq => some (.bool (x ≤ y))
  | .gtr => some (.bool (x > y))
  | .geq => some (.bool (x ≥ y))
  | _ => none

def abin (T : TT) (op : BinOp) (t : TypeId) (x y : AV) : Option AV :=
  match op, x, y with
  | .shl, .int k a, .int _ b => if b < 0 then none else some (.int k (k.wrap (a * 2 ^ min b.toNat k.bits)))
  | .shr, .int k a, .int _ b => if b < 0 then none else some (.int k (a.fdiv (2 ^ min b.toNat k.bits)))
  | op, .int k a, .int k' b => if k = k' then abinInt op k a b else none
  | .add, .str a, .str b => if ((a.length + b.length : Nat) : Int) ≤ 9223372036854775807 then some (.str (a ++ b)) else none
  | .eql, .str a, .str b => some (.bool (a == b))
  | .neq, .str a, .str b => some (.bool !(a == b))
  | .lss, .str a, .str b => some (.bool (bytesLt a b))
  | .leq, .str a, .str b => some (.bool (bytesLt a b || a == b))
  | .gtr, .str a, .str b => some (.bool !(bytesLt a b || a == b))
  | .geq, .str a, .str b => some (.bool !(bytesLt a b))
  | .eql, x, y => (aeq T 100 t x y).map .bool
  | .neq, x, y => (aeq T 100 t x y).map fun b => .bool !b
  | _, _, _ => none

def isC : Operand → Bool
  | .const _ => true
  | _ => false

/-- the model's guard ahead of == and != lets these by -/
def agd (T : TT) (t : TypeId) (x y : Operand) : AV → AV → Bool
  | .agg _, .agg _ => T.eqg t
  | .nilIface, .nilIface => isC x || isC y
  | .bad, _ => false
  | _, .bad => false
  | _, _ => true

def aun (op : UnOp) (x : AV) : Option AV :=
  match op, x with
  | .neg, .int k n => some (.int k (k.wrap (0 - n)))
  | .xor, .int k n => abinInt .xor k (if k.signed then -1 else k.max) n
  | .not, .bool b => some (.bool !b)
  | _, _ => none

def afieldAddr (T : TT) (t : TypeId) (x : AV) (f : Nat) : Option AV :=
  match T.und t, x with
  | some (.struct fields), .ptr (some (l, o)) =>
    (fields[f]?).bind fun fd => match T.siz fd.type with
      | some (_ + 1) => some (.ptr (some (l, o + fd.offset)))
      | _ => none
  | _, _ => none

def aindexAddr (T : TT) (t : TypeId) (x ix : AV) : Option AV :=
  match T.und t, x, ix with
  | some (.array len elem), .ptr (some (l, o)), .int _ i =>
    (T.siz elem).bind fun n => if 0 ≤ i ∧ i < len then some (.ptr (some (l, o + i.toNat * n))) else none
  | some (.slice elem), .slc (some (l, o)) len _ _, .int _ i =>
    (T.siz elem).bind fun n => if 0 ≤ i ∧ i < len then some (.ptr (some (l, o + i.toNat * n))) else none
  | _, _, _ => none

def aindex (T : TT) (t : TypeId) (x ix : AV) : Option AV :=
  match T.und t, x, ix with
  | some (.array len elem), .agg cs, .int _ i =>
    (T.siz elem).bind fun n => if 0 ≤ i ∧ i < len then part T elem cs (i.toNat * n) else none
  | some .string, .str s, .int _ i => if 0 ≤ i then (s[i.toNat]?).map fun b => .int .u8 b.toNat else none
  | _, _, _ => none

def afield (T : TT) (t : TypeId) (x : AV) (f : Nat) : Option AV :=
  match T.und t, x with
  | some (.struct fields), .agg cs => (fields[f]?).bind fun fd => part T fd.type cs fd.offset
  | _, _ => none

def abound1 (y : Nat) : AV → Option Nat
  | .int _ i => if 0 ≤ i ∧ i ≤ y then some i.toNat else none
  | _ => none

def aopt (y : Nat) (v : Option AV) (d : Nat) : Option Nat :=
  match v with
  | none => some d
  | some v => abound1 y v

def ahigh (len m : Nat) : Option AV → Option Nat
  | some v => abound1 m v
  | none => if len ≤ m then some len else none

/-- low, high, max -/
def abounds (len cap : Nat) (low high max : Option AV) : Option (Nat × Nat × Nat) :=
  if high.isNone ∧ max.isSome then none else
  (aopt cap max cap).bind fun m => (ahigh len m high).bind fun h => (aopt h low 0).map fun l => (l, h, m)

def aslice (T : TT) (t : TypeId) (x : AV) (low high max : Option AV) : Option AV :=
  match T.und t, x with
  | some .string, .str s =>
    if max.isSome then none else
    (abounds s.length s.length low high none).map fun r => .str ((s.drop r.1).take (r.2.1 - r.1))
  | some (.slice elem), .slc a len cap ex =>
    (T.siz elem).bind fun n => (abounds len cap low high max).bind fun (l, h, m) =>
      match a with
      | none => some (.slc none (h - l) (m - l) true)
      | some (b, o) =>
        if ex || max.isSome then some (.slc (some (b, if m = l then o else o + l * n)) (h - l) (m - l) true)
        else if m = l then some .emp
        else some (.slc (some (b, o + l * n)) (h - l) (m - l) false)
  | some (.array k elem), .ptr (some (b, o)) =>
    (T.siz elem).bind fun n => (abounds k k low high max).map fun (l, h, m) => .slc (some (b, if m = l then o else o + l * n)) (h - l) (m - l) true
  | _, _ => none

def amakeSlice (T : TT) (t : TypeId) (len cap : AV) (s : AS) : Option (AV × AS) :=
  match T.und t, len, cap with
  | some (.slice elem), .int _ l, .int _ c =>
    (T.siz elem).bind fun n => (T.byt elem).bind fun by_ => (T.zer elem).bind fun z => (acells z).bind fun zc =>
      if 0 ≤ l ∧ l ≤ c ∧ (by_ : Int) * c ≤ 2 ^ 48 ∧ c < 2 ^ 63 ∧ zc.length = n then
        some (.slc (some (s.nl, 0)) l.toNat c.toNat true, s.new (.cells (rep c.toNat zc) 0 false))
      else none
  | _, _, _ => none

/-- the cells of an append's or a copy's source -/
def asrc (size n : Nat) (s : AS) : AV → Option (List AV)
  | .slc (some (l, o)) _ _ _ => if n = 0 then some [] else rdc s l o (n * size)
  | .slc none _ _ _ => some []
  | .emp => if n = 0 then some [] else none
  | .str b => some ((b.take n).map fun c => .int .u8 c.toNat)
  | _ => none

def alen : AV → Option Nat
  | .slc _ n _ _ => some n
  | .emp => some 0
  | .str s => some s.length
  | _ => none

/-- append(s, make(..)...), where there is no room and that is known -/
def aappendZ (T : TT) (elem : TypeId) (dst x : AV) (s : AS) : Option (AV × AS) :=
  (T.siz elem).bind fun size => (T.byt elem).bind fun by_ => (T.zer elem).bind fun z => (acells z).bind fun zc =>
  match dst, x with
  | .slc base len cap true, .int .i64 k =>
    if zc.length ≠ size ∨ k < 0 ∨ 2 ^ 40 < len + k.toNat ∨ 2 * ((len + k.toNat + 256) * by_) > 2 ^ 48 ∨ len + k.toNat ≤ cap then none else
    (asrc size len s (.slc base len cap true)).map fun old => (.slc (some (s.nl, 0)) (len + k.toNat) (len + k.toNat) false, s.new (.cells (old ++ rep k.toNat zc) size false))
  | _, _ => none

/-- append: in place where there is room that is known; else what was there is given up for a new row -/
def aappend (T : TT) (t xt : TypeId) (dst x : AV) (s : AS) : Option (AV × AS) :=
  match T.und t, T.und xt with
  | some (.slice elem), some xd =>
    if (match xd with | .int _ => true | _ => false) then aappendZ T elem dst x s else
    (T.siz elem).bind fun size => (T.byt elem).bind fun by_ => (T.zer elem).bind fun z => (acells z).bind fun zc =>
    (alen x).bind fun n => (asrc size n s x).bind fun new =>
    match dst with
    | .slc base len cap ex =>
      if zc.length ≠ size ∨ new.length ≠ n * size ∨ 2 ^ 40 < len + n ∨ 2 * ((len + n + 256) * by_) > 2 ^ 48 then none else
      if len + n ≤ cap then
        (match base with
          | none => some (.slc none (len + n) cap ex, s)
          | some (l, o) =>
            if new = [] then some (.slc base (len + n) cap ex, s)
            else (awr s l (o + len * size) new).map fun s' => (.slc base (len + n) cap ex, s'))
      else
        (asrc size len s (.slc base len cap ex)).bind fun old =>
          if ex then some (.slc (some (s.nl, 0)) (len + n) (len + n) false, s.new (.cells (old ++ new) size false))
          else match base with
            | none => none
            | some (l, o) =>
              match s.h l with
              | some (.cells cs g false) =>
                if g = size ∧ size ≠ 0 ∧ o + cap * size = cs.length then
                  some (.slc (some (s.nl, 0)) (len + n) (len + n) false, (s.kill l).new (.cells (old ++ new) size false))
                else none
              | _ => none
    | _ => none
  | _, _ => none

def acopy (T : TT) (t : TypeId) (dst x : AV) (s : AS) : Option (AV × AS) :=
  match T.und t with
  | some (.slice elem) =>
    (T.siz elem).bind fun size => (alen x).bind fun m => (alen dst).bind fun d =>
      (asrc size (min m d) s x).bind fun new =>
        match dst with
        | .slc (some (l, o)) _ _ _ => if new = [] then some (.int .i64 ((min m d : Nat) : Int), s) else (awr s l o new).map fun s' => (.int .i64 ((min m d : Nat) : Int), s')
        | .slc none _ _ _ => some (.int .i64 ((min m d : Nat) : Int), s)
        | .emp => if new = [] then some (.int .i64 ((min m d : Nat) : Int), s) else none
        | _ => none
  | _ => none

/-- the entry of a key -/
def afind (T : TT) (kt : TypeId) (k : AV) : List (AV × AV × Nat) → Nat → Option (Option (Nat × AV))
  | [], _ => some none
  | (k', v, _) :: es, i =>
    match aeq T 100 kt k k' with
    | some true => some (some (i, v))
    | some false => afind T kt k es (i + 1)
    | none => none

def keyFields (T : TT) (ok : TypeId → AV → Bool) (cs : List AV) : List Field → Bool
  | [] => true
  | f :: fs => (if f.name ≠ "_" then (match part T f.type cs f.offset with | some v => ok f.type v | none => false) else true) && keyFields T ok cs fs

def keyElems (T : TT) (ok : TypeId → AV → Bool) (elem : TypeId) (n : Nat) (cs : List AV) : Nat → Nat → Bool
  | 0, _ => true
  | len + 1, i => (match part T elem cs (i * n) with | some v => ok elem v | none => false) && keyElems T ok elem n cs len (i + 1)

/-- a key of a type that can be one: no interface inside -/
def akeyOk (T : TT) : Nat → TypeId → AV → Bool
  | 0, _, _ => false
  | d + 1, t, v =>
    match T.und t, v with
    | some (.array len elem), .agg cs => match T.siz elem with | some n => keyElems T (akeyOk T d) elem n cs len 0 | none => false
    | some (.struct fields), .agg cs => keyFields T (akeyOk T d) cs fields.toList
    | some (.interface _), _ => false
    | some (.array _ _), _ => false
    | some (.struct _), _ => false
    | some _, _ => true
    | none, _ => false

def bitsL (same : AV → AV → Bool) : List AV → List AV → Bool
  | [], [] => true
  | x :: xs, y :: ys => same x y && bitsL same xs ys
  | _, _ => false

/-- values without labels that are the same, bit by bit -/
def abits : Nat → AV → AV → Bool
  | 0, .bool a, .bool b => a == b
  | 0, .int j a, .int k b => j == k && a == b
  | 0, .str a, .str b => a == b
  | 0, _, _ => false
  | _ + 1, .bool a, .bool b => a == b
  | _ + 1, .int j a, .int k b => j == k && a == b
  | _ + 1, .str a, .str b => a == b
  | n + 1, .agg a, .agg b => bitsL (abits n) a b
  | _ + 1, _, _ => false

def alookup (T : TT) (t : TypeId) (m k : AV) (commaOk : Bool) (s : AS) : Option AV :=
  match T.und t, m with
  | some (.map kt et), .map r =>
    if akeyOk T 100 kt k then
      (match r with
        | none => some []
        | some l => match s.h l with
          | some (.map es _ _) => some es
          | _ => none).bind fun es =>
        (afind T kt k es 0).bind fun r =>
          (match r with
            | some (_, v) => some (v, true)
            | none => (T.zer et).map fun z => (z, false)).map fun (v, ok) => if commaOk then .tup [v, .bool ok] else v
    else none
  | _, _ => none

def amapUpdate (T : TT) (t : TypeId) (m k v : AV) (s : AS) : Option AS :=
  match T.und t, m with
  | some (.map kt _), .map (some l) =>
    match s.h l with
    | some (.map es clock false) =>
      if akeyOk T 100 kt k then
        (afind T kt k es 0).bind fun r =>
          match r with
          | some (i, _) => match es[i]? with
            | some (k', _, n) => if abits 100 k' k then some (s.put l (.map (es.set i (k, v, n)) clock false)) else none
            | none => none
          | none => some (s.put l (.map (es ++ [(k, v, clock)]) (clock + 1) false))
      else none
    | _ => none
  | _, _ => none

def adelete (T : TT) (t : TypeId) (m k : AV) (s : AS) : Option AS :=
  match T.und t, m with
  | some (.map kt _), .map r =>
    if akeyOk T 100 kt k then
      match r with
      | none => some s
      | some l => match s.h l with
        | some (.map es clock false) =>
          (afind T kt k es 0).map fun r => match r with
            | some (i, _) => s.put l (.map (es.eraseIdx i) clock false)
            | none => s.put l (.map es clock false)
        | _ => none
    else none
  | _, _ => none

def alenB (T : TT) (t : TypeId) (x : AV) (s : AS) : Option AV :=
  match T.und t, x with
  | some .string, .str b => some (.int .i64 b.length)
  | some (.array n _), _ => some (.int .i64 n)
  | some (.slice _), .slc _ n _ _ => some (.int .i64 n)
  | some (.slice _), .emp => some (.int .i64 0)
  | some (.map _ _), .map none => some (.int .i64 0)
  | some (.map _ _), .map (some l) => match s.h l with
    | some (.map es _ _) => some (.int .i64 es.length)
    | _ => none
  | _, _ => none

def acapB (T : TT) (t : TypeId) (x : AV) : Option AV :=
  match T.und t, x with
  | some (.slice _), .slc _ _ c true => some (.int .i64 c)
  | _, _ => none

def aclear (T : TT) (t : TypeId) (x : AV) (s : AS) : Option AS :=
  match T.und t, x with
  | some (.slice _), .slc none _ _ _ => some s
  | some (.slice _), .emp => some s
  | some (.slice elem), .slc (some (l, o)) n _ _ =>
    if n = 0 then some s else
    (T.zer elem).bind fun z => (acells z).bind fun zc => awr s l o (rep n zc)
  | _, _ => none

def amax2 (big : Bool) : AV → AV → Option AV
  | .int k x, .int _ y => some (.int k (if big then (if y > x then y else x) else (if y < x then y else x)))
  | _, _ => none

def amaxL (big : Bool) (x : AV) : List AV → Option AV
  | [] => some x
  | y :: ys => (amax2 big x y).bind fun z => amaxL big z ys

def amax (big : Bool) : List AV → Option AV
  | [] => none
  | x :: rest => amaxL big x rest

/-- bytes in cells, as a text -/
def abytes : List AV → Option (List UInt8)
  | [] => some []
  | .int .u8 b :: cs => (abytes cs).map fun l => UInt8.ofNat b.toNat :: l
  | _ :: _ => none

def aconvert (T : TT) (src dst : TypeId) (x : AV) (s : AS) : Option (AV × AS) :=
  match T.und src, T.und dst, x with
  | some _, some (.int k), .int _ n => some (.int k (k.wrap n), s)
  | some _, some .string, .str b => some (.str b, s)
  | some _, some (.slice e), .str b =>
    match T.und e with
    | some (.int .u8) => some (.slc (some (s.nl, 0)) b.length b.length false, s.new (.cells (b.map fun c => .int .u8 c.toNat) 1 false))
    | _ => none
  | some (.slice e), some .string, .slc none n _ _ =>
    match T.und e with
    | some (.int .u8) => if n = 0 then some (.str [], s) else none
    | _ => none
  | some (.slice e), some .string, .emp =>
    match T.und e with
    | some (.int .u8) => some (.str [], s)
    | _ => none
  | some (.slice e), some .string, .slc (some (l, o)) n _ _ =>
    match T.und e with
    | some (.int .u8) => (rdc s l o n).bind fun cs => (abytes cs).map fun bs => (.str bs, s)
    | _ => none
  | _, _, _ => none

def abuiltin (T : TT) (b : Builtin) (ts : List TypeId) (args : List AV) (s : AS) : Option (AV × AS) :=
  match b, ts, args with
  | .len, t :: _, x :: _ => (alenB T t x s).map (·, s)
  | .cap, t :: _, x :: _ => (acapB T t x).map (·, s)
  | .append, t :: xt :: _, dst :: x :: _ => aappend T t xt dst x s
  | .copy, t :: _ :: _, dst :: x :: _ => acopy T t dst x s
  | .delete, t :: _, m :: k :: _ => (adelete T t m k s).map (.undef, ·)
  | .clear, t :: _, x :: _ => (aclear T t x s).map (.undef, ·)
  | .max, _, l => (amax true l).map (·, s)
  | .min, _, l => (amax false l).map (·, s)
  | _, _, _ => none

/-- An operation that is no call of a function and draws nothing. -/
def aop (T : TT) (op : Op) (ρ : Operand → AV) (s : AS) : Option (AV × AS) :=
  match op with
  | .move x | .assign x => some (ρ x, s)
  | .pick c a b => match ρ c with
    | .bool t => some (if t then ρ a else ρ b, s)
    | _ => none
  | .alloc e => (T.zer e).bind fun z => (acells z).map fun cs => (.ptr (some (s.nl, 0)), s.new (.cells cs 0 false))
  | .box _ x => (acells (ρ x)).map fun cs => (.ptr (some (s.nl, 0)), s.new (.cells cs 0 false))
  | .build t parts => (abuild T t (parts.toList.map fun p => (p.1, ρ p.2))).map (·, s)
  | .buildSlice t len parts => abuildSlice T t len (parts.toList.map fun p => (p.1, ρ p.2)) s
  | .load t a => (ald T t s (ρ a)).map (·, s)
  | .store t a x => (ast T t s (ρ a) (ρ x)).map (.undef, ·)
  | .nilCheck x => match ρ x with
    | .ptr (some p) => some (.ptr (some p), s)
    | .func f c => some (.func f c, s)
    | .meth f ft c => some (.meth f ft c, s)
    | .iface t v => some (.iface t v, s)
    | _ => none
  | .binOp op t x y _ => if agd T t x y (ρ x) (ρ y) then (abin T op t (ρ x) (ρ y)).map (·, s) else none
  | .unOp op _ x => (aun op (ρ x)).map (·, s)
  | .convert src dst x => aconvert T src dst (ρ x) s
  | .makeInterface t x => match T.und t with
    | some (.interface _) => none
    | some _ => some (.iface t (ρ x), s)
    | none => none
  | .makeFunc (.func f) first captured => if first.isEmpty then some (.func f (captured.toList.map ρ), s) else some (.meth f (first.toList.map ρ) (captured.toList.map ρ), s)
  | .makeMap t none => match T.und t with
    | some _ => some (.map (some s.nl), s.new (.map [] 0 false))
    | none => none
  | .makeSlice t l c => amakeSlice T t (ρ l) (ρ c) s
  | .slice t x lo hi mx => (aslice T t (ρ x) (lo.map ρ) (hi.map ρ) (mx.map ρ)).map (·, s)
  | .fieldAddr t x f => (afieldAddr T t (ρ x) f).map (·, s)
  | .field t x f => (afield T t (ρ x) f).map (·, s)
  | .indexAddr t x ix => (aindexAddr T t (ρ x) (ρ ix)).map (·, s)
  | .index t x ix => (aindex T t (ρ x) (ρ ix)).map (·, s)
  | .lookup t x ix ok => (alookup T t (ρ x) (ρ ix) ok s).map (·, s)
  | .mapUpdate t m k v | .insert t m k v => (amapUpdate T t (ρ m) (ρ k) (ρ v) s).map (.undef, ·)
  | .extract t i => match ρ t with
    | .tup vs => (vs[i]?).map (·, s)
    | _ => none
  | .call c => match c.callee with
    | .builtin b => abuiltin T b c.argTypes.toList (c.args.toList.map ρ) s
    | _ => none
  | .range t x => match T.und t, ρ x with
    | some .string, .str b => some (.ptr (some (s.nl, 0)), s.new (.strIt b 0 false))
    | some (.map _ _), .map none => some (.ptr (some (s.nl, 0)), s.new (.mapIt none 0 [] 0 false))
    | some (.map _ _), .map (some m) => match s.h m with
      | some (.map _ clock _) => some (.ptr (some (s.nl, 0)), s.new (.mapIt (some m) clock [] clock false))
      | _ => none
    | _, _ => none
  | _ => none

/-- What may come of an operation that draws: the next step of a range. -/
def acand (op : Op) (ρ : Operand → AV) (s : AS) : Option (List (AV × AS)) :=
  match op with
  | .next it isStr => match ρ it with
    | .ptr (some (l, 0)) => match s.h l with
      | some (.mapIt none _ _ _ _) => if isStr then none else some [(.tup [.bool false], s)]
      | some (.mapIt (some m) since seen last false) => if isStr then none else match s.h m with
        | some (.map es clock _) =>
          if seen ≠ [] ∧ es ≠ [] ∧ (es.all fun e => decide (last ≤ e.2.2)) then none else
          let left := es.filter fun e => !seen.contains e.2.2
          let old := left.filter fun e => decide (e.2.2 < since)
          let new := left.filter fun e => decide (since ≤ e.2.2)
          some ((if old.isEmpty then [(.tup [.bool false], s)] else []) ++
            (old ++ new).map fun e => (.tup [.bool true, e.1, e.2.1], s.put l (.mapIt (some m) since (seen ++ [e.2.2]) clock false)))
        | _ => none
      | some (.strIt b pos false) => if isStr then
          (if pos < b.length then
            let cw := Utf8.decode ⟨b.toArray⟩ pos
            some [(.tup [.bool true, .int .i64 pos, .int .i32 cw.1], s.put l (.strIt b (pos + cw.2) false))]
          else some [(.tup [.bool false], s)])
        else none
      | _ => none
    | _ => none
  | _ => none

end Go.Am
