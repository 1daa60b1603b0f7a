/-
  The abstract machine Am: values, objects, the relation to the model's worlds.
-/
import Derived.Orders
import Derived.Laws.Sem
import Derived.Laws.World
namespace Go.Am

/-- Where a label lies: block, offset, extra capacity (in elements). -/
structure CI where
  b : Nat
  d : Nat
  x : Nat

abbrev Gam := Nat → Option CI

/-- Abstract values. -/
inductive AV where
  | int (k : IntKind) (n : Int)
  | bool (b : Bool)
  | str (s : List UInt8)
  | ptr (a : Option (Nat × Nat))
  | slc (a : Option (Nat × Nat)) (len cap : Nat) (ex : Bool)
  | emp
  | map (r : Option Nat)
  | func (fn : FuncId) (captured : List AV)
  | meth (fn : FuncId) (first captured : List AV)
  | nilFunc
  | iface (t : TypeId) (v : AV)
  | nilIface
  | agg (l : List AV)
  | tup (l : List AV)
  | bad
  deriving Inhabited

abbrev AV.undef : AV := .tup []

def AV.cells : AV → List AV
  | .agg l => l
  | v => [v]

mutual
/-- An abstract value stands for a value of the model. -/
def VRel (γ : Gam) : AV → Value → Prop
  | .int k n, c => c = .int k n
  | .bool b, c => c = .bool b
  | .str s, c => c = .string ⟨s.toArray⟩
  | .ptr none, c => c = .pointer none
  | .ptr (some (l, o)), c => ∃ i, γ l = some i ∧ c = .pointer (some ⟨i.b, i.d + o, none⟩)
  | .slc none n m e, c => c = .slice none n m ∧ e = true
  | .slc (some (l, o)) n m e, c => ∃ i, γ l = some i ∧ c = .slice (some ⟨i.b, i.d + o, none⟩) n (if e then m else m + i.x)
  | .emp, c => ∃ a m, c = .slice (some a) 0 m
  | .map none, c => c = .map none
  | .map (some l), c => ∃ i, γ l = some i ∧ c = .map (some i.b)
  | .func f cap, c => ∃ cc, c = .func (.func f) #[] cc ∧ VRels γ cap cc.toList
  | .meth f ft cap, c => ∃ cf cc, c = .func (.func f) cf cc ∧ VRels γ ft cf.toList ∧ VRels γ cap cc.toList
  | .nilFunc, c => c = .nilFunc
  | .iface t v, c => ∃ cv, c = .iface t cv ∧ VRel γ v cv
  | .nilIface, c => c = .nilIface
  | .agg l, c => ∃ cs, c = .agg cs ∧ VRels γ l cs.toList
  | .tup l, c => ∃ cs, c = .tuple cs ∧ VRels γ l cs.toList
  | .bad, _ => True
def VRels (γ : Gam) : List AV → List Value → Prop
  | [], c => c = []
  | v :: vs, c => ∃ d ds, c = d :: ds ∧ VRel γ v d ∧ VRels γ vs ds
end

def Gam.le (γ γ' : Gam) : Prop := ∀ l i, γ l = some i → γ' l = some i
theorem Gam.le_refl (γ : Gam) : Gam.le γ γ := fun _ _ h => h
theorem Gam.le_trans {a b c : Gam} (h : Gam.le a b) (h' : Gam.le b c) : Gam.le a c := fun l i e => h' l i (h l i e)

mutual
theorem VRel.mono {γ γ' : Gam} (h : Gam.le γ γ') : ∀ {v : AV} {c : Value}, VRel γ v c → VRel γ' v c
  | .int _ _, _, e => by simpa [VRel] using e
  | .bool _, _, e => by simpa [VRel] using e
  | .str _, _, e => by simpa [VRel] using e
  | .ptr none, _, e => by simpa [VRel] using e
  | .ptr (some (l, o)), _, e => by
    simp only [VRel] at e ⊢; obtain ⟨i, hi, e⟩ := e; exact ⟨i, h l i hi, e⟩
  | .slc none _ _ _, _, e => by simpa [VRel] using e
  | .slc (some (l, o)) _ _ _, _, e => by
    simp only [VRel] at e ⊢; obtain ⟨i, hi, e⟩ := e; exact ⟨i, h l i hi, e⟩
  | .emp, _, e => by simpa [VRel] using e
  | .map none, _, e => by simpa [VRel] using e
  | .map (some l), _, e => by
    simp only [VRel] at e ⊢; obtain ⟨i, hi, e⟩ := e; exact ⟨i, h l i hi, e⟩
  | .func f cap, _, e => by
    simp only [VRel] at e ⊢; obtain ⟨i, hi, e⟩ := e; exact ⟨i, hi, VRels.mono h e⟩
  | .meth f ft cap, _, e => by
    simp only [VRel] at e ⊢; obtain ⟨i, j, hi, e1, e2⟩ := e; exact ⟨i, j, hi, VRels.mono h e1, VRels.mono h e2⟩
  | .nilFunc, _, e => by simpa [VRel] using e
  | .iface t v, _, e => by
    simp only [VRel] at e ⊢; obtain ⟨i, hi, e⟩ := e; exact ⟨i, hi, VRel.mono h e⟩
  | .nilIface, _, e => by simpa [VRel] using e
  | .agg l, _, e => by
    simp only [VRel] at e ⊢; obtain ⟨i, hi, e⟩ := e; exact ⟨i, hi, VRels.mono h e⟩
  | .tup l, _, e => by
    simp only [VRel] at e ⊢; obtain ⟨i, hi, e⟩ := e; exact ⟨i, hi, VRels.mono h e⟩
  | .bad, _, _ => by simp [VRel]
theorem VRels.mono {γ γ' : Gam} (h : Gam.le γ γ') : ∀ {v : List AV} {c : List Value}, VRels γ v c → VRels γ' v c
  | [], _, e => by simpa [VRels] using e
  | v :: vs, _, e => by
    simp only [VRels] at e ⊢; obtain ⟨d, ds, rfl, hv, hs⟩ := e; exact ⟨d, ds, rfl, VRel.mono h hv, VRels.mono h hs⟩
end

theorem VRels.nil_iff {γ : Gam} {c : List Value} : VRels γ [] c ↔ c = [] := by simp [VRels]
theorem VRels.cons_iff {γ : Gam} {v : AV} {vs : List AV} {c : List Value} : VRels γ (v :: vs) c ↔ ∃ d ds, c = d :: ds ∧ VRel γ v d ∧ VRels γ vs ds := by simp [VRels]
theorem VRels.cons {γ : Gam} {v : AV} {vs : List AV} {d : Value} {ds : List Value} (h : VRel γ v d) (hs : VRels γ vs ds) : VRels γ (v :: vs) (d :: ds) := by
  simp only [VRels]; exact ⟨d, ds, rfl, h, hs⟩
theorem VRels.nil {γ : Gam} : VRels γ [] [] := by simp [VRels]

theorem VRels.iff_get {γ : Gam} : ∀ {vs : List AV} {cs : List Value}, VRels γ vs cs ↔ vs.length = cs.length ∧ ∀ (i : Nat) v c, vs[i]? = some v → cs[i]? = some c → VRel γ v c
  | [], cs => by
    constructor
    · intro h; obtain rfl := VRels.nil_iff.1 h; simp
    · intro ⟨h, _⟩; simp at h; obtain rfl : cs = [] := List.length_eq_zero_iff.1 h.symm; exact VRels.nil
  | v :: vs, cs => by
    constructor
    · intro h
      obtain ⟨d, ds, rfl, hv, hs⟩ := VRels.cons_iff.1 h
      obtain ⟨hl, hg⟩ := VRels.iff_get.1 hs
      refine ⟨by simp [hl], fun i a b ha hb => ?_⟩
      cases i with
      | zero => simp at ha hb; subst ha; subst hb; exact hv
      | succ i => simp at ha hb; exact hg i a b ha hb
    · intro ⟨hl, hg⟩
      cases cs with
      | nil => simp at hl
      | cons d ds =>
        exact VRels.cons (hg 0 v d rfl rfl) (VRels.iff_get.2 ⟨by simpa using hl, fun i a b ha hb => hg (i + 1) a b (by simpa using ha) (by simpa using hb)⟩)

theorem VRels.length {γ : Gam} {vs : List AV} {cs : List Value} (h : VRels γ vs cs) : vs.length = cs.length := (VRels.iff_get.1 h).1
theorem VRels.get {γ : Gam} {vs : List AV} {cs : List Value} (h : VRels γ vs cs) {i : Nat} {v : AV} (hv : vs[i]? = some v) : ∃ c, cs[i]? = some c ∧ VRel γ v c := by
  obtain ⟨hl, hg⟩ := VRels.iff_get.1 h
  have hi : i < vs.length := by
    rcases Nat.lt_or_ge i vs.length with h | h
    · exact h
    · simp [List.getElem?_eq_none h] at hv
  exact ⟨cs[i]'(by omega), by simp [List.getElem?_eq_getElem (show i < cs.length by omega)], hg i v _ hv (by simp [List.getElem?_eq_getElem (show i < cs.length by omega)])⟩
theorem VRels.append {γ : Gam} : ∀ {vs us : List AV} {cs ds : List Value}, VRels γ vs cs → VRels γ us ds → VRels γ (vs ++ us) (cs ++ ds)
  | [], us, cs, ds, h, h' => by obtain rfl := VRels.nil_iff.1 h; simpa using h'
  | v :: vs, us, cs, ds, h, h' => by
    obtain ⟨d, es, rfl, hv, hs⟩ := VRels.cons_iff.1 h
    exact VRels.cons hv (VRels.append hs h')
theorem VRels.drop {γ : Gam} {vs : List AV} {cs : List Value} (h : VRels γ vs cs) (n : Nat) : VRels γ (vs.drop n) (cs.drop n) := by
  obtain ⟨hl, hg⟩ := VRels.iff_get.1 h
  exact VRels.iff_get.2 ⟨by simp [hl], fun i a b ha hb => hg (n + i) a b (by simpa using ha) (by simpa using hb)⟩
theorem VRels.take {γ : Gam} {vs : List AV} {cs : List Value} (h : VRels γ vs cs) (n : Nat) : VRels γ (vs.take n) (cs.take n) := by
  obtain ⟨hl, hg⟩ := VRels.iff_get.1 h
  refine VRels.iff_get.2 ⟨by simp [hl], fun i a b ha hb => ?_⟩
  rw [List.getElem?_take] at ha hb
  split at ha
  · rename_i hi; rw [if_pos hi] at hb; exact hg i a b ha hb
  · simp at ha
theorem VRels.set {γ : Gam} {vs : List AV} {cs : List Value} (h : VRels γ vs cs) (n : Nat) {v : AV} {c : Value} (hv : VRel γ v c) : VRels γ (vs.set n v) (cs.set n c) := by
  obtain ⟨hl, hg⟩ := VRels.iff_get.1 h
  refine VRels.iff_get.2 ⟨by simp [hl], fun i a b ha hb => ?_⟩
  rw [List.getElem?_set] at ha hb
  by_cases hi : n = i
  · subst hi; simp at ha hb; rw [← ha.2, ← hb.2]; exact hv
  · simp [hi] at ha hb; exact hg i a b ha hb

/-- A value of one cell. -/
def AV.one : AV → Bool
  | .agg _ | .tup _ | .bad => false
  | _ => true

theorem VRel.cells {γ : Gam} {v : AV} {c : Value} (h : VRel γ v c) (hb : v.cells.all AV.one = true) : VRels γ v.cells c.cells.toList := by
  cases v with
  | agg l => simp only [VRel] at h; obtain ⟨cs, rfl, hs⟩ := h; exact hs
  | ptr a =>
    have h' := h
    cases a <;> simp only [VRel] at h
    · subst h; exact VRels.cons h' VRels.nil
    · obtain ⟨i, _, rfl⟩ := h; exact VRels.cons h' VRels.nil
  | slc a n m e =>
    have h' := h
    cases a <;> simp only [VRel] at h
    · obtain ⟨rfl, _⟩ := h; exact VRels.cons h' VRels.nil
    · obtain ⟨i, _, rfl⟩ := h; exact VRels.cons h' VRels.nil
  | emp => have h' := h; simp only [VRel] at h; obtain ⟨i, j, rfl⟩ := h; exact VRels.cons h' VRels.nil
  | map r =>
    have h' := h
    cases r <;> simp only [VRel] at h
    · subst h; exact VRels.cons h' VRels.nil
    · obtain ⟨i, _, rfl⟩ := h; exact VRels.cons h' VRels.nil
  | func f cap => have h' := h; simp only [VRel] at h; obtain ⟨i, rfl, _⟩ := h; exact VRels.cons h' VRels.nil
  | meth f ft cap => have h' := h; simp only [VRel] at h; obtain ⟨i, j, rfl, _⟩ := h; exact VRels.cons h' VRels.nil
  | iface t v => have h' := h; simp only [VRel] at h; obtain ⟨i, rfl, _⟩ := h; exact VRels.cons h' VRels.nil
  | tup l => simp [AV.cells, AV.one] at hb
  | bad => simp [AV.cells, AV.one] at hb
  | int k n => have h' := h; simp only [VRel] at h; subst h; exact VRels.cons h' VRels.nil
  | bool b => have h' := h; simp only [VRel] at h; subst h; exact VRels.cons h' VRels.nil
  | str s => have h' := h; simp only [VRel] at h; subst h; exact VRels.cons h' VRels.nil
  | nilFunc => have h' := h; simp only [VRel] at h; subst h; exact VRels.cons h' VRels.nil
  | nilIface => have h' := h; simp only [VRel] at h; subst h; exact VRels.cons h' VRels.nil

theorem VRel.one {γ : Gam} {v : AV} {c : Value} (h : VRel γ v c) (hv : v.one = true) : c.oneCell' = true := by
  cases v with
  | ptr a => cases a <;> simp only [VRel] at h <;> (first | (subst h; rfl) | (obtain ⟨_, _, rfl⟩ := h; rfl))
  | slc a n m e => cases a <;> simp only [VRel] at h <;> (first | (obtain ⟨rfl, _⟩ := h; rfl) | (obtain ⟨_, _, rfl⟩ := h; rfl))
  | emp => simp only [VRel] at h; obtain ⟨_, _, rfl⟩ := h; rfl
  | map r => cases r <;> simp only [VRel] at h <;> (first | (subst h; rfl) | (obtain ⟨_, _, rfl⟩ := h; rfl))
  | func f cap => simp only [VRel] at h; obtain ⟨_, rfl, _⟩ := h; rfl
  | meth f ft cap => simp only [VRel] at h; obtain ⟨_, _, rfl, _⟩ := h; rfl
  | iface t v => simp only [VRel] at h; obtain ⟨_, rfl, _⟩ := h; rfl
  | agg l => simp [AV.one] at hv
  | tup l => simp [AV.one] at hv
  | bad => simp [AV.one] at hv
  | _ => simp only [VRel] at h; subst h; rfl

/-- Abstract objects. -/
inductive AO where
  | cells (cs : List AV) (g : Nat) (ro : Bool)
  | map (es : List (AV × AV × Nat)) (clock : Nat) (ro : Bool)
  | mapIt (m : Option Nat) (since : Nat) (seen : List Nat) (stepped : Nat) (ro : Bool)
  | strIt (s : List UInt8) (pos : Nat) (ro : Bool)
  | dead
  deriving Inhabited

/-- may it not be written? -/
def AO.ro : AO → Bool
  | .cells _ _ r => r
  | .map _ _ r => r
  | .mapIt _ _ _ _ r => r
  | .strIt _ _ r => r
  | .dead => true
def AO.shut : AO → AO
  | .cells c g _ => .cells c g true
  | .map es k _ => .map es k true
  | .mapIt m a b c _ => .mapIt m a b c true
  | .strIt s p _ => .strIt s p true
  | .dead => .dead

def ERels (γ : Gam) : List (AV × AV × Nat) → List MapEntry → Prop
  | [], c => c = []
  | (k, v, n) :: es, c => ∃ e cs, c = e :: cs ∧ VRel γ k e.key ∧ VRel γ v e.val ∧ e.born = n ∧ ERels γ es cs

theorem ERels.mono {γ γ' : Gam} (h : Gam.le γ γ') : ∀ {es : List (AV × AV × Nat)} {cs : List MapEntry}, ERels γ es cs → ERels γ' es cs
  | [], _, e => by simpa [ERels] using e
  | (k, v, n) :: es, _, e => by
    simp only [ERels] at e ⊢; obtain ⟨d, ds, rfl, hk, hv, hn, hs⟩ := e; exact ⟨d, ds, rfl, hk.mono h, hv.mono h, hn, ERels.mono h hs⟩

/-- An object of the abstract heap stands in a world. -/
def ORel (γ : Gam) (w : World) (i : CI) : AO → Prop
  | .cells cs g ro => ∃ c e fz, w.heap[i.b]? = some (.cells c e fz) ∧ (∀ (k : Nat) v, cs[k]? = some v → v.one = true ∧ ∃ cv, c[i.d + k]? = some cv ∧ VRel γ v cv) ∧
      (ro = false → ∀ o, o < c.size → ¬ (fz.1 ≤ o ∧ o < fz.2)) ∧ (g ≠ 0 → c.size = i.d + cs.length + i.x * g ∧ ∀ k, i.d + cs.length ≤ k → k < c.size → ∃ v cv, v.one = true ∧ c[k]? = some cv ∧ VRel γ v cv) ∧
      (ro = false → g ≠ 1 → fz = (0, 0))
  | .map es clock _ => ∃ ces, w.heap[i.b]? = some (.map ces clock) ∧ ERels γ es ces.toList
  | .mapIt none since seen stepped _ => i.d = 0 ∧ w.heap[i.b]? = some (.mapIter none since seen.toArray stepped)
  | .mapIt (some m) since seen stepped _ => i.d = 0 ∧ ∃ j, γ m = some j ∧ w.heap[i.b]? = some (.mapIter (some j.b) since seen.toArray stepped)
  | .strIt s pos _ => i.d = 0 ∧ w.heap[i.b]? = some (.stringIter ⟨s.toArray⟩ pos)
  | .dead => False

theorem ORel.mono {γ γ' : Gam} {w : World} {i : CI} {o : AO} (h : Gam.le γ γ') (ho : ORel γ w i o) : ORel γ' w i o := by
  cases o with
  | cells cs g ro =>
    obtain ⟨c, e, fz, h1, h2, h3, h4, h5⟩ := ho
    exact ⟨c, e, fz, h1, fun k v hk => let ⟨a, cv, b, d⟩ := h2 k v hk; ⟨a, cv, b, d.mono h⟩, h3, fun hg => ⟨(h4 hg).1, fun k hk hk' => let ⟨v, cv, a, b, d⟩ := (h4 hg).2 k hk hk'; ⟨v, cv, a, b, d.mono h⟩⟩, h5⟩
  | map es clock ro => obtain ⟨ces, h1, h2⟩ := ho; exact ⟨ces, h1, h2.mono h⟩
  | mapIt m since seen stepped ro => cases m with
    | none => exact ho
    | some m => obtain ⟨h0, j, h1, h2⟩ := ho; exact ⟨h0, j, h _ _ h1, h2⟩
  | strIt s pos ro => exact ho
  | dead => exact ho

theorem ORel.congr {γ : Gam} {w w' : World} {i : CI} {o : AO} (he : w'.heap[i.b]? = w.heap[i.b]?) (ho : ORel γ w i o) : ORel γ w' i o := by
  cases o with
  | cells cs g ro => simpa [ORel, he] using ho
  | map es clock ro => simpa [ORel, he] using ho
  | mapIt m since seen stepped ro => cases m <;> simpa [ORel, he] using ho
  | strIt s pos ro => simpa [ORel, he] using ho
  | dead => exact ho

theorem ORel.shut {γ : Gam} {w : World} {i : CI} {o : AO} (ho : ORel γ w i o) : ORel γ w i o.shut := by
  cases o with
  | cells cs g ro => obtain ⟨c, e, fz, h1, h2, h3, h4, h5⟩ := ho; exact ⟨c, e, fz, h1, h2, (fun h => nomatch h), h4, (fun h => nomatch h)⟩
  | map es clock ro => exact ho
  | mapIt m since seen stepped ro => cases m <;> exact ho
  | strIt s pos ro => exact ho
  | dead => exact ho

theorem ORel.lt {γ : Gam} {w : World} {i : CI} {o : AO} (ho : ORel γ w i o) : i.b < w.heap.size := by
  have key : ∃ x, w.heap[i.b]? = some x := by
    cases o with
    | cells cs g ro => obtain ⟨c, e, fz, h, _⟩ := ho; exact ⟨_, h⟩
    | map es clock ro => obtain ⟨c, h, _⟩ := ho; exact ⟨_, h⟩
    | mapIt m since seen stepped ro => cases m with
      | none => exact ⟨_, ho.2⟩
      | some m => obtain ⟨_, j, _, h⟩ := ho; exact ⟨_, h⟩
    | strIt s pos ro => exact ⟨_, ho.2⟩
    | dead => exact ho.elim
  obtain ⟨x, hx⟩ := key
  rcases Nat.lt_or_ge i.b w.heap.size with h | h
  · exact h
  · simp [Array.getElem?_eq_none h] at hx

/-- A table from numbers. -/
inductive Tr (α : Type) where
  | E
  | N (l : Tr α) (v : Option α) (r : Tr α)
  deriving Inhabited

def Tr.get {α : Type} : Tr α → Nat → Option α
  | .E, _ => none
  | .N l v r, n => bif Nat.beq n 0 then v else bif Nat.beq (n % 2) 1 then l.get (n / 2) else r.get (n / 2 - 1)

def Tr.left {α : Type} : Tr α → Tr α
  | .E => .E
  | .N l _ _ => l
def Tr.right {α : Type} : Tr α → Tr α
  | .E => .E
  | .N _ _ r => r
def Tr.val {α : Type} : Tr α → Option α
  | .E => none
  | .N _ v _ => v

def Tr.setF {α : Type} : Nat → Tr α → Nat → α → Tr α
  | 0, t, _, _ => t
  | k + 1, t, n, v => bif Nat.beq n 0 then .N t.left (some v) t.right else bif Nat.beq (n % 2) 1 then .N (setF k t.left (n / 2) v) t.val t.right else .N t.left t.val (setF k t.right (n / 2 - 1) v)

def Tr.set {α : Type} (t : Tr α) (n : Nat) (v : α) : Tr α := t.setF (Nat.log2 (n + 1) + 1) n v

theorem beq_ne {a b : Nat} (h : ¬ a = b) : Nat.beq a b = false := by
  cases hq : Nat.beq a b with
  | false => rfl
  | true => exact absurd (Nat.eq_of_beq_eq_true hq) h

theorem Tr.get_step {α : Type} (t : Tr α) (n : Nat) : t.get n = if n = 0 then t.val else if n % 2 = 1 then t.left.get (n / 2) else t.right.get (n / 2 - 1) := by
  cases t with
  | E => simp [Tr.get, Tr.val, Tr.left, Tr.right]
  | N l v r =>
    simp only [Tr.get, Tr.val, Tr.left, Tr.right]
    by_cases h0 : n = 0
    · subst h0; rfl
    · rw [if_neg h0]
      have : Nat.beq n 0 = false := beq_ne h0
      rw [this]
      by_cases h1 : n % 2 = 1
      · rw [if_pos h1, h1]; rfl
      · rw [if_neg h1]
        have : Nat.beq (n % 2) 1 = false := beq_ne h1
        rw [this]; rfl

theorem Tr.get_setF {α : Type} : ∀ (k : Nat) (t : Tr α) (n : Nat) (v : α) (x : Nat), n + 1 < 2 ^ k → (t.setF k n v).get x = if x = n then some v else t.get x
  | 0, t, n, v, x, h => by simp at h
  | k + 1, t, n, v, x, h => by
    have hk : 2 ^ (k + 1) = 2 * 2 ^ k := by rw [Nat.pow_succ]; omega
    simp only [Tr.setF]
    by_cases h0 : n = 0
    · subst h0
      have e0 : Nat.beq 0 0 = true := rfl
      rw [e0, Tr.get_step]
      simp only [cond_true, Tr.val, Tr.left, Tr.right]
      by_cases hx : x = 0
      · rw [if_pos hx, if_pos hx]
      · rw [if_neg hx, if_neg hx, Tr.get_step t x, if_neg hx]; cases t <;> rfl
    · have e0 : Nat.beq n 0 = false := beq_ne h0
      rw [e0]
      simp only [cond_false]
      by_cases h1 : n % 2 = 1
      · rw [h1]
        have e1 : Nat.beq 1 1 = true := rfl
        rw [e1, Tr.get_step]
        simp only [cond_true, Tr.val, Tr.left, Tr.right]
        by_cases hx : x = 0
        · rw [if_pos hx, if_neg (by omega), Tr.get_step t x, if_pos hx]; cases t <;> rfl
        · rw [if_neg hx]
          by_cases hx1 : x % 2 = 1
          · rw [if_pos hx1, Tr.get_setF k _ _ _ _ (by omega)]
            by_cases hxn : x = n
            · subst hxn; simp
            · rw [if_neg hxn, if_neg (by omega), Tr.get_step t x, if_neg hx, if_pos hx1]; cases t <;> rfl
          · rw [if_neg hx1, if_neg (by omega), Tr.get_step t x, if_neg hx, if_neg hx1]; cases t <;> rfl
      · have e1 : Nat.beq (n % 2) 1 = false := beq_ne h1
        rw [e1]
        simp only [cond_false]
        rw [Tr.get_step]
        simp only [Tr.val, Tr.left, Tr.right]
        by_cases hx : x = 0
        · rw [if_pos hx, if_neg (by omega), Tr.get_step t x, if_pos hx]; cases t <;> rfl
        · rw [if_neg hx]
          by_cases hx1 : x % 2 = 1
          · rw [if_pos hx1, if_neg (by omega), Tr.get_step t x, if_neg hx, if_pos hx1]; cases t <;> rfl
          · rw [if_neg hx1, Tr.get_setF k _ _ _ _ (by omega)]
            by_cases hxn : x = n
            · subst hxn; simp
            · rw [if_neg hxn, if_neg (by omega), Tr.get_step t x, if_neg hx, if_neg hx1]; cases t <;> rfl

theorem Tr.get_set {α : Type} (t : Tr α) (n : Nat) (v : α) (x : Nat) : (t.set n v).get x = if x = n then some v else t.get x :=
  Tr.get_setF _ t n v x Nat.lt_log2_self

/-- The abstract heap: what may be written, and layers that may not; the next label, and how far labels lie apart. -/
structure AS where
  lay : List (Tr AO)
  cur : Tr AO
  nl : Nat
  st : Nat

def layGet : List (Tr AO) → Nat → Option AO
  | [], _ => none
  | t :: ts, l => match t.get l with
    | some .dead => none
    | some o => some o.shut
    | none => layGet ts l

def AS.h (s : AS) (l : Nat) : Option AO :=
  match s.cur.get l with
  | some .dead => none
  | some o => some o
  | none => layGet s.lay l

def AS.put (s : AS) (l : Nat) (o : AO) : AS := { s with cur := s.cur.set l o }
def AS.kill (s : AS) (l : Nat) : AS := { s with cur := s.cur.set l .dead }
def AS.new (s : AS) (o : AO) : AS := { s with cur := s.cur.set s.nl o, nl := s.nl + s.st }

/-- an object that is there -/
def AO.live : AO → Bool
  | .dead => false
  | _ => true
theorem AO.live_of_ro {o : AO} (h : o.ro = false) : o.live = true := by cases o <;> first | rfl | cases h

theorem AS.put_h (s : AS) (l : Nat) {o : AO} (ho : o.live = true) (x : Nat) : (s.put l o).h x = if x = l then some o else s.h x := by
  simp only [AS.h, AS.put, Tr.get_set]
  by_cases hx : x = l
  · rw [if_pos hx, if_pos hx]; cases o <;> first | rfl | cases ho
  · rw [if_neg hx, if_neg hx]
theorem AS.kill_h (s : AS) (l x : Nat) : (s.kill l).h x = if x = l then none else s.h x := by
  simp only [AS.h, AS.kill, Tr.get_set]
  by_cases hx : x = l
  · rw [if_pos hx, if_pos hx]
  · rw [if_neg hx, if_neg hx]
theorem AS.new_h (s : AS) {o : AO} (ho : o.live = true) (x : Nat) : (s.new o).h x = if x = s.nl then some o else s.h x := by
  simp only [AS.h, AS.new, Tr.get_set]
  by_cases hx : x = s.nl
  · rw [if_pos hx, if_pos hx]; cases o <;> first | rfl | cases ho
  · rw [if_neg hx, if_neg hx]
theorem AS.new_nl (s : AS) (o : AO) : (s.new o).nl = s.nl + s.st := rfl
theorem AS.put_nl (s : AS) (l : Nat) (o : AO) : (s.put l o).nl = s.nl := rfl
theorem AS.kill_nl (s : AS) (l : Nat) : (s.kill l).nl = s.nl := rfl
theorem AS.new_st (s : AS) (o : AO) : (s.new o).st = s.st := rfl
theorem AS.put_st (s : AS) (l : Nat) (o : AO) : (s.put l o).st = s.st := rfl
theorem AS.kill_st (s : AS) (l : Nat) : (s.kill l).st = s.st := rfl

/-- All blocks of the abstract heap stand in the world; those that may be written are new since B, and apart. -/
structure Rel (B : Nat) (γ : Gam) (s : AS) (w : World) : Prop where
  obj : ∀ l o, s.h l = some o → ∃ i, γ l = some i ∧ ORel γ w i o ∧ (o.ro = false → B ≤ i.b)
  inj : ∀ l l' o o' i i', s.h l = some o → s.h l' = some o' → o.ro = false → γ l = some i → γ l' = some i' → i.b = i'.b → l = l'
  fin : ∀ j, γ (s.nl + j * s.st) = none
  stp : 1 ≤ s.st
  base : B ≤ w.heap.size

theorem Rel.fin0 {B : Nat} {γ : Gam} {s : AS} {w : World} (h : Rel B γ s w) : γ s.nl = none := by simpa using h.fin 0

/-- what lies around the heap is as it was -/
def Env (w w' : World) : Prop := w'.os = w.os ∧ w'.tape = w.tape ∧ w'.output = w.output
theorem Env.trans {a b c : World} (h : Env a b) (h' : Env b c) : Env a c := ⟨h'.1.trans h.1, h'.2.1.trans h.2.1, h'.2.2.trans h.2.2⟩

/-- What a piece of the run did: labels are kept; blocks that were there and are not written ones of the abstract heap are as they were. -/
structure Did (B : Nat) (γ : Gam) (s : AS) (w : World) (γ' : Gam) (s' : AS) (w' : World) : Prop where
  le : Gam.le γ γ'
  frm : ∀ b, b < w.heap.size → (∀ l o i, s.h l = some o → o.ro = false → γ l = some i → i.b ≠ b) → w'.heap[b]? = w.heap[b]?
  siz : w.heap.size ≤ w'.heap.size
  new : ∀ l o i, s'.h l = some o → o.ro = false → γ' l = some i → w.heap.size ≤ i.b ∨ ∃ l0 o0 i0, s.h l0 = some o0 ∧ o0.ro = false ∧ γ l0 = some i0 ∧ i0.b = i.b
  nl : ∃ k, s'.nl = s.nl + k * s.st
  st : s'.st = s.st
  lay : s'.lay = s.lay
  dom : ∀ l, γ l = none → γ' l ≠ none → ∃ j, l = s.nl + j * s.st
  sld : ∀ l o, s'.cur.get l = some o → o.live = true → o.ro = true → s.cur.get l = some o
  env : Env w w'

theorem Did.refl {B : Nat} {γ : Gam} {s : AS} {w : World} : Did B γ s w γ s w :=
  ⟨Gam.le_refl γ, fun _ _ _ => rfl, Nat.le_refl _, fun l o i h1 h2 h3 => .inr ⟨l, o, i, h1, h2, h3, rfl⟩, ⟨0, by simp⟩, rfl, rfl, fun _ h h' => absurd h h', fun _ _ h _ _ => h, rfl, rfl, rfl⟩

theorem Did.trans {B : Nat} {γ γ' γ'' : Gam} {s s' s'' : AS} {w w' w'' : World} (a : Did B γ s w γ' s' w') (b : Did B γ' s' w' γ'' s'' w'') : Did B γ s w γ'' s'' w'' := by
  refine ⟨Gam.le_trans a.le b.le, fun k hk hn => ?_, Nat.le_trans a.siz b.siz, fun l o i h1 h2 h3 => ?_, ?_, b.st.trans a.st, b.lay.trans a.lay, fun l h h' => ?_, fun l o h h1 h2 => a.sld l o (b.sld l o h h1 h2) h1 h2, a.env.trans b.env⟩
  · rw [b.frm k (Nat.lt_of_lt_of_le hk a.siz) ?_, a.frm k hk hn]
    intro l o i h1 h2 h3 e
    rcases a.new l o i h1 h2 h3 with h | ⟨l0, o0, i0, g1, g2, g3, g4⟩
    · omega
    · exact hn l0 o0 i0 g1 g2 g3 (by omega)
  · rcases b.new l o i h1 h2 h3 with h | ⟨l0, o0, i0, g1, g2, g3, g4⟩
    · exact .inl (Nat.le_trans a.siz h)
    · rcases a.new l0 o0 i0 g1 g2 g3 with h | ⟨l1, o1, i1, f1, f2, f3, f4⟩
      · exact .inl (by omega)
      · exact .inr ⟨l1, o1, i1, f1, f2, f3, by omega⟩
  · obtain ⟨k1, e1⟩ := a.nl
    obtain ⟨k2, e2⟩ := b.nl
    exact ⟨k1 + k2, by rw [e2, e1, a.st, Nat.add_mul, Nat.add_assoc]⟩
  · cases h1 : γ' l with
    | some i => exact a.dom l h (by rw [h1]; simp)
    | none =>
      obtain ⟨k1, e1⟩ := a.nl
      obtain ⟨j, hj⟩ := b.dom l h1 h'
      exact ⟨k1 + j, by rw [hj, e1, a.st, Nat.add_mul, Nat.add_assoc]⟩

end Go.Am
