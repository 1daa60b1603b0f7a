/-
  A part of the proof: an abstract machine over the model, and contracts of functions of this program over it.
-/
import Derived.Orders
import Derived.Laws.Sem
import Derived.Laws.World
import GoSem.Dispatch
import Derived.Laws.Strings
import Derived.IntWalk
import Derived.Deep.LoopGhost
import Derived.Scope
set_option linter.unusedVariables false
set_option linter.unusedSimpArgs false
set_option linter.unusedSectionVars false
section
namespace Go.Am
structure CI where
 b : Nat
 d : Nat
 x : Nat
abbrev Gam := Nat → Option CI
inductive AV where
 | int (k : IntKind) (n : Int)
 | bool (b : Bool)
 | str (s : List UInt8)
 | ptr (a : Option (Nat × Nat))
 | slc (a : Option (Nat × Nat)) (len cap : Nat) (ex : Bool)
 | emp
 | map (r : Option Nat)
 | func (fn : FuncId) (captured : List AV)
 | meth (fn : FuncId) (first captured : List AV)
 | nilFunc
 | yld (l : Nat)
 | iface (t : TypeId) (v : AV)
 | nilIface
 | agg (l : List AV)
 | tup (l : List AV)
 | bad
 deriving Inhabited
abbrev AV.undef : AV := .tup []
def AV.cells : AV → List AV
 | .agg l => l
 | v => [v]
mutual
def VRel (γ : Gam) : AV → Value → Prop
 | .int k n, c => c = .int k n
 | .bool b, c => c = .bool b
 | .str s, c => c = .string ⟨s.toArray⟩
 | .ptr none, c => c = .pointer none
 | .ptr (some (l, o)), c => ∃ i, γ l = some i ∧ c = .pointer (some ⟨i.b, i.d + o, none⟩)
 | .slc none n m e, c => c = .slice none n m ∧ e = true
 | .slc (some (l, o)) n m e, c => ∃ i, γ l = some i ∧ c = .slice (some ⟨i.b, i.d + o, none⟩) n (if e then m else m + i.x)
 | .emp, c => ∃ a m, c = .slice (some a) 0 m
 | .map none, c => c = .map none
 | .map (some l), c => ∃ i, γ l = some i ∧ c = .map (some i.b)
 | .func f cap, c => ∃ cc, c = .func (.func f) #[] cc ∧ VRels γ cap cc.toList
 | .meth f ft cap, c => ∃ cf cc, c = .func (.func f) cf cc ∧ VRels γ ft cf.toList ∧ VRels γ cap cc.toList
 | .nilFunc, c => c = .nilFunc
 | .yld l, c => c = .func (.yield l) #[] #[]
 | .iface t v, c => ∃ cv, c = .iface t cv ∧ VRel γ v cv
 | .nilIface, c => c = .nilIface
 | .agg l, c => ∃ cs, c = .agg cs ∧ VRels γ l cs.toList
 | .tup l, c => ∃ cs, c = .tuple cs ∧ VRels γ l cs.toList
 | .bad, _ => True
def VRels (γ : Gam) : List AV → List Value → Prop
 | [], c => c = []
 | v :: vs, c => ∃ d ds, c = d :: ds ∧ VRel γ v d ∧ VRels γ vs ds
end
def Gam.le (γ γ' : Gam) : Prop := ∀ l i, γ l = some i → γ' l = some i
theorem Gam.le_refl (γ : Gam) : Gam.le γ γ := fun _ _ h => h
theorem Gam.le_trans {a b c : Gam} (h : Gam.le a b) (h' : Gam.le b c) : Gam.le a c := fun l i e => h' l i (h l i e)
mutual
theorem VRel.mono {γ γ' : Gam} (h : Gam.le γ γ') : ∀ {v : AV} {c : Value}, VRel γ v c → VRel γ' v c
 | .int _ _, _, e => by simpa [VRel] using e
 | .bool _, _, e => by simpa [VRel] using e
 | .str _, _, e => by simpa [VRel] using e
 | .ptr none, _, e => by simpa [VRel] using e
 | .ptr (some (l, o)), _, e => by
  simp only [VRel] at e ⊢; obtain ⟨i, hi, e⟩ := e; exact ⟨i, h l i hi, e⟩
 | .slc none _ _ _, _, e => by simpa [VRel] using e
 | .slc (some (l, o)) _ _ _, _, e => by
  simp only [VRel] at e ⊢; obtain ⟨i, hi, e⟩ := e; exact ⟨i, h l i hi, e⟩
 | .emp, _, e => by simpa [VRel] using e
 | .map none, _, e => by simpa [VRel] using e
 | .map (some l), _, e => by
  simp only [VRel] at e ⊢; obtain ⟨i, hi, e⟩ := e; exact ⟨i, h l i hi, e⟩
 | .func f cap, _, e => by
  simp only [VRel] at e ⊢; obtain ⟨i, hi, e⟩ := e; exact ⟨i, hi, VRels.mono h e⟩
 | .meth f ft cap, _, e => by
  simp only [VRel] at e ⊢; obtain ⟨i, j, hi, e1, e2⟩ := e; exact ⟨i, j, hi, VRels.mono h e1, VRels.mono h e2⟩
 | .nilFunc, _, e => by simpa [VRel] using e
 | .yld _, _, e => by simpa [VRel] using e
 | .iface t v, _, e => by
  simp only [VRel] at e ⊢; obtain ⟨i, hi, e⟩ := e; exact ⟨i, hi, VRel.mono h e⟩
 | .nilIface, _, e => by simpa [VRel] using e
 | .agg l, _, e => by
  simp only [VRel] at e ⊢; obtain ⟨i, hi, e⟩ := e; exact ⟨i, hi, VRels.mono h e⟩
 | .tup l, _, e => by
  simp only [VRel] at e ⊢; obtain ⟨i, hi, e⟩ := e; exact ⟨i, hi, VRels.mono h e⟩
 | .bad, _, _ => by simp [VRel]
theorem VRels.mono {γ γ' : Gam} (h : Gam.le γ γ') : ∀ {v : List AV} {c : List Value}, VRels γ v c → VRels γ' v c
 | [], _, e => by simpa [VRels] using e
 | v :: vs, _, e => by
  simp only [VRels] at e ⊢; obtain ⟨d, ds, rfl, hv, hs⟩ := e; exact ⟨d, ds, rfl, VRel.mono h hv, VRels.mono h hs⟩
end
theorem VRels.nil_iff {γ : Gam} {c : List Value} : VRels γ [] c ↔ c = [] := by simp [VRels]
theorem VRels.cons_iff {γ : Gam} {v : AV} {vs : List AV} {c : List Value} : VRels γ (v :: vs) c ↔ ∃ d ds, c = d :: ds ∧ VRel γ v d ∧ VRels γ vs ds := by simp [VRels]
theorem VRels.cons {γ : Gam} {v : AV} {vs : List AV} {d : Value} {ds : List Value} (h : VRel γ v d) (hs : VRels γ vs ds) : VRels γ (v :: vs) (d :: ds) := by
 simp only [VRels]; exact ⟨d, ds, rfl, h, hs⟩
theorem VRels.nil {γ : Gam} : VRels γ [] [] := by simp [VRels]
theorem VRels.iff_get {γ : Gam} : ∀ {vs : List AV} {cs : List Value}, VRels γ vs cs ↔ vs.length = cs.length ∧ ∀ (i : Nat) v c, vs[i]? = some v → cs[i]? = some c → VRel γ v c
 | [], cs => by
  constructor
  ·intro h; obtain rfl := VRels.nil_iff.1 h; simp
  ·intro ⟨h, _⟩; simp at h; obtain rfl : cs = [] := List.length_eq_zero_iff.1 h.symm; exact VRels.nil
 | v :: vs, cs => by
  constructor
  ·intro h
   obtain ⟨d, ds, rfl, hv, hs⟩ := VRels.cons_iff.1 h
   obtain ⟨hl, hg⟩ := VRels.iff_get.1 hs
   refine ⟨by simp [hl], fun i a b ha hb => ?_⟩
   cases i with
   | zero => simp at ha hb; subst ha; subst hb; exact hv
   | succ i => simp at ha hb; exact hg i a b ha hb
  ·intro ⟨hl, hg⟩
   cases cs with
   | nil => simp at hl
   | cons d ds =>
    exact VRels.cons (hg 0 v d rfl rfl) (VRels.iff_get.2 ⟨by simpa using hl, fun i a b ha hb => hg (i + 1) a b (by simpa using ha) (by simpa using hb)⟩)
theorem VRels.length {γ : Gam} {vs : List AV} {cs : List Value} (h : VRels γ vs cs) : vs.length = cs.length := (VRels.iff_get.1 h).1
theorem VRels.get {γ : Gam} {vs : List AV} {cs : List Value} (h : VRels γ vs cs) {i : Nat} {v : AV} (hv : vs[i]? = some v) : ∃ c, cs[i]? = some c ∧ VRel γ v c := by
 obtain ⟨hl, hg⟩ := VRels.iff_get.1 h
 have hi : i < vs.length := by
  rcases Nat.lt_or_ge i vs.length with h | h
  ·exact h
  ·simp [List.getElem?_eq_none h] at hv
 exact ⟨cs[i]'(by omega), by simp [List.getElem?_eq_getElem (show i < cs.length by omega)], hg i v _ hv (by simp [List.getElem?_eq_getElem (show i < cs.length by omega)])⟩
theorem VRels.append {γ : Gam} : ∀ {vs us : List AV} {cs ds : List Value}, VRels γ vs cs → VRels γ us ds → VRels γ (vs ++ us) (cs ++ ds)
 | [], us, cs, ds, h, h' => by obtain rfl := VRels.nil_iff.1 h; simpa using h'
 | v :: vs, us, cs, ds, h, h' => by
  obtain ⟨d, es, rfl, hv, hs⟩ := VRels.cons_iff.1 h
  exact VRels.cons hv (VRels.append hs h')
theorem VRels.drop {γ : Gam} {vs : List AV} {cs : List Value} (h : VRels γ vs cs) (n : Nat) : VRels γ (vs.drop n) (cs.drop n) := by
 obtain ⟨hl, hg⟩ := VRels.iff_get.1 h
 exact VRels.iff_get.2 ⟨by simp [hl], fun i a b ha hb => hg (n + i) a b (by simpa using ha) (by simpa using hb)⟩
theorem VRels.take {γ : Gam} {vs : List AV} {cs : List Value} (h : VRels γ vs cs) (n : Nat) : VRels γ (vs.take n) (cs.take n) := by
 obtain ⟨hl, hg⟩ := VRels.iff_get.1 h
 refine VRels.iff_get.2 ⟨by simp [hl], fun i a b ha hb => ?_⟩
 rw [List.getElem?_take] at ha hb
 split at ha
 ·rename_i hi; rw [if_pos hi] at hb; exact hg i a b ha hb
 ·simp at ha
theorem VRels.set {γ : Gam} {vs : List AV} {cs : List Value} (h : VRels γ vs cs) (n : Nat) {v : AV} {c : Value} (hv : VRel γ v c) : VRels γ (vs.set n v) (cs.set n c) := by
 obtain ⟨hl, hg⟩ := VRels.iff_get.1 h
 refine VRels.iff_get.2 ⟨by simp [hl], fun i a b ha hb => ?_⟩
 rw [List.getElem?_set] at ha hb
 by_cases hi : n = i
 ·subst hi; simp at ha hb; rw [← ha.2, ← hb.2]; exact hv
 ·simp [hi] at ha hb; exact hg i a b ha hb
def AV.one : AV → Bool
 | .agg _ | .tup _ | .bad => false
 | _ => true
theorem VRel.cells {γ : Gam} {v : AV} {c : Value} (h : VRel γ v c) (hb : v.cells.all AV.one = true) : VRels γ v.cells c.cells.toList := by
 cases v with
 | agg l => simp only [VRel] at h; obtain ⟨cs, rfl, hs⟩ := h; exact hs
 | ptr a =>
  have h' := h
  cases a <;> simp only [VRel] at h
  ·subst h; exact VRels.cons h' VRels.nil
  ·obtain ⟨i, _, rfl⟩ := h; exact VRels.cons h' VRels.nil
 | slc a n m e =>
  have h' := h
  cases a <;> simp only [VRel] at h
  ·obtain ⟨rfl, _⟩ := h; exact VRels.cons h' VRels.nil
  ·obtain ⟨i, _, rfl⟩ := h; exact VRels.cons h' VRels.nil
 | emp => have h' := h; simp only [VRel] at h; obtain ⟨i, j, rfl⟩ := h; exact VRels.cons h' VRels.nil
 | map r =>
  have h' := h
  cases r <;> simp only [VRel] at h
  ·subst h; exact VRels.cons h' VRels.nil
  ·obtain ⟨i, _, rfl⟩ := h; exact VRels.cons h' VRels.nil
 | func f cap => have h' := h; simp only [VRel] at h; obtain ⟨i, rfl, _⟩ := h; exact VRels.cons h' VRels.nil
 | meth f ft cap => have h' := h; simp only [VRel] at h; obtain ⟨i, j, rfl, _⟩ := h; exact VRels.cons h' VRels.nil
 | iface t v => have h' := h; simp only [VRel] at h; obtain ⟨i, rfl, _⟩ := h; exact VRels.cons h' VRels.nil
 | tup l => simp [AV.cells, AV.one] at hb
 | bad => simp [AV.cells, AV.one] at hb
 | int k n => have h' := h; simp only [VRel] at h; subst h; exact VRels.cons h' VRels.nil
 | bool b => have h' := h; simp only [VRel] at h; subst h; exact VRels.cons h' VRels.nil
 | str s => have h' := h; simp only [VRel] at h; subst h; exact VRels.cons h' VRels.nil
 | nilFunc => have h' := h; simp only [VRel] at h; subst h; exact VRels.cons h' VRels.nil
 | yld l => have h' := h; simp only [VRel] at h; subst h; exact VRels.cons h' VRels.nil
 | nilIface => have h' := h; simp only [VRel] at h; subst h; exact VRels.cons h' VRels.nil
theorem VRel.one {γ : Gam} {v : AV} {c : Value} (h : VRel γ v c) (hv : v.one = true) : c.oneCell' = true := by
 cases v with
 | ptr a => cases a <;> simp only [VRel] at h <;> (first | (subst h; rfl) | (obtain ⟨_, _, rfl⟩ := h; rfl))
 | slc a n m e => cases a <;> simp only [VRel] at h <;> (first | (obtain ⟨rfl, _⟩ := h; rfl) | (obtain ⟨_, _, rfl⟩ := h; rfl))
 | emp => simp only [VRel] at h; obtain ⟨_, _, rfl⟩ := h; rfl
 | map r => cases r <;> simp only [VRel] at h <;> (first | (subst h; rfl) | (obtain ⟨_, _, rfl⟩ := h; rfl))
 | func f cap => simp only [VRel] at h; obtain ⟨_, rfl, _⟩ := h; rfl
 | meth f ft cap => simp only [VRel] at h; obtain ⟨_, _, rfl, _⟩ := h; rfl
 | iface t v => simp only [VRel] at h; obtain ⟨_, rfl, _⟩ := h; rfl
 | agg l => simp [AV.one] at hv
 | tup l => simp [AV.one] at hv
 | bad => simp [AV.one] at hv
 | _ => simp only [VRel] at h; subst h; rfl
inductive AO where
 | cells (cs : List AV) (g : Nat) (ro : Bool)
 | map (es : List (AV × AV × Nat)) (clock : Nat) (ro : Bool)
 | mapIt (m : Option Nat) (since : Nat) (seen : List Nat) (stepped : Nat) (ro : Bool)
 | strIt (s : List UInt8) (pos : Nat) (ro : Bool)
 | dead
 deriving Inhabited
def AO.ro : AO → Bool
 | .cells _ _ r => r
 | .map _ _ r => r
 | .mapIt _ _ _ _ r => r
 | .strIt _ _ r => r
 | .dead => true
def AO.shut : AO → AO
 | .cells c g _ => .cells c g true
 | .map es k _ => .map es k true
 | .mapIt m a b c _ => .mapIt m a b c true
 | .strIt s p _ => .strIt s p true
 | .dead => .dead
def ERels (γ : Gam) : List (AV × AV × Nat) → List MapEntry → Prop
 | [], c => c = []
 | (k, v, n) :: es, c => ∃ e cs, c = e :: cs ∧ VRel γ k e.key ∧ VRel γ v e.val ∧ e.born = n ∧ ERels γ es cs
theorem ERels.mono {γ γ' : Gam} (h : Gam.le γ γ') : ∀ {es : List (AV × AV × Nat)} {cs : List MapEntry}, ERels γ es cs → ERels γ' es cs
 | [], _, e => by simpa [ERels] using e
 | (k, v, n) :: es, _, e => by
  simp only [ERels] at e ⊢; obtain ⟨d, ds, rfl, hk, hv, hn, hs⟩ := e; exact ⟨d, ds, rfl, hk.mono h, hv.mono h, hn, ERels.mono h hs⟩
def ORel (γ : Gam) (w : World) (i : CI) : AO → Prop
 | .cells cs g ro => ∃ c e fz, w.heap[i.b]? = some (.cells c e fz) ∧ (∀ (k : Nat) v, cs[k]? = some v → v.one = true ∧ ∃ cv, c[i.d + k]? = some cv ∧ VRel γ v cv) ∧
   (ro = false → ∀ o, o < c.size → ¬ (fz.1 ≤ o ∧ o < fz.2)) ∧ (g ≠ 0 → c.size = i.d + cs.length + i.x * g ∧ ∀ k, i.d + cs.length ≤ k → k < c.size → ∃ v cv, v.one = true ∧ c[k]? = some cv ∧ VRel γ v cv) ∧
   (ro = false → g ≠ 1 → fz = (0, 0))
 | .map es clock _ => ∃ ces, w.heap[i.b]? = some (.map ces clock) ∧ ERels γ es ces.toList
 | .mapIt none since seen stepped _ => i.d = 0 ∧ w.heap[i.b]? = some (.mapIter none since seen.toArray stepped)
 | .mapIt (some m) since seen stepped _ => i.d = 0 ∧ ∃ j, γ m = some j ∧ w.heap[i.b]? = some (.mapIter (some j.b) since seen.toArray stepped)
 | .strIt s pos _ => i.d = 0 ∧ w.heap[i.b]? = some (.stringIter ⟨s.toArray⟩ pos)
 | .dead => False
theorem ORel.mono {γ γ' : Gam} {w : World} {i : CI} {o : AO} (h : Gam.le γ γ') (ho : ORel γ w i o) : ORel γ' w i o := by
 cases o with
 | cells cs g ro =>
  obtain ⟨c, e, fz, h1, h2, h3, h4, h5⟩ := ho
  exact ⟨c, e, fz, h1, fun k v hk => let ⟨a, cv, b, d⟩ := h2 k v hk; ⟨a, cv, b, d.mono h⟩, h3, fun hg => ⟨(h4 hg).1, fun k hk hk' => let ⟨v, cv, a, b, d⟩ := (h4 hg).2 k hk hk'; ⟨v, cv, a, b, d.mono h⟩⟩, h5⟩
 | map es clock ro => obtain ⟨ces, h1, h2⟩ := ho; exact ⟨ces, h1, h2.mono h⟩
 | mapIt m since seen stepped ro => cases m with
  | none => exact ho
  | some m => obtain ⟨h0, j, h1, h2⟩ := ho; exact ⟨h0, j, h _ _ h1, h2⟩
 | strIt s pos ro => exact ho
 | dead => exact ho
theorem ORel.congr {γ : Gam} {w w' : World} {i : CI} {o : AO} (he : w'.heap[i.b]? = w.heap[i.b]?) (ho : ORel γ w i o) : ORel γ w' i o := by
 cases o with
 | cells cs g ro => simpa [ORel, he] using ho
 | map es clock ro => simpa [ORel, he] using ho
 | mapIt m since seen stepped ro => cases m <;> simpa [ORel, he] using ho
 | strIt s pos ro => simpa [ORel, he] using ho
 | dead => exact ho
theorem ORel.lt {γ : Gam} {w : World} {i : CI} {o : AO} (ho : ORel γ w i o) : i.b < w.heap.size := by
 have key : ∃ x, w.heap[i.b]? = some x := by
  cases o with
  | cells cs g ro => obtain ⟨c, e, fz, h, _⟩ := ho; exact ⟨_, h⟩
  | map es clock ro => obtain ⟨c, h, _⟩ := ho; exact ⟨_, h⟩
  | mapIt m since seen stepped ro => cases m with
   | none => exact ⟨_, ho.2⟩
   | some m => obtain ⟨_, j, _, h⟩ := ho; exact ⟨_, h⟩
  | strIt s pos ro => exact ⟨_, ho.2⟩
  | dead => exact ho.elim
 obtain ⟨x, hx⟩ := key
 rcases Nat.lt_or_ge i.b w.heap.size with h | h
 ·exact h
 ·simp [Array.getElem?_eq_none h] at hx
inductive Tr (α : Type) where
 | E
 | N (l : Tr α) (v : Option α) (r : Tr α)
 deriving Inhabited
def Tr.get {α : Type} : Tr α → Nat → Option α
 | .E, _ => none
 | .N l v r, n => bif Nat.beq n 0 then v else bif Nat.beq (n % 2) 1 then l.get (n / 2) else r.get (n / 2 - 1)
def Tr.left {α : Type} : Tr α → Tr α
 | .E => .E
 | .N l _ _ => l
def Tr.right {α : Type} : Tr α → Tr α
 | .E => .E
 | .N _ _ r => r
def Tr.val {α : Type} : Tr α → Option α
 | .E => none
 | .N _ v _ => v
def Tr.setF {α : Type} : Nat → Tr α → Nat → α → Tr α
 | 0, t, _, _ => t
 | k + 1, t, n, v => bif Nat.beq n 0 then .N t.left (some v) t.right else bif Nat.beq (n % 2) 1 then .N (setF k t.left (n / 2) v) t.val t.right else .N t.left t.val (setF k t.right (n / 2 - 1) v)
def Tr.set {α : Type} (t : Tr α) (n : Nat) (v : α) : Tr α := t.setF (Nat.log2 (n + 1) + 1) n v
theorem beq_ne {a b : Nat} (h : ¬ a = b) : Nat.beq a b = false := by
 cases hq : Nat.beq a b with
 | false => rfl
 | true => exact absurd (Nat.eq_of_beq_eq_true hq) h
theorem Tr.get_step {α : Type} (t : Tr α) (n : Nat) : t.get n = if n = 0 then t.val else if n % 2 = 1 then t.left.get (n / 2) else t.right.get (n / 2 - 1) := by
 cases t with
 | E => simp [Tr.get, Tr.val, Tr.left, Tr.right]
 | N l v r =>
  simp only [Tr.get, Tr.val, Tr.left, Tr.right]
  by_cases h0 : n = 0
  ·subst h0; rfl
  ·rw [if_neg h0]
   have : Nat.beq n 0 = false := beq_ne h0
   rw [this]
   by_cases h1 : n % 2 = 1
   ·rw [if_pos h1, h1]; rfl
   ·rw [if_neg h1]
    have : Nat.beq (n % 2) 1 = false := beq_ne h1
    rw [this]; rfl
theorem Tr.get_setF {α : Type} : ∀ (k : Nat) (t : Tr α) (n : Nat) (v : α) (x : Nat), n + 1 < 2 ^ k → (t.setF k n v).get x = if x = n then some v else t.get x
 | 0, t, n, v, x, h => by simp at h
 | k + 1, t, n, v, x, h => by
  have hk : 2 ^ (k + 1) = 2 * 2 ^ k := by rw [Nat.pow_succ]; omega
  simp only [Tr.setF]
  by_cases h0 : n = 0
  ·subst h0
   have e0 : Nat.beq 0 0 = true := rfl
   rw [e0, Tr.get_step]
   simp only [cond_true, Tr.val, Tr.left, Tr.right]
   by_cases hx : x = 0
   ·rw [if_pos hx, if_pos hx]
   ·rw [if_neg hx, if_neg hx, Tr.get_step t x, if_neg hx]; cases t <;> rfl
  ·have e0 : Nat.beq n 0 = false := beq_ne h0
   rw [e0]
   simp only [cond_false]
   by_cases h1 : n % 2 = 1
   ·rw [h1]
    have e1 : Nat.beq 1 1 = true := rfl
    rw [e1, Tr.get_step]
    simp only [cond_true, Tr.val, Tr.left, Tr.right]
    by_cases hx : x = 0
    ·rw [if_pos hx, if_neg (by omega), Tr.get_step t x, if_pos hx]; cases t <;> rfl
    ·rw [if_neg hx]
     by_cases hx1 : x % 2 = 1
     ·rw [if_pos hx1, Tr.get_setF k _ _ _ _ (by omega)]
      by_cases hxn : x = n
      ·subst hxn; simp
      ·rw [if_neg hxn, if_neg (by omega), Tr.get_step t x, if_neg hx, if_pos hx1]; cases t <;> rfl
     ·rw [if_neg hx1, if_neg (by omega), Tr.get_step t x, if_neg hx, if_neg hx1]; cases t <;> rfl
   ·have e1 : Nat.beq (n % 2) 1 = false := beq_ne h1
    rw [e1]
    simp only [cond_false]
    rw [Tr.get_step]
    simp only [Tr.val, Tr.left, Tr.right]
    by_cases hx : x = 0
    ·rw [if_pos hx, if_neg (by omega), Tr.get_step t x, if_pos hx]; cases t <;> rfl
    ·rw [if_neg hx]
     by_cases hx1 : x % 2 = 1
     ·rw [if_pos hx1, if_neg (by omega), Tr.get_step t x, if_neg hx, if_pos hx1]; cases t <;> rfl
     ·rw [if_neg hx1, Tr.get_setF k _ _ _ _ (by omega)]
      by_cases hxn : x = n
      ·subst hxn; simp
      ·rw [if_neg hxn, if_neg (by omega), Tr.get_step t x, if_neg hx, if_neg hx1]; cases t <;> rfl
theorem Tr.get_set {α : Type} (t : Tr α) (n : Nat) (v : α) (x : Nat) : (t.set n v).get x = if x = n then some v else t.get x :=
 Tr.get_setF _ t n v x Nat.lt_log2_self
structure AS where
 lay : List (Tr AO)
 cur : Tr AO
 nl : Nat
 st : Nat
def layGet : List (Tr AO) → Nat → Option AO
 | [], _ => none
 | t :: ts, l => match t.get l with
  | some .dead => none
  | some o => some o.shut
  | none => layGet ts l
def AS.h (s : AS) (l : Nat) : Option AO :=
 match s.cur.get l with
 | some .dead => none
 | some o => some o
 | none => layGet s.lay l
def AS.put (s : AS) (l : Nat) (o : AO) : AS := { s with cur := s.cur.set l o }
def AS.kill (s : AS) (l : Nat) : AS := { s with cur := s.cur.set l .dead }
def AS.new (s : AS) (o : AO) : AS := { s with cur := s.cur.set s.nl o, nl := s.nl + s.st }
def AO.live : AO → Bool
 | .dead => false
 | _ => true
theorem AO.live_of_ro {o : AO} (h : o.ro = false) : o.live = true := by cases o <;> first | rfl | cases h
theorem AS.put_h (s : AS) (l : Nat) {o : AO} (ho : o.live = true) (x : Nat) : (s.put l o).h x = if x = l then some o else s.h x := by
 simp only [AS.h, AS.put, Tr.get_set]
 by_cases hx : x = l
 ·rw [if_pos hx, if_pos hx]; cases o <;> first | rfl | cases ho
 ·rw [if_neg hx, if_neg hx]
theorem AS.kill_h (s : AS) (l x : Nat) : (s.kill l).h x = if x = l then none else s.h x := by
 simp only [AS.h, AS.kill, Tr.get_set]
 by_cases hx : x = l
 ·rw [if_pos hx, if_pos hx]
 ·rw [if_neg hx, if_neg hx]
theorem AS.new_h (s : AS) {o : AO} (ho : o.live = true) (x : Nat) : (s.new o).h x = if x = s.nl then some o else s.h x := by
 simp only [AS.h, AS.new, Tr.get_set]
 by_cases hx : x = s.nl
 ·rw [if_pos hx, if_pos hx]; cases o <;> first | rfl | cases ho
 ·rw [if_neg hx, if_neg hx]
theorem AS.new_nl (s : AS) (o : AO) : (s.new o).nl = s.nl + s.st := rfl
theorem AS.put_nl (s : AS) (l : Nat) (o : AO) : (s.put l o).nl = s.nl := rfl
theorem AS.kill_nl (s : AS) (l : Nat) : (s.kill l).nl = s.nl := rfl
theorem AS.new_st (s : AS) (o : AO) : (s.new o).st = s.st := rfl
theorem AS.put_st (s : AS) (l : Nat) (o : AO) : (s.put l o).st = s.st := rfl
theorem AS.kill_st (s : AS) (l : Nat) : (s.kill l).st = s.st := rfl
structure Rel (B : Nat) (γ : Gam) (s : AS) (w : World) : Prop where
 obj : ∀ l o, s.h l = some o → ∃ i, γ l = some i ∧ ORel γ w i o ∧ (o.ro = false → B ≤ i.b)
 inj : ∀ l l' o o' i i', s.h l = some o → s.h l' = some o' → o.ro = false → γ l = some i → γ l' = some i' → i.b = i'.b → l = l'
 fin : ∀ j, γ (s.nl + j * s.st) = none
 stp : 1 ≤ s.st
 base : B ≤ w.heap.size
theorem Rel.fin0 {B : Nat} {γ : Gam} {s : AS} {w : World} (h : Rel B γ s w) : γ s.nl = none := by simpa using h.fin 0
def Env (w w' : World) : Prop := w'.os = w.os ∧ w'.tape = w.tape ∧ w'.output = w.output
theorem Env.trans {a b c : World} (h : Env a b) (h' : Env b c) : Env a c := ⟨h'.1.trans h.1, h'.2.1.trans h.2.1, h'.2.2.trans h.2.2⟩
structure Did (B : Nat) (γ : Gam) (s : AS) (w : World) (γ' : Gam) (s' : AS) (w' : World) : Prop where
 le : Gam.le γ γ'
 frm : ∀ b, b < w.heap.size → (∀ l o i, s.h l = some o → o.ro = false → γ l = some i → i.b ≠ b) → w'.heap[b]? = w.heap[b]?
 siz : w.heap.size ≤ w'.heap.size
 new : ∀ l o i, s'.h l = some o → o.ro = false → γ' l = some i → w.heap.size ≤ i.b ∨ ∃ l0 o0 i0, s.h l0 = some o0 ∧ o0.ro = false ∧ γ l0 = some i0 ∧ i0.b = i.b
 nl : ∃ k, s'.nl = s.nl + k * s.st
 st : s'.st = s.st
 lay : s'.lay = s.lay
 dom : ∀ l, γ l = none → γ' l ≠ none → ∃ j, l = s.nl + j * s.st
 sld : ∀ l o, s'.cur.get l = some o → o.live = true → o.ro = true → s.cur.get l = some o
 env : Env w w'
theorem Did.refl {B : Nat} {γ : Gam} {s : AS} {w : World} : Did B γ s w γ s w :=
 ⟨Gam.le_refl γ, fun _ _ _ => rfl, Nat.le_refl _, fun l o i h1 h2 h3 => .inr ⟨l, o, i, h1, h2, h3, rfl⟩, ⟨0, by simp⟩, rfl, rfl, fun _ h h' => absurd h h', fun _ _ h _ _ => h, rfl, rfl, rfl⟩
theorem Did.trans {B : Nat} {γ γ' γ'' : Gam} {s s' s'' : AS} {w w' w'' : World} (a : Did B γ s w γ' s' w') (b : Did B γ' s' w' γ'' s'' w'') : Did B γ s w γ'' s'' w'' := by
 refine ⟨Gam.le_trans a.le b.le, fun k hk hn => ?_, Nat.le_trans a.siz b.siz, fun l o i h1 h2 h3 => ?_, ?_, b.st.trans a.st, b.lay.trans a.lay, fun l h h' => ?_, fun l o h h1 h2 => a.sld l o (b.sld l o h h1 h2) h1 h2, a.env.trans b.env⟩
 ·rw [b.frm k (Nat.lt_of_lt_of_le hk a.siz) ?_, a.frm k hk hn]
  intro l o i h1 h2 h3 e
  rcases a.new l o i h1 h2 h3 with h | ⟨l0, o0, i0, g1, g2, g3, g4⟩
  ·omega
  ·exact hn l0 o0 i0 g1 g2 g3 (by omega)
 ·rcases b.new l o i h1 h2 h3 with h | ⟨l0, o0, i0, g1, g2, g3, g4⟩
  ·exact .inl (Nat.le_trans a.siz h)
  ·rcases a.new l0 o0 i0 g1 g2 g3 with h | ⟨l1, o1, i1, f1, f2, f3, f4⟩
   ·exact .inl (by omega)
   ·exact .inr ⟨l1, o1, i1, f1, f2, f3, by omega⟩
 ·obtain ⟨k1, e1⟩ := a.nl
  obtain ⟨k2, e2⟩ := b.nl
  exact ⟨k1 + k2, by rw [e2, e1, a.st, Nat.add_mul, Nat.add_assoc]⟩
 ·cases h1 : γ' l with
  | some i => exact a.dom l h (by rw [h1]; simp)
  | none =>
   obtain ⟨k1, e1⟩ := a.nl
   obtain ⟨j, hj⟩ := b.dom l h1 h'
   exact ⟨k1 + j, by rw [hj, e1, a.st, Nat.add_mul, Nat.add_assoc]⟩
end Go.Am
end

section
namespace Go.Am
theorem Rel.of_heap {B : Nat} {γ : Gam} {s : AS} {w w' : World} (h : Rel B γ s w) (hw : w'.heap = w.heap) : Rel B γ s w' :=
 ⟨fun l o hl => let ⟨i, a, b, c⟩ := h.obj l o hl; ⟨i, a, b.congr (by rw [hw]), c⟩, h.inj, h.fin, h.stp, by rw [hw]; exact h.base⟩
theorem Did.of_heap {B : Nat} {γ : Gam} {s : AS} {w w' : World} (hw : w'.heap = w.heap) (he : Env w w' := by exact ⟨rfl, rfl, rfl⟩) : Did B γ s w γ s w' :=
 ⟨Gam.le_refl γ, fun _ _ _ => by rw [hw], by rw [hw]; exact Nat.le_refl _, fun l o i h1 h2 h3 => .inr ⟨l, o, i, h1, h2, h3, rfl⟩, ⟨0, by simp⟩, rfl, rfl, fun _ h h' => absurd h h', fun _ _ h _ _ => h, he⟩
theorem put_sld {s : AS} {l : Nat} {o' : AO} (hro' : o'.ro = false) : ∀ x o, (s.put l o').cur.get x = some o → o.live = true → o.ro = true → s.cur.get x = some o := by
 intro x o h h1 h2
 simp only [AS.put, Tr.get_set] at h
 split at h
 ·obtain rfl := Option.some.inj h; rw [hro'] at h2; cases h2
 ·exact h
theorem new_sld {s : AS} {o' : AO} (hro' : o'.ro = false) : ∀ x o, (s.new o').cur.get x = some o → o.live = true → o.ro = true → s.cur.get x = some o := by
 intro x o h h1 h2
 simp only [AS.new, Tr.get_set] at h
 split at h
 ·obtain rfl := Option.some.inj h; rw [hro'] at h2; cases h2
 ·exact h
theorem kill_sld {s : AS} {l : Nat} : ∀ x o, (s.kill l).cur.get x = some o → o.live = true → o.ro = true → s.cur.get x = some o := by
 intro x o h h1 h2
 simp only [AS.kill, Tr.get_set] at h
 split at h
 ·obtain rfl := Option.some.inj h; cases h1
 ·exact h
theorem Rel.write {B : Nat} {γ : Gam} {s : AS} {w w' : World} {l : Nat} {o o' : AO} {i : CI} {obj : Obj} (h : Rel B γ s w) (hl : s.h l = some o) (hro : o.ro = false) (hro' : o'.ro = false)
  (hi : γ l = some i) (hw : w'.heap = w.heap.setIfInBounds i.b obj) (ho : ORel γ w' i o') (he : Env w w' := by exact ⟨rfl, rfl, rfl⟩) : Rel B γ (s.put l o') w' ∧ Did B γ s w γ (s.put l o') w' := by
 have hsz : w'.heap.size = w.heap.size := by rw [hw]; simp
 have hne : ∀ b, b ≠ i.b → w'.heap[b]? = w.heap[b]? := by
  intro b hb; rw [hw, Array.getElem?_setIfInBounds_ne (Ne.symm hb)]
 have hlive := AO.live_of_ro hro'
 constructor
 ·refine ⟨fun l' p hp => ?_, fun l1 l2 p1 p2 i1 i2 h1 h2 r1 g1 g2 e => ?_, h.fin, h.stp, by rw [hsz]; exact h.base⟩
  ·rw [AS.put_h _ _ hlive] at hp
   split at hp
   ·rename_i e; subst e
    obtain rfl := Option.some.inj hp
    obtain ⟨j, hj, _, hB⟩ := h.obj l' o hl
    rw [hi] at hj; obtain rfl := Option.some.inj hj
    exact ⟨i, hi, ho, fun _ => hB hro⟩
   ·rename_i e
    obtain ⟨j, hj, hO, hB⟩ := h.obj l' p hp
    refine ⟨j, hj, hO.congr (hne _ ?_), hB⟩
    intro e2
    exact e (h.inj l l' o p i j hl hp hro hi hj e2.symm).symm
  ·have key : ∀ x p, (s.put l o').h x = some p → ∃ q, s.h x = some q ∧ (p.ro = false → q.ro = false) := by
    intro x p hx
    rw [AS.put_h _ _ hlive] at hx
    split at hx
    ·rename_i e; subst e; exact ⟨o, hl, fun _ => hro⟩
    ·exact ⟨p, hx, fun h => h⟩
   obtain ⟨q1, k1, r1'⟩ := key l1 p1 h1
   obtain ⟨q2, k2, _⟩ := key l2 p2 h2
   exact h.inj l1 l2 q1 q2 i1 i2 k1 k2 (r1' r1) g1 g2 e
 ·refine ⟨Gam.le_refl γ, fun b hb hn => hne b fun e => hn l o i hl hro hi e.symm, by rw [hsz]; exact Nat.le_refl _, fun l' p j h1 h2 h3 => .inr ?_, ⟨0, by simp [AS.put_nl]⟩, rfl, rfl, fun _ h h' => absurd h h', put_sld hro', he⟩
  rw [AS.put_h _ _ hlive] at h1
  split at h1
  ·rename_i e; subst e; exact ⟨l', o, j, hl, hro, h3, rfl⟩
  ·exact ⟨l', p, j, h1, h2, h3, rfl⟩
def updG (γ : Gam) (l : Nat) (i : CI) : Gam := fun x => if x = l then some i else γ x
theorem updG_same (γ : Gam) (l : Nat) (i : CI) : updG γ l i l = some i := by simp [updG]
theorem Gam.le_upd {γ : Gam} {l : Nat} {i : CI} (h : γ l = none) : Gam.le γ (updG γ l i) := by
 intro x j hx
 simp only [updG]
 split
 ·rename_i e; subst e; rw [h] at hx; exact absurd hx (by simp)
 ·exact hx
theorem upd_dom {γ : Gam} {s : AS} {i : CI} (l : Nat) (h : γ l = none) (h' : updG γ s.nl i l ≠ none) : ∃ j, l = s.nl + j * s.st := by
 simp only [updG] at h'
 split at h'
 ·rename_i e; exact ⟨0, by simp [e]⟩
 ·exact absurd h h'
theorem Rel.alloc {B : Nat} {γ : Gam} {s : AS} {w w' : World} {o : AO} {i : CI} {obj : Obj} (h : Rel B γ s w) (hro : o.ro = false)
  (hib : i.b = w.heap.size) (hw : w'.heap = w.heap.push obj) (ho : ORel (updG γ s.nl i) w' i o) (he : Env w w' := by exact ⟨rfl, rfl, rfl⟩) :
  Rel B (updG γ s.nl i) (s.new o) w' ∧ Did B γ s w (updG γ s.nl i) (s.new o) w' := by
 have hnone : γ s.nl = none := h.fin0
 have hle : Gam.le γ (updG γ s.nl i) := Gam.le_upd hnone
 have hold : ∀ b, b < w.heap.size → w'.heap[b]? = w.heap[b]? := by
  intro b hb; rw [hw, Array.getElem?_push_lt hb, Array.getElem?_eq_getElem hb]
 have hsz : w'.heap.size = w.heap.size + 1 := by rw [hw]; simp
 have hB := h.base
 have hst := h.stp
 have hlive := AO.live_of_ro hro
 have hno : ∀ p, s.h s.nl = some p → False := by
  intro p hp
  obtain ⟨j, hj, _⟩ := h.obj _ p hp
  rw [hnone] at hj; cases hj
 constructor
 ·refine ⟨fun l' p hp => ?_, fun l1 l2 p1 p2 i1 i2 h1 h2 r1 g1 g2 e => ?_, fun j => ?_, hst, by omega⟩
  ·rw [AS.new_h _ hlive] at hp
   split at hp
   ·rename_i e; subst e
    obtain rfl := Option.some.inj hp
    exact ⟨i, updG_same _ _ _, ho, fun _ => by omega⟩
   ·obtain ⟨j, hj, hO, hb1⟩ := h.obj l' p hp
    exact ⟨j, hle _ _ hj, (hO.mono hle).congr (hold _ hO.lt), hb1⟩
  ·rw [AS.new_h _ hlive] at h1 h2
   simp only [updG] at g1 g2
   by_cases e1 : l1 = s.nl <;> by_cases e2 : l2 = s.nl
   ·rw [e1, e2]
   ·rw [if_pos e1] at g1; rw [if_neg e2] at h2 g2
    obtain rfl := Option.some.inj g1
    obtain ⟨j, hj, hO, _⟩ := h.obj l2 p2 h2
    rw [hj] at g2; obtain rfl := Option.some.inj g2
    have := hO.lt
    omega
   ·rw [if_pos e2] at g2; rw [if_neg e1] at h1 g1
    obtain rfl := Option.some.inj g2
    obtain ⟨j, hj, hO, _⟩ := h.obj l1 p1 h1
    rw [hj] at g1; obtain rfl := Option.some.inj g1
    have := hO.lt
    omega
   ·rw [if_neg e1] at h1 g1; rw [if_neg e2] at h2 g2
    exact h.inj l1 l2 p1 p2 i1 i2 h1 h2 r1 g1 g2 e
  ·rw [AS.new_nl, AS.new_st]
   simp only [updG]
   have e1 : s.nl + s.st + j * s.st = s.nl + (j + 1) * s.st := by rw [Nat.add_mul, Nat.one_mul]; omega
   rw [if_neg (by omega), e1]
   exact h.fin (j + 1)
 ·refine ⟨hle, fun b hb _ => hold b hb, by omega, fun l' p j h1 h2 h3 => ?_, ⟨1, by simp [AS.new_nl]⟩, rfl, rfl, upd_dom, new_sld hro, he⟩
  rw [AS.new_h _ hlive] at h1
  simp only [updG] at h3
  by_cases e : l' = s.nl
  ·rw [if_pos e] at h3; obtain rfl := Option.some.inj h3; exact .inl (by omega)
  ·rw [if_neg e] at h1 h3; exact .inr ⟨l', p, j, h1, h2, h3, rfl⟩
theorem Rel.kill {B : Nat} {γ : Gam} {s : AS} {w : World} (h : Rel B γ s w) (l : Nat) : Rel B γ (s.kill l) w ∧ Did B γ s w γ (s.kill l) w := by
 have key : ∀ x p, (s.kill l).h x = some p → s.h x = some p := by
  intro x p hx
  rw [AS.kill_h] at hx
  split at hx
  ·exact absurd hx (by simp)
  ·exact hx
 exact ⟨⟨fun l' p hp => h.obj l' p (key _ _ hp), fun l1 l2 p1 p2 i1 i2 h1 h2 r1 g1 g2 e => h.inj l1 l2 p1 p2 i1 i2 (key _ _ h1) (key _ _ h2) r1 g1 g2 e, h.fin, h.stp, h.base⟩,
  ⟨Gam.le_refl γ, fun _ _ _ => rfl, Nat.le_refl _, fun l' p j h1 h2 h3 => .inr ⟨l', p, j, key _ _ h1, h2, h3, rfl⟩, ⟨0, by simp [AS.kill_nl]⟩, rfl, rfl, fun _ h h' => absurd h h', kill_sld, rfl, rfl, rfl⟩⟩
theorem Rel.take {B : Nat} {γ : Gam} {s : AS} {w w' : World} {l : Nat} {o o' : AO} {i i' : CI} {obj : Obj} (h : Rel B γ s w) (hl : s.h l = some o) (hro : o.ro = false) (hro' : o'.ro = false)
  (hi : γ l = some i) (hib : i'.b = i.b) (hw : w'.heap = w.heap.setIfInBounds i.b obj) (ho : ORel (updG γ s.nl i') w' i' o') (he : Env w w' := by exact ⟨rfl, rfl, rfl⟩) :
  Rel B (updG γ s.nl i') ((s.kill l).new o') w' ∧ Did B γ s w (updG γ s.nl i') ((s.kill l).new o') w' := by
 have hnone : γ s.nl = none := h.fin0
 have hle : Gam.le γ (updG γ s.nl i') := Gam.le_upd hnone
 have hsz : w'.heap.size = w.heap.size := by rw [hw]; simp
 have hne : ∀ b, b ≠ i.b → w'.heap[b]? = w.heap[b]? := by
  intro b hb; rw [hw, Array.getElem?_setIfInBounds_ne (Ne.symm hb)]
 obtain ⟨j0, hj0, hO0, hB0⟩ := h.obj l o hl
 rw [hi] at hj0; obtain rfl := Option.some.inj hj0
 have hB0 := hB0 hro
 have hst := h.stp
 have hlive := AO.live_of_ro hro'
 have key : ∀ x p, x ≠ s.nl → ((s.kill l).new o').h x = some p → x ≠ l ∧ s.h x = some p := by
  intro x p hx hp
  rw [AS.new_h _ hlive, AS.kill_nl, if_neg hx, AS.kill_h] at hp
  split at hp
  ·exact absurd hp (by simp)
  ·rename_i e; exact ⟨e, hp⟩
 have far : ∀ x p j, s.h x = some p → x ≠ l → γ x = some j → j.b ≠ i.b := by
  intro x p j hx hxl hj e
  exact hxl (h.inj l x o p i j hl hx hro hi hj e.symm).symm
 constructor
 ·refine ⟨fun x p hp => ?_, fun l1 l2 p1 p2 i1 i2 h1 h2 r1 g1 g2 e => ?_, fun j => ?_, hst, by rw [hsz]; exact h.base⟩
  ·by_cases e : x = s.nl
   ·subst e
    rw [AS.new_h _ hlive, AS.kill_nl, if_pos rfl] at hp
    obtain rfl := Option.some.inj hp
    exact ⟨i', updG_same _ _ _, ho, fun _ => by omega⟩
   ·obtain ⟨hxl, hx⟩ := key x p e hp
    obtain ⟨j, hj, hO, hb1⟩ := h.obj x p hx
    exact ⟨j, hle _ _ hj, (hO.mono hle).congr (hne _ (far x p j hx hxl hj)), hb1⟩
  ·simp only [updG] at g1 g2
   by_cases e1 : l1 = s.nl <;> by_cases e2 : l2 = s.nl
   ·rw [e1, e2]
   ·rw [if_pos e1] at g1; rw [if_neg e2] at g2
    obtain rfl := Option.some.inj g1
    obtain ⟨hxl, hx⟩ := key l2 p2 e2 h2
    exact absurd (e.symm.trans hib) (far l2 p2 i2 hx hxl g2)
   ·rw [if_pos e2] at g2; rw [if_neg e1] at g1
    obtain rfl := Option.some.inj g2
    obtain ⟨hxl, hx⟩ := key l1 p1 e1 h1
    exact absurd (e.trans hib) (far l1 p1 i1 hx hxl g1)
   ·rw [if_neg e1] at g1; rw [if_neg e2] at g2
    exact h.inj l1 l2 p1 p2 i1 i2 (key l1 p1 e1 h1).2 (key l2 p2 e2 h2).2 r1 g1 g2 e
  ·rw [AS.new_nl, AS.new_st, AS.kill_nl, AS.kill_st]
   simp only [updG]
   have e1 : s.nl + s.st + j * s.st = s.nl + (j + 1) * s.st := by rw [Nat.add_mul, Nat.one_mul]; omega
   rw [if_neg (by omega), e1]
   exact h.fin (j + 1)
 ·refine ⟨hle, fun b hb hn => hne b fun e => hn l o i hl hro hi e.symm, by rw [hsz]; exact Nat.le_refl _, fun x p j h1 h2 h3 => .inr ?_, ⟨1, by simp [AS.new_nl, AS.kill_nl, AS.kill_st]⟩, rfl, rfl, upd_dom, fun l p h h1 h2 => kill_sld l p (new_sld hro' l p h h1 h2) h1 h2, he⟩
  simp only [updG] at h3
  by_cases e : x = s.nl
  ·rw [if_pos e] at h3; obtain rfl := Option.some.inj h3; exact ⟨l, o, i, hl, hro, hi, hib.symm⟩
  ·rw [if_neg e] at h3; exact ⟨x, p, j, (key x p e h1).2, h2, h3, rfl⟩
end Go.Am
end

section
namespace Go.Am
structure TT where
 und : TypeId → Option TypeDesc
 siz : TypeId → Option Nat
 byt : TypeId → Option Nat
 zer : TypeId → Option AV
 eqg : TypeId → Bool
 eqt : TypeId → Bool
structure TT.Ok (P : Program) (T : TT) : Prop where
 und : ∀ t d, T.und t = some d → P.underlying t = some d
 siz : ∀ t n, T.siz t = some n → (P.info? t).map (·.size) = some n
 byt : ∀ t n, T.byt t = some n → (P.info? t).map (·.bytes) = some n
 zer : ∀ t v, T.zer t = some v → ∃ i c, P.info? t = some i ∧ i.zero = some c ∧ ∀ γ, VRel γ v c
 eqg : ∀ t, T.eqg t = true → P.eqGuardType P.depth t = false
 eqt : ∀ t, T.eqt t = true → P.stoodInHeld t = false
mutual
def ofV : Value → AV
 | .bool b => .bool b
 | .int k n => .int k n
 | .string s => .str s.data.toList
 | .pointer none => .ptr none
 | .slice none n m => .slc none n m true
 | .map none => .map none
 | .func (.func f) ⟨[]⟩ ⟨c⟩ => .func f (ofVs c)
 | .nilFunc => .nilFunc
 | .iface t v => .iface t (ofV v)
 | .nilIface => .nilIface
 | .agg ⟨l⟩ => .agg (ofVs l)
 | .tuple ⟨l⟩ => .tup (ofVs l)
 | _ => .bad
def ofVs : List Value → List AV
 | [] => []
 | v :: vs => ofV v :: ofVs vs
end
mutual
theorem ofV_rel (γ : Gam) : ∀ v, VRel γ (ofV v) v
 | .bool b => by simp [ofV, VRel]
 | .int k n => by simp [ofV, VRel]
 | .string s => by simp [ofV, VRel]
 | .pointer none => by simp [ofV, VRel]
 | .pointer (some _) => by simp [ofV, VRel]
 | .slice none n m => by simp [ofV, VRel]
 | .slice (some _) n m => by simp [ofV, VRel]
 | .map none => by simp [ofV, VRel]
 | .map (some _) => by simp [ofV, VRel]
 | .func (.func f) ⟨[]⟩ ⟨c⟩ => by simp only [ofV, VRel]; exact ⟨⟨c⟩, rfl, ofVs_rel γ c⟩
 | .func (.func f) ⟨_ :: _⟩ ⟨c⟩ => by simp [ofV, VRel]
 | .func (.method _) _ _ => by simp [ofV, VRel]
 | .func (.methodOf _ _) _ _ => by simp [ofV, VRel]
 | .func (.via _ _ _ _) _ _ => by simp [ofV, VRel]
 | .func (.yield _) _ _ => by simp [ofV, VRel]
 | .nilFunc => by simp [ofV, VRel]
 | .iface t v => by simp only [ofV, VRel]; exact ⟨v, rfl, ofV_rel γ v⟩
 | .nilIface => by simp [ofV, VRel]
 | .agg ⟨l⟩ => by simp only [ofV, VRel]; exact ⟨⟨l⟩, rfl, ofVs_rel γ l⟩
 | .tuple ⟨l⟩ => by simp only [ofV, VRel]; exact ⟨⟨l⟩, rfl, ofVs_rel γ l⟩
 | .float _ _ => by simp [ofV, VRel]
 | .complex _ _ _ => by simp [ofV, VRel]
 | .chan _ => by simp [ofV, VRel]
theorem ofVs_rel (γ : Gam) : ∀ l, VRels γ (ofVs l) l
 | [] => by simp [ofVs, VRels]
 | v :: vs => by simp only [ofVs]; exact VRels.cons (ofV_rel γ v) (ofVs_rel γ vs)
end
def aev (f : Nat → AV) : Operand → AV
 | .tmp t => f t
 | .const v => ofV v
 | .func g => .func g []
 | .global _ => .bad
def acells (v : AV) : Option (List AV) := if v.cells.all AV.one then some v.cells else none
def TT.agg (T : TT) (t : TypeId) : Option Bool :=
 match T.und t with
 | some (.struct _) | some (.array _ _) => some true
 | some _ => some false
 | none => none
def wrs (cs : List AV) (o : Nat) : List AV → List AV
 | [] => cs
 | v :: vs => wrs (cs.set o v) (o + 1) vs
def rdc (s : AS) (l o n : Nat) : Option (List AV) :=
 match s.h l with
 | some (.cells cs _ _) => if o + n ≤ cs.length then some ((cs.drop o).take n) else none
 | _ => none
def rd1 (s : AS) (l o : Nat) : Option AV :=
 match s.h l with
 | some (.cells cs _ _) => cs[o]?
 | _ => none
def ald (T : TT) (t : TypeId) (s : AS) : AV → Option AV
 | .ptr (some (l, o)) =>
  match T.agg t with
  | some true => (T.siz t).bind fun n => (rdc s l o n).map .agg
  | some false => rd1 s l o
  | none => none
 | _ => none
def awr (s : AS) (l o : Nat) (vs : List AV) : Option AS :=
 match s.h l with
 | some (.cells cs g false) => if o + vs.length ≤ cs.length then some (s.put l (.cells (wrs cs o vs) g false)) else none
 | _ => none
def ast (T : TT) (t : TypeId) (s : AS) (p v : AV) : Option AS :=
 match p with
 | .ptr (some (l, o)) => (acells v).bind fun vs => if T.siz t = some vs.length then awr s l o vs else none
 | _ => none
def part (T : TT) (t : TypeId) (cs : List AV) (off : Nat) : Option AV :=
 match T.agg t with
 | some true => (T.siz t).map fun n => .agg ((cs.drop off).take n)
 | some false => cs[off]?
 | none => none
def afill (place : Nat → Option (Nat × Nat)) (cells : List AV) : List (Nat × AV) → Option (List AV)
 | [] => some cells
 | (i, v) :: rest =>
  match place i, acells v with
  | some (off, size), some vc => if vc.length = size ∧ off + vc.length ≤ cells.length then afill place (wrs cells off vc) rest else none
  | _, _ => none
def rep (n : Nat) (z : List AV) : List AV := (List.replicate n z).flatten
def abuild (T : TT) (t : TypeId) (parts : List (Nat × AV)) : Option AV :=
 (T.zer t).bind fun z => (acells z).bind fun zc =>
  match T.und t with
  | some (.struct fields) =>
   if fields.all (fun f => (T.siz f.type).isSome) then
    (afill (fun i => (fields[i]?).bind fun f => (T.siz f.type).map fun n => (f.offset, n)) zc parts).map .agg
   else none
  | some (.array _ elem) => (T.siz elem).bind fun n => (afill (fun i => some (i * n, n)) zc parts).map .agg
  | _ => none
def abuildSlice (T : TT) (t : TypeId) (len : Nat) (parts : List (Nat × AV)) (s : AS) : Option (AV × AS) :=
 match T.und t with
 | some (.slice elem) =>
  (T.siz elem).bind fun n => (T.zer elem).bind fun z => (acells z).bind fun zc =>
   if zc.length = n ∧ len * n ≤ 2 ^ 24 then
    (afill (fun i => some (i * n, n)) (rep len zc) parts).map fun cs => (.slc (some (s.nl, 0)) len len true, s.new (.cells cs 0 false))
   else none
 | _ => none
def eqFields (T : TT) (eqv : TypeId → AV → AV → Option Bool) (xs ys : List AV) : List Field → Option Bool
 | [] => some true
 | f :: fs =>
  if f.name ≠ "_" then
   (part T f.type xs f.offset).bind fun a => (part T f.type ys f.offset).bind fun b =>
    match eqv f.type a b with
    | some true => eqFields T eqv xs ys fs
    | r => r
  else eqFields T eqv xs ys fs
def eqElems (T : TT) (eqv : TypeId → AV → AV → Option Bool) (elem : TypeId) (n : Nat) (xs ys : List AV) : Nat → Nat → Option Bool
 | 0, _ => some true
 | len + 1, i =>
  (part T elem xs (i * n)).bind fun a => (part T elem ys (i * n)).bind fun b =>
   match eqv elem a b with
   | some true => eqElems T eqv elem n xs ys len (i + 1)
   | r => r
def aeq (T : TT) : Nat → TypeId → AV → AV → Option Bool
 | 0, _, _, _ => none
 | d + 1, t, x, y =>
  match T.und t, x, y with
  | some .bool, .bool a, .bool b => some (a == b)
  | some (.int _), .int k a, .int k' b => if k = k' then some (a == b) else none
  | some .string, .str a, .str b => some (a == b)
  | some (.pointer _), .ptr none, .ptr b => some b.isNone
  | some (.pointer _), .ptr _, .ptr none => some false
  | some (.slice _), .slc none _ _ _, .slc b _ _ _ => some b.isNone
  | some (.slice _), .slc _ _ _ _, .slc none _ _ _ => some false
  | some (.slice _), .emp, .slc none _ _ _ => some false
  | some (.slice _), .slc none _ _ _, .emp => some false
  | some (.map _ _), .map none, .map b => some b.isNone
  | some (.map _ _), .map _, .map none => some false
  | some (.func _ _ _), .nilFunc, .nilFunc => some true
  | some (.func _ _ _), .nilFunc, .func _ _ => some false
  | some (.func _ _ _), .nilFunc, .meth _ _ _ => some false
  | some (.func _ _ _), .meth _ _ _, .nilFunc => some false
  | some (.func _ _ _), .func _ _, .nilFunc => some false
  | some (.interface _), .nilIface, .nilIface => some true
  | some (.interface _), .nilIface, .iface _ _ => some false
  | some (.interface _), .iface _ _, .nilIface => some false
  | some (.struct fields), .agg xs, .agg ys => if T.eqt t then eqFields T (aeq T d) xs ys fields.toList else none
  | some (.array len elem), .agg xs, .agg ys => (T.siz elem).bind fun n => eqElems T (aeq T d) elem n xs ys len 0
  | _, _, _ => none
def bytesLt : List UInt8 → List UInt8 → Bool
 | _, [] => false
 | [], _ :: _ => true
 | a :: x, b :: y => a < b || (a == b && bytesLt x y)
def abinInt (op : BinOp) (k : IntKind) (x y : Int) : Option AV :=
 match op with
 | .add => some (.int k (k.wrap (x + y)))
 | .sub => some (.int k (k.wrap (x - y)))
 | .mul => some (.int k (k.wrap (x * y)))
 | .quo => if y = 0 then none else some (.int k (k.wrap (x.tdiv y)))
 | .rem => if y = 0 then none else some (.int k (x.tmod y))
 | .and => some (.int k (k.wrap (BitVec.ofInt k.bits x &&& BitVec.ofInt k.bits y).toNat))
 | .or => some (.int k (k.wrap (BitVec.ofInt k.bits x ||| BitVec.ofInt k.bits y).toNat))
 | .xor => some (.int k (k.wrap (BitVec.ofInt k.bits x ^^^ BitVec.ofInt k.bits y).toNat))
 | .andNot => some (.int k (k.wrap (BitVec.ofInt k.bits x &&& ~~~ BitVec.ofInt k.bits y).toNat))
 | .eql => some (.bool (x == y))
 | .neq => some (.bool (x != y))
 | .lss => some (.bool (x < y))
 | .leq => some (.bool (x ≤ y))
 | .gtr => some (.bool (x > y))
 | .geq => some (.bool (x ≥ y))
 | _ => none
def abin (T : TT) (op : BinOp) (t : TypeId) (x y : AV) : Option AV :=
 match op, x, y with
 | .shl, .int k a, .int _ b => if b < 0 then none else some (.int k (k.wrap (a * 2 ^ min b.toNat k.bits)))
 | .shr, .int k a, .int _ b => if b < 0 then none else some (.int k (a.fdiv (2 ^ min b.toNat k.bits)))
 | op, .int k a, .int k' b => if k = k' then abinInt op k a b else none
 | .add, .str a, .str b => if ((a.length + b.length : Nat) : Int) ≤ 9223372036854775807 then some (.str (a ++ b)) else none
 | .eql, .str a, .str b => some (.bool (a == b))
 | .neq, .str a, .str b => some (.bool !(a == b))
 | .lss, .str a, .str b => some (.bool (bytesLt a b))
 | .leq, .str a, .str b => some (.bool (bytesLt a b || a == b))
 | .gtr, .str a, .str b => some (.bool !(bytesLt a b || a == b))
 | .geq, .str a, .str b => some (.bool !(bytesLt a b))
 | .eql, x, y => (aeq T 100 t x y).map .bool
 | .neq, x, y => (aeq T 100 t x y).map fun b => .bool !b
 | _, _, _ => none
def isC : Operand → Bool
 | .const _ => true
 | _ => false
def agd (T : TT) (t : TypeId) (x y : Operand) : AV → AV → Bool
 | .agg _, .agg _ => T.eqg t
 | .nilIface, .nilIface => isC x || isC y
 | .bad, _ => false
 | _, .bad => false
 | _, _ => true
def aun (op : UnOp) (x : AV) : Option AV :=
 match op, x with
 | .neg, .int k n => some (.int k (k.wrap (0 - n)))
 | .xor, .int k n => abinInt .xor k (if k.signed then -1 else k.max) n
 | .not, .bool b => some (.bool !b)
 | _, _ => none
def afieldAddr (T : TT) (t : TypeId) (x : AV) (f : Nat) : Option AV :=
 match T.und t, x with
 | some (.struct fields), .ptr (some (l, o)) =>
  (fields[f]?).bind fun fd => match T.siz fd.type with
   | some (_ + 1) => some (.ptr (some (l, o + fd.offset)))
   | _ => none
 | _, _ => none
def aindexAddr (T : TT) (t : TypeId) (x ix : AV) : Option AV :=
 match T.und t, x, ix with
 | some (.array len elem), .ptr (some (l, o)), .int _ i =>
  (T.siz elem).bind fun n => if 0 ≤ i ∧ i < len then some (.ptr (some (l, o + i.toNat * n))) else none
 | some (.slice elem), .slc (some (l, o)) len _ _, .int _ i =>
  (T.siz elem).bind fun n => if 0 ≤ i ∧ i < len then some (.ptr (some (l, o + i.toNat * n))) else none
 | _, _, _ => none
def aindex (T : TT) (t : TypeId) (x ix : AV) : Option AV :=
 match T.und t, x, ix with
 | some (.array len elem), .agg cs, .int _ i =>
  (T.siz elem).bind fun n => if 0 ≤ i ∧ i < len then part T elem cs (i.toNat * n) else none
 | some .string, .str s, .int _ i => if 0 ≤ i then (s[i.toNat]?).map fun b => .int .u8 b.toNat else none
 | _, _, _ => none
def afield (T : TT) (t : TypeId) (x : AV) (f : Nat) : Option AV :=
 match T.und t, x with
 | some (.struct fields), .agg cs => (fields[f]?).bind fun fd => part T fd.type cs fd.offset
 | _, _ => none
def abound1 (y : Nat) : AV → Option Nat
 | .int _ i => if 0 ≤ i ∧ i ≤ y then some i.toNat else none
 | _ => none
def aopt (y : Nat) (v : Option AV) (d : Nat) : Option Nat :=
 match v with
 | none => some d
 | some v => abound1 y v
def ahigh (len m : Nat) : Option AV → Option Nat
 | some v => abound1 m v
 | none => if len ≤ m then some len else none
def abounds (len cap : Nat) (low high max : Option AV) : Option (Nat × Nat × Nat) :=
 if high.isNone ∧ max.isSome then none else
 (aopt cap max cap).bind fun m => (ahigh len m high).bind fun h => (aopt h low 0).map fun l => (l, h, m)
def aslice (T : TT) (t : TypeId) (x : AV) (low high max : Option AV) : Option AV :=
 match T.und t, x with
 | some .string, .str s =>
  if max.isSome then none else
  (abounds s.length s.length low high none).map fun r => .str ((s.drop r.1).take (r.2.1 - r.1))
 | some (.slice elem), .slc a len cap ex =>
  (T.siz elem).bind fun n => (abounds len cap low high max).bind fun (l, h, m) =>
   match a with
   | none => some (.slc none (h - l) (m - l) true)
   | some (b, o) =>
    if ex || max.isSome then some (.slc (some (b, if m = l then o else o + l * n)) (h - l) (m - l) true)
    else if m = l then some .emp
    else some (.slc (some (b, o + l * n)) (h - l) (m - l) false)
 | some (.slice elem), .emp => (T.siz elem).bind fun _ => (abounds 0 0 low high max).map fun _ => .emp
 | some (.array k elem), .ptr (some (b, o)) =>
  (T.siz elem).bind fun n => (abounds k k low high max).map fun (l, h, m) => .slc (some (b, if m = l then o else o + l * n)) (h - l) (m - l) true
 | _, _ => none
def amakeSlice (T : TT) (t : TypeId) (len cap : AV) (s : AS) : Option (AV × AS) :=
 match T.und t, len, cap with
 | some (.slice elem), .int _ l, .int _ c =>
  (T.siz elem).bind fun n => (T.byt elem).bind fun by_ => (T.zer elem).bind fun z => (acells z).bind fun zc =>
   if 0 ≤ l ∧ l ≤ c ∧ (by_ : Int) * c ≤ 2 ^ 48 ∧ c < 2 ^ 63 ∧ zc.length = n then
    some (.slc (some (s.nl, 0)) l.toNat c.toNat true, s.new (.cells (rep c.toNat zc) 0 false))
   else none
 | _, _, _ => none
def asrc (size n : Nat) (s : AS) : AV → Option (List AV)
 | .slc (some (l, o)) _ _ _ => if n = 0 then some [] else rdc s l o (n * size)
 | .slc none _ _ _ => some []
 | .emp => if n = 0 then some [] else none
 | .str b => some ((b.take n).map fun c => .int .u8 c.toNat)
 | _ => none
def alen : AV → Option Nat
 | .slc _ n _ _ => some n
 | .emp => some 0
 | .str s => some s.length
 | _ => none
def aappendZ (T : TT) (elem : TypeId) (dst x : AV) (s : AS) : Option (AV × AS) :=
 (T.siz elem).bind fun size => (T.byt elem).bind fun by_ => (T.zer elem).bind fun z => (acells z).bind fun zc =>
 match dst, x with
 | .slc base len cap true, .int .i64 k =>
  if zc.length ≠ size ∨ k < 0 ∨ 2 ^ 40 < len + k.toNat ∨ 2 * ((len + k.toNat + 256) * by_) > 2 ^ 48 ∨ len + k.toNat ≤ cap then none else
  (asrc size len s (.slc base len cap true)).map fun old => (.slc (some (s.nl, 0)) (len + k.toNat) (len + k.toNat) false, s.new (.cells (old ++ rep k.toNat zc) size false))
 | _, _ => none
def aappend (T : TT) (t xt : TypeId) (dst x : AV) (s : AS) : Option (AV × AS) :=
 match T.und t, T.und xt with
 | some (.slice elem), some xd =>
  if (match xd with | .int _ => true | _ => false) then aappendZ T elem dst x s else
  (T.siz elem).bind fun size => (T.byt elem).bind fun by_ => (T.zer elem).bind fun z => (acells z).bind fun zc =>
  (alen x).bind fun n => (asrc size n s x).bind fun new =>
  match dst with
  | .slc base len cap ex =>
   if zc.length ≠ size ∨ new.length ≠ n * size ∨ 2 ^ 40 < len + n ∨ 2 * ((len + n + 256) * by_) > 2 ^ 48 then none else
   if len + n ≤ cap then
    (match base with
     | none => some (.slc none (len + n) cap ex, s)
     | some (l, o) =>
      if new = [] then some (.slc base (len + n) cap ex, s)
      else (awr s l (o + len * size) new).map fun s' => (.slc base (len + n) cap ex, s'))
   else
    (asrc size len s (.slc base len cap ex)).bind fun old =>
     if ex then some (.slc (some (s.nl, 0)) (len + n) (len + n) false, s.new (.cells (old ++ new) size false))
     else match base with
      | none => none
      | some (l, o) =>
       match s.h l with
       | some (.cells cs g false) =>
        if g = size ∧ size ≠ 0 ∧ o + cap * size = cs.length then
         some (.slc (some (s.nl, 0)) (len + n) (len + n) false, (s.kill l).new (.cells (old ++ new) size false))
        else none
       | _ => none
  | _ => none
 | _, _ => none
def acopy (T : TT) (t : TypeId) (dst x : AV) (s : AS) : Option (AV × AS) :=
 match T.und t with
 | some (.slice elem) =>
  (T.siz elem).bind fun size => (alen x).bind fun m => (alen dst).bind fun d =>
   (asrc size (min m d) s x).bind fun new =>
    match dst with
    | .slc (some (l, o)) _ _ _ => if new = [] then some (.int .i64 ((min m d : Nat) : Int), s) else (awr s l o new).map fun s' => (.int .i64 ((min m d : Nat) : Int), s')
    | .slc none _ _ _ => some (.int .i64 ((min m d : Nat) : Int), s)
    | .emp => if new = [] then some (.int .i64 ((min m d : Nat) : Int), s) else none
    | _ => none
 | _ => none
def afind (T : TT) (kt : TypeId) (k : AV) : List (AV × AV × Nat) → Nat → Option (Option (Nat × AV))
 | [], _ => some none
 | (k', v, _) :: es, i =>
  match aeq T 100 kt k k' with
  | some true => some (some (i, v))
  | some false => afind T kt k es (i + 1)
  | none => none
def keyFields (T : TT) (ok : TypeId → AV → Bool) (cs : List AV) : List Field → Bool
 | [] => true
 | f :: fs => (if f.name ≠ "_" then (match part T f.type cs f.offset with | some v => ok f.type v | none => false) else true) && keyFields T ok cs fs
def keyElems (T : TT) (ok : TypeId → AV → Bool) (elem : TypeId) (n : Nat) (cs : List AV) : Nat → Nat → Bool
 | 0, _ => true
 | len + 1, i => (match part T elem cs (i * n) with | some v => ok elem v | none => false) && keyElems T ok elem n cs len (i + 1)
def akeyOk (T : TT) : Nat → TypeId → AV → Bool
 | 0, _, _ => false
 | d + 1, t, v =>
  match T.und t, v with
  | some (.array len elem), .agg cs => match T.siz elem with | some n => keyElems T (akeyOk T d) elem n cs len 0 | none => false
  | some (.struct fields), .agg cs => keyFields T (akeyOk T d) cs fields.toList
  | some (.interface _), _ => false
  | some (.array _ _), _ => false
  | some (.struct _), _ => false
  | some _, _ => true
  | none, _ => false
def bitsL (same : AV → AV → Bool) : List AV → List AV → Bool
 | [], [] => true
 | x :: xs, y :: ys => same x y && bitsL same xs ys
 | _, _ => false
def abits : Nat → AV → AV → Bool
 | 0, .bool a, .bool b => a == b
 | 0, .int j a, .int k b => j == k && a == b
 | 0, .str a, .str b => a == b
 | 0, _, _ => false
 | _ + 1, .bool a, .bool b => a == b
 | _ + 1, .int j a, .int k b => j == k && a == b
 | _ + 1, .str a, .str b => a == b
 | n + 1, .agg a, .agg b => bitsL (abits n) a b
 | _ + 1, _, _ => false
def alookup (T : TT) (t : TypeId) (m k : AV) (commaOk : Bool) (s : AS) : Option AV :=
 match T.und t, m with
 | some (.map kt et), .map r =>
  if akeyOk T 100 kt k then
   (match r with
    | none => some []
    | some l => match s.h l with
     | some (.map es _ _) => some es
     | _ => none).bind fun es =>
    (afind T kt k es 0).bind fun r =>
     (match r with
      | some (_, v) => some (v, true)
      | none => (T.zer et).map fun z => (z, false)).map fun (v, ok) => if commaOk then .tup [v, .bool ok] else v
  else none
 | _, _ => none
def amapUpdate (T : TT) (t : TypeId) (m k v : AV) (s : AS) : Option AS :=
 match T.und t, m with
 | some (.map kt _), .map (some l) =>
  match s.h l with
  | some (.map es clock false) =>
   if akeyOk T 100 kt k then
    (afind T kt k es 0).bind fun r =>
     match r with
     | some (i, _) => match es[i]? with
      | some (k', _, n) => if abits 100 k' k then some (s.put l (.map (es.set i (k, v, n)) clock false)) else none
      | none => none
     | none => some (s.put l (.map (es ++ [(k, v, clock)]) (clock + 1) false))
   else none
  | _ => none
 | _, _ => none
def adelete (T : TT) (t : TypeId) (m k : AV) (s : AS) : Option AS :=
 match T.und t, m with
 | some (.map kt _), .map r =>
  if akeyOk T 100 kt k then
   match r with
   | none => some s
   | some l => match s.h l with
    | some (.map es clock false) =>
     (afind T kt k es 0).map fun r => match r with
      | some (i, _) => s.put l (.map (es.eraseIdx i) clock false)
      | none => s.put l (.map es clock false)
    | _ => none
  else none
 | _, _ => none
def alenB (T : TT) (t : TypeId) (x : AV) (s : AS) : Option AV :=
 match T.und t, x with
 | some .string, .str b => some (.int .i64 b.length)
 | some (.array n _), _ => some (.int .i64 n)
 | some (.slice _), .slc _ n _ _ => some (.int .i64 n)
 | some (.slice _), .emp => some (.int .i64 0)
 | some (.map _ _), .map none => some (.int .i64 0)
 | some (.map _ _), .map (some l) => match s.h l with
  | some (.map es _ _) => some (.int .i64 es.length)
  | _ => none
 | _, _ => none
def acapB (T : TT) (t : TypeId) (x : AV) : Option AV :=
 match T.und t, x with
 | some (.slice _), .slc _ _ c true => some (.int .i64 c)
 | _, _ => none
def aclear (T : TT) (t : TypeId) (x : AV) (s : AS) : Option AS :=
 match T.und t, x with
 | some (.slice _), .slc none _ _ _ => some s
 | some (.slice _), .emp => some s
 | some (.slice elem), .slc (some (l, o)) n _ _ =>
  if n = 0 then some s else
  (T.zer elem).bind fun z => (acells z).bind fun zc => awr s l o (rep n zc)
 | _, _ => none
def amax2 (big : Bool) : AV → AV → Option AV
 | .int k x, .int _ y => some (.int k (if big then (if y > x then y else x) else (if y < x then y else x)))
 | _, _ => none
def amaxL (big : Bool) (x : AV) : List AV → Option AV
 | [] => some x
 | y :: ys => (amax2 big x y).bind fun z => amaxL big z ys
def amax (big : Bool) : List AV → Option AV
 | [] => none
 | x :: rest => amaxL big x rest
def abytes : List AV → Option (List UInt8)
 | [] => some []
 | .int .u8 b :: cs => (abytes cs).map fun l => UInt8.ofNat b.toNat :: l
 | _ :: _ => none
def aconvert (T : TT) (src dst : TypeId) (x : AV) (s : AS) : Option (AV × AS) :=
 match T.und src, T.und dst, x with
 | some _, some (.int k), .int _ n => some (.int k (k.wrap n), s)
 | some _, some .string, .str b => some (.str b, s)
 | some _, some (.slice e), .str b =>
  match T.und e with
  | some (.int .u8) => some (.slc (some (s.nl, 0)) b.length b.length false, s.new (.cells (b.map fun c => .int .u8 c.toNat) 1 false))
  | _ => none
 | some (.slice e), some .string, .slc none n _ _ =>
  match T.und e with
  | some (.int .u8) => if n = 0 then some (.str [], s) else none
  | _ => none
 | some (.slice e), some .string, .emp =>
  match T.und e with
  | some (.int .u8) => some (.str [], s)
  | _ => none
 | some (.slice e), some .string, .slc (some (l, o)) n _ _ =>
  match T.und e with
  | some (.int .u8) => if n = 0 then some (.str [], s) else (rdc s l o n).bind fun cs => (abytes cs).map fun bs => (.str bs, s)
  | _ => none
 | _, _, _ => none
def abuiltin (T : TT) (b : Builtin) (ts : List TypeId) (args : List AV) (s : AS) : Option (AV × AS) :=
 match b, ts, args with
 | .len, t :: _, x :: _ => (alenB T t x s).map (·, s)
 | .cap, t :: _, x :: _ => (acapB T t x).map (·, s)
 | .append, t :: xt :: _, dst :: x :: _ => aappend T t xt dst x s
 | .copy, t :: _ :: _, dst :: x :: _ => acopy T t dst x s
 | .delete, t :: _, m :: k :: _ => (adelete T t m k s).map (.undef, ·)
 | .clear, t :: _, x :: _ => (aclear T t x s).map (.undef, ·)
 | .max, _, l => (amax true l).map (·, s)
 | .min, _, l => (amax false l).map (·, s)
 | _, _, _ => none
def aentry (x : AV) (s : AS) : Option AV := match x with
 | .ptr (some (l, 0)) => match s.h l with
  | some (.mapIt (some m) _ seen stepped _) => match s.h m with
   | some (.map es clock _) => if clock = stepped then (seen.getLast?).bind fun n => (es.find? fun e => e.2.2 == n).map fun e => .tup [e.1, e.2.1] else none
   | _ => none
  | _ => none
 | _ => none
def aop (T : TT) (op : Op) (ρ : Operand → AV) (s : AS) : Option (AV × AS) :=
 match op with
 | .move x | .assign x => some (ρ x, s)
 | .pick c a b => match ρ c with
  | .bool t => some (if t then ρ a else ρ b, s)
  | _ => none
 | .alloc e => (T.zer e).bind fun z => (acells z).map fun cs => (.ptr (some (s.nl, 0)), s.new (.cells cs 0 false))
 | .box _ x => (acells (ρ x)).map fun cs => (.ptr (some (s.nl, 0)), s.new (.cells cs 0 false))
 | .build t parts => (abuild T t (parts.toList.map fun p => (p.1, ρ p.2))).map (·, s)
 | .buildSlice t len parts => abuildSlice T t len (parts.toList.map fun p => (p.1, ρ p.2)) s
 | .load t a => (ald T t s (ρ a)).map (·, s)
 | .store t a x => (ast T t s (ρ a) (ρ x)).map (.undef, ·)
 | .nilCheck x => match ρ x with
  | .ptr (some p) => some (.ptr (some p), s)
  | .func f c => some (.func f c, s)
  | .meth f ft c => some (.meth f ft c, s)
  | .iface t v => some (.iface t v, s)
  | _ => none
 | .binOp op t x y _ => if agd T t x y (ρ x) (ρ y) then (abin T op t (ρ x) (ρ y)).map (·, s) else none
 | .unOp op _ x => (aun op (ρ x)).map (·, s)
 | .convert src dst x => aconvert T src dst (ρ x) s
 | .makeInterface t x => match T.und t with
  | some (.interface _) => none
  | some _ => some (.iface t (ρ x), s)
  | none => none
 | .makeFunc (.func f) first captured => if first.isEmpty then some (.func f (captured.toList.map ρ), s) else some (.meth f (first.toList.map ρ) (captured.toList.map ρ), s)
 | .makeMap t none => match T.und t with
  | some _ => some (.map (some s.nl), s.new (.map [] 0 false))
  | none => none
 | .makeSlice t l c => amakeSlice T t (ρ l) (ρ c) s
 | .slice t x lo hi mx => (aslice T t (ρ x) (lo.map ρ) (hi.map ρ) (mx.map ρ)).map (·, s)
 | .fieldAddr t x f => (afieldAddr T t (ρ x) f).map (·, s)
 | .field t x f => (afield T t (ρ x) f).map (·, s)
 | .indexAddr t x ix => (aindexAddr T t (ρ x) (ρ ix)).map (·, s)
 | .index t x ix => (aindex T t (ρ x) (ρ ix)).map (·, s)
 | .lookup t x ix ok => (alookup T t (ρ x) (ρ ix) ok s).map (·, s)
 | .mapUpdate t m k v | .insert t m k v => (amapUpdate T t (ρ m) (ρ k) (ρ v) s).map (.undef, ·)
 | .extract t i => match ρ t with
  | .tup vs => (vs[i]?).map (·, s)
  | _ => none
 | .call c => match c.callee with
  | .builtin b => abuiltin T b c.argTypes.toList (c.args.toList.map ρ) s
  | _ => none
 | .range t x => match T.und t, ρ x with
  | some .string, .str b => some (.ptr (some (s.nl, 0)), s.new (.strIt b 0 false))
  | some (.map _ _), .map none => some (.ptr (some (s.nl, 0)), s.new (.mapIt none 0 [] 0 false))
  | some (.map _ _), .map (some m) => match s.h m with
   | some (.map _ clock _) => some (.ptr (some (s.nl, 0)), s.new (.mapIt (some m) clock [] clock false))
   | _ => none
  | _, _ => none
 | .entry it => (aentry (ρ it) s).map (·, s)
 | _ => none
def acand (op : Op) (ρ : Operand → AV) (s : AS) : Option (List (AV × AS)) :=
 match op with
 | .next it isStr => match ρ it with
  | .ptr (some (l, 0)) => match s.h l with
   | some (.mapIt none _ _ _ _) => if isStr then none else some [(.tup [.bool false], s)]
   | some (.mapIt (some m) since seen last false) => if isStr then none else match s.h m with
    | some (.map es clock _) =>
     if seen ≠ [] ∧ es ≠ [] ∧ (es.all fun e => decide (last ≤ e.2.2)) then none else
     let left := es.filter fun e => !seen.contains e.2.2
     let old := left.filter fun e => decide (e.2.2 < since)
     let new := left.filter fun e => decide (since ≤ e.2.2)
     some ((if old.isEmpty then [(.tup [.bool false], s)] else []) ++
      (old ++ new).map fun e => (.tup [.bool true, e.1, e.2.1], s.put l (.mapIt (some m) since (seen ++ [e.2.2]) clock false)))
    | _ => none
   | some (.strIt b pos false) => if isStr then
     (if pos < b.length then
      let cw := Utf8.decode ⟨b.toArray⟩ pos
      some [(.tup [.bool true, .int .i64 pos, .int .i32 cw.1], s.put l (.strIt b (pos + cw.2) false))]
     else some [(.tup [.bool false], s)])
    else none
   | _ => none
  | _ => none
 | _ => none
end Go.Am
end

section
namespace Go.Am
section
variable {P : Program} {T : TT} (hT : TT.Ok P T)
include hT
theorem run_underlying {t : TypeId} {d : TypeDesc} (h : T.und t = some d) (w : World) : (underlying t).run P w = .ok d w := by
 simp [underlying, hT.und t d h]
theorem run_sizeOf {t : TypeId} {n : Nat} (h : T.siz t = some n) (w : World) : (sizeOf t).run P w = .ok n w := by
 have := hT.siz t n h
 cases hi : P.info? t with
 | none => simp [hi] at this
 | some i => simp [hi] at this; simp [sizeOf, typeInfo, hi, this]
theorem run_bytes {t : TypeId} {n : Nat} (h : T.byt t = some n) (w : World) : ∃ i, (typeInfo t).run P w = .ok i w ∧ i.bytes = n := by
 have := hT.byt t n h
 cases hi : P.info? t with
 | none => simp [hi] at this
 | some i => simp [hi] at this; exact ⟨i, by simp [typeInfo, hi], this⟩
theorem run_zeroValue {t : TypeId} {z : AV} (h : T.zer t = some z) (w : World) : ∃ c, (zeroValue t).run P w = .ok c w ∧ ∀ γ, VRel γ z c := by
 obtain ⟨i, c, hi, hc, hz⟩ := hT.zer t z h
 exact ⟨c, by simp [zeroValue, typeInfo, hi, hc], hz⟩
theorem run_isAgg {t : TypeId} {b : Bool} (h : T.agg t = some b) (w : World) : (isAgg t).run P w = .ok b w := by
 unfold TT.agg at h
 cases hu : T.und t with
 | none => simp [hu] at h
 | some d =>
  rw [hu] at h
  simp only [isAgg, Sem.run_bind, run_underlying hT hu, Result.andThen_ok]
  cases d <;> simp at h <;> subst h <;> rfl
end
theorem cell?_some {w : World} {b o : Nat} {c : Array Value} {e : TypeId} {fz : Nat × Nat} {v : Value} (h : w.heap[b]? = some (.cells c e fz)) (hv : c[o]? = some v) :
  w.cell? ⟨b, o, none⟩ = some v := by simp [World.cell?, h, hv]
theorem add_addr (b o i : Nat) : (Addr.mk b o none).add i = ⟨b, o + i, none⟩ := by
 unfold Addr.add; split
 ·rename_i h; simp [h]
 ·rfl
theorem run_loadCellsFrom (P : Program) {w : World} {b o : Nat} {c : Array Value} {e : TypeId} {fz : Nat × Nat} (h : w.heap[b]? = some (.cells c e fz)) :
  ∀ (n i : Nat) (acc : Array Value), o + i + n ≤ c.size → (loadCellsFrom ⟨b, o, none⟩ i n acc).run P w = .ok (acc ++ c.extract (o + i) (o + i + n)) w
 | 0, i, acc, _ => by simp [loadCellsFrom]; omega
 | n + 1, i, acc, hn => by
  have hc : c[o + i]? = some (c[o + i]'(by omega)) := Array.getElem?_eq_getElem (by omega)
  simp only [loadCellsFrom, Sem.run_bind, run_load, add_addr, cell?_some h hc, Result.andThen_ok]
  rw [run_loadCellsFrom P h n (i + 1) _ (by omega)]
  congr 1
  apply Array.ext'
  simp only [Array.toList_append, Array.toList_push, Array.toList_extract, List.append_assoc]
  congr 1
  rw [show o + i + (n + 1) = (o + i + 1) + n by omega, show o + (i + 1) = o + i + 1 by omega]
  simp only [List.extract_eq_take_drop]
  rw [show (o + i + 1 + n - (o + i)) = n + 1 by omega, show (o + i + 1 + n - (o + i + 1)) = n by omega]
  rw [List.drop_eq_getElem_cons (show o + i < c.toList.length by simpa using (by omega : o + i < c.size))]
  simp
theorem run_loadCells (P : Program) {w : World} {b o n : Nat} {c : Array Value} {e : TypeId} {fz : Nat × Nat} (h : w.heap[b]? = some (.cells c e fz)) (hn : o + n ≤ c.size) :
  (loadCells ⟨b, o, none⟩ n).run P w = .ok (c.extract o (o + n)) w := by
 have := run_loadCellsFrom P (o := o) h n 0 #[] (by omega)
 simpa [loadCells] using this
def wrc (c : Array Value) (o : Nat) : List Value → Array Value
 | [] => c
 | v :: vs => wrc (c.setIfInBounds o v) (o + 1) vs
theorem wrc_size : ∀ (vs : List Value) (c : Array Value) (o : Nat), (wrc c o vs).size = c.size
 | [], _, _ => rfl
 | v :: vs, c, o => by simp [wrc, wrc_size vs]
theorem setCell_heap {w : World} {b o : Nat} {c : Array Value} {e : TypeId} {fz : Nat × Nat} (h : w.heap[b]? = some (.cells c e fz)) (v : Value) :
  (w.setCell ⟨b, o, none⟩ v).heap = w.heap.setIfInBounds b (.cells (c.setIfInBounds o v) e fz) := by
 have hb : b < w.heap.size := by
  rcases Nat.lt_or_ge b w.heap.size with h' | h'
  ·exact h'
  ·simp [Array.getElem?_eq_none h'] at h
 have hg : w.heap[b] = .cells c e fz := by simpa [Array.getElem?_eq_getElem hb] using h
 apply Array.ext_getElem?
 intro i
 simp only [World.setCell, Array.getElem?_modify, Array.getElem?_setIfInBounds]
 by_cases hi : b = i
 ·subst hi; simp [hb, hg]
 ·simp [hi]
theorem setCell_os (w : World) (a : Addr) (v : Value) : (w.setCell a v).os = w.os := rfl
theorem setCell_output (w : World) (a : Addr) (v : Value) : (w.setCell a v).output = w.output := rfl
theorem run_storeCells (P : Program) {b o : Nat} {e : TypeId} {fz : Nat × Nat} : ∀ (vs : List Value) (i : Nat) (w : World) (c : Array Value), w.heap[b]? = some (.cells c e fz) →
  o + i + vs.length ≤ c.size → (∀ x, x < c.size → ¬ (fz.1 ≤ x ∧ x < fz.2)) → (∀ v ∈ vs, v.oneCell' = true) →
  ∃ w', (storeCells ⟨b, o, none⟩ vs i).run P w = .ok () w' ∧ w'.heap = w.heap.setIfInBounds b (.cells (wrc c (o + i) vs) e fz) ∧ Env w w'
 | [], i, w, c, h, _, _, _ => by
  refine ⟨w, by simp [storeCells], ?_, rfl, rfl, rfl⟩
  apply Array.ext_getElem?
  intro k
  simp only [Array.getElem?_setIfInBounds]
  have hb : b < w.heap.size := by
   rcases Nat.lt_or_ge b w.heap.size with h' | h'
   ·exact h'
   ·simp [Array.getElem?_eq_none h'] at h
  by_cases hk : b = k
  ·subst hk; simp only [wrc, h, hb, if_true]
  ·simp [hk]
 | v :: vs, i, w, c, h, hn, hf, hv => by
  simp only [List.length_cons] at hn
  have hc : c[o + i]? = some (c[o + i]'(by omega)) := Array.getElem?_eq_getElem (by omega)
  have hb : b < w.heap.size := by
   rcases Nat.lt_or_ge b w.heap.size with h' | h'
   ·exact h'
   ·simp [Array.getElem?_eq_none h'] at h
  have hfr : w.frozen? ⟨b, o + i, none⟩ = false := by
   have := hf (o + i) (by omega)
   simp only [World.frozen?, h, Bool.and_eq_false_iff, decide_eq_false_iff_not]
   by_cases g : fz.1 ≤ o + i
   ·exact .inr fun g2 => this ⟨g, g2⟩
   ·exact .inl g
  have hh := setCell_heap (o := o + i) h v
  have h1 : (w.setCell ⟨b, o + i, none⟩ v).heap[b]? = some (.cells (c.setIfInBounds (o + i) v) e fz) := by
   rw [hh]; simp [hb]
  obtain ⟨w', hr, hw', hev⟩ := run_storeCells P (b := b) (o := o) vs (i + 1) _ _ h1 (by simp; omega) (by simpa using hf) (fun u hu => hv u (List.mem_cons_of_mem _ hu))
  refine ⟨w', ?_, ?_, Env.trans ⟨setCell_os _ _ _, rfl, setCell_output _ _ _⟩ hev⟩
  ·simp only [storeCells, Sem.run_bind, add_addr, run_store P w _ v .plain (hv v (by simp)), cell?_some h hc, hfr, Bool.false_eq_true, if_false, Result.andThen_ok]
   exact hr
  ·rw [hw', hh]
   apply Array.ext_getElem?
   intro k
   simp only [Array.getElem?_setIfInBounds, Array.size_setIfInBounds, wrc]
   by_cases hk : b = k
   ·subst hk; simp [hb]; rfl
   ·simp [hk]
theorem run_newRow (P : Program) (w : World) (e : TypeId) (c : Array Value) :
  (newRow e c).run P w = .ok ⟨w.heap.size, 0, none⟩ { w with heap := w.heap.push (.cells c e) } := by
 simp [newRow]
theorem wrs_length : ∀ (vs cs : List AV) (o : Nat), (wrs cs o vs).length = cs.length
 | [], _, _ => rfl
 | v :: vs, cs, o => by simp [wrs, wrs_length vs]
theorem wrs_get : ∀ (vs cs : List AV) (o k : Nat), o + vs.length ≤ cs.length → (wrs cs o vs)[k]? = if o ≤ k ∧ k < o + vs.length then vs[k - o]? else cs[k]?
 | [], cs, o, k, _ => by simp only [wrs, List.length_nil]; rw [if_neg (by omega)]
 | v :: vs, cs, o, k, h => by
  simp only [List.length_cons] at h ⊢
  rw [wrs, wrs_get vs (cs.set o v) (o + 1) k (by simp; omega)]
  by_cases h1 : o = k
  ·subst h1
   rw [if_neg (by omega), if_pos (by omega)]
   simp [List.getElem?_set]
   omega
  ·by_cases h2 : o + 1 ≤ k ∧ k < o + 1 + vs.length
   ·rw [if_pos h2, if_pos (by omega)]
    rw [show k - o = (k - (o + 1)) + 1 by omega]
    simp
   ·rw [if_neg h2, if_neg (by omega), List.getElem?_set]
    simp [h1]
theorem wrc_get : ∀ (vs : List Value) (c : Array Value) (o k : Nat), o + vs.length ≤ c.size → (wrc c o vs)[k]? = if o ≤ k ∧ k < o + vs.length then vs[k - o]? else c[k]?
 | [], c, o, k, _ => by simp only [wrc, List.length_nil]; rw [if_neg (by omega)]
 | v :: vs, c, o, k, h => by
  simp only [List.length_cons] at h ⊢
  rw [wrc, wrc_get vs (c.setIfInBounds o v) (o + 1) k (by simp; omega)]
  by_cases h1 : o = k
  ·subst h1
   rw [if_neg (by omega), if_pos (by omega)]
   simp [Array.getElem?_setIfInBounds]
   omega
  ·by_cases h2 : o + 1 ≤ k ∧ k < o + 1 + vs.length
   ·rw [if_pos h2, if_pos (by omega)]
    rw [show k - o = (k - (o + 1)) + 1 by omega]
    simp
   ·rw [if_neg h2, if_neg (by omega), Array.getElem?_setIfInBounds]
    simp [h1]
theorem ORel.read {γ : Gam} {w : World} {i : CI} {cs : List AV} {g : Nat} {ro : Bool} (h : ORel γ w i (.cells cs g ro)) {o n : Nat} (hn : o + n ≤ cs.length) :
  ∃ c e fz, w.heap[i.b]? = some (.cells c e fz) ∧ (n ≠ 0 → i.d + o + n ≤ c.size) ∧ VRels γ ((cs.drop o).take n) ((c.extract (i.d + o) (i.d + o + n)).toList) := by
 obtain ⟨c, e, fz, hb, hc, _⟩ := h
 have hsz : n ≠ 0 → i.d + o + n ≤ c.size := by
  intro h0
  obtain ⟨_, cv, hcv, _⟩ := hc (o + n - 1) _ (List.getElem?_eq_getElem (show o + n - 1 < cs.length by omega))
  have : i.d + (o + n - 1) < c.size := by
   rcases Nat.lt_or_ge (i.d + (o + n - 1)) c.size with h | h
   ·exact h
   ·simp [Array.getElem?_eq_none h] at hcv
  omega
 refine ⟨c, e, fz, hb, hsz, ?_⟩
 refine VRels.iff_get.2 ⟨?_, fun k v cv hv hcv => ?_⟩
 ·by_cases h0 : n = 0
  ·simp [h0]
  ·have := hsz h0; simp; omega
 ·rw [List.getElem?_take] at hv
  split at hv
  ·rename_i hk
   rw [List.getElem?_drop] at hv
   obtain ⟨_, dv, hdv, hr⟩ := hc (o + k) v hv
   have : (c.extract (i.d + o) (i.d + o + n)).toList[k]? = some dv := by
    have h1 : i.d + o + n ≤ c.size := hsz (by omega)
    simp only [Array.toList_extract, List.extract_eq_take_drop, List.getElem?_take, List.getElem?_drop]
    rw [if_pos (by omega), ← Nat.add_assoc] at *
    simpa [Nat.add_assoc] using hdv
   rw [this] at hcv
   obtain rfl := Option.some.inj hcv
   exact hr
  ·simp at hv
theorem acells_some {v : AV} {l : List AV} (h : acells v = some l) : l = v.cells ∧ l.all AV.one = true := by
 unfold acells at h
 split at h
 ·rename_i hh; obtain rfl := Option.some.inj h; exact ⟨rfl, hh⟩
 ·simp at h
end Go.Am
end

section
namespace Go.Am
def Sim (P : Program) (B : Nat) (γ : Gam) (s : AS) (w : World) (m : Sem Value) (v : AV) (s' : AS) : Prop :=
 ∃ γ' w' cv, m.run P w = .ok cv w' ∧ VRel γ' v cv ∧ Did B γ s w γ' s' w' ∧ Rel B γ' s' w'
def SimU (P : Program) (B : Nat) (γ : Gam) (s : AS) (w : World) (m : Sem Unit) (s' : AS) : Prop :=
 ∃ γ' w', m.run P w = .ok () w' ∧ Did B γ s w γ' s' w' ∧ Rel B γ' s' w'
theorem Sim.val {P : Program} {B : Nat} {γ : Gam} {s : AS} {w : World} {m : Sem Value} {v : AV} {cv : Value} (hr : Rel B γ s w) (hm : m.run P w = .ok cv w) (hv : VRel γ v cv) :
  Sim P B γ s w m v s := ⟨γ, w, cv, hm, hv, Did.refl, hr⟩
theorem Rel.newCells {B : Nat} {γ : Gam} {s : AS} {w w' : World} {cs : List AV} {g x : Nat} {c : Array Value} {e : TypeId} (h : Rel B γ s w)
  (hc : ∀ (k : Nat) v, cs[k]? = some v → v.one = true ∧ ∃ cv, c[k]? = some cv ∧ VRel γ v cv) (hg : g ≠ 0 → c.size = cs.length + x * g ∧ ∀ k, cs.length ≤ k → k < c.size → ∃ v cv, v.one = true ∧ c[k]? = some cv ∧ VRel γ v cv) (fz : Nat × Nat) (hfz : ∀ o, o < c.size → ¬ (fz.1 ≤ o ∧ o < fz.2)) (hfz0 : g ≠ 1 → fz = (0, 0))
  (hw : w'.heap = w.heap.push (.cells c e fz)) (he : Env w w' := by exact ⟨rfl, rfl, rfl⟩) :
  Rel B (updG γ s.nl ⟨w.heap.size, 0, x⟩) (s.new (.cells cs g false)) w' ∧ Did B γ s w (updG γ s.nl ⟨w.heap.size, 0, x⟩) (s.new (.cells cs g false)) w' := by
 refine Rel.alloc h rfl rfl hw ⟨c, e, fz, by rw [hw]; simp, fun k v hk => ?_, fun _ => hfz, fun h0 => ?_, fun _ => hfz0⟩ he
 ·obtain ⟨h1, cv, h2, h3⟩ := hc k v hk
  exact ⟨h1, cv, by simpa using h2, h3.mono (Gam.le_upd h.fin0)⟩
 ·exact ⟨by simpa using (hg h0).1, fun k hk hk' => let ⟨v, cv, a, b, d⟩ := (hg h0).2 k (by simpa using hk) hk'; ⟨v, cv, a, b, d.mono (Gam.le_upd h.fin0)⟩⟩
theorem hc_of_rels {γ : Gam} {cs : List AV} {l : List Value} {c : Array Value} (h : VRels γ cs l) (hone : cs.all AV.one = true) (hl : ∀ (k : Nat) (v : Value), l[k]? = some v → c[k]? = some v) :
  ∀ (k : Nat) v, cs[k]? = some v → v.one = true ∧ ∃ cv, c[k]? = some cv ∧ VRel γ v cv := by
 intro k v hk
 obtain ⟨cv, hcv, hr⟩ := h.get hk
 exact ⟨List.all_eq_true.1 hone v (List.mem_of_getElem? hk), cv, hl k cv hcv, hr⟩
theorem sim_newVar {P : Program} {B : Nat} {γ : Gam} {s : AS} {w : World} {v : AV} {cv : Value} {cs : List AV} (t : TypeId) (hr : Rel B γ s w) (hv : VRel γ v cv) (hcs : acells v = some cs) :
  Sim P B γ s w (do pure (.pointer (some (← newVar t cv)))) (.ptr (some (s.nl, 0))) (s.new (.cells cs 0 false)) := by
 obtain ⟨rfl, hone⟩ := acells_some hcs
 have hc := hc_of_rels (c := cv.cells) (hv.cells hone) hone (by intro k v h; simpa using h)
 obtain ⟨h1, h2⟩ := hr.newCells (w' := { w with heap := w.heap.push (.cells cv.cells t) }) (g := 0) (x := 0) (e := t) hc (by simp) (0, 0) (by simp) (fun _ => rfl) rfl
 refine ⟨_, _, .pointer (some ⟨w.heap.size, 0, none⟩), ?_, ?_, h2, h1⟩
 ·simp [newVar, run_newRow]
 ·simp [VRel, updG_same]
section
variable {P : Program} {T : TT} (hT : TT.Ok P T) {B : Nat} {γ : Gam} {s : AS} {w : World} (hr : Rel B γ s w)
include hT hr
theorem sim_alloc {e : TypeId} {z : AV} {cs : List AV} (hz : T.zer e = some z) (hcs : acells z = some cs) :
  Sim P B γ s w (Instr.alloc e true (.tuple #[])) (.ptr (some (s.nl, 0))) (s.new (.cells cs 0 false)) := by
 obtain ⟨c, hc, hzr⟩ := run_zeroValue hT hz w
 obtain ⟨γ', w', cv, h1, h2⟩ := sim_newVar (P := P) e hr (hzr γ) hcs
 refine ⟨γ', w', cv, ?_, h2⟩
 simp only [Instr.alloc, Sem.run_bind, hc, Result.andThen_ok]
 simpa using h1
theorem rdc_run {l o n : Nat} {cs : List AV} (h : rdc s l o n = some cs) : ∃ i c e fz, γ l = some i ∧ w.heap[i.b]? = some (.cells c e fz) ∧ (n ≠ 0 → i.d + o + n ≤ c.size) ∧
  VRels γ cs ((c.extract (i.d + o) (i.d + o + n)).toList) ∧ cs.all AV.one = true ∧ cs.length = n := by
 unfold rdc at h
 split at h
 ·rename_i cl g ro hl
  split at h
  ·rename_i hn
   obtain rfl := Option.some.inj h
   obtain ⟨i, hi, hO, _⟩ := hr.obj l _ hl
   obtain ⟨c, e, fz, hb, hsz, hvs⟩ := hO.read hn
   refine ⟨i, c, e, fz, hi, hb, hsz, hvs, ?_, by simp; omega⟩
   obtain ⟨c2, e2, fz2, hb2, hc2, _⟩ := hO
   rw [List.all_eq_true]
   intro v hv
   have hv2 : v ∈ cl := List.mem_of_mem_drop (List.mem_of_mem_take hv)
   obtain ⟨k, hk⟩ := List.mem_iff_getElem?.1 hv2
   exact (hc2 k v hk).1
  ·simp at h
 ·simp at h
theorem run_loadCells_rdc {l o n : Nat} {cs : List AV} (h : rdc s l o n = some cs) : ∃ i c, γ l = some i ∧ (loadCells ⟨i.b, i.d + o, none⟩ n).run P w = .ok c w ∧ VRels γ cs c.toList ∧ cs.all AV.one = true ∧ cs.length = n ∧ c.size = n := by
 obtain ⟨i, c, e, fz, hi, hb, hsz, hvs, hone, hlen⟩ := rdc_run hT hr h
 by_cases h0 : n = 0
 ·subst h0
  refine ⟨i, #[], hi, rfl, ?_, hone, hlen, rfl⟩
  obtain rfl := List.length_eq_zero_iff.1 hlen
  exact VRels.nil
 ·refine ⟨i, _, hi, run_loadCells P hb (hsz h0), hvs, hone, hlen, ?_⟩
  have := hvs.length
  simp at this ⊢; omega
theorem rd1_run {l o : Nat} {v : AV} (h : rd1 s l o = some v) : ∃ i cv, γ l = some i ∧ w.cell? ⟨i.b, i.d + o, none⟩ = some cv ∧ VRel γ v cv ∧ v.one = true := by
 unfold rd1 at h
 split at h
 ·rename_i cl g ro hl
  obtain ⟨i, hi, ⟨c, e, fz, hb, hc, _⟩, _⟩ := hr.obj l _ hl
  obtain ⟨h1, cv, h2, h3⟩ := hc o v h
  exact ⟨i, cv, hi, cell?_some hb h2, h3, h1⟩
 ·simp at h
theorem ald_run {t : TypeId} {l o : Nat} {v : AV} {i : CI} (hi : γ l = some i) (h : ald T t s (.ptr (some (l, o))) = some v) : ∃ cv, (loadVar t ⟨i.b, i.d + o, none⟩).run P w = .ok cv w ∧ VRel γ v cv := by
 unfold ald at h
 simp only at h
 split at h
 ·rename_i ha
  cases hs : T.siz t with
  | none => simp [hs] at h
  | some n =>
   simp only [hs, Option.bind_some, Option.map_eq_some_iff] at h
   obtain ⟨cs, hcs, rfl⟩ := h
   obtain ⟨j, c, hj, hrun, hvs, _⟩ := run_loadCells_rdc hT hr hcs
   rw [hi] at hj; obtain rfl := Option.some.inj hj
   exact ⟨.agg c, by simp [loadVar, run_isAgg hT ha, run_sizeOf hT hs, hrun], by simp only [VRel]; exact ⟨c, rfl, hvs⟩⟩
 ·rename_i ha
  obtain ⟨j, cv, hj, hc, hv, _⟩ := rd1_run hT hr h
  rw [hi] at hj; obtain rfl := Option.some.inj hj
  exact ⟨cv, by simp [loadVar, run_isAgg hT ha, hc], hv⟩
 ·cases h
theorem sim_load {t : TypeId} {p v : AV} {cp : Value} (hp : VRel γ p cp) (h : ald T t s p = some v) : Sim P B γ s w (Instr.loadAt t cp) v s := by
 have h0 := h
 unfold ald at h
 split at h
 ·rename_i l o
  simp only [VRel] at hp
  obtain ⟨i, hi, rfl⟩ := hp
  obtain ⟨cv, hrun, hv⟩ := ald_run hT hr hi h0
  exact Sim.val hr (by simp [Instr.loadAt, Instr.sureAddr, hrun]) hv
 ·cases h
theorem awr_run {l o : Nat} {vs : List AV} {cvs : List Value} {s' : AS} (h : awr s l o vs = some s') (hv : VRels γ vs cvs) (hone : vs.all AV.one = true) : ∃ i w', γ l = some i ∧
  (storeCells ⟨i.b, i.d + o, none⟩ cvs).run P w = .ok () w' ∧ Did B γ s w γ s' w' ∧ Rel B γ s' w' := by
 unfold awr at h
 split at h
 ·rename_i cl g hl
  split at h
  ·rename_i hn
   obtain rfl := Option.some.inj h
   obtain ⟨i, hi, hO, _⟩ := hr.obj l _ hl
   obtain ⟨c, e, fz, hb, hc, hf, hg, hf0⟩ := hO
   have hlen := hv.length
   have hsz : vs.length ≠ 0 → i.d + o + vs.length ≤ c.size := by
    intro h0
    obtain ⟨_, cv, hcv, _⟩ := hc (o + vs.length - 1) _ (List.getElem?_eq_getElem (show o + vs.length - 1 < cl.length by omega))
    have : i.d + (o + vs.length - 1) < c.size := by
     rcases Nat.lt_or_ge (i.d + (o + vs.length - 1)) c.size with h | h
     ·exact h
     ·simp [Array.getElem?_eq_none h] at hcv
    omega
   have hcells1 : ∀ v ∈ cvs, v.oneCell' = true := by
    intro v hm
    obtain ⟨k, hk⟩ := List.mem_iff_getElem?.1 hm
    have hkl : k < vs.length := by
     rcases Nat.lt_or_ge k cvs.length with h | h
     ·omega
     ·simp [List.getElem?_eq_none h] at hk
    have hvk := List.getElem?_eq_getElem hkl
    obtain ⟨c', hc', hr'⟩ := hv.get hvk
    rw [hk] at hc'; obtain rfl := Option.some.inj hc'
    exact hr'.one (List.all_eq_true.1 hone _ (List.mem_of_getElem? hvk))
   by_cases h0 : vs.length = 0
   ·obtain rfl := List.length_eq_zero_iff.1 h0
    obtain rfl := List.length_eq_zero_iff.1 (hlen.symm.trans h0)
    have hw0 : w.heap = w.heap.setIfInBounds i.b (.cells c e fz) := by
     apply Array.ext_getElem?
     intro k
     rw [Array.getElem?_setIfInBounds]
     have hb' := ORel.lt (γ := γ) (o := .cells cl g false) ⟨c, e, fz, hb, hc, hf, hg, hf0⟩
     by_cases hk : i.b = k
     ·subst hk; rw [if_pos rfl, if_pos hb', hb]
     ·rw [if_neg hk]
    obtain ⟨g1, g2⟩ := hr.write (w' := w) hl rfl (o' := .cells (wrs cl o []) g false) rfl hi hw0 ⟨c, e, fz, hb, hc, hf, hg, hf0⟩
    exact ⟨i, w, hi, rfl, g2, g1⟩
   ·obtain ⟨w', hrun, hw', hev⟩ := run_storeCells P (b := i.b) (o := i.d + o) cvs 0 w c hb (by have := hsz h0; omega) (hf rfl) hcells1
    have hb' := ORel.lt (γ := γ) (o := .cells cl g false) ⟨c, e, fz, hb, hc, hf, hg, hf0⟩
    have hO' : ORel γ w' i (.cells (wrs cl o vs) g false) := by
     refine ⟨wrc c (i.d + o + 0) cvs, e, fz, by rw [hw']; simp [hb'], fun k v hk => ?_, fun _ => by rw [wrc_size]; exact hf rfl, fun g0 => ?_, hf0⟩
     ·have hs := hsz h0
      rw [wrs_get _ _ _ _ hn] at hk
      rw [wrc_get _ _ _ _ (by omega)]
      by_cases hin : o ≤ k ∧ k < o + vs.length
      ·rw [if_pos hin] at hk
       rw [if_pos (by omega)]
       obtain ⟨c', hc', hr'⟩ := hv.get hk
       refine ⟨List.all_eq_true.1 hone _ (List.mem_of_getElem? hk), c', ?_, hr'⟩
       rw [show i.d + k - (i.d + o + 0) = k - o by omega]; exact hc'
      ·rw [if_neg hin] at hk
       rw [if_neg (by omega)]
       exact hc k v hk
     ·rw [wrc_size, wrs_length]
      refine ⟨(hg g0).1, fun k hk hk' => ?_⟩
      obtain ⟨v, cv, g1, g2, g3⟩ := (hg g0).2 k hk hk'
      refine ⟨v, cv, g1, ?_, g3⟩
      have hs := hsz h0
      rw [wrc_get _ _ _ _ (by omega), if_neg (by omega)]
      exact g2
    obtain ⟨g1, g2⟩ := hr.write (w' := w') hl rfl (o' := .cells (wrs cl o vs) g false) rfl hi hw' hO' hev
    exact ⟨i, w', hi, hrun, g2, g1⟩
  ·simp at h
 ·simp at h
theorem sim_store {t : TypeId} {p v : AV} {cp cv : Value} {s' : AS} (hp : VRel γ p cp) (hv : VRel γ v cv) (h : ast T t s p v = some s') : SimU P B γ s w (Instr.storeAt t cp cv) s' := by
 unfold ast at h
 split at h
 ·rename_i l o
  simp only [VRel] at hp
  obtain ⟨i, hi, rfl⟩ := hp
  cases hc : acells v with
  | none => simp [hc] at h
  | some vs =>
   simp only [hc, Option.bind_some] at h
   split at h
   ·rename_i hs
    obtain ⟨rfl, hone⟩ := acells_some hc
    obtain ⟨j, w', hj, hrun, hd, hr'⟩ := awr_run hT hr h (hv.cells hone) hone
    rw [hi] at hj; obtain rfl := Option.some.inj hj
    refine ⟨γ, w', ?_, hd, hr'⟩
    have hsz : cv.cells.size = v.cells.length := by have := (hv.cells hone).length; simp at this; omega
    simp [Instr.storeAt, Instr.sureAddr, storeVar, run_sizeOf hT hs, hsz, hrun]
   ·simp at h
 ·simp at h
end
end Go.Am
end

section
namespace Go.Am
section
variable {P : Program} {T : TT} (hT : TT.Ok P T)
include hT
theorem run_part {γ : Gam} {t : TypeId} {cs : List AV} {ccs : Array Value} {off : Nat} {v : AV} (hv : VRels γ cs ccs.toList) (h : part T t cs off = some v) (w : World) :
  ∃ c, (Go.part t ccs off).run P w = .ok c w ∧ VRel γ v c := by
 unfold part at h
 split at h
 ·rename_i ha
  cases hs : T.siz t with
  | none => simp [hs] at h
  | some n =>
   simp only [hs, Option.map_some] at h
   obtain rfl := Option.some.inj h
   refine ⟨.agg (ccs.extract off (off + n)), by simp [Go.part, run_isAgg hT ha, run_sizeOf hT hs], ?_⟩
   simp only [VRel]
   refine ⟨_, rfl, ?_⟩
   have := (hv.drop off).take n
   simpa [Array.toList_extract, List.extract_eq_take_drop] using this
 ·rename_i ha
  obtain ⟨c, hc, hr⟩ := hv.get h
  refine ⟨c, ?_, hr⟩
  simp only [Go.part, Sem.run_bind, run_isAgg hT ha, Result.andThen_ok]
  have : ccs[off]? = some c := by simpa using hc
  simp [this]
 ·simp at h
theorem aeq_run {γ : Gam} (w : World) : ∀ (d : Nat) (t : TypeId) (x y : AV) (b : Bool), aeq T d t x y = some b → ∀ (cx cy : Value), VRel γ x cx → VRel γ y cy → ∀ D, d ≤ D → (Op.equalIn D t cx cy).run P w = .ok b w := by
 intro d
 induction d with
 | zero => intro t x y b h; simp [aeq] at h
 | succ d ih =>
  intro t x y b h cx cy hx hy D hD
  obtain ⟨D, rfl⟩ : ∃ D', D = D' + 1 := ⟨D - 1, by omega⟩
  have hD' : d ≤ D := by omega
  unfold aeq at h
  cases hu : T.und t with
  | none => simp [hu] at h
  | some td =>
   simp only [hu] at h
   simp only [Op.equalIn, Sem.run_bind, run_underlying hT hu, Result.andThen_ok]
   split at h
   all_goals (try (rename some td = some _ => e; cases e))
   case h_1 => simp only [VRel] at hx hy; subst hx hy; simp at h; simp [h]
   case h_2 => simp only [VRel] at hx hy; subst hx hy; simp at h; simp [h]
   case h_3 =>
    simp only [VRel] at hx hy; subst hx hy
    have : ∀ (a b : List UInt8), ((⟨a.toArray⟩ : ByteArray) == ⟨b.toArray⟩) = (a == b) := by
     intro a b; show (a.toArray == b.toArray) = (a == b); rw [Bool.eq_iff_iff]; simp
    simp at h; simp [this, h]
   case h_4 q =>
    simp only [VRel] at hx; subst hx
    cases q with
    | none => simp only [VRel] at hy; subst hy; simpa using h
    | some q => obtain ⟨l, o⟩ := q; simp only [VRel] at hy; obtain ⟨i, _, rfl⟩ := hy; simpa using h
   case h_5 q hq =>
    simp only [VRel] at hy; subst hy
    cases q with
    | none => exact absurd rfl hq
    | some q => obtain ⟨l, o⟩ := q; simp only [VRel] at hx; obtain ⟨i, _, rfl⟩ := hx; simpa using h
   case h_6 q _ _ _ =>
    simp only [VRel] at hx; obtain ⟨rfl, _⟩ := hx
    cases q with
    | none => simp only [VRel] at hy; obtain ⟨rfl, _⟩ := hy; simpa using h
    | some q => obtain ⟨l, o⟩ := q; simp only [VRel] at hy; obtain ⟨i, _, rfl⟩ := hy; simpa using h
   case h_7 q _ _ _ _ _ _ hq =>
    simp only [VRel] at hy; obtain ⟨rfl, _⟩ := hy
    cases q with
    | none => exact absurd rfl hq
    | some q => obtain ⟨l, o⟩ := q; simp only [VRel] at hx; obtain ⟨i, _, rfl⟩ := hx; simpa using h
   case h_8 => simp only [VRel] at hx hy; obtain ⟨rfl, _⟩ := hy; obtain ⟨_, _, rfl⟩ := hx; simpa using h
   case h_9 => simp only [VRel] at hx hy; obtain ⟨rfl, _⟩ := hx; obtain ⟨_, _, rfl⟩ := hy; simpa using h
   case h_10 q =>
    simp only [VRel] at hx; subst hx
    cases q with
    | none => simp only [VRel] at hy; subst hy; simpa using h
    | some q => simp only [VRel] at hy; obtain ⟨i, _, rfl⟩ := hy; simpa using h
   case h_11 q hq =>
    simp only [VRel] at hy; subst hy
    cases q with
    | none => exact absurd rfl hq
    | some q => simp only [VRel] at hx; obtain ⟨i, _, rfl⟩ := hx; simpa using h
   case h_12 => simp only [VRel] at hx hy; subst hx hy; simpa using h
   case h_13 => simp only [VRel] at hx hy; subst hx; obtain ⟨_, rfl, _⟩ := hy; simpa using h
   case h_14 => simp only [VRel] at hx hy; subst hx; obtain ⟨_, _, rfl, _⟩ := hy; simpa using h
   case h_15 => simp only [VRel] at hx hy; subst hy; obtain ⟨_, _, rfl, _⟩ := hx; simpa using h
   case h_16 => simp only [VRel] at hx hy; subst hy; obtain ⟨_, rfl, _⟩ := hx; simpa using h
   case h_17 => simp only [VRel] at hx hy; subst hx hy; simpa using h
   case h_18 => simp only [VRel] at hx hy; subst hx; obtain ⟨_, rfl, _⟩ := hy; simpa using h
   case h_19 => simp only [VRel] at hx hy; subst hy; obtain ⟨_, rfl, _⟩ := hx; simpa using h
   case h_20 fields xs ys =>
    simp only [VRel] at hx hy
    obtain ⟨cxs, rfl, hxs⟩ := hx
    obtain ⟨cys, rfl, hys⟩ := hy
    split at h
    ·rename_i hq
     have hst := hT.eqt t hq
     simp only [Sem.run_bind, run_program, Result.andThen_ok, hst, Bool.false_eq_true, if_false, ← Array.forIn_toList]
     generalize fields.toList = fs at h ⊢
     induction fs with
     | nil => simp [eqFields] at h; simp [h]
     | cons f fs ihf =>
      simp only [eqFields] at h
      by_cases hn : f.name ≠ "_"
      ·simp only [if_pos hn] at h
       cases ha : part T f.type xs f.offset with
       | none => simp [ha] at h
       | some a =>
        cases hb : part T f.type ys f.offset with
        | none => simp [ha, hb] at h
        | some b' =>
         simp only [ha, hb, Option.bind_some] at h
         obtain ⟨ca, hca, hra⟩ := run_part hT hxs ha w
         obtain ⟨cb, hcb, hrb⟩ := run_part hT hys hb w
         cases hq2 : aeq T d f.type a b' with
         | none => simp [hq2] at h
         | some r =>
          have hrun := ih _ _ _ _ hq2 _ _ hra hrb D hD'
          cases r with
          | true =>
           simp only [hq2] at h
           have := ihf h
           simp only [List.forIn_cons, Sem.run_bind, if_pos hn, hca, hcb, hrun, Result.andThen_ok] at this ⊢
           simpa using this
          | false =>
           simp only [hq2] at h
           obtain rfl := Option.some.inj h
           simp only [List.forIn_cons, Sem.run_bind, if_pos hn, hca, hcb, hrun, Result.andThen_ok]
           simp
      ·simp only [if_neg hn] at h
       have := ihf h
       simp only [List.forIn_cons, Sem.run_bind, if_neg hn] at this ⊢
       simpa using this
    ·simp at h
   case h_21 len elem xs ys =>
    simp only [VRel] at hx hy
    obtain ⟨cxs, rfl, hxs⟩ := hx
    obtain ⟨cys, rfl, hys⟩ := hy
    cases hs : T.siz elem with
    | none => simp [hs] at h
    | some n =>
     simp only [hs, Option.bind_some] at h
     simp only [Sem.run_bind, run_sizeOf hT hs, Result.andThen_ok, Std.Legacy.Range.forIn_eq_forIn_range', Std.Legacy.Range.size]
     simp only [Nat.sub_zero, Nat.add_one_sub_one, Nat.div_one]
     generalize 0 = i0 at h ⊢
     clear hu
     induction len generalizing i0 with
     | zero => simp [eqElems] at h; simp [h]
     | succ len ihl =>
      simp only [eqElems] at h
      cases ha : part T elem xs (i0 * n) with
      | none => simp [ha] at h
      | some a =>
       cases hb : part T elem ys (i0 * n) with
       | none => simp [ha, hb] at h
       | some b' =>
        simp only [ha, hb, Option.bind_some] at h
        obtain ⟨ca, hca, hra⟩ := run_part hT hxs ha w
        obtain ⟨cb, hcb, hrb⟩ := run_part hT hys hb w
        cases hq2 : aeq T d elem a b' with
        | none => simp [hq2] at h
        | some r =>
         have hrun := ih _ _ _ _ hq2 _ _ hra hrb D hD'
         cases r with
         | true =>
          simp only [hq2] at h
          have := ihl _ h
          simp only [List.range'_succ, List.forIn_cons, Sem.run_bind, hca, hcb, hrun, Result.andThen_ok] at this ⊢
          simpa using this
         | false =>
          simp only [hq2] at h
          obtain rfl := Option.some.inj h
          simp only [List.range'_succ, List.forIn_cons, Sem.run_bind, hca, hcb, hrun, Result.andThen_ok]
          simp
   case h_22 => simp at h
theorem eqGuard_run {γ : Gam} {op : BinOp} {t : TypeId} {x y : Operand} {a b : AV} {ca cb : Value} (ha : VRel γ a ca) (hb : VRel γ b cb) (h : agd T t x y a b = true) (w : World) :
  (eqGuard op t x y ca cb).run P w = .ok () w := by
 have hop : op = .eql ∨ op = .neq ∨ (eqGuard op t x y ca cb) = pure () := by cases op <;> first | exact .inl rfl | exact .inr (.inl rfl) | exact .inr (.inr rfl)
 rcases hop with rfl | rfl | hop
 rotate_left 2
 ·rw [hop]; rfl
 all_goals
  simp only [eqGuard, Bool.not_true, Bool.false_eq_true, if_false]
  split
  ·have hxy : (isC x || isC y) = true := by
    cases a with
    | nilIface =>
     cases b with
     | nilIface => simpa only [agd] using h
     | bad => simp [agd] at h
     | ptr q => cases q <;> simp only [VRel] at hb <;> (first | (cases hb; done) | (obtain ⟨_, _, hb⟩ := hb; cases hb))
     | slc q _ _ _ => cases q <;> simp only [VRel] at hb <;> (first | (obtain ⟨hb, _⟩ := hb; cases hb; done) | (obtain ⟨_, _, hb⟩ := hb; cases hb))
     | map q => cases q <;> simp only [VRel] at hb <;> (first | (cases hb; done) | (obtain ⟨_, _, hb⟩ := hb; cases hb))
     | emp => simp only [VRel] at hb; obtain ⟨_, _, hb⟩ := hb; cases hb
     | func _ _ => simp only [VRel] at hb; obtain ⟨_, hb, _⟩ := hb; cases hb
     | meth _ _ _ => simp only [VRel] at hb; obtain ⟨_, _, hb, _⟩ := hb; cases hb
     | iface _ _ => simp only [VRel] at hb; obtain ⟨_, hb, _⟩ := hb; cases hb
     | agg _ => simp only [VRel] at hb; obtain ⟨_, hb, _⟩ := hb; cases hb
     | tup _ => simp only [VRel] at hb; obtain ⟨_, hb, _⟩ := hb; cases hb
     | _ => simp only [VRel] at hb; cases hb
    | bad => cases b <;> simp [agd] at h
    | ptr q => cases q <;> simp only [VRel] at ha <;> (first | (cases ha; done) | (obtain ⟨_, _, ha⟩ := ha; cases ha))
    | slc q _ _ _ => cases q <;> simp only [VRel] at ha <;> (first | (obtain ⟨ha, _⟩ := ha; cases ha; done) | (obtain ⟨_, _, ha⟩ := ha; cases ha))
    | map q => cases q <;> simp only [VRel] at ha <;> (first | (cases ha; done) | (obtain ⟨_, _, ha⟩ := ha; cases ha))
    | emp => simp only [VRel] at ha; obtain ⟨_, _, ha⟩ := ha; cases ha
    | func _ _ => simp only [VRel] at ha; obtain ⟨_, ha, _⟩ := ha; cases ha
    | meth _ _ _ => simp only [VRel] at ha; obtain ⟨_, _, ha, _⟩ := ha; cases ha
    | iface _ _ => simp only [VRel] at ha; obtain ⟨_, ha, _⟩ := ha; cases ha
    | agg _ => simp only [VRel] at ha; obtain ⟨_, ha, _⟩ := ha; cases ha
    | tup _ => simp only [VRel] at ha; obtain ⟨_, ha, _⟩ := ha; cases ha
    | _ => simp only [VRel] at ha; cases ha
   cases x <;> cases y <;> first | rfl | (simp [isC] at hxy; done)
  ·have hg : T.eqg t = true := by
    cases a with
    | agg _ =>
     cases b with
     | agg _ => simpa [agd] using h
     | bad => simp [agd] at h
     | ptr q => cases q <;> simp only [VRel] at hb <;> (first | (cases hb; done) | (obtain ⟨_, _, hb⟩ := hb; cases hb))
     | slc q _ _ _ => cases q <;> simp only [VRel] at hb <;> (first | (obtain ⟨hb, _⟩ := hb; cases hb; done) | (obtain ⟨_, _, hb⟩ := hb; cases hb))
     | map q => cases q <;> simp only [VRel] at hb <;> (first | (cases hb; done) | (obtain ⟨_, _, hb⟩ := hb; cases hb))
     | emp => simp only [VRel] at hb; obtain ⟨_, _, hb⟩ := hb; cases hb
     | func _ _ => simp only [VRel] at hb; obtain ⟨_, hb, _⟩ := hb; cases hb
     | meth _ _ _ => simp only [VRel] at hb; obtain ⟨_, _, hb, _⟩ := hb; cases hb
     | iface _ _ => simp only [VRel] at hb; obtain ⟨_, hb, _⟩ := hb; cases hb
     | tup _ => simp only [VRel] at hb; obtain ⟨_, hb, _⟩ := hb; cases hb
     | _ => simp only [VRel] at hb; cases hb
    | bad => cases b <;> simp [agd] at h
    | ptr q => cases q <;> simp only [VRel] at ha <;> (first | (cases ha; done) | (obtain ⟨_, _, ha⟩ := ha; cases ha))
    | slc q _ _ _ => cases q <;> simp only [VRel] at ha <;> (first | (obtain ⟨ha, _⟩ := ha; cases ha; done) | (obtain ⟨_, _, ha⟩ := ha; cases ha))
    | map q => cases q <;> simp only [VRel] at ha <;> (first | (cases ha; done) | (obtain ⟨_, _, ha⟩ := ha; cases ha))
    | emp => simp only [VRel] at ha; obtain ⟨_, _, ha⟩ := ha; cases ha
    | func _ _ => simp only [VRel] at ha; obtain ⟨_, ha, _⟩ := ha; cases ha
    | meth _ _ _ => simp only [VRel] at ha; obtain ⟨_, _, ha, _⟩ := ha; cases ha
    | iface _ _ => simp only [VRel] at ha; obtain ⟨_, ha, _⟩ := ha; cases ha
    | tup _ => simp only [VRel] at ha; obtain ⟨_, ha, _⟩ := ha; cases ha
    | _ => simp only [VRel] at ha; cases ha
   simp [hT.eqg t hg]
  ·rfl
theorem bytesLt_eq : ∀ (a b : List UInt8), bytesLt a b = Op.bytesLess a b
 | [], [] => by simp [bytesLt, Op.bytesLess]
 | _ :: _, [] => by simp [bytesLt, Op.bytesLess]
 | [], _ :: _ => by simp [bytesLt, Op.bytesLess]
 | a :: x, b :: y => by simp [bytesLt, Op.bytesLess, bytesLt_eq x y]
theorem abinInt_run {γ : Gam} {op : BinOp} {k : IntKind} {a b : Int} {v : AV} (hop : op ≠ .shl ∧ op ≠ .shr) (h : abinInt op k a b = some v) (t : TypeId) (w : World) :
  ∃ c, (Go.binOp op t (.int k a) (.int k b)).run P w = .ok c w ∧ VRel γ v c := by
 cases op <;> simp only [abinInt] at h
 all_goals (first | (exact absurd rfl hop.1) | (exact absurd rfl hop.2) | (cases h; done) | skip)
 all_goals (try split at h)
 all_goals (first | (cases h; done) | skip)
 all_goals (obtain rfl := Option.some.inj h; simp [Go.binOp, Op.intArith, Op.intDiv, Op.intBits, Op.intCmp, VRel, *])
end
end Go.Am
end

section
namespace Go.Am
section
variable {P : Program} {T : TT} (hT : TT.Ok P T)
include hT
omit hT in
theorem binOp_eq_forms {γ : Gam} {t : TypeId} {x : AV} {cx cy : Value} (hx : VRel γ x cx) (hi : ∀ k a, x ≠ .int k a) (hs : ∀ a, x ≠ .str a) (hb : x ≠ .bad) :
  Go.binOp .eql t cx cy = (do pure (.bool (← Op.equal t cx cy))) ∧ Go.binOp .neq t cx cy = (do pure (.bool (!(← Op.equal t cx cy)))) := by
 cases x with
 | int k a => exact absurd rfl (hi k a)
 | str a => exact absurd rfl (hs a)
 | bad => exact absurd rfl hb
 | bool b => simp only [VRel] at hx; subst hx; exact ⟨rfl, rfl⟩
 | nilFunc => simp only [VRel] at hx; subst hx; exact ⟨rfl, rfl⟩
 | yld _ => simp only [VRel] at hx; subst hx; exact ⟨rfl, rfl⟩
 | nilIface => simp only [VRel] at hx; subst hx; exact ⟨rfl, rfl⟩
 | ptr q => cases q <;> simp only [VRel] at hx <;> (first | (subst hx; exact ⟨rfl, rfl⟩) | (obtain ⟨_, _, rfl⟩ := hx; exact ⟨rfl, rfl⟩))
 | slc q _ _ _ => cases q <;> simp only [VRel] at hx <;> (first | (obtain ⟨rfl, _⟩ := hx; exact ⟨rfl, rfl⟩) | (obtain ⟨_, _, rfl⟩ := hx; exact ⟨rfl, rfl⟩))
 | map q => cases q <;> simp only [VRel] at hx <;> (first | (subst hx; exact ⟨rfl, rfl⟩) | (obtain ⟨_, _, rfl⟩ := hx; exact ⟨rfl, rfl⟩))
 | emp => simp only [VRel] at hx; obtain ⟨_, _, rfl⟩ := hx; exact ⟨rfl, rfl⟩
 | func _ _ => simp only [VRel] at hx; obtain ⟨_, rfl, _⟩ := hx; exact ⟨rfl, rfl⟩
 | meth _ _ _ => simp only [VRel] at hx; obtain ⟨_, _, rfl, _⟩ := hx; exact ⟨rfl, rfl⟩
 | iface _ _ => simp only [VRel] at hx; obtain ⟨_, rfl, _⟩ := hx; exact ⟨rfl, rfl⟩
 | agg _ => simp only [VRel] at hx; obtain ⟨_, rfl, _⟩ := hx; exact ⟨rfl, rfl⟩
 | tup _ => simp only [VRel] at hx; obtain ⟨_, rfl, _⟩ := hx; exact ⟨rfl, rfl⟩
omit hT in
theorem aeq_not_bad {d t : Nat} {y : AV} {b : Bool} (h : aeq T d t .bad y = some b) : False := by
 cases d with
 | zero => simp [aeq] at h
 | succ d => unfold aeq at h; split at h <;> simp_all
omit hT in
theorem aeq_int {d t : Nat} {y : AV} {k : IntKind} {a : Int} {b : Bool} (h : aeq T d t (.int k a) y = some b) : ∃ k' a', y = .int k' a' := by
 cases d with
 | zero => simp [aeq] at h
 | succ d => unfold aeq at h; split at h <;> simp_all
omit hT in
theorem aeq_str {d t : Nat} {y : AV} {a : List UInt8} {b : Bool} (h : aeq T d t (.str a) y = some b) : ∃ a', y = .str a' := by
 cases d with
 | zero => simp [aeq] at h
 | succ d => unfold aeq at h; split at h <;> simp_all
theorem abin_run {γ : Gam} {op : BinOp} {t : TypeId} {x y v : AV} {cx cy : Value} (hx : VRel γ x cx) (hy : VRel γ y cy) (h : abin T op t x y = some v) (w : World) :
    ∃ c, (Go.binOp op t cx cy).run P w = .ok c w ∧ VRel γ v c := by
  unfold abin at h
  split at h
  · simp only [VRel] at hx hy; subst hx hy
    split at h
    · cases h
    · rename_i hb; obtain rfl := Option.some.inj h; simp [Go.binOp, Op.shift, hb, VRel]
  · simp only [VRel] at hx hy; subst hx hy
    split at h
    · cases h
    · rename_i hb; obtain rfl := Option.some.inj h; simp [Go.binOp, Op.shift, hb, VRel]
  · rename_i h1 h2
    simp only [VRel] at hx hy; subst hx hy
    split at h
    · rename_i hk; subst hk
      exact abinInt_run hT (γ := γ) ⟨h1, h2⟩ h t w
    · cases h
  · rename_i a b
    simp only [VRel] at hx hy; subst hx hy
    split at h
    · rename_i hl
      obtain rfl := Option.some.inj h
      refine ⟨.string ⟨(a ++ b).toArray⟩, ?_, by simp [VRel]⟩
      have hm : ¬ (((ByteArray.mk a.toArray).size + (ByteArray.mk b.toArray).size : Nat) : Int) > IntKind.i64.max := by
        have : IntKind.i64.max = 9223372036854775807 := rfl
        rw [this]
        simp only [ByteArray.size, List.size_toArray]
        omega
      have happ : (ByteArray.mk a.toArray) ++ (ByteArray.mk b.toArray) = ⟨(a ++ b).toArray⟩ := by
        apply ByteArray.ext
        simp
      simp only [Go.binOp, Op.stringOp, if_neg hm, happ]; rfl
    · cases h
  all_goals (first
    | (rename_i a b; simp only [VRel] at hx hy; subst hx hy; obtain rfl := Option.some.inj h
       simp [Go.binOp, Op.stringOp, VRel, bytesLt_eq hT]; done)
    | skip)
  · rename_i h1 h2
    cases hq : aeq T 100 t x y with
    | none => simp [hq] at h
    | some b =>
      simp only [hq, Option.map_some] at h
      obtain rfl := Option.some.inj h
      obtain ⟨he, _⟩ := binOp_eq_forms (t := t) (cy := cy) hx (fun k a e => by subst e; obtain ⟨k', a', rfl⟩ := aeq_int hq; exact h1 _ _ _ _ rfl rfl)
        (fun a e => by subst e; obtain ⟨a', rfl⟩ := aeq_str hq; exact h2 _ _ rfl rfl) (fun e => by subst e; exact aeq_not_bad hq)
      exact ⟨.bool b, by simp [he, Op.equal, aeq_run hT w _ _ _ _ _ hq _ _ hx hy Op.maxDepth (by decide)], by simp [VRel]⟩
  · rename_i h1 h2
    cases hq : aeq T 100 t x y with
    | none => simp [hq] at h
    | some b =>
      simp only [hq, Option.map_some] at h
      obtain rfl := Option.some.inj h
      obtain ⟨_, he⟩ := binOp_eq_forms (t := t) (cy := cy) hx (fun k a e => by subst e; obtain ⟨k', a', rfl⟩ := aeq_int hq; exact h1 _ _ _ _ rfl rfl)
        (fun a e => by subst e; obtain ⟨a', rfl⟩ := aeq_str hq; exact h2 _ _ rfl rfl) (fun e => by subst e; exact aeq_not_bad hq)
      exact ⟨.bool (!b), by simp [he, Op.equal, aeq_run hT w _ _ _ _ _ hq _ _ hx hy Op.maxDepth (by decide)], by simp [VRel]⟩
  · cases h
theorem aun_run {γ : Gam} {op : UnOp} {x v : AV} {cx : Value} (hx : VRel γ x cx) (h : aun op x = some v) (w : World) :
  ∃ c, (Op.unary op cx).run P w = .ok c w ∧ VRel γ v c := by
 unfold aun at h
 split at h <;> try simp only [VRel] at hx
 ·subst hx; obtain rfl := Option.some.inj h; simp [Op.unary, Op.intArith, VRel]
 ·subst hx
  simp only [abinInt] at h; obtain rfl := Option.some.inj h
  exact ⟨_, by simp only [Op.unary, Op.intBits]; rfl, by simp [VRel]⟩
 ·subst hx; obtain rfl := Option.some.inj h; simp [Op.unary, VRel]
 ·cases h
theorem afieldAddr_run {γ : Gam} {t : TypeId} {x v : AV} {f : Nat} {cx : Value} (hx : VRel γ x cx) (h : afieldAddr T t x f = some v) (w : World) :
  ∃ c, (Instr.fieldAt t cx f).run P w = .ok c w ∧ VRel γ v c := by
 unfold afieldAddr at h
 split at h
 ·rename_i fields l o hu
  simp only [VRel] at hx; obtain ⟨i, hi, rfl⟩ := hx
  cases hf : fields[f]? with
  | none => simp [hf] at h
  | some fd =>
   simp only [hf, Option.bind_some] at h
   split at h
   ·rename_i n hn
    obtain rfl := Option.some.inj h
    refine ⟨.pointer (some ⟨i.b, i.d + o + fd.offset, none⟩), ?_, by simp only [VRel]; exact ⟨i, hi, by rw [Nat.add_assoc]⟩⟩
    simp [Instr.fieldAt, run_underlying hT hu, hf, Instr.sureAddr, fieldPlace, run_sizeOf hT hn, add_addr]
   ·cases h
 ·cases h
theorem aindexAddr_run {γ : Gam} {t : TypeId} {x ix v : AV} {cx ci : Value} (hx : VRel γ x cx) (hix : VRel γ ix ci) (h : aindexAddr T t x ix = some v) (w : World) :
  ∃ c, (Instr.indexAt t cx ci).run P w = .ok c w ∧ VRel γ v c := by
 unfold aindexAddr at h
 split at h
 ·rename_i len elem l o k j hu
  simp only [VRel] at hx hix; obtain ⟨i, hi, rfl⟩ := hx; subst hix
  cases hs : T.siz elem with
  | none => simp [hs] at h
  | some n =>
   simp only [hs, Option.bind_some] at h
   split at h
   ·rename_i hb
    obtain rfl := Option.some.inj h
    refine ⟨.pointer (some ⟨i.b, i.d + o + j.toNat * n, none⟩), ?_, by simp only [VRel]; exact ⟨i, hi, by rw [Nat.add_assoc]⟩⟩
    simp [Instr.indexAt, run_underlying hT hu, Instr.sureAddr, asIntOf, run_sizeOf hT hs, add_addr, hb]
   ·cases h
 ·rename_i elem l o len cap ex k j hu
  simp only [VRel] at hx hix; obtain ⟨i, hi, rfl⟩ := hx; subst hix
  cases hs : T.siz elem with
  | none => simp [hs] at h
  | some n =>
   simp only [hs, Option.bind_some] at h
   split at h
   ·rename_i hb
    obtain rfl := Option.some.inj h
    refine ⟨.pointer (some ⟨i.b, i.d + o + j.toNat * n, none⟩), ?_, by simp only [VRel]; exact ⟨i, hi, by rw [Nat.add_assoc]⟩⟩
    simp [Instr.indexAt, run_underlying hT hu, asIntOf, run_sizeOf hT hs, add_addr, hb]
   ·cases h
 ·cases h
theorem aindex_run {γ : Gam} {t : TypeId} {x ix v : AV} {cx ci : Value} (hx : VRel γ x cx) (hix : VRel γ ix ci) (h : aindex T t x ix = some v) (w : World) :
  ∃ c, (Instr.index t cx ci).run P w = .ok c w ∧ VRel γ v c := by
 unfold aindex at h
 split at h
 ·rename_i len elem cs k j hu
  simp only [VRel] at hx hix; obtain ⟨ccs, rfl, hcs⟩ := hx; subst hix
  cases hs : T.siz elem with
  | none => simp [hs] at h
  | some n =>
   simp only [hs, Option.bind_some] at h
   split at h
   ·rename_i hb
    obtain ⟨c, hc, hr⟩ := run_part hT hcs h w
    refine ⟨c, ?_, hr⟩
    simp [Instr.index, run_underlying hT hu, asIntOf, run_sizeOf hT hs, hb, hc]
   ·cases h
 ·rename_i s k j hu
  simp only [VRel] at hx hix; subst hx hix
  split at h
  ·rename_i hb
   cases hc : s[j.toNat]? with
   | none => simp [hc] at h
   | some b =>
    simp only [hc, Option.map_some] at h
    obtain rfl := Option.some.inj h
    refine ⟨.int .u8 b.toNat, ?_, by simp [VRel]⟩
    have : (ByteArray.mk s.toArray)[j.toNat]? = some b := by
     have hlt : j.toNat < s.length := by
      rcases Nat.lt_or_ge j.toNat s.length with h | h
      ·exact h
      ·simp [List.getElem?_eq_none h] at hc
     have hlt2 : j.toNat < (ByteArray.mk s.toArray).size := by simpa [ByteArray.size] using hlt
     rw [getElem?_pos (ByteArray.mk s.toArray) j.toNat hlt2]
     congr 1
     have : s[j.toNat] = b := by simpa [List.getElem?_eq_getElem hlt] using hc
     rw [← this]; rfl
    simp [Instr.index, run_underlying hT hu, asIntOf, hb, this]
  ·cases h
 ·cases h
theorem afield_run {γ : Gam} {t : TypeId} {x v : AV} {f : Nat} {cx : Value} (hx : VRel γ x cx) (h : afield T t x f = some v) (w : World) :
  ∃ c, (Instr.field t cx f).run P w = .ok c w ∧ VRel γ v c := by
 unfold afield at h
 split at h
 ·rename_i fields cs hu
  simp only [VRel] at hx; obtain ⟨ccs, rfl, hcs⟩ := hx
  cases hf : fields[f]? with
  | none => simp [hf] at h
  | some fd =>
   simp only [hf, Option.bind_some] at h
   obtain ⟨c, hc, hr⟩ := run_part hT hcs h w
   exact ⟨c, by simp [Instr.field, run_underlying hT hu, hf, asAgg, hc], hr⟩
 ·cases h
end
end Go.Am
end

section
namespace Go.Am
def ORels (γ : Gam) : Option AV → Option Value → Prop
 | none, c => c = none
 | some v, c => ∃ cv, c = some cv ∧ VRel γ v cv
theorem abound_run {P : Program} {γ : Gam} {y Y n : Nat} {v : AV} {c : Value} {code : BoundsCode} (hv : VRel γ v c) (h : abound1 y v = some n) (hY : y ≤ Y) (w : World) :
  (Instr.sliceBound c Y code).run P w = .ok n w ∧ n ≤ y := by
 unfold abound1 at h
 split at h
 ·rename_i k i
  simp only [VRel] at hv; subst hv
  split at h
  ·rename_i hb
   obtain rfl := Option.some.inj h
   have : 0 ≤ i ∧ i ≤ (Y : Int) := ⟨hb.1, by omega⟩
   exact ⟨by simp [Instr.sliceBound, asIntOf, this], by omega⟩
  ·cases h
 ·cases h
theorem aopt_low {P : Program} {γ : Gam} {y n : Nat} {v : Option AV} {c : Option Value} {code : BoundsCode} (hv : ORels γ v c) (h : aopt y v 0 = some n) (w : World) :
  (match c with | some v => Instr.sliceBound v y code | none => pure 0 : Sem Nat).run P w = .ok n w ∧ n ≤ y := by
 cases v with
 | none => obtain rfl := hv; simp only [aopt] at h; obtain rfl := Option.some.inj h; exact ⟨rfl, by omega⟩
 | some v => obtain ⟨cv, rfl, hr⟩ := hv; exact abound_run hr h (Nat.le_refl _) w
theorem abounds_run {P : Program} {γ : Gam} {len cap cap' : Nat} {low high max : Option AV} {lo hi mx : Option Value} {l h m : Nat} (isSlice : Bool) (hl : ORels γ low lo) (hh : ORels γ high hi) (hm : ORels γ max mx)
  (hc : cap ≤ cap') (hb : abounds len cap low high max = some (l, h, m)) (w : World) :
  (Instr.sliceBounds isSlice len cap' lo hi mx).run P w = .ok (l, h, if max.isSome then m else cap') w ∧ l ≤ h ∧ h ≤ m ∧ (max.isSome = false → m = cap) := by
 unfold abounds at hb
 split at hb
 ·cases hb
 ·rename_i hnm
  simp only [Option.bind_eq_some_iff, Option.map_eq_some_iff] at hb
  obtain ⟨m', hm', h', hh', l', hl', e⟩ := hb
  obtain ⟨rfl, rfl, rfl⟩ : l' = l ∧ h' = h ∧ m' = m := by simpa using e
  cases max with
  | some vm =>
   obtain ⟨cm, rfl, hrm⟩ := hm
   cases high with
   | none => simp at hnm
   | some vh =>
    obtain ⟨ch, rfl, hrh⟩ := hh
    simp only [aopt] at hm'
    simp only [ahigh] at hh'
    obtain ⟨r1, b1⟩ := abound_run (P := P) (code := if isSlice then .slice3Acap else .slice3Alen) hrm hm' hc w
    obtain ⟨r2, b2⟩ := abound_run (P := P) (code := .slice3B) hrh hh' (Nat.le_refl _) w
    obtain ⟨r3, b3⟩ := aopt_low (P := P) (code := .slice3C) hl hl' w
    refine ⟨?_, b3, b2, by simp⟩
    simp only [Instr.sliceBounds, Sem.run_bind, r1, r2, Result.andThen_ok, Option.isSome_some, if_true]
    cases lo <;> simp_all
  | none =>
   obtain rfl := hm
   simp only [aopt] at hm'
   obtain rfl := Option.some.inj hm'
   obtain ⟨r3, b3⟩ := aopt_low (P := P) (code := .sliceB) hl hl' w
   cases high with
   | none =>
    obtain rfl := hh
    simp only [ahigh] at hh'
    split at hh'
    ·rename_i hle
     obtain rfl := Option.some.inj hh'
     refine ⟨?_, b3, hle, by simp⟩
     simp only [Instr.sliceBounds, Sem.run_bind, Sem.run_pure, Result.andThen_ok, Option.isSome_none]
     cases lo <;> simp_all
    ·cases hh'
   | some vh =>
    obtain ⟨ch, rfl, hrh⟩ := hh
    simp only [ahigh] at hh'
    obtain ⟨r2, b2⟩ := abound_run (P := P) (code := if isSlice then .sliceAcap else .sliceAlen) hrh hh' hc w
    refine ⟨?_, b3, b2, by simp⟩
    simp only [Instr.sliceBounds, Sem.run_bind, Sem.run_pure, r2, Result.andThen_ok, Option.isSome_none]
    cases lo <;> simp_all
theorem abounds_le {len cap : Nat} {low high max : Option AV} {l h m : Nat} (hb : abounds len cap low high max = some (l, h, m)) : m ≤ cap := by
 unfold abounds at hb
 split at hb
 ·cases hb
 ·simp only [Option.bind_eq_some_iff, Option.map_eq_some_iff] at hb
  obtain ⟨m', hm', h', hh', l', hl', e⟩ := hb
  obtain ⟨rfl, rfl, rfl⟩ : l' = l ∧ h' = h ∧ m' = m := by simpa using e
  cases max with
  | none => simp only [aopt] at hm'; obtain rfl := Option.some.inj hm'; omega
  | some v =>
   simp only [aopt, abound1] at hm'
   split at hm'
   ·split at hm'
    ·obtain rfl := Option.some.inj hm'; omega
    ·cases hm'
   ·cases hm'
section
variable {P : Program} {T : TT} (hT : TT.Ok P T)
include hT
theorem aslice_run {γ : Gam} {t : TypeId} {x v : AV} {cx : Value} {low high max : Option AV} {lo hi mx : Option Value} (hl : ORels γ low lo) (hh : ORels γ high hi) (hm : ORels γ max mx)
  (hx : VRel γ x cx) (h : aslice T t x low high max = some v) (w : World) : ∃ c, (Instr.sliceAt t cx lo hi mx).run P w = .ok c w ∧ VRel γ v c := by
 unfold aslice at h
 split at h
 ·rename_i s hu
  simp only [VRel] at hx; subst hx
  split at h
  ·cases h
  ·rename_i hms
   have hm0 : max = none := by cases max <;> simp_all
   subst hm0
   obtain rfl := hm
   cases hb : abounds s.length s.length low high none with
   | none => simp [hb] at h
   | some r =>
    obtain ⟨l, hh', m⟩ := r
    simp only [hb, Option.map_some] at h
    obtain rfl := Option.some.inj h
    obtain ⟨hr, h1, h2, h3⟩ := abounds_run (P := P) false hl hh (show ORels γ none none from rfl) (Nat.le_refl s.length) hb w
    have hsz : (ByteArray.mk s.toArray).size = s.length := by simp [ByteArray.size]
    refine ⟨.string ((ByteArray.mk s.toArray).extract l hh'), ?_, ?_⟩
    ·simp [Instr.sliceAt, Instr.slice, run_underlying hT hu, hsz, hr]
    ·simp only [VRel]
     congr 1
     apply ByteArray.ext
     simp [List.extract_eq_take_drop]
 ·rename_i elem a len cap ex hu
  cases hs : T.siz elem with
  | none => simp [hs] at h
  | some n =>
   simp only [hs, Option.bind_some] at h
   cases hb : abounds len cap low high max with
   | none => simp [hb] at h
   | some r =>
    obtain ⟨l, hh', m⟩ := r
    simp only [hb, Option.bind_some] at h
    cases a with
    | none =>
     simp only [VRel] at hx
     obtain ⟨rfl, rfl⟩ := hx
     obtain rfl := Option.some.inj h
     obtain ⟨hr, h1, h2, h3⟩ := abounds_run (P := P) true hl hh hm (Nat.le_refl cap) hb w
     have hmm : (if max.isSome then m else cap) = m := by
      split
      ·rfl
      ·rename_i q; exact (h3 (by simpa using q)).symm
     rw [hmm] at hr
     refine ⟨.slice none (hh' - l) (m - l), ?_, by simp [VRel]⟩
     simp [Instr.sliceAt, Instr.slice, run_underlying hT hu, hr, run_sizeOf hT hs]
    | some bo =>
     obtain ⟨b, o⟩ := bo
     simp only [VRel] at hx
     obtain ⟨i, hi, rfl⟩ := hx
     obtain ⟨hr, h1, h2, h3⟩ := abounds_run (P := P) (cap' := if ex then cap else cap + i.x) true hl hh hm (by split <;> omega) hb w
     simp only at h
     split at h
     ·rename_i hex
      obtain rfl := Option.some.inj h
      have hmm : (if max.isSome then m else if ex then cap else cap + i.x) = m := by
       by_cases hms : max.isSome = true
       ·rw [if_pos hms]
       ·rw [if_neg hms, if_pos (by simpa [hms] using hex)]; exact (h3 (by simpa using hms)).symm
      rw [hmm] at hr
      refine ⟨.slice (some ⟨i.b, if m = l then i.d + o else i.d + o + l * n, none⟩) (hh' - l) (m - l), ?_, ?_⟩
      ·simp only [Instr.sliceAt, Instr.slice, Sem.run_bind, run_underlying hT hu, hr, run_sizeOf hT hs, Result.andThen_ok]
       by_cases hml : m = l
       ·simp [hml]
       ·simp [hml, add_addr]
      ·simp only [VRel]
       refine ⟨i, hi, ?_⟩
       by_cases hml : m = l
       ·simp [hml]
       ·simp [hml, Nat.add_assoc]
     ·rename_i hex
      have hex' : ex = false ∧ max.isSome = false := by simpa using hex
      obtain ⟨rfl, hms⟩ := hex'
      have hm3 := h3 hms
      subst hm3
      simp only [hms, Bool.false_eq_true, if_false] at hr
      split at h
      ·rename_i hml
       obtain rfl := Option.some.inj h
       subst hml
       refine ⟨.slice (some (if m + i.x = m then ⟨i.b, i.d + o, none⟩ else ⟨i.b, i.d + o + m * n, none⟩)) (hh' - m) (m + i.x - m), ?_, ?_⟩
       ·simp only [Instr.sliceAt, Instr.slice, Sem.run_bind, run_underlying hT hu, Bool.false_eq_true, if_false, hr, run_sizeOf hT hs, Result.andThen_ok]
        by_cases hml : m + i.x = m
        ·simp [hml]
        ·simp [add_addr]; split <;> rfl
       ·simp only [VRel]
        exact ⟨_, _, by rw [show hh' - m = 0 by omega]⟩
      ·rename_i hml
       obtain rfl := Option.some.inj h
       refine ⟨.slice (some ⟨i.b, i.d + o + l * n, none⟩) (hh' - l) (m + i.x - l), ?_, ?_⟩
       ·simp only [Instr.sliceAt, Instr.slice, Sem.run_bind, run_underlying hT hu, Bool.false_eq_true, if_false, hr, run_sizeOf hT hs, Result.andThen_ok]
        have : ¬ (m + i.x = l) := by omega
        simp [this, add_addr]
       ·simp only [VRel]
        exact ⟨i, hi, by simp [Nat.add_assoc]; omega⟩
 ·rename_i elem hu
  simp only [VRel] at hx
  obtain ⟨ad, cm, rfl⟩ := hx
  cases hs : T.siz elem with
  | none => simp [hs] at h
  | some n =>
   simp only [hs, Option.bind_some] at h
   cases hb : abounds 0 0 low high max with
   | none => simp [hb] at h
   | some r =>
    obtain ⟨l, hh', m⟩ := r
    simp only [hb, Option.map_some] at h
    obtain rfl := Option.some.inj h
    obtain ⟨hr, h1, h2, h3⟩ := abounds_run (P := P) (cap' := cm) true hl hh hm (Nat.zero_le cm) hb w
    have hm0 := abounds_le hb
    obtain rfl : m = 0 := by omega
    obtain rfl : hh' = 0 := by omega
    obtain rfl : l = 0 := by omega
    refine ⟨.slice (some (if (if max.isSome then 0 else cm) = 0 then ad else ad.add (0 * n))) 0 ((if max.isSome then 0 else cm) - 0), ?_, ?_⟩
    ·simp only [Instr.sliceAt, Instr.slice, Sem.run_bind, run_underlying hT hu, hr, run_sizeOf hT hs, Result.andThen_ok]
     generalize (if max.isSome then 0 else cm) = q
     by_cases hq : q = 0 <;> simp [hq]
    ·simp only [VRel]
     exact ⟨_, _, rfl⟩
 ·rename_i k elem b o hu
  simp only [VRel] at hx
  obtain ⟨i, hi, rfl⟩ := hx
  cases hs : T.siz elem with
  | none => simp [hs] at h
  | some n =>
   simp only [hs, Option.bind_some] at h
   cases hb : abounds k k low high max with
   | none => simp [hb] at h
   | some r =>
    obtain ⟨l, hh', m⟩ := r
    simp only [hb, Option.map_some] at h
    obtain rfl := Option.some.inj h
    obtain ⟨hr, h1, h2, h3⟩ := abounds_run (P := P) false hl hh hm (Nat.le_refl k) hb w
    have hmm : (if max.isSome then m else k) = m := by
     split
     ·rfl
     ·rename_i q; exact (h3 (by simpa using q)).symm
    rw [hmm] at hr
    refine ⟨.slice (some ⟨i.b, if m = l then i.d + o else i.d + o + l * n, none⟩) (hh' - l) (m - l), ?_, ?_⟩
    ·simp only [Instr.sliceAt, Sem.run_bind, run_underlying hT hu, Instr.sureAddr, Sem.run_pure, hr, run_sizeOf hT hs, Result.andThen_ok]
     by_cases hml : m = l
     ·simp [hml]
     ·simp [hml, add_addr]
    ·simp only [VRel]
     refine ⟨i, hi, ?_⟩
     by_cases hml : m = l
     ·simp [hml]
     ·simp [hml, Nat.add_assoc]
 ·cases h
end
end Go.Am
end

section
namespace Go.Am
def PRels (γ : Gam) : List (Nat × AV) → List (Nat × Value) → Prop
 | [], c => c = []
 | (i, v) :: ps, c => ∃ d ds, c = (i, d) :: ds ∧ VRel γ v d ∧ PRels γ ps ds
theorem foldl_zipIdx_wrc (off : Nat) : ∀ (l : List Value) (i : Nat) (c : Array Value), (l.zipIdx i).foldl (fun cs p => cs.setIfInBounds (off + p.2) p.1) c = wrc c (off + i) l
 | [], _, _ => rfl
 | v :: vs, i, c => by simp only [List.zipIdx_cons, List.foldl_cons, wrc]; rw [foldl_zipIdx_wrc off vs (i + 1)]; rfl
theorem rels_wr {γ : Gam} : ∀ {vs : List AV} {cvs : List Value} {cs : List AV} {c : Array Value} {o : Nat}, VRels γ vs cvs → VRels γ cs c.toList → VRels γ (wrs cs o vs) (wrc c o cvs).toList
 | [], cvs, cs, c, o, h, hc => by obtain rfl := VRels.nil_iff.1 h; exact hc
 | v :: vs, cvs, cs, c, o, h, hc => by
  obtain ⟨d, ds, rfl, hv, hs⟩ := VRels.cons_iff.1 h
  simp only [wrs, wrc]
  refine rels_wr hs ?_
  have := hc.set o hv
  simpa using this
theorem afill_run {γ : Gam} {place place' : Nat → Option (Nat × Nat)} (hp : ∀ i q, place i = some q → place' i = some q) : ∀ {parts : List (Nat × AV)} {cparts : List (Nat × Value)} {cs : List AV} {c : Array Value} {r : List AV},
  PRels γ parts cparts → VRels γ cs c.toList → afill place cs parts = some r → ∃ c', Instr.fill place' c cparts = some c' ∧ VRels γ r c'.toList ∧ r.length = cs.length
 | [], cparts, cs, c, r, h, hc, hf => by
  obtain rfl : cparts = [] := h
  simp only [afill] at hf; obtain rfl := Option.some.inj hf
  exact ⟨c, rfl, hc, rfl⟩
 | (i, v) :: ps, cparts, cs, c, r, h, hc, hf => by
  obtain ⟨d, ds, rfl, hv, hs⟩ := h
  simp only [afill] at hf
  split at hf
  ·rename_i off size vc hpl hac
   split at hf
   ·rename_i hcond
    obtain ⟨rfl, hone⟩ := acells_some hac
    have hvc := hv.cells hone
    have hlen := hvc.length
    have hcl := hc.length
    have hcond2 : ¬ (d.cells.size ≠ size ∨ off + d.cells.size > c.size) := by
     simp only [Array.length_toList] at hlen hcl
     omega
    have e : (d.cells.zipIdx.foldl (fun cs p => cs.setIfInBounds (off + p.2) p.1) c) = wrc c off d.cells.toList := by
     rw [← Array.foldl_toList]
     have := foldl_zipIdx_wrc off d.cells.toList 0 c
     simpa using this
    obtain ⟨c', h1, h2, h3⟩ := afill_run hp (c := wrc c off d.cells.toList) hs (rels_wr hvc hc) hf
    refine ⟨c', ?_, h2, by rw [h3, wrs_length]⟩
    simp only [Instr.fill, hp i _ hpl]
    rw [if_neg (by simpa using hcond2)]
    rw [← h1, ← e]
   ·cases hf
  ·cases hf
theorem afill_one {place : Nat → Option (Nat × Nat)} : ∀ {parts : List (Nat × AV)} {cs r : List AV}, afill place cs parts = some r → cs.all AV.one = true → r.all AV.one = true
 | [], cs, r, hf, h => by simp only [afill] at hf; obtain rfl := Option.some.inj hf; exact h
 | (i, v) :: ps, cs, r, hf, h => by
  simp only [afill] at hf
  split at hf
  ·rename_i off size vc hpl hac
   split at hf
   ·rename_i hcond
    obtain ⟨rfl, hone⟩ := acells_some hac
    refine afill_one hf ?_
    rw [List.all_eq_true]
    intro x hx
    obtain ⟨k, hk⟩ := List.mem_iff_getElem?.1 hx
    rw [wrs_get _ _ _ _ hcond.2] at hk
    split at hk
    ·exact List.all_eq_true.1 hone x (List.mem_of_getElem? hk)
    ·exact List.all_eq_true.1 h x (List.mem_of_getElem? hk)
   ·cases hf
  ·cases hf
theorem run_mapM {P : Program} {α β : Type} {f : α → Sem β} {g : α → β} {w : World} : ∀ (l : List α), (∀ x ∈ l, (f x).run P w = .ok (g x) w) → (l.mapM f).run P w = .ok (l.map g) w
 | [], _ => by simp
 | x :: xs, h => by
  have h1 := h x (by simp)
  have h2 := run_mapM xs (fun y hy => h y (List.mem_cons_of_mem _ hy))
  simp [List.mapM_cons, h1, h2]
section
variable {P : Program} {T : TT} (hT : TT.Ok P T) {B : Nat} {γ : Gam} {s : AS} {w : World} (hr : Rel B γ s w)
include hT
theorem abuild_run {t : TypeId} {parts : List (Nat × AV)} {cparts : Array (Nat × Value)} {v : AV} (hp : PRels γ parts cparts.toList) (h : abuild T t parts = some v) :
  ∃ c, (Instr.build t cparts).run P w = .ok c w ∧ VRel γ v c := by
 unfold abuild at h
 simp only [Option.bind_eq_some_iff] at h
 obtain ⟨z, hz, zc, hzc, h⟩ := h
 obtain ⟨cz, hrz, hvz⟩ := run_zeroValue hT hz w
 obtain ⟨rfl, hone⟩ := acells_some hzc
 have hcz := (hvz γ).cells hone
 split at h
 ·rename_i fields hu
  split at h
  ·rename_i hall
   simp only [Option.map_eq_some_iff] at h
   obtain ⟨r, hr', rfl⟩ := h
   have hpl : ∀ (i : Nat) (q : Nat × Nat), (((fields[i]?).bind fun (f : Field) => (T.siz f.type).map fun n => (f.offset, n)) = some q) → (fields.map fun f => (f.offset, (T.siz f.type).getD 0))[i]? = some q := by
    intro i q hq
    simp only [Option.bind_eq_some_iff, Option.map_eq_some_iff] at hq
    obtain ⟨f, hf, n, hn, rfl⟩ := hq
    simp [hf, hn]
   obtain ⟨c', h1, h2, _⟩ := afill_run hpl hp hcz hr'
   have hm : (fields.mapM fun (f : Field) => do pure (f.offset, ← sizeOf f.type) : Sem (Array (Nat × Nat))).run P w = .ok (fields.map fun f => (f.offset, (T.siz f.type).getD 0)) w := by
    rw [Array.mapM_eq_mapM_toList]
    have := run_mapM (P := P) (w := w) (f := fun (f : Field) => (do pure (f.offset, ← sizeOf f.type) : Sem (Nat × Nat))) (g := fun f => (f.offset, (T.siz f.type).getD 0)) fields.toList (by
     intro f hf
     have hh := Array.all_eq_true'.1 hall f (by simpa using hf)
     obtain ⟨n, hn⟩ := Option.isSome_iff_exists.1 hh
     simp [run_sizeOf hT hn, hn])
    simp only [Sem.run_map, this, Result.andThen_ok]
    congr 1
    apply Array.ext'
    simp
   refine ⟨.agg c', ?_, by simp only [VRel]; exact ⟨c', rfl, h2⟩⟩
   have h1' : Instr.fill (fun x => (fields.map fun f => (f.offset, (T.siz f.type).getD 0))[x]?) cz.cells cparts.toList = some c' := h1
   simp only [Instr.build, Sem.run_bind, hrz, run_underlying hT hu, hm, Result.andThen_ok, Sem.run_pure, h1']
  ·cases h
 ·rename_i k elem hu
  simp only [Option.bind_eq_some_iff, Option.map_eq_some_iff] at h
  obtain ⟨n, hn, r, hr', rfl⟩ := h
  obtain ⟨c', h1, h2, _⟩ := afill_run (place' := fun i => some (i * n, n)) (fun _ _ h => h) hp hcz hr'
  refine ⟨.agg c', ?_, by simp only [VRel]; exact ⟨c', rfl, h2⟩⟩
  simp only [Instr.build, Sem.run_bind, hrz, run_underlying hT hu, run_sizeOf hT hn, Result.andThen_ok, Sem.run_pure]
  simp [h1]
 ·cases h
omit hT in
theorem rep_get (z : List AV) (n k : Nat) : (rep n z)[k]? = if k < n * z.length then z[k % z.length]? else none := by
 induction n generalizing k with
 | zero => simp [rep]
 | succ n ih =>
  have e : rep (n + 1) z = z ++ rep n z := by simp [rep, List.replicate_succ]
  rw [e, List.getElem?_append]
  split
  ·rename_i hk
   have : k < (n + 1) * z.length := by
    have : z.length ≤ (n + 1) * z.length := Nat.le_mul_of_pos_left _ (by omega)
    omega
   rw [if_pos this, Nat.mod_eq_of_lt hk]
  ·rename_i hk
   rw [ih]
   have hz : (n + 1) * z.length = n * z.length + z.length := by rw [Nat.add_mul, Nat.one_mul]
   by_cases h : k - z.length < n * z.length
   ·rw [if_pos h, if_pos (by omega)]
    congr 1
    exact (Nat.mod_eq_sub_mod (by omega)).symm
   ·rw [if_neg h, if_neg (by omega)]
omit hT in
theorem rep_length (z : List AV) (n : Nat) : (rep n z).length = n * z.length := by
 simp [rep]
omit hT in
theorem rep_rels {γ : Gam} {z : List AV} {cz : Array Value} (hz : VRels γ z cz.toList) (n : Nat) (hn : z.length ≠ 0 ∨ n = 0 ∨ True) :
  VRels γ (rep n z) ((Array.range (n * cz.size)).map (cz[· % cz.size]!)).toList := by
 have hl := hz.length
 simp only [Array.length_toList] at hl
 refine VRels.iff_get.2 ⟨by rw [rep_length]; simp [hl], fun i v c hv hc => ?_⟩
 rw [rep_get] at hv
 split at hv
 ·rename_i hi
  obtain ⟨cv, hcv, hr⟩ := hz.get hv
  have hpos : 0 < cz.size := by
   rcases Nat.eq_zero_or_pos cz.size with h | h
   ·rw [hl, h] at hi; simp at hi
   ·exact h
  have : c = cv := by
   have hi2 : i < n * cz.size := by rw [← hl]; exact hi
   simp [hi2] at hc
   rw [← hc]
   have hm : i % cz.size < cz.size := Nat.mod_lt _ hpos
   rw [hl] at hcv
   simp [hm] at hcv
   rw [getElem!_pos cz _ hm]; exact hcv
  rw [this]; exact hr
 ·cases hv
omit hT in
theorem rep_one {z : List AV} (h : z.all AV.one = true) (n : Nat) : (rep n z).all AV.one = true := by
 simp only [rep, List.all_eq_true, List.mem_flatten]
 rintro x ⟨l, hl, hx⟩
 obtain rfl := (List.mem_replicate.1 hl).2
 exact List.all_eq_true.1 h x hx
include hr
theorem abuildSlice_run {t : TypeId} {len : Nat} {parts : List (Nat × AV)} {cparts : Array (Nat × Value)} {v : AV} {s' : AS} (hp : PRels γ parts cparts.toList) (h : abuildSlice T t len parts s = some (v, s')) :
  Sim P B γ s w (Instr.buildSlice t len cparts) v s' := by
 unfold abuildSlice at h
 split at h
 ·rename_i elem hu
  simp only [Option.bind_eq_some_iff] at h
  obtain ⟨n, hn, z, hz, zc, hzc, h⟩ := h
  split at h
  ·rename_i hcond
   obtain ⟨rfl, hone⟩ := acells_some hzc
   obtain ⟨hlen, hbound⟩ := hcond
   simp only [Option.map_eq_some_iff] at h
   obtain ⟨cs, hcs, e⟩ := h
   obtain ⟨rfl, rfl⟩ : _ ∧ _ := by simpa using e
   obtain ⟨cz, hrz, hvz⟩ := run_zeroValue hT hz w
   have hcz := (hvz γ).cells hone
   have hczl := hcz.length
   simp only [Array.length_toList] at hczl
   let c0 : Array Value := (Array.range (len * n)).map ((if len * n = 0 then #[] else cz.cells)[· % (if len * n = 0 then #[] else cz.cells).size]!)
   have hc0 : VRels γ (rep len z.cells) c0.toList := by
    by_cases h0 : len * n = 0
    ·have : rep len z.cells = [] := by
      apply List.eq_nil_of_length_eq_zero; rw [rep_length, hlen, h0]
     rw [this]; simp [c0, h0]; exact VRels.nil
    ·have := rep_rels hcz len (.inr (.inr trivial))
     simp only [c0, if_neg h0]
     rw [← hlen, hczl]; exact this
   obtain ⟨c', h1, h2, h3⟩ := afill_run (place' := fun i => some (i * n, n)) (fun _ _ h => h) hp hc0 hcs
   have hone' := afill_one hcs (rep_one hone len)
   obtain ⟨g1, g2⟩ := hr.newCells (w' := { w with heap := w.heap.push (.cells c' elem) }) (g := 0) (x := 0) (e := elem) (c := c') (hc_of_rels h2 hone' (by intro k v h; simpa using h)) (by simp) (0, 0) (by simp) (fun _ => rfl) rfl
   refine ⟨_, _, .slice (some ⟨w.heap.size, 0, none⟩) len len, ?_, by simp only [VRel]; exact ⟨_, updG_same _ _ _, by simp⟩, g2, g1⟩
   have hb : ¬ (len * n > 2 ^ 24) := by omega
   simp only [Instr.buildSlice, Sem.run_bind, run_underlying hT hu, run_sizeOf hT hn, Result.andThen_ok, if_neg hb]
   by_cases h0 : len * n = 0
   ·simp only [if_pos h0, Sem.run_pure, Result.andThen_ok]
    simp only [c0, if_pos h0] at h1
    simp [h0] at h1 ⊢
    simp [h1, run_newRow]
   ·simp only [if_neg h0, Sem.run_bind, hrz, Sem.run_pure, Result.andThen_ok]
    simp only [c0, if_neg h0] at h1
    simp [h1, run_newRow]
  ·cases h
 ·cases h
end
end Go.Am
end

section
namespace Go.Am
def isIntD : TypeDesc → Bool
 | .int _ => true
 | _ => false
theorem growBy_le (need : Nat) : ∀ (r c : Nat), c ≤ need → Builtin.growBy need r c ≤ need + (need + 768) / 4
 | 0, c, h => by simp only [Builtin.growBy]; omega
 | r + 1, c, h => by
  simp only [Builtin.growBy]
  split
  ·omega
  ·by_cases h2 : c + (c + 768) / 4 ≤ need
   ·exact growBy_le need r _ h2
   ·cases r with
    | zero => simp only [Builtin.growBy]; omega
    | succ r => simp only [Builtin.growBy]; rw [if_pos (by omega)]; omega
theorem nextslicecap_le {need cap : Nat} (h : cap ≤ need) : Builtin.nextslicecap need cap ≤ 2 * (need + 256) := by
 unfold Builtin.nextslicecap
 split
 ·omega
 ·split
  ·omega
  ·have := growBy_le need 4 cap h; omega
theorem zeroCells_rels {γ : Gam} {z : List AV} {cz : Array Value} (hz : VRels γ z cz.toList) (n : Nat) : VRels γ (rep n z) (Builtin.zeroCells cz n).toList := by
 have := rep_rels hz n (.inr (.inr trivial))
 simpa [Builtin.zeroCells] using this
theorem zeroCells_size (cz : Array Value) (n : Nat) : (Builtin.zeroCells cz n).size = n * cz.size := by simp [Builtin.zeroCells]
section
variable {P : Program} {T : TT} (hT : TT.Ok P T) {B : Nat} {γ : Gam} {s : AS} {w : World} (hr : Rel B γ s w)
include hT hr
theorem amakeSlice_run {t : TypeId} {l c v : AV} {cl cc : Value} {s' : AS} (hl : VRel γ l cl) (hc : VRel γ c cc) (h : amakeSlice T t l c s = some (v, s')) :
  Sim P B γ s w (Instr.makeSlice t cl cc) v s' := by
 unfold amakeSlice at h
 split at h
 ·rename_i elem k1 l k2 c hu
  simp only [VRel] at hl hc; subst hl hc
  simp only [Option.bind_eq_some_iff] at h
  obtain ⟨n, hn, by_, hby, z, hz, zc, hzc, h⟩ := h
  split at h
  ·rename_i hcond
   obtain ⟨h0, h1, h2, h3, h4⟩ := hcond
   obtain ⟨rfl, rfl⟩ : _ ∧ _ := by simpa using h
   obtain ⟨rfl, hone⟩ := acells_some hzc
   obtain ⟨cz, hrz, hvz⟩ := run_zeroValue hT hz w
   have hcz := (hvz γ).cells hone
   have hczl := hcz.length
   simp only [Array.length_toList] at hczl
   obtain ⟨inf, hinf, hbytes⟩ := run_bytes hT hby w
   have hwr : ∀ x : Int, 0 ≤ x → x < 2 ^ 63 → IntKind.i64.wrap x = x := fun x hx0 hx1 => IntWalk.i64_in x (by omega)
   have hwl := hwr l h0 (by omega)
   have hwc := hwr c (by omega) h3
   let c0 : Array Value := (Array.range (c.toNat * n)).map ((if c.toNat * n = 0 then #[] else cz.cells)[· % (if c.toNat * n = 0 then #[] else cz.cells).size]!)
   have hc0 : VRels γ (rep c.toNat z.cells) c0.toList := by
    by_cases hz0 : c.toNat * n = 0
    ·have : rep c.toNat z.cells = [] := by
      apply List.eq_nil_of_length_eq_zero; rw [rep_length, h4, hz0]
     rw [this]; simp [c0, hz0]; exact VRels.nil
    ·have := rep_rels hcz c.toNat (.inr (.inr trivial))
     simp only [c0, if_neg hz0]
     rw [← h4, hczl]; exact this
   obtain ⟨g1, g2⟩ := hr.newCells (w' := { w with heap := w.heap.push (.cells c0 elem) }) (g := 0) (x := 0) (e := elem) (c := c0) (hc_of_rels hc0 (rep_one hone _) (by intro k v h; simpa using h)) (by simp) (0, 0) (by simp) (fun _ => rfl) rfl
   refine ⟨_, _, .slice (some ⟨w.heap.size, 0, none⟩) l.toNat c.toNat, ?_, by simp only [VRel]; exact ⟨_, updG_same _ _ _, by simp⟩, g2, g1⟩
   simp only [Instr.makeSlice, Sem.run_bind, run_underlying hT hu, asInt, asIntOf, Sem.run_pure, hinf, Result.andThen_ok, hbytes, hwl, hwc]
   have e1 : (decide (c < 0) || decide ((by_ : Int) * c > 2 ^ 48)) = false := by simp; omega
   rw [e1]
   have e2 : ((false || decide (l < 0)) || decide (l > c)) = false := by simp; omega
   simp only [e2, Bool.false_eq_true, if_false, Sem.run_bind, run_askRoom, run_sizeOf hT hn, Result.andThen_ok]
   by_cases hz0 : c.toNat * n = 0
   ·simp only [if_pos hz0, c0]; simp [run_newRow]
   ·simp only [if_neg hz0, Sem.run_bind, hrz, Sem.run_pure, Result.andThen_ok, run_newRow, c0]
  ·cases h
 ·cases h
theorem asrc_run {size n : Nat} {x : AV} {cx : Value} {new : List AV} (hx : VRel γ x cx) (h : asrc size n s x = some new) :
  ∃ c, (Builtin.firstCells size n cx).run P w = .ok c w ∧ VRels γ new c.toList ∧ new.all AV.one = true := by
 unfold asrc at h
 split at h
 ·rename_i l o _ _ _
  simp only [VRel] at hx; obtain ⟨i, hi, rfl⟩ := hx
  split at h
  ·rename_i h0; subst h0
   obtain rfl := Option.some.inj h
   exact ⟨#[], by simp [Builtin.firstCells, loadCells, loadCellsFrom], VRels.nil, rfl⟩
  ·obtain ⟨j, c, hj, hrun, hvs, hone, _⟩ := run_loadCells_rdc hT hr h
   rw [hi] at hj; obtain rfl := Option.some.inj hj
   exact ⟨c, hrun, hvs, hone⟩
 ·simp only [VRel] at hx; obtain ⟨rfl, _⟩ := hx
  obtain rfl := Option.some.inj h
  exact ⟨#[], rfl, VRels.nil, rfl⟩
 ·simp only [VRel] at hx; obtain ⟨a, m, rfl⟩ := hx
  split at h
  ·rename_i h0; subst h0
   obtain rfl := Option.some.inj h
   exact ⟨#[], by simp [Builtin.firstCells, loadCells, loadCellsFrom], VRels.nil, rfl⟩
  ·cases h
 ·rename_i b
  simp only [VRel] at hx; subst hx
  obtain rfl := Option.some.inj h
  refine ⟨_, rfl, ?_, by rw [List.all_eq_true]; intro x hx; obtain ⟨y, _, rfl⟩ := List.mem_map.1 hx; rfl⟩
  have : (ByteArray.extract ⟨b.toArray⟩ 0 n).data.toList = b.take n := by simp [List.extract_eq_take_drop]
  refine VRels.iff_get.2 ⟨by simp [this], fun i v c hv hc => ?_⟩
  rw [Array.toList_map, this] at hc
  simp only [List.getElem?_map] at hv hc
  cases hb : (b.take n)[i]? with
  | none => simp [hb] at hv
  | some u =>
   simp only [hb, Option.map_some] at hv hc
   obtain rfl := Option.some.inj hv
   obtain rfl := Option.some.inj hc
   simp [VRel]
 ·cases h
omit hT hr in
theorem alen_run {x : AV} {cx : Value} {n : Nat} (hx : VRel γ x cx) (h : alen x = some n) : (Builtin.lenOf cx).run P w = .ok n w := by
 unfold alen at h
 split at h
 ·rename_i a m c e
  cases a with
  | none => simp only [VRel] at hx; obtain ⟨rfl, _⟩ := hx; obtain rfl := Option.some.inj h; rfl
  | some a => obtain ⟨l, o⟩ := a; simp only [VRel] at hx; obtain ⟨i, _, rfl⟩ := hx; obtain rfl := Option.some.inj h; rfl
 ·simp only [VRel] at hx; obtain ⟨a, m, rfl⟩ := hx; obtain rfl := Option.some.inj h; rfl
 ·simp only [VRel] at hx; subst hx; obtain rfl := Option.some.inj h; simp [Builtin.lenOf, ByteArray.size]
 ·cases h
theorem acopy_run {t xt : TypeId} {dst x v : AV} {cd cx : Value} {s' : AS} (hd : VRel γ dst cd) (hx : VRel γ x cx) (h : acopy T t dst x s = some (v, s')) (ty : TypeId) :
  Sim P B γ s w (Builtin.copy_ #[t, xt] ty #[cd, cx]) v s' := by
 unfold acopy at h
 split at h
 ·rename_i elem hu
  simp only [Option.bind_eq_some_iff] at h
  obtain ⟨size, hs, m, hm, d, hd', new, hnew, h⟩ := h
  obtain ⟨c, hc, hvs, hone⟩ := asrc_run hT hr hx hnew
  have hlm := alen_run (P := P) (w := w) hx hm
  have hld := alen_run (P := P) (w := w) hd hd'
  split at h
  ·rename_i l o len cap ex
   simp only [VRel] at hd; obtain ⟨i, hi, rfl⟩ := hd
   obtain rfl : len = d := by simpa [alen] using hd'
   have hc' : (Builtin.firstCells size (Nat.min m len) cx).run P w = .ok c w := hc
   have body : ∀ w', (storeCells ⟨i.b, i.d + o, none⟩ c.toList).run P w = .ok () w' → (Builtin.copy_ #[t, xt] ty #[.slice (some ⟨i.b, i.d + o, none⟩) len (if ex then cap else cap + i.x), cx]).run P w = .ok (goInt ((min m len : Nat) : Int)) w' := by
    intro w' hw'
    simp only [Builtin.copy_, List.getElem?_toArray, List.getElem?_cons_zero, List.getElem?_cons_succ, Sem.run_bind, run_underlying hT hu, Result.andThen_ok, hlm, run_sizeOf hT hs, hc', hw', Sem.run_pure]
   split at h
   ·rename_i h0; subst h0
    obtain ⟨rfl, rfl⟩ : _ ∧ _ := by simpa using h
    have : c.toList = [] := VRels.nil_iff.1 hvs
    exact Sim.val hr (body w (by rw [this]; rfl)) (by simp [VRel, goInt])
   ·simp only [Option.map_eq_some_iff] at h
    obtain ⟨s'', hw, e⟩ := h
    obtain ⟨rfl, rfl⟩ : _ ∧ _ := by simpa using e
    obtain ⟨j, w', hj, hrun, hdid, hr'⟩ := awr_run hT hr hw hvs hone
    rw [hi] at hj; obtain rfl := Option.some.inj hj
    exact ⟨γ, w', _, body w' hrun, by simp [VRel, goInt], hdid, hr'⟩
  ·rename_i len cap ex
   simp only [VRel] at hd; obtain ⟨rfl, _⟩ := hd
   obtain rfl : len = d := by simpa [alen] using hd'
   obtain ⟨rfl, rfl⟩ : _ ∧ _ := by simpa using h
   have hc' : (Builtin.firstCells size (Nat.min m len) cx).run P w = .ok c w := hc
   refine Sim.val hr (cv := goInt ((min m len : Nat) : Int)) ?_ (by simp [VRel, goInt])
   simp only [Builtin.copy_, List.getElem?_toArray, List.getElem?_cons_zero, List.getElem?_cons_succ, Sem.run_bind, run_underlying hT hu, Result.andThen_ok, hlm, run_sizeOf hT hs, hc', Sem.run_pure]
  ·simp only [VRel] at hd; obtain ⟨a, k, rfl⟩ := hd
   obtain rfl : 0 = d := by simpa [alen] using hd'
   split at h
   ·rename_i h0; subst h0
    obtain ⟨rfl, rfl⟩ : _ ∧ _ := by simpa using h
    have hnil : c.toList = [] := VRels.nil_iff.1 hvs
    have hc' : (Builtin.firstCells size (Nat.min m 0) cx).run P w = .ok c w := hc
    refine Sim.val hr (cv := goInt ((min m 0 : Nat) : Int)) ?_ (by simp [VRel, goInt])
    simp only [Builtin.copy_, List.getElem?_toArray, List.getElem?_cons_zero, List.getElem?_cons_succ, Sem.run_bind, run_underlying hT hu, Result.andThen_ok, hlm, run_sizeOf hT hs, hc', hnil, storeCells, Sem.run_pure]
   ·cases h
  ·cases h
 ·cases h
omit hr in
theorem append_room {t xt elem : TypeId} {xd : TypeDesc} {size len cap' n : Nat} {base : Option Addr} {cx : Value} {c : Array Value} {w' : World} (hu : T.und t = some (.slice elem)) (hux : T.und xt = some xd)
    (hzeros : isIntD xd = false) (hs : T.siz elem = some size) (hlx : (Builtin.lenOf cx).run P w = .ok n w) (hc : (Builtin.firstCells size n cx).run P w = .ok c w) (hroom : len + n ≤ cap') (ty : TypeId)
    (hst : (match base with | some a => storeCells (a.add (len * size)) c.toList | none => pure () : Sem Unit).run P w = .ok () w') :
    (Builtin.append_ #[t, xt] ty #[.slice base len cap', cx]).run P w = .ok (.slice base (len + n) cap') w' := by
  cases xd <;> first
    | (cases hzeros; done)
    | (simp only [Builtin.append_, List.getElem?_toArray, List.getElem?_cons_zero, List.getElem?_cons_succ, Sem.run_bind, run_underlying hT hu, run_underlying hT hux, run_sizeOf hT hs, Result.andThen_ok, Sem.run_pure, Bool.false_eq_true, if_false, hlx, if_pos hroom, Bool.not_false, if_true, hc]
       cases base with
       | none => simp only at hst ⊢; cases hst; rfl
       | some a => simp only at hst ⊢; simp [hst])
omit hr in
theorem append_grow {t xt elem : TypeId} {xd : TypeDesc} {size by_ len cap' n : Nat} {base : Option Addr} {cx cz : Value} (hu : T.und t = some (.slice elem)) (hux : T.und xt = some xd)
    (hzeros : isIntD xd = false) (hs : T.siz elem = some size) (hby : T.byt elem = some by_) (hlx : (Builtin.lenOf cx).run P w = .ok n w) (hz : ∀ w, (zeroValue elem).run P w = .ok cz w)
    (hroom : ¬ len + n ≤ cap') (hb1 : len + n ≤ 2 ^ 40) (hb2 : 2 * ((len + n + 256) * by_) ≤ 2 ^ 48) (ty : TypeId) :
    ∃ wd newCap, (wd.heap = w.heap ∧ Env w wd) ∧ len + n ≤ newCap ∧ ∀ old new, (Builtin.firstCells size len (.slice base len cap')).run P wd = .ok old wd → (Builtin.firstCells size n cx).run P wd = .ok new wd →
      (Builtin.append_ #[t, xt] ty #[.slice base len cap', cx]).run P w = .ok (.slice (some ⟨w.heap.size, 0, none⟩) (len + n) newCap)
        { wd with heap := wd.heap.push (.cells (old ++ new ++ Builtin.zeroCells cz.cells (newCap - (len + n))) elem) } := by
  have hq : (Question.appendCap (len + n) cap' elem).forced = false := rfl
  refine ⟨{ w with drawn := w.drawn + 1 }, (Question.appendCap (len + n) cap' elem).cut (w.tape w.drawn (Question.appendCap (len + n) cap' elem)), ⟨rfl, rfl, rfl, rfl⟩, Nat.le_add_right _ _, fun old new ho hn => ?_⟩
  obtain ⟨inf, hinf, hbytes⟩ := run_bytes hT hby w
  have hinf2 : ∀ w, (typeInfo elem).run P w = .ok inf w := by
    intro w2
    obtain ⟨inf2, hinf2, _⟩ := run_bytes hT hby w2
    have e1 : (typeInfo elem).run P w = (match P.info? elem with | some i => .ok i w | none => .halt (.stuck "no such type") w) := by
      simp only [typeInfo, Sem.run_bind, run_program, Result.andThen_ok]; cases P.info? elem <;> rfl
    have e2 : (typeInfo elem).run P w2 = (match P.info? elem with | some i => .ok i w2 | none => .halt (.stuck "no such type") w2) := by
      simp only [typeInfo, Sem.run_bind, run_program, Result.andThen_ok]; cases P.info? elem <;> rfl
    rw [e1] at hinf; rw [e2]
    cases hi : P.info? elem with
    | none => rw [hi] at hinf; cases hinf
    | some i => rw [hi] at hinf; cases hinf; rfl
  have hcond1 : ¬ (((len + n : Nat) : Int) > IntKind.i64.max ∧ ((false = true) ∨ inf.bytes = 0)) := by
    have : IntKind.i64.max = 9223372036854775807 := rfl
    rw [this]; omega
  have hcond2 : ¬ (Builtin.nextslicecap (len + n) cap' * inf.bytes > 2 ^ 48) := by
    have h1 := nextslicecap_le (need := len + n) (cap := cap') (by omega)
    have h2 : Builtin.nextslicecap (len + n) cap' * inf.bytes ≤ 2 * (len + n + 256) * by_ := by rw [hbytes]; exact Nat.mul_le_mul_right _ h1
    have h3 : 2 * (len + n + 256) * by_ = 2 * ((len + n + 256) * by_) := by rw [Nat.mul_assoc]
    omega
  cases xd <;> first
    | (cases hzeros; done)
    | (simp only [Builtin.append_, List.getElem?_toArray, List.getElem?_cons_zero, List.getElem?_cons_succ, Sem.run_bind, run_underlying hT hu, run_underlying hT hux, run_sizeOf hT hs, Result.andThen_ok, Sem.run_pure, Bool.false_eq_true, if_false, hlx, if_neg hroom, Bool.not_false, if_true, hinf2]
       rw [if_neg (by simpa using hcond1)]
       simp only [Sem.run_bind, hinf2, Result.andThen_ok]
       rw [if_neg hcond2]
       simp only [Sem.run_bind, run_choose, hq, Bool.false_eq_true, if_false, Result.andThen_ok, hinf2, run_askRoom, ho, hn, hz, run_newRow, Sem.run_pure])
omit hT hr in
theorem append_one {a b : List AV} (h1 : a.all AV.one = true) (h2 : b.all AV.one = true) : (a ++ b).all AV.one = true := by simp [h1, h2]
theorem grow_rel {elem : TypeId} {wd : World} {old new : List AV} {co cn cz : Array Value} {size need newCap x : Nat} (hw : wd.heap = w.heap) (hew : Env w wd) (ho : VRels γ old co.toList) (hn : VRels γ new cn.toList)
  (ho1 : old.all AV.one = true) (hn1 : new.all AV.one = true) (hx : newCap = need + x) (hcz : cz.size = size) {zc : List AV} (hzr : VRels γ zc cz.toList) (hz1 : zc.all AV.one = true) :
  Rel B (updG γ s.nl ⟨w.heap.size, 0, x⟩) (s.new (.cells (old ++ new) size false)) { wd with heap := wd.heap.push (.cells (co ++ cn ++ Builtin.zeroCells cz (newCap - need)) elem) } ∧
   Did B γ s w (updG γ s.nl ⟨w.heap.size, 0, x⟩) (s.new (.cells (old ++ new) size false)) { wd with heap := wd.heap.push (.cells (co ++ cn ++ Builtin.zeroCells cz (newCap - need)) elem) } := by
 have hlo := ho.length
 have hln := hn.length
 simp only [Array.length_toList] at hlo hln
 refine hr.newCells (w' := { wd with heap := wd.heap.push (.cells (co ++ cn ++ Builtin.zeroCells cz (newCap - need)) elem) }) (g := size) (x := x) (e := elem) (c := co ++ cn ++ Builtin.zeroCells cz (newCap - need))
  (hc_of_rels (ho.append hn) (append_one ho1 hn1) ?_) ?_ (0, 0) (by simp) (fun _ => rfl) (by simp [hw]) hew
 ·intro k v hk
  have hlt : k < co.size + cn.size := by
   rcases Nat.lt_or_ge k (co.size + cn.size) with h | h
   ·exact h
   ·rw [List.getElem?_eq_none (by simp; omega)] at hk; cases hk
  rw [← Array.getElem?_toList]
  simp only [Array.toList_append]
  rw [List.getElem?_append_left (by simpa using hlt)]
  exact hk
 ·intro _
  refine ⟨?_, fun k hk hk' => ?_⟩
  ·simp only [Array.size_append, zeroCells_size, List.length_append, hlo, hln, hcz]
   rw [show newCap - need = x by omega]
  ·rw [List.length_append, hlo, hln] at hk
   rw [Array.getElem?_append_right (by simpa using hk)]
   have hlt : k - (co ++ cn).size < (Builtin.zeroCells cz (newCap - need)).size := by simp only [Array.size_append] at hk' ⊢; omega
   rw [Array.getElem?_eq_getElem hlt]
   have hrz := zeroCells_rels hzr (newCap - need)
   have hlz := hrz.length
   simp only [Array.length_toList] at hlz
   have hltz : k - (co ++ cn).size < (rep (newCap - need) zc).length := by omega
   obtain ⟨c', hc', hrel⟩ := hrz.get (List.getElem?_eq_getElem hltz)
   rw [Array.getElem?_toList, Array.getElem?_eq_getElem hlt] at hc'
   obtain rfl := Option.some.inj hc'
   exact ⟨_, _, List.all_eq_true.1 (rep_one hz1 _) _ (List.getElem_mem hltz), rfl, hrel⟩
omit hr in
theorem append_growZ {t xt elem : TypeId} {xk : IntKind} {size by_ len cap' : Nat} {base : Option Addr} {k : Int} {cz : Value} (hu : T.und t = some (.slice elem)) (hux : T.und xt = some (.int xk))
  (hs : T.siz elem = some size) (hby : T.byt elem = some by_) (hz : ∀ w, (zeroValue elem).run P w = .ok cz w) (hcz : cz.cells.size = size) (hk : 0 ≤ k)
  (hroom : ¬ len + k.toNat ≤ cap') (hb1 : len + k.toNat ≤ 2 ^ 40) (hb2 : 2 * ((len + k.toNat + 256) * by_) ≤ 2 ^ 48) (ty : TypeId) :
  ∃ wd newCap, (wd.heap = w.heap ∧ Env w wd) ∧ len + k.toNat ≤ newCap ∧ ∀ old, (Builtin.firstCells size len (.slice base len cap')).run P wd = .ok old wd →
   (Builtin.append_ #[t, xt] ty #[.slice base len cap', .int .i64 k]).run P w = .ok (.slice (some ⟨w.heap.size, 0, none⟩) (len + k.toNat) newCap)
    { wd with heap := wd.heap.push (.cells (old ++ Builtin.zeroCells cz.cells k.toNat ++ Builtin.zeroCells cz.cells (newCap - (len + k.toNat))) elem) } := by
 have hq : (Question.appendCap (len + k.toNat) cap' elem).forced = false := rfl
 refine ⟨{ w with drawn := w.drawn + 1 }, (Question.appendCap (len + k.toNat) cap' elem).cut (w.tape w.drawn (Question.appendCap (len + k.toNat) cap' elem)), ⟨rfl, rfl, rfl, rfl⟩, Nat.le_add_right _ _, fun old ho => ?_⟩
 obtain ⟨inf, hinf, hbytes⟩ := run_bytes hT hby w
 have hinf2 : ∀ w, (typeInfo elem).run P w = .ok inf w := by
  intro w2
  obtain ⟨inf2, hinf2, _⟩ := run_bytes hT hby w2
  have e1 : (typeInfo elem).run P w = (match P.info? elem with | some i => .ok i w | none => .halt (.stuck "no such type") w) := by
   simp only [typeInfo, Sem.run_bind, run_program, Result.andThen_ok]; cases P.info? elem <;> rfl
  have e2 : (typeInfo elem).run P w2 = (match P.info? elem with | some i => .ok i w2 | none => .halt (.stuck "no such type") w2) := by
   simp only [typeInfo, Sem.run_bind, run_program, Result.andThen_ok]; cases P.info? elem <;> rfl
  rw [e1] at hinf; rw [e2]
  cases hi : P.info? elem with
  | none => rw [hi] at hinf; cases hinf
  | some i => rw [hi] at hinf; cases hinf; rfl
 have hmax : IntKind.i64.max = 9223372036854775807 := rfl
 have hwrap : IntKind.i64.wrap k = k := IntWalk.i64_in k (by omega)
 have hcond1 : ¬ (((len + k.toNat : Nat) : Int) > IntKind.i64.max ∧ ((true = true) ∨ inf.bytes = 0)) := by
  rw [hmax]; omega
 have hcond2 : ¬ (Builtin.nextslicecap (len + k.toNat) cap' * inf.bytes > 2 ^ 48) := by
  have h1 := nextslicecap_le (need := len + k.toNat) (cap := cap') (by omega)
  have h2 : Builtin.nextslicecap (len + k.toNat) cap' * inf.bytes ≤ 2 * (len + k.toNat + 256) * by_ := by rw [hbytes]; exact Nat.mul_le_mul_right _ h1
  have h3 : 2 * (len + k.toNat + 256) * by_ = 2 * ((len + k.toNat + 256) * by_) := by rw [Nat.mul_assoc]
  omega
 have hcond0 : ¬ (k * (inf.bytes : Int) > 2 ^ 48) := by
  rw [hbytes]
  have h1 : k.toNat * by_ ≤ (len + k.toNat + 256) * by_ := Nat.mul_le_mul_right _ (by omega)
  have h2 : k * (by_ : Int) = ((k.toNat * by_ : Nat) : Int) := by rw [Int.natCast_mul, Int.toNat_of_nonneg hk]
  rw [h2]
  omega
 have happ : ∀ w, ((if k.toNat * size = 0 then pure #[] else do pure (Builtin.zeroCells (← zeroValue elem).cells k.toNat)) : Sem (Array Value)).run P w = .ok (Builtin.zeroCells cz.cells k.toNat) w := by
  intro w
  split
  ·rename_i h0
   have : Builtin.zeroCells cz.cells k.toNat = #[] := Array.eq_empty_of_size_eq_zero (by rw [zeroCells_size, hcz]; exact h0)
   rw [this]; rfl
  ·simp only [Sem.run_bind, hz, Result.andThen_ok, Sem.run_pure]
 simp only [Builtin.append_, List.getElem?_toArray, List.getElem?_cons_zero, List.getElem?_cons_succ, Sem.run_bind, run_underlying hT hu, run_underlying hT hux, run_sizeOf hT hs, Result.andThen_ok, Sem.run_pure, asInt, asIntOf, if_true, hwrap, hinf2]
 rw [if_neg (by omega)]
 simp only [Sem.run_bind, Sem.run_pure, Result.andThen_ok, hinf2]
 rw [if_neg hcond0]
 simp only [Sem.run_bind, Sem.run_pure, Result.andThen_ok, hinf2, if_neg hroom, Bool.not_true, Bool.false_eq_true, if_false]
 rw [if_neg (by simpa using hcond1)]
 simp only [Sem.run_bind, hinf2, Result.andThen_ok, Sem.run_pure]
 rw [if_neg hcond2]
 simp only [Sem.run_bind, run_choose, hq, Bool.false_eq_true, if_false, Result.andThen_ok, hinf2, run_askRoom, ho, happ, hz, run_newRow, Sem.run_pure]
theorem aappendZ_run {t xt elem : TypeId} {xk : IntKind} {dst x v : AV} {cd cx : Value} {s' : AS} (hu : T.und t = some (.slice elem)) (hux : T.und xt = some (.int xk)) (hd : VRel γ dst cd) (hx : VRel γ x cx) (h : aappendZ T elem dst x s = some (v, s')) (ty : TypeId) :
  Sim P B γ s w (Builtin.append_ #[t, xt] ty #[cd, cx]) v s' := by
 unfold aappendZ at h
 simp only [Option.bind_eq_some_iff] at h
 obtain ⟨size, hs, by_, hby, z, hz, zc, hzc, h⟩ := h
 obtain ⟨rfl, honez⟩ := acells_some hzc
 split at h
 ·rename_i base len cap k
  split at h
  ·cases h
  ·rename_i hcond
   simp only [not_or, Nat.not_lt, Int.not_lt, Decidable.not_not, gt_iff_lt, ne_eq] at hcond
   obtain ⟨hc1, hc2, hc3, hc4, hc5⟩ := hcond
   simp only [Option.map_eq_some_iff] at h
   obtain ⟨old, hold, h⟩ := h
   obtain ⟨rfl, rfl⟩ : _ ∧ _ := by simpa using h
   obtain ⟨cz, hrz, hcz, hzr⟩ : ∃ cz : Value, (∀ w, (zeroValue elem).run P w = .ok cz w) ∧ cz.cells.size = size ∧ VRels γ z.cells cz.cells.toList := by
    obtain ⟨inf, cz, hi, hcz, hvz⟩ := hT.zer elem z hz
    refine ⟨cz, fun w => by simp [zeroValue, typeInfo, hi, hcz], ?_, (hvz γ).cells honez⟩
    have := ((hvz γ).cells honez).length
    simp only [Array.length_toList] at this
    omega
   simp only [VRel] at hx
   subst hx
   obtain ⟨ca, hca⟩ : ∃ ca, cd = .slice ca len cap := by
    cases base with
    | none => simp only [VRel] at hd; exact ⟨none, hd.1⟩
    | some a => obtain ⟨l, o⟩ := a; simp only [VRel] at hd; obtain ⟨i, _, e⟩ := hd; exact ⟨_, by simpa using e⟩
   subst hca
   obtain ⟨wd, newCap, ⟨hwd, hew⟩, hnc, hrun⟩ := append_growZ hT (w := w) (base := ca) (len := len) (cap' := cap) (k := k) hu hux hs hby hrz hcz hc2 hc5 hc3 (by omega) ty
   have hrd : Rel B γ s wd := hr.of_heap hwd
   obtain ⟨co, hco, hvo, hoo⟩ := asrc_run hT hrd hd hold
   obtain ⟨g1, g2⟩ := grow_rel (P := P) hT hr (elem := elem) (size := size) (need := len + k.toNat) (newCap := newCap) (x := newCap - (len + k.toNat)) hwd hew hvo (zeroCells_rels hzr k.toNat) hoo (rep_one honez _) (by omega) hcz hzr honez
   refine ⟨_, _, _, hrun co hco, ?_, g2, g1⟩
   simp only [VRel]
   refine ⟨_, updG_same _ _ _, ?_⟩
   simp only [Bool.false_eq_true, if_false]
   rw [show len + k.toNat + (newCap - (len + k.toNat)) = newCap by omega]
 ·cases h
theorem aappend_run {t xt : TypeId} {dst x v : AV} {cd cx : Value} {s' : AS} (hd : VRel γ dst cd) (hx : VRel γ x cx) (h : aappend T t xt dst x s = some (v, s')) (ty : TypeId) :
  Sim P B γ s w (Builtin.append_ #[t, xt] ty #[cd, cx]) v s' := by
 unfold aappend at h
 split at h
 ·rename_i elem xd hu hux
  split at h
  ·rename_i hint
   simp only [if_true] at h
   exact aappendZ_run hT hr hu hux hd hx h ty
  ·rename_i hint
   simp only [Bool.false_eq_true, if_false, Option.bind_eq_some_iff] at h
   obtain ⟨size, hs, by_, hby, z, hz, zc, hzc, n, hn, new, hnew, h⟩ := h
   obtain ⟨c, hc, hvs, hone⟩ := asrc_run hT hr hx hnew
   have hlx := alen_run (P := P) (w := w) hx hn
   obtain ⟨rfl, honez⟩ := acells_some hzc
   have hzeros : isIntD xd = false := by cases xd <;> first | rfl | exact (hint _ rfl).elim
   split at h
   ·rename_i base len cap ex
    split at h
    ·cases h
    ·rename_i hcond
     simp only [not_or, Nat.not_lt, Decidable.not_not, gt_iff_lt, ne_eq] at hcond
     obtain ⟨hc1, hc2, hc3, hc4⟩ := hcond
     obtain ⟨cz, hrz, hcz, hzr⟩ : ∃ cz : Value, (∀ w, (zeroValue elem).run P w = .ok cz w) ∧ cz.cells.size = size ∧ VRels γ z.cells cz.cells.toList := by
      obtain ⟨inf, cz, hi, hcz, hvz⟩ := hT.zer elem z hz
      refine ⟨cz, fun w => by simp [zeroValue, typeInfo, hi, hcz], ?_, (hvz γ).cells honez⟩
      have := ((hvz γ).cells honez).length
      simp only [Array.length_toList] at this
      omega
     have grow : ∀ (cap' : Nat) (ca : Option Addr) (old : List AV) (s1 : AS), (∀ l o, s1.h l = some o → s.h l = some o) → s1.nl = s.nl → Rel B γ s1 w → Did B γ s w γ s1 w → VRel γ (.slc base len cap ex) (.slice ca len cap') →
       asrc size len s (.slc base len cap ex) = some old → ¬ len + n ≤ cap' →
       Sim P B γ s w (Builtin.append_ #[t, xt] ty #[.slice ca len cap', cx]) (.slc (some (s.nl, 0)) (len + n) (len + n) false) (s1.new (.cells (old ++ new) size false)) := by
      intro cap' ca old s1 hsub hnl hr1 hd1 hv hold hroom
      obtain ⟨wd, newCap, ⟨hwd, hew⟩, hnc, hrun⟩ := append_grow hT (w := w) (base := ca) hu hux hzeros hs hby hlx hrz hroom (by omega) (by omega) ty
      have hrd : Rel B γ s wd := hr.of_heap hwd
      obtain ⟨co, hco, hvo, hoo⟩ := asrc_run hT hrd hv hold
      obtain ⟨cn, hcn, hvn, hon⟩ := asrc_run hT hrd hx hnew
      obtain ⟨g1, g2⟩ := grow_rel (P := P) hT hr1 (elem := elem) (size := size) (need := len + n) (newCap := newCap) (x := newCap - (len + n)) hwd hew hvo hvn hoo hon (by omega) hcz hzr honez
      refine ⟨_, _, _, hrun co cn hco hcn, ?_, hd1.trans g2, g1⟩
      simp only [VRel]
      refine ⟨_, by rw [← hnl]; exact updG_same _ _ _, ?_⟩
      simp only [Bool.false_eq_true, if_false]
      rw [show len + n + (newCap - (len + n)) = newCap by omega]
     cases base with
     | none =>
      simp only [VRel] at hd
      obtain ⟨rfl, rfl⟩ := hd
      split at h
      ·rename_i hroom
       obtain ⟨rfl, rfl⟩ : _ ∧ _ := by simpa using h
       exact Sim.val hr (append_room hT hu hux hzeros hs hlx hc hroom ty rfl) (by simp [VRel])
      ·rename_i hroom
       simp only [Option.bind_eq_some_iff, if_true] at h
       obtain ⟨old, hold, h⟩ := h
       obtain ⟨rfl, rfl⟩ : _ ∧ _ := by simpa using h
       exact grow cap none old s (fun _ _ h => h) rfl hr Did.refl (by simp [VRel]) hold hroom
     | some bo =>
      obtain ⟨l, o⟩ := bo
      have hd0 := hd
      simp only [VRel] at hd
      obtain ⟨i, hi, rfl⟩ := hd
      split at h
      ·rename_i hroom
       have hroom' : len + n ≤ (if ex then cap else cap + i.x) := by split <;> omega
       simp only at h
       split at h
       ·rename_i h0
        obtain ⟨rfl, rfl⟩ : _ ∧ _ := by simpa using h
        subst h0
        have hnil : c.toList = [] := VRels.nil_iff.1 hvs
        exact Sim.val hr (append_room hT hu hux hzeros hs hlx hc hroom' ty (w' := w) (by simp [hnil, storeCells])) (by simp only [VRel]; exact ⟨i, hi, rfl⟩)
       ·simp only [Option.map_eq_some_iff] at h
        obtain ⟨s'', hw, e⟩ := h
        obtain ⟨rfl, rfl⟩ : _ ∧ _ := by simpa using e
        obtain ⟨j, w', hj, hrun, hdid, hr'⟩ := awr_run hT hr hw hvs hone
        rw [hi] at hj; obtain rfl := Option.some.inj hj
        exact ⟨γ, w', _, append_room hT hu hux hzeros hs hlx hc hroom' ty (by simp only [add_addr]; rw [Nat.add_assoc]; exact hrun), by simp only [VRel]; exact ⟨i, hi, rfl⟩, hdid, hr'⟩
      ·rename_i hroom
       simp only [Option.bind_eq_some_iff] at h
       obtain ⟨old, hold, h⟩ := h
       cases ex with
       | true =>
        simp only [if_true] at h hd0 ⊢
        obtain ⟨rfl, rfl⟩ : _ ∧ _ := by simpa using h
        exact grow cap _ old s (fun _ _ h => h) rfl hr Did.refl hd0 hold hroom
       | false =>
        simp only [Bool.false_eq_true, if_false] at h hd0 ⊢
        split at h
        ·rename_i cs g hl
         split at h
         ·rename_i hg
          obtain ⟨rfl, hg0, hgl⟩ := hg
          obtain ⟨rfl, rfl⟩ : _ ∧ _ := by simpa using h
          by_cases hroom' : len + n ≤ cap + i.x
          ·
           obtain ⟨j, hj, hO, hB⟩ := hr.obj l _ hl
           rw [hi] at hj; obtain rfl := Option.some.inj hj
           obtain ⟨ca, e, fz, hb, hcc, hf, hgz, hf0⟩ := hO
           have hsz := (hgz hg0).1
           have hln := hvs.length
           simp only [Array.length_toList] at hln
           have hold' : rdc s l o (len * g) = some old := by
            simp only [asrc] at hold
            split at hold
            ·rename_i h0
             obtain rfl := Option.some.inj hold
             simp only [rdc, hl, h0, Nat.zero_mul, Nat.add_zero, List.take_zero]
             rw [if_pos (by omega)]
            ·exact hold
           have holdl : old.length = len * g := by obtain ⟨_, _, _, _, _, _, _, _, _, hh⟩ := rdc_run hT hr hold'; exact hh
           have hmul : (len + n) * g ≤ (cap + i.x) * g := Nat.mul_le_mul_right _ hroom'
           have e1 : (len + n) * g = len * g + n * g := Nat.add_mul _ _ _
           have e2 : (cap + i.x) * g = cap * g + i.x * g := Nat.add_mul _ _ _
           have hcells1 : ∀ v ∈ c.toList, v.oneCell' = true := by
            intro v hm
            obtain ⟨k, hk⟩ := List.mem_iff_getElem?.1 hm
            have hkl : k < new.length := by
             rcases Nat.lt_or_ge k c.toList.length with h | h
             ·have := hvs.length; omega
             ·simp [List.getElem?_eq_none h] at hk
            have hvk := List.getElem?_eq_getElem hkl
            obtain ⟨c', hc', hr'⟩ := hvs.get hvk
            rw [hk] at hc'; obtain rfl := Option.some.inj hc'
            exact hr'.one (List.all_eq_true.1 hone _ (List.mem_of_getElem? hvk))
           obtain ⟨w', hrun, hw', hev⟩ := run_storeCells P (b := i.b) (o := i.d + o + len * g) c.toList 0 w ca hb (by simp only [Array.length_toList]; omega) (hf rfl) hcells1
           have hbl := ORel.lt (γ := γ) (o := .cells cs g false) ⟨ca, e, fz, hb, hcc, hf, hgz, hf0⟩
           have hle : Gam.le γ (updG γ s.nl ⟨i.b, i.d + o, cap + i.x - (len + n)⟩) := Gam.le_upd hr.fin0
           have hO' : ORel (updG γ s.nl ⟨i.b, i.d + o, cap + i.x - (len + n)⟩) w' ⟨i.b, i.d + o, cap + i.x - (len + n)⟩ (.cells (old ++ new) g false) := by
            refine ⟨wrc ca (i.d + o + len * g + 0) c.toList, e, fz, by simp only; rw [hw']; simp [hbl], fun k v hk => ?_, fun _ => by rw [wrc_size]; exact hf rfl, fun _ => ⟨?_, fun k hk hk' => ?_⟩, hf0⟩
            ·rw [wrc_get _ _ _ _ (by simp only [Array.length_toList]; omega)]
             rw [List.getElem?_append] at hk
             split at hk
             ·rename_i hkl
              simp only
              rw [if_neg (by omega)]
              have hok : cs[o + k]? = some v := by
               unfold rdc at hold'
               rw [hl] at hold'
               simp only at hold'
               split at hold'
               ·obtain rfl := Option.some.inj hold'
                rw [List.getElem?_take, List.getElem?_drop] at hk
                split at hk
                ·exact hk
                ·cases hk
               ·cases hold'
              obtain ⟨h1, cv, h2, h3⟩ := hcc _ v hok
              exact ⟨h1, cv, by rw [← h2]; congr 1; omega, h3.mono hle⟩
             ·rename_i hkl
              obtain ⟨c', hc', hr'⟩ := hvs.get hk
              have hkn : k - old.length < new.length := by
               rcases Nat.lt_or_ge (k - old.length) new.length with h | h
               ·exact h
               ·simp [List.getElem?_eq_none h] at hk
              simp only
              rw [if_pos (by simp only [Array.length_toList]; omega)]
              refine ⟨List.all_eq_true.1 hone _ (List.mem_of_getElem? hk), c', ?_, hr'.mono hle⟩
              rw [← hc']; congr 1; omega
            ·rw [wrc_size, hsz, List.length_append, holdl, hc2]
             simp only
             rw [Nat.mul_sub_right_distrib]
             omega
            ·simp only at hk hk' ⊢
             rw [wrc_size] at hk'
             rw [List.length_append, holdl, hc2] at hk
             rw [wrc_get _ _ _ _ (by simp only [Array.length_toList]; omega), if_neg (by simp only [Array.length_toList]; omega)]
             rcases Nat.lt_or_ge k (i.d + cs.length) with hkc | hkc
             ·obtain ⟨h1, cv, h2, h3⟩ := hcc (k - i.d) _ (List.getElem?_eq_getElem (show k - i.d < cs.length by omega))
              exact ⟨_, cv, h1, by rw [← h2]; congr 1; omega, h3.mono hle⟩
             ·obtain ⟨v, cv, h1, h2, h3⟩ := (hgz hg0).2 k hkc hk'
              exact ⟨v, cv, h1, h2, h3.mono hle⟩
           obtain ⟨g1, g2⟩ := hr.take hl rfl rfl hi (i' := ⟨i.b, i.d + o, cap + i.x - (len + n)⟩) rfl hw' hO' hev
           refine ⟨_, w', _, append_room hT hu hux hzeros hs hlx hc hroom' ty (by simp only [add_addr]; exact hrun), ?_, g2, g1⟩
           simp only [VRel]
           refine ⟨_, updG_same _ _ _, ?_⟩
           simp only [Bool.false_eq_true, if_false, Nat.add_zero]
           rw [show len + n + (cap + i.x - (len + n)) = cap + i.x by omega]
          ·obtain ⟨k1, k2⟩ := hr.kill l
           refine grow (cap + i.x) _ old (s.kill l) ?_ rfl k1 k2 hd0 hold hroom'
           intro l' o' hl'
           rw [AS.kill_h] at hl'
           split at hl'
           ·cases hl'
           ·exact hl'
         ·cases h
        ·cases h
   ·cases h
 ·cases h
end
end Go.Am
end

section
namespace Go.Am
theorem ERels.iff_get {γ : Gam} : ∀ {es : List (AV × AV × Nat)} {cs : List MapEntry}, ERels γ es cs ↔ es.length = cs.length ∧ ∀ (i : Nat) k v n c, es[i]? = some (k, v, n) → cs[i]? = some c → VRel γ k c.key ∧ VRel γ v c.val ∧ c.born = n
 | [], cs => by
  constructor
  ·intro h; obtain rfl : cs = [] := h; simp
  ·intro ⟨h, _⟩; simp at h; exact List.length_eq_zero_iff.1 h.symm
 | (k, v, n) :: es, cs => by
  constructor
  ·intro h
   obtain ⟨d, ds, rfl, h1, h2, h3, hs⟩ := h
   obtain ⟨hl, hg⟩ := ERels.iff_get.1 hs
   refine ⟨by simp [hl], fun i a b m c ha hb => ?_⟩
   cases i with
   | zero => simp at ha hb; obtain ⟨rfl, rfl, rfl⟩ := ha; subst hb; exact ⟨h1, h2, h3⟩
   | succ i => simp at ha hb; exact hg i a b m c ha hb
  ·intro ⟨hl, hg⟩
   cases cs with
   | nil => simp at hl
   | cons d ds =>
    obtain ⟨h1, h2, h3⟩ := hg 0 k v n d rfl rfl
    exact ⟨d, ds, rfl, h1, h2, h3, ERels.iff_get.2 ⟨by simpa using hl, fun i a b m c ha hb => hg (i + 1) a b m c (by simpa using ha) (by simpa using hb)⟩⟩
theorem ERels.length {γ : Gam} {es : List (AV × AV × Nat)} {cs : List MapEntry} (h : ERels γ es cs) : es.length = cs.length := (ERels.iff_get.1 h).1
theorem ERels.append {γ : Gam} : ∀ {es fs : List (AV × AV × Nat)} {cs ds : List MapEntry}, ERels γ es cs → ERels γ fs ds → ERels γ (es ++ fs) (cs ++ ds)
 | [], fs, cs, ds, h, h' => by obtain rfl : cs = [] := h; exact h'
 | (k, v, n) :: es, fs, cs, ds, h, h' => by
  obtain ⟨d, es', rfl, h1, h2, h3, hs⟩ := h
  exact ⟨d, es' ++ ds, rfl, h1, h2, h3, ERels.append hs h'⟩
theorem ERels.set {γ : Gam} {es : List (AV × AV × Nat)} {cs : List MapEntry} (h : ERels γ es cs) (i : Nat) {k v : AV} {n : Nat} {e : MapEntry} (hk : VRel γ k e.key) (hv : VRel γ v e.val) (hn : e.born = n) :
  ERels γ (es.set i (k, v, n)) (cs.set i e) := by
 obtain ⟨hl, hg⟩ := ERels.iff_get.1 h
 refine ERels.iff_get.2 ⟨by simp [hl], fun j a b m c ha hb => ?_⟩
 rw [List.getElem?_set] at ha hb
 by_cases hj : i = j
 ·subst hj; simp at ha hb; obtain ⟨_, rfl, rfl, rfl⟩ := ha; obtain ⟨_, rfl⟩ := hb; exact ⟨hk, hv, hn⟩
 ·simp [hj] at ha hb; exact hg j a b m c ha hb
theorem ERels.erase {γ : Gam} : ∀ {es : List (AV × AV × Nat)} {cs : List MapEntry}, ERels γ es cs → ∀ i, ERels γ (es.eraseIdx i) (cs.eraseIdx i)
 | [], cs, h, i => by obtain rfl : cs = [] := h; simp [ERels]
 | (k, v, n) :: es, cs, h, i => by
  obtain ⟨d, ds, rfl, h1, h2, h3, hs⟩ := h
  cases i with
  | zero => simpa using hs
  | succ i => simp only [List.eraseIdx_cons_succ]; exact ⟨d, _, rfl, h1, h2, h3, ERels.erase hs i⟩
theorem ERels.get {γ : Gam} {es : List (AV × AV × Nat)} {cs : List MapEntry} (h : ERels γ es cs) {i : Nat} {k v : AV} {n : Nat} (he : es[i]? = some (k, v, n)) : ∃ c, cs[i]? = some c ∧ VRel γ k c.key ∧ VRel γ v c.val ∧ c.born = n := by
 obtain ⟨hl, hg⟩ := ERels.iff_get.1 h
 have hi : i < es.length := by
  rcases Nat.lt_or_ge i es.length with h | h
  ·exact h
  ·simp [List.getElem?_eq_none h] at he
 have hc := List.getElem?_eq_getElem (show i < cs.length by omega)
 exact ⟨_, hc, hg i k v n _ he hc⟩
theorem ba_eq' (a b : List UInt8) : ((⟨a.toArray⟩ : ByteArray) == ⟨b.toArray⟩) = (a == b) := by show (a.toArray == b.toArray) = (a == b); rw [Bool.eq_iff_iff]; simp
def FRes (γ : Gam) (r : Option (Nat × AV)) (cr : Option (Nat × Value)) : Prop :=
 match r with
 | none => cr = none
 | some (j, v) => ∃ cv, cr = some (j, cv) ∧ VRel γ v cv
theorem abits_run {γ : Gam} : ∀ (n : Nat) (x y : AV), abits n x y = true → ∀ cx cy, VRel γ x cx → VRel γ y cy → ∀ N, n ≤ N → Instr.sameBits N cx cy = true := by
 intro n
 induction n with
 | zero =>
  intro x y h cx cy hx hy N _
  cases x <;> cases y <;> simp only [abits] at h <;> (first | (cases h; done) | (simp only [VRel] at hx hy; subst hx hy))
  ·cases N <;> simpa [Instr.sameBits] using h
  ·cases N <;> simpa [Instr.sameBits] using h
  ·rename_i a b
   have : ((ByteArray.mk a.toArray) == ⟨b.toArray⟩) = true := by rw [ba_eq']; exact h
   cases N <;> simpa [Instr.sameBits] using this
 | succ n ih =>
  intro x y h cx cy hx hy N hN
  obtain ⟨N, rfl⟩ : ∃ N', N = N' + 1 := ⟨N - 1, by omega⟩
  cases x <;> cases y <;> simp only [abits] at h <;> (first | (cases h; done) | skip)
  ·simp only [VRel] at hx hy; subst hx hy; simpa [Instr.sameBits] using h
  ·simp only [VRel] at hx hy; subst hx hy; simpa [Instr.sameBits] using h
  ·rename_i a b
   simp only [VRel] at hx hy; subst hx hy
   have : ((ByteArray.mk a.toArray) == ⟨b.toArray⟩) = true := by rw [ba_eq']; exact h
   simpa [Instr.sameBits] using this
  ·rename_i a b
   simp only [VRel] at hx hy
   obtain ⟨ca, rfl, ha⟩ := hx
   obtain ⟨cb, rfl, hb⟩ := hy
   have key : ∀ (a b : List AV) (ca cb : List Value), bitsL (abits n) a b = true → VRels γ a ca → VRels γ b cb → ca.length = cb.length ∧ ((ca.zip cb).all fun p => Instr.sameBits N p.1 p.2) = true := by
    intro a
    induction a with
    | nil =>
     intro b ca cb h1 h2 h3
     cases b with
     | nil => obtain rfl := VRels.nil_iff.1 h2; obtain rfl := VRels.nil_iff.1 h3; simp
     | cons _ _ => simp [bitsL] at h1
    | cons x xs ihx =>
     intro b ca cb h1 h2 h3
     cases b with
     | nil => simp [bitsL] at h1
     | cons y ys =>
      simp only [bitsL, Bool.and_eq_true] at h1
      obtain ⟨d, ds, rfl, hd, hds⟩ := VRels.cons_iff.1 h2
      obtain ⟨f, fs, rfl, hf, hfs⟩ := VRels.cons_iff.1 h3
      obtain ⟨g1, g2⟩ := ihx ys ds fs h1.2 hds hfs
      have := ih x y h1.1 d f hd hf N (by omega)
      exact ⟨by simp [g1], by simp only [List.zip_cons_cons, List.all_cons, this, g2, Bool.and_self]⟩
   obtain ⟨g1, g2⟩ := key a b _ _ h ha hb
   have g1' : ca.size = cb.size := by simpa using g1
   simp only [Instr.sameBits, Bool.and_eq_true, beq_iff_eq]
   exact ⟨g1', g2⟩
section
variable {P : Program} {T : TT} (hT : TT.Ok P T) {γ : Gam} {w : World}
include hT
theorem akeyOk_run (empty : Bool) : ∀ (d : Nat) (t : TypeId) (v : AV), akeyOk T d t v = true → ∀ cv, VRel γ v cv → ∀ D, d ≤ D → (Instr.checkKey empty D t cv).run P w = .ok () w := by
 intro d
 induction d with
 | zero => intro t v h; simp [akeyOk] at h
 | succ d ih =>
  intro t v h cv hv D hD
  obtain ⟨D, rfl⟩ : ∃ D', D = D' + 1 := ⟨D - 1, by omega⟩
  unfold akeyOk at h
  cases hu : T.und t with
  | none => simp [hu] at h
  | some td =>
   simp only [hu] at h
   simp only [Instr.checkKey, Sem.run_bind, run_underlying hT hu, Result.andThen_ok]
   cases td with
   | interface ms => cases v <;> simp at h
   | array len elem =>
    cases v <;> simp only at h <;> first | (cases h; done) | skip
    rename_i cs
    simp only [VRel] at hv; obtain ⟨ccs, rfl, hcs⟩ := hv
    cases hs : T.siz elem with
    | none => simp [hs] at h
    | some n =>
     simp only [hs] at h
     simp only [Std.Legacy.Range.forIn_eq_forIn_range', Std.Legacy.Range.size, Nat.sub_zero, Nat.add_one_sub_one, Nat.div_one]
     generalize 0 = i0 at h ⊢
     clear hu
     induction len generalizing i0 with
     | zero => simp
     | succ len ihl =>
      simp only [keyElems, Bool.and_eq_true] at h
      obtain ⟨h1, h2⟩ := h
      cases ha : part T elem cs (i0 * n) with
      | none => simp [ha] at h1
      | some a =>
       simp only [ha] at h1
       obtain ⟨ca, hca, hra⟩ := run_part hT hcs ha w
       have hrun := ih _ _ h1 _ hra D (by omega)
       have := ihl _ h2
       simp only [List.range'_succ, List.forIn_cons, Sem.run_bind, run_sizeOf hT hs, hca, hrun, Result.andThen_ok, Sem.run_pure] at this ⊢
       simpa using this
   | struct fields =>
    cases v <;> simp only at h <;> first | (cases h; done) | skip
    rename_i cs
    simp only [VRel] at hv; obtain ⟨ccs, rfl, hcs⟩ := hv
    simp only [← Array.forIn_toList]
    clear hu
    generalize fields.toList = fs at h ⊢
    induction fs with
    | nil => simp
    | cons f fs ihf =>
     simp only [keyFields, Bool.and_eq_true] at h
     obtain ⟨h1, h2⟩ := h
     have := ihf h2
     by_cases hn : f.name ≠ "_"
     ·simp only [if_pos hn] at h1
      cases ha : part T f.type cs f.offset with
      | none => simp [ha] at h1
      | some a =>
       simp only [ha] at h1
       obtain ⟨ca, hca, hra⟩ := run_part hT hcs ha w
       have hrun := ih _ _ h1 _ hra D (by omega)
       simp only [List.forIn_cons, Sem.run_bind, if_pos hn, hca, hrun, Result.andThen_ok, Sem.run_pure] at this ⊢
       simpa using this
     ·simp only [List.forIn_cons, Sem.run_bind, if_neg hn, Result.andThen_ok, Sem.run_pure] at this ⊢
      simpa using this
   | _ => rfl
theorem afind_run {kt : TypeId} {k : AV} {ck : Value} (hk : VRel γ k ck) : ∀ (es : List (AV × AV × Nat)) (cs : List MapEntry) (i : Nat) (r : Option (Nat × AV)), ERels γ es cs → afind T kt k es i = some r →
  ∃ cr, (Instr.findAsking kt ck cs i).run P w = .ok cr w ∧ FRes γ r cr ∧ (∀ j v, r = some (j, v) → i ≤ j ∧ ∃ k' n, es[j - i]? = some (k', v, n)) := by
 intro es
 induction es with
 | nil =>
  intro cs i r h hf
  obtain rfl : cs = [] := h
  simp only [afind] at hf; obtain rfl := Option.some.inj hf
  exact ⟨none, rfl, rfl, by simp⟩
 | cons e es ih =>
  obtain ⟨k', v, n⟩ := e
  intro cs i r h hf
  obtain ⟨c, cs', rfl, h1, h2, h3, hs⟩ := h
  simp only [afind] at hf
  split at hf
  ·rename_i hq
   obtain rfl := Option.some.inj hf
   have := aeq_run hT w _ _ _ _ _ hq _ _ hk h1 Op.maxDepth (by decide)
   refine ⟨some (i, c.val), by simp [Instr.findAsking, Op.equal, this], ⟨_, rfl, h2⟩, ?_⟩
   intro j v' e
   obtain ⟨rfl, rfl⟩ : _ ∧ _ := by simpa using e
   exact ⟨Nat.le_refl _, k', n, by simp⟩
  ·rename_i hq
   have hrun := aeq_run hT w _ _ _ _ _ hq _ _ hk h1 Op.maxDepth (by decide)
   obtain ⟨cr, hcr, hrel, hidx⟩ := ih cs' (i + 1) r hs hf
   refine ⟨cr, by simp [Instr.findAsking, Op.equal, hrun, hcr], hrel, ?_⟩
   intro j v' e
   obtain ⟨hle, k2, n2, hg⟩ := hidx j v' e
   refine ⟨by omega, k2, n2, ?_⟩
   rw [show j - i = (j - (i + 1)) + 1 by omega]; simpa using hg
  ·cases hf
theorem findNow_run {kt : TypeId} {td : TypeDesc} (hu : T.und kt = some td) (ck : Value) : ∀ (cs : List MapEntry) (i : Nat) (r : Option (Nat × Value)), Instr.findNow td ck cs i = some r → (Instr.findAsking kt ck cs i).run P w = .ok r w
 | [], i, r, h => by simp only [Instr.findNow] at h; obtain rfl := Option.some.inj h; rfl
 | c :: cs, i, r, h => by
  simp only [Instr.findNow] at h
  have hs : ∀ b, Instr.sameNow td ck c.key = some b → (Op.equal kt ck c.key).run P w = .ok b w := by
   intro b hb
   unfold Instr.sameNow at hb
   obtain ⟨D, hD⟩ : ∃ D, Op.maxDepth = D + 1 := ⟨9999, rfl⟩
   rw [Op.equal, hD]
   split at hb
   ·split at hb
    ·rename_i k a k' b' _ _ hk
     obtain rfl := Option.some.inj hb
     simp only [Op.equalIn, Sem.run_bind, run_underlying hT hu, Result.andThen_ok, *]
     simp
    ·cases hb
   ·obtain rfl := Option.some.inj hb
    simp only [Op.equalIn, Sem.run_bind, run_underlying hT hu, Result.andThen_ok, *]
    rfl
   ·obtain rfl := Option.some.inj hb
    simp only [Op.equalIn, Sem.run_bind, run_underlying hT hu, Result.andThen_ok, *]
    rfl
   ·cases hb
  split at h
  ·rename_i hq
   obtain rfl := Option.some.inj h
   simp [Instr.findAsking, hs true hq]
  ·rename_i hq
   simp [Instr.findAsking, hs false hq, findNow_run hu ck cs (i + 1) r h]
  ·cases h
theorem findKey_run {kt : TypeId} {td : TypeDesc} (hu : T.und kt = some td) {k : AV} {ck : Value} (hk : VRel γ k ck) {es : List (AV × AV × Nat)} {cs : List MapEntry} {r : Option (Nat × AV)} (h : ERels γ es cs) (hf : afind T kt k es 0 = some r) :
  ∃ cr, (Instr.findKey kt ck cs).run P w = .ok cr w ∧ FRes γ r cr ∧ (∀ j v, r = some (j, v) → ∃ k' n, es[j]? = some (k', v, n)) := by
 obtain ⟨cr, h1, h2, h3⟩ := afind_run hT (w := w) hk es cs 0 r h hf
 refine ⟨cr, ?_, h2, fun j v e => by obtain ⟨_, k', n, hg⟩ := h3 j v e; exact ⟨k', n, by simpa using hg⟩⟩
 simp only [Instr.findKey, Sem.run_bind, run_underlying hT hu, Result.andThen_ok]
 cases hq : Instr.findNow td ck cs 0 with
 | none => exact h1
 | some r' =>
  have := findNow_run hT (w := w) hu ck cs 0 r' hq
  rw [h1] at this
  cases this
  rfl
theorem alookup_run {B : Nat} {s : AS} (hr : Rel B γ s w) {t : TypeId} {m k v : AV} {cm ck : Value} {ok : Bool} (hm : VRel γ m cm) (hk : VRel γ k ck) (h : alookup T t m k ok s = some v) :
  ∃ c, (Instr.lookup t cm ck ok).run P w = .ok c w ∧ VRel γ v c := by
 unfold alookup at h
 split at h
 ·rename_i kt et r hu
  split at h
  ·rename_i hok
   simp only [Option.bind_eq_some_iff, Option.map_eq_some_iff] at h
   obtain ⟨es, hes, fr, hfr, ⟨u, b⟩, hub, rfl⟩ := h
   obtain ⟨td, hutd⟩ : ∃ td, T.und kt = some td := by
    unfold akeyOk at hok
    cases hq : T.und kt with
    | none => simp [hq] at hok
    | some td => exact ⟨td, rfl⟩
   have main : ∀ (ces : Array MapEntry), ERels γ es ces.toList → ((cm = .map none ∧ ces = #[]) ∨ ∃ b clk, cm = .map (some b) ∧ w.heap[b]? = some (.map ces clk)) →
     ∃ c, (Instr.lookup t cm ck ok).run P w = .ok c w ∧ VRel γ (if ok then .tup [u, .bool b] else u) c := by
    intro ces hce hform
    obtain ⟨cr, hcr, hrel, _⟩ := findKey_run hT (w := w) hutd hk hce hfr
    have hkey := akeyOk_run hT (w := w) ces.isEmpty 100 kt k hok ck hk 10000 (by decide)
    have hres : (∃ cu, cr = none ∧ b = false ∧ (zeroValue et).run P w = .ok cu w ∧ VRel γ u cu) ∨ (∃ j cu, cr = some (j, cu) ∧ b = true ∧ VRel γ u cu) := by
     cases fr with
     | none =>
      obtain rfl : cr = none := hrel
      simp only [Option.map_eq_some_iff] at hub
      obtain ⟨z, hz, e⟩ := hub
      obtain ⟨rfl, rfl⟩ : _ ∧ _ := by simpa using e
      obtain ⟨cz, hcz, hvz⟩ := run_zeroValue hT hz w
      exact .inl ⟨cz, rfl, rfl, hcz, hvz γ⟩
     | some jv =>
      obtain ⟨j, v'⟩ := jv
      obtain ⟨cv, rfl, hcv⟩ := hrel
      obtain ⟨rfl, rfl⟩ : _ ∧ _ := by simpa using hub
      exact .inr ⟨j, cv, rfl, rfl, hcv⟩
    have fin : ∀ cu, VRel γ u cu → VRel γ (if ok then .tup [u, .bool b] else u) (if ok then .tuple #[cu, .bool b] else cu) := by
     intro cu hru
     cases ok
     ·exact hru
     ·simp only [if_true, VRel]
      exact ⟨_, rfl, VRels.cons hru (VRels.cons (by simp [VRel]) VRels.nil)⟩
    rcases hform with ⟨rfl, rfl⟩ | ⟨bk, clk, rfl, hb⟩
    ·have hkey' : (Instr.checkKey true 10000 kt ck).run P w = .ok () w := hkey
     have hcr' : (Instr.findKey kt ck []).run P w = .ok cr w := hcr
     rcases hres with ⟨cu, rfl, rfl, hz, hru⟩ | ⟨j, cu, rfl, rfl, hru⟩
     ·exact ⟨_, by simp [Instr.lookup, run_underlying hT hu, hkey', hcr', hz], fin cu hru⟩
     ·exact ⟨_, by simp [Instr.lookup, run_underlying hT hu, hkey', hcr'], fin cu hru⟩
    ·have hg : (getObj bk).run P w = .ok (.map ces clk) w := by simp [getObj, Sem.run, hb]
     rcases hres with ⟨cu, rfl, rfl, hz, hru⟩ | ⟨j, cu, rfl, rfl, hru⟩
     ·exact ⟨_, by simp [Instr.lookup, run_underlying hT hu, hg, hkey, hcr, hz], fin cu hru⟩
     ·exact ⟨_, by simp [Instr.lookup, run_underlying hT hu, hg, hkey, hcr], fin cu hru⟩
   cases r with
   | none =>
    simp only [VRel] at hm; subst hm
    obtain rfl := Option.some.inj hes
    exact main #[] rfl (.inl ⟨rfl, rfl⟩)
   | some l =>
    simp only [VRel] at hm
    obtain ⟨i, hi, rfl⟩ := hm
    simp only at hes
    split at hes
    ·rename_i es' clk ro hl
     obtain rfl := Option.some.inj hes
     obtain ⟨j, hj, ⟨ces, hb, hce⟩, _⟩ := hr.obj l _ hl
     rw [hi] at hj; obtain rfl := Option.some.inj hj
     exact main ces hce (.inr ⟨_, _, rfl, hb⟩)
    ·cases hes
  ·cases h
 ·cases h
theorem run_setObj {b : Nat} {ces : Array MapEntry} {clk : Nat} {o : Obj} (hb : w.heap[b]? = some (.map ces clk)) : (setObj b o).run P w = .ok () { w with heap := w.heap.setIfInBounds b o } := by
 simp [setObj, Sem.run, hb]
theorem map_write {B : Nat} {s : AS} (hr : Rel B γ s w) {l : Nat} {es es' : List (AV × AV × Nat)} {clk clk' : Nat} {i : CI} {ces' : Array MapEntry} (hl : s.h l = some (.map es clk false)) (hi : γ l = some i) (he : ERels γ es' ces'.toList) :
  Did B γ s w γ (s.put l (.map es' clk' false)) { w with heap := w.heap.setIfInBounds i.b (.map ces' clk') } ∧ Rel B γ (s.put l (.map es' clk' false)) { w with heap := w.heap.setIfInBounds i.b (.map ces' clk') } := by
 obtain ⟨j, hj, hO, _⟩ := hr.obj l _ hl
 rw [hi] at hj; obtain rfl := Option.some.inj hj
 have hlt := hO.lt
 obtain ⟨h1, h2⟩ := hr.write (w' := { w with heap := w.heap.setIfInBounds i.b (.map ces' clk') }) hl rfl (o' := .map es' clk' false) rfl hi rfl ⟨ces', by simp [hlt], he⟩
 exact ⟨h2, h1⟩
theorem amapUpdate_run {B : Nat} {s s' : AS} (hr : Rel B γ s w) {t : TypeId} {m k v : AV} {cm ck cv : Value} (hm : VRel γ m cm) (hk : VRel γ k ck) (hv : VRel γ v cv) (h : amapUpdate T t m k v s = some s') :
  SimU P B γ s w (Instr.mapUpdate t cm ck cv) s' := by
 unfold amapUpdate at h
 split at h
 ·rename_i kt et l hu
  simp only [VRel] at hm
  obtain ⟨i, hi, rfl⟩ := hm
  split at h
  ·rename_i es clk hl
   obtain ⟨j, hj, ⟨ces, hb, hce⟩, _⟩ := hr.obj l _ hl
   rw [hi] at hj; obtain rfl := Option.some.inj hj
   split at h
   ·rename_i hok
    simp only [Option.bind_eq_some_iff] at h
    obtain ⟨fr, hfr, h⟩ := h
    obtain ⟨td, hutd⟩ : ∃ td, T.und kt = some td := by
     unfold akeyOk at hok
     cases hq : T.und kt with
     | none => simp [hq] at hok
     | some td => exact ⟨td, rfl⟩
    obtain ⟨cr, hcr, hrel, hidx⟩ := findKey_run hT (w := w) hutd hk hce hfr
    have hkey := akeyOk_run hT (w := w) false 100 kt k hok ck hk 10000 (by decide)
    have hg : (getObj i.b).run P w = .ok (.map ces clk) w := by simp [getObj, Sem.run, hb]
    cases fr with
    | none =>
     obtain rfl : cr = none := hrel
     simp only at h
     obtain rfl := Option.some.inj h
     obtain ⟨g1, g2⟩ := map_write hT hr (clk' := clk + 1) (es' := es ++ [(k, v, clk)]) (ces' := ces.push { key := ck, val := cv, born := clk }) hl hi (by rw [Array.toList_push]; exact hce.append ⟨_, _, rfl, hk, hv, rfl, rfl⟩)
     exact ⟨γ, _, by simp [Instr.mapUpdate, run_underlying hT hu, hg, hkey, hcr, run_setObj hT hb], g1, g2⟩
    | some jv =>
     obtain ⟨j, v'⟩ := jv
     obtain ⟨cv', rfl, hcv'⟩ := hrel
     obtain ⟨k', n, hgj⟩ := hidx j v' rfl
     simp only [hgj] at h
     split at h
     ·rename_i hbits
      obtain rfl := Option.some.inj h
      obtain ⟨c, hc, hc1, hc2, hc3⟩ := hce.get hgj
      have hc' : ces[j]? = some c := by simpa using hc
      have hsame := abits_run 100 k' k hbits _ _ hc1 hk 10000 (by decide)
      have hstay : (Instr.keyThatStays (((ces[j]?).map (·.key)).getD ck) ck).run P w = .ok ck w := by
       rw [hc']; simp only [Option.map_some, Option.getD_some, Instr.keyThatStays, hsame, if_true]; rfl
      have hmod : (ces.modify j fun e => { e with key := ck, val := cv }).toList = ces.toList.set j { key := ck, val := cv, born := c.born } := by
       apply List.ext_getElem?
       intro q
       rw [Array.getElem?_toList, Array.getElem?_modify, List.getElem?_set]
       have hjl : j < ces.toList.length := by
        rcases Nat.lt_or_ge j ces.toList.length with h | h
        ·exact h
        ·simp [List.getElem?_eq_none h] at hc
       by_cases hjq : j = q
       ·subst hjq; simp only [if_true, if_pos hjl, hc', Option.map_some]
       ·simp only [if_neg hjq]; simp
      obtain ⟨g1, g2⟩ := map_write hT hr (clk' := clk) (es' := es.set j (k, v, n)) (ces' := ces.modify j fun e => { e with key := ck, val := cv }) hl hi (by rw [hmod]; exact hce.set j hk hv hc3)
      exact ⟨γ, _, by simp [Instr.mapUpdate, run_underlying hT hu, hg, hkey, hcr, hstay, run_setObj hT hb], g1, g2⟩
     ·cases h
   ·cases h
  ·cases h
 ·cases h
theorem adelete_run {B : Nat} {s s' : AS} (hr : Rel B γ s w) {t xt : TypeId} {m k : AV} {cm ck : Value} (hm : VRel γ m cm) (hk : VRel γ k ck) (h : adelete T t m k s = some s') (ty : TypeId) :
  ∃ γ' w', (Builtin.delete_ #[t, xt] ty #[cm, ck]).run P w = .ok undef w' ∧ Did B γ s w γ' s' w' ∧ Rel B γ' s' w' := by
 unfold adelete at h
 split at h
 ·rename_i kt et r hu
  split at h
  ·rename_i hok
   obtain ⟨td, hutd⟩ : ∃ td, T.und kt = some td := by
    unfold akeyOk at hok
    cases hq : T.und kt with
    | none => simp [hq] at hok
    | some td => exact ⟨td, rfl⟩
   cases r with
   | none =>
    simp only [VRel] at hm; subst hm
    obtain rfl := Option.some.inj h
    have hkey := akeyOk_run hT (w := w) true 100 kt k hok ck hk 10000 (by decide)
    exact ⟨γ, w, by simp [Builtin.delete_, run_underlying hT hu, hkey]; rfl, Did.refl, hr⟩
   | some l =>
    simp only [VRel] at hm
    obtain ⟨i, hi, rfl⟩ := hm
    simp only at h
    split at h
    ·rename_i es clk hl
     obtain ⟨j, hj, ⟨ces, hb, hce⟩, _⟩ := hr.obj l _ hl
     rw [hi] at hj; obtain rfl := Option.some.inj hj
     simp only [Option.map_eq_some_iff] at h
     obtain ⟨fr, hfr, rfl⟩ := h
     obtain ⟨cr, hcr, hrel, hidx⟩ := findKey_run hT (w := w) hutd hk hce hfr
     have hkey := akeyOk_run hT (w := w) ces.isEmpty 100 kt k hok ck hk 10000 (by decide)
     have hg : (getObj i.b).run P w = .ok (.map ces clk) w := by simp [getObj, Sem.run, hb]
     cases fr with
     | none =>
      obtain rfl : cr = none := hrel
      obtain ⟨g1, g2⟩ := map_write hT hr (clk' := clk) (es' := es) (ces' := ces) hl hi hce
      exact ⟨γ, _, by simp [Builtin.delete_, run_underlying hT hu, hg, hkey, hcr, run_setObj hT hb]; rfl, g1, g2⟩
     | some jv =>
      obtain ⟨j, v'⟩ := jv
      obtain ⟨cv', rfl, hcv'⟩ := hrel
      have he : (ces.eraseIdxIfInBounds j).toList = ces.toList.eraseIdx j := by simp
      obtain ⟨g1, g2⟩ := map_write hT hr (clk' := clk) (es' := es.eraseIdx j) (ces' := ces.eraseIdxIfInBounds j) hl hi (by rw [he]; exact hce.erase j)
      exact ⟨γ, _, by simp [Builtin.delete_, run_underlying hT hu, hg, hkey, hcr, run_setObj hT hb]; rfl, g1, g2⟩
    ·cases h
  ·cases h
 ·cases h
end
end Go.Am
end

section
namespace Go.Am
theorem run_bytes_loop {P : Program} {γ : Gam} {w : World} {f : Value → ByteArray → Sem (ForInStep ByteArray)} (hf : ∀ n s, f (.int .u8 n) s = pure (ForInStep.yield (s.push (UInt8.ofNat n.toNat)))) :
  ∀ (cs : List AV) (ccs : List Value) (bs : List UInt8) (acc : ByteArray), VRels γ cs ccs → abytes cs = some bs → (forIn ccs acc f).run P w = .ok ⟨(acc.data.toList ++ bs).toArray⟩ w
 | [], ccs, bs, acc, h, hb => by
  obtain rfl := VRels.nil_iff.1 h
  simp only [abytes] at hb; obtain rfl := Option.some.inj hb
  simp
 | c :: cs, ccs, bs, acc, h, hb => by
  obtain ⟨d, ds, rfl, hd, hs⟩ := VRels.cons_iff.1 h
  unfold abytes at hb
  split at hb
  ·cases ‹_ :: _ = []›
  ·rename_i b cs' e
   obtain ⟨rfl, rfl⟩ : _ ∧ _ := by simpa using e
   simp only [Option.map_eq_some_iff] at hb
   obtain ⟨l, hl, rfl⟩ := hb
   simp only [VRel] at hd; subst hd
   have := run_bytes_loop (P := P) (w := w) hf cs ds l (acc.push (UInt8.ofNat b.toNat)) hs hl
   simp only [List.forIn_cons, hf, Sem.run_bind, Sem.run_pure, Result.andThen_ok]
   rw [this]
   simp [ByteArray.push]
  ·cases hb
theorem run_markStringish {P : Program} {w w1 : World} {c : Array Value} {e : TypeId} (h1 : w1.heap = w.heap.push (.cells c e)) :
  (markStringish ⟨w.heap.size, 0, none⟩).run P w1 = .ok () { w1 with heap := w.heap.push (.cells c e (c.size, c.size + 1)) } := by
 have hg : w1.heap[w.heap.size]? = some (.cells c e) := by rw [h1]; simp
 simp only [markStringish, Sem.run_bind, run_shape, World.shape?, hg, Result.andThen_ok, run_freeze]
 congr 1
 simp only [World.freeze, Nat.one_ne_zero, if_false]
 congr 1
 apply Array.ext_getElem?
 intro i
 rw [Array.getElem?_modify, h1, Array.getElem?_push, Array.getElem?_push]
 by_cases hi : w.heap.size = i
 ·subst hi; simp
 ·rw [if_neg hi, if_neg (fun e => hi e.symm), if_neg (fun e => hi e.symm)]
section
variable {P : Program} {T : TT} (hT : TT.Ok P T) {B : Nat} {γ : Gam} {s : AS} {w : World} (hr : Rel B γ s w)
include hT hr
theorem aconvert_run {src dst : TypeId} {x v : AV} {cx : Value} {s' : AS} (hx : VRel γ x cx) (h : aconvert T src dst x s = some (v, s')) : Sim P B γ s w (convert src dst cx) v s' := by
 unfold aconvert at h
 split at h
 ·rename_i sd k k' n hus hud
  obtain ⟨rfl, rfl⟩ : _ ∧ _ := by simpa using h
  simp only [VRel] at hx; subst hx
  refine Sim.val hr (cv := .int k (k.wrap n)) ?_ (by simp [VRel])
  simp only [convert, Sem.run_bind, run_underlying hT hus, run_underlying hT hud, Result.andThen_ok, Conv.intToInt]
  cases sd <;> rfl
 ·rename_i sd b hus hud
  obtain ⟨rfl, rfl⟩ : _ ∧ _ := by simpa using h
  have hx0 := hx
  simp only [VRel] at hx; subst hx
  refine Sim.val hr (cv := .string ⟨b.toArray⟩) ?_ hx0
  simp only [convert, Sem.run_bind, run_underlying hT hus, run_underlying hT hud, Result.andThen_ok]
  cases sd <;> rfl
 ·rename_i sd e b hus hud
  simp only [VRel] at hx; subst hx
  split at h
  ·rename_i he
   obtain ⟨rfl, rfl⟩ : _ ∧ _ := by simpa using h
   let q : Question := .appendCap (ByteArray.mk b.toArray).size 0 e
   let cap := q.cut (w.tape w.drawn q)
   have hcap : b.length ≤ cap := by
    have : (ByteArray.mk b.toArray).size = b.length := by simp [ByteArray.size]
    show b.length ≤ (ByteArray.mk b.toArray).size + _
    omega
   let c0 : Array Value := (b.toArray.map fun x => Value.int .u8 x.toNat) ++ Array.replicate (cap - b.length) (.int .u8 0)
   have hc0 : ∀ (k : Nat) (v : AV), (b.map fun c => AV.int .u8 c.toNat)[k]? = some v → v.one = true ∧ ∃ cv, c0[k]? = some cv ∧ VRel γ v cv := by
    intro k v hk
    simp only [List.getElem?_map] at hk
    cases hb : b[k]? with
    | none => simp [hb] at hk
    | some u =>
     simp only [hb, Option.map_some] at hk
     obtain rfl := Option.some.inj hk
     refine ⟨rfl, .int .u8 u.toNat, ?_, by simp [VRel]⟩
     have hlt : k < b.length := by
      rcases Nat.lt_or_ge k b.length with h | h
      ·exact h
      ·simp [List.getElem?_eq_none h] at hb
     have hkb : b[k] = u := by simpa [List.getElem?_eq_getElem hlt] using hb
     show ((b.toArray.map fun x => Value.int .u8 x.toNat) ++ Array.replicate (cap - b.length) (.int .u8 0))[k]? = _
     rw [Array.getElem?_append_left (by simpa using hlt)]
     simp [hlt, hkb]
   have hsz : c0.size = b.length + (cap - b.length) := by simp [c0]
   have hct : ∀ k, (b.map fun x => AV.int .u8 x.toNat).length ≤ k → k < c0.size → ∃ v cv, v.one = true ∧ c0[k]? = some cv ∧ VRel γ v cv := by
    intro k hk hk'
    simp only [List.length_map] at hk
    refine ⟨.int .u8 0, .int .u8 0, rfl, ?_, by simp [VRel]⟩
    show ((b.toArray.map fun x => Value.int .u8 x.toNat) ++ Array.replicate (cap - b.length) (.int .u8 0))[k]? = _
    rw [Array.getElem?_append_right (by simpa using hk)]
    rw [Array.getElem?_replicate, if_pos (by simp at hk' ⊢; omega)]
   obtain ⟨g1, g2⟩ := hr.newCells (w' := { w with heap := w.heap.push (.cells c0 e (c0.size, c0.size + 1)), drawn := w.drawn + 1 }) (g := 1) (x := cap - b.length) (e := e) (c := c0) hc0 (fun _ => ⟨by simp [hsz], hct⟩) (c0.size, c0.size + 1) (by intro o ho h; simp at h; omega) (fun h => absurd rfl h) rfl
   refine ⟨_, _, .slice (some ⟨w.heap.size, 0, none⟩) b.length cap, ?_, ?_, g2, g1⟩
   ·have hsz2 : (ByteArray.mk b.toArray).size = b.length := by simp [ByteArray.size]
    have hcv : (convert src dst (.string ⟨b.toArray⟩)).run P w = (Conv.stringToBytes e ⟨b.toArray⟩).run P w := by
     simp only [convert, Sem.run_bind, run_underlying hT hus, run_underlying hT hud, Result.andThen_ok]
     cases sd <;> simp only [Sem.run_bind, run_underlying hT he, Result.andThen_ok]
    rw [hcv]
    have hf : q.forced = false := rfl
    simp only [Conv.stringToBytes, Sem.run_bind, run_choose]
    rw [show (Question.appendCap (ByteArray.mk b.toArray).size 0 e).forced = false from rfl]
    simp only [Bool.false_eq_true, if_false, Result.andThen_ok, run_newRow, Sem.run_bind]
    have hc1 : (Array.map (fun x => Value.int IntKind.u8 ↑(UInt8.toNat x)) (ByteArray.mk b.toArray).data ++ Array.replicate (cap - (ByteArray.mk b.toArray).size) (Value.int IntKind.u8 0)) = c0 := by
     rw [hsz2]
    change ((Sem.run P (markStringish ⟨w.heap.size, 0, none⟩) { w with heap := w.heap.push (.cells (Array.map (fun x => Value.int IntKind.u8 ↑(UInt8.toNat x)) (ByteArray.mk b.toArray).data ++ Array.replicate (cap - (ByteArray.mk b.toArray).size) (Value.int IntKind.u8 0)) e), drawn := w.drawn + 1 }).andThen _) = _
    rw [hc1, run_markStringish (w := w) (c := c0) (e := e) rfl]
    simp only [Result.andThen_ok, Sem.run_pure, hsz2]
    rfl
   ·simp only [VRel]
    exact ⟨_, updG_same _ _ _, by simp; omega⟩
  ·cases h
 ·rename_i e n m ex hus hud
  simp only [VRel] at hx; obtain ⟨rfl, _⟩ := hx
  split at h
  ·rename_i he
   split at h
   ·obtain ⟨rfl, rfl⟩ : _ ∧ _ := by simpa using h
    refine Sim.val hr (cv := .string .empty) ?_ (by simp [VRel]; rfl)
    simp [convert, run_underlying hT hus, run_underlying hT hud, run_underlying hT he, Conv.bytesToString]
   ·cases h
  ·cases h
 ·rename_i e hus hud
  simp only [VRel] at hx; obtain ⟨a, m, rfl⟩ := hx
  split at h
  ·rename_i he
   obtain ⟨rfl, rfl⟩ : _ ∧ _ := by simpa using h
   refine Sim.val hr (cv := .string .empty) ?_ (by simp [VRel]; rfl)
   simp [convert, run_underlying hT hus, run_underlying hT hud, run_underlying hT he, Conv.bytesToString, loadCells, loadCellsFrom]
  ·cases h
 ·rename_i e l o n m ex hus hud
  simp only [VRel] at hx; obtain ⟨i, hi, rfl⟩ := hx
  split at h
  ·rename_i he
   by_cases hn0 : n = 0
   ·rw [if_pos hn0] at h
    subst hn0
    obtain ⟨rfl, rfl⟩ : _ ∧ _ := by simpa using h
    refine Sim.val hr (cv := .string .empty) ?_ (by simp [VRel]; rfl)
    simp [convert, run_underlying hT hus, run_underlying hT hud, run_underlying hT he, Conv.bytesToString, loadCells, loadCellsFrom]
   rw [if_neg hn0] at h
   simp only [Option.bind_eq_some_iff, Option.map_eq_some_iff] at h
   obtain ⟨cs, hcs, bs, hbs, e'⟩ := h
   obtain ⟨rfl, rfl⟩ : _ ∧ _ := by simpa using e'
   obtain ⟨j, c, hj, hrun, hvs, _⟩ := run_loadCells_rdc hT hr hcs
   rw [hi] at hj; obtain rfl := Option.some.inj hj
   refine Sim.val hr (cv := .string ⟨bs.toArray⟩) ?_ (by simp [VRel])
   simp only [convert, Sem.run_bind, run_underlying hT hus, run_underlying hT hud, run_underlying hT he, Result.andThen_ok, Conv.bytesToString, hrun]
   rw [← Array.forIn_toList, run_bytes_loop (P := P) (w := w) (fun _ _ => rfl) cs c.toList bs .empty hvs hbs]
   simp
  ·cases h
 ·cases h
theorem alenB_run {t xt : TypeId} {x v : AV} {cx : Value} (hx : VRel γ x cx) (h : alenB T t x s = some v) (ts : List TypeId) (rest : List Value) (ty : TypeId) :
  ∃ c, (Builtin.len_ (t :: ts).toArray ty (cx :: rest).toArray).run P w = .ok c w ∧ VRel γ v c := by
 unfold alenB at h
 simp only [Builtin.len_, List.getElem?_toArray, List.getElem?_cons_zero]
 split at h
 ·rename_i b hu
  obtain rfl := Option.some.inj h
  simp only [VRel] at hx; subst hx
  exact ⟨.int .i64 b.length, by simp only [Sem.run_bind, run_underlying hT hu, Result.andThen_ok, Sem.run_pure, goInt, ByteArray.size, List.size_toArray], by simp only [VRel]⟩
 ·rename_i n e hu
  obtain rfl := Option.some.inj h
  exact ⟨.int .i64 n, by simp [run_underlying hT hu, goInt], by simp [VRel]⟩
 ·rename_i e a n c ex hu
  obtain rfl := Option.some.inj h
  refine ⟨.int .i64 n, ?_, by simp [VRel]⟩
  cases a with
  | none => simp only [VRel] at hx; obtain ⟨rfl, _⟩ := hx; simp [run_underlying hT hu, goInt]
  | some a => obtain ⟨l, o⟩ := a; simp only [VRel] at hx; obtain ⟨i, _, rfl⟩ := hx; simp [run_underlying hT hu, goInt]
 ·rename_i e hu
  obtain rfl := Option.some.inj h
  simp only [VRel] at hx; obtain ⟨a, m, rfl⟩ := hx
  exact ⟨.int .i64 0, by simp [run_underlying hT hu, goInt], by simp [VRel]⟩
 ·rename_i k e hu
  obtain rfl := Option.some.inj h
  simp only [VRel] at hx; subst hx
  exact ⟨.int .i64 0, by simp [run_underlying hT hu, goInt], by simp [VRel]⟩
 ·rename_i k e l hu
  simp only [VRel] at hx; obtain ⟨i, hi, rfl⟩ := hx
  split at h
  ·rename_i es clk ro hl
   obtain rfl := Option.some.inj h
   obtain ⟨j, hj, ⟨ces, hb, hce⟩, _⟩ := hr.obj l _ hl
   rw [hi] at hj; obtain rfl := Option.some.inj hj
   have hlen := hce.length
   simp only [Array.length_toList] at hlen
   have hg : (getObj i.b).run P w = .ok (.map ces clk) w := by simp [getObj, Sem.run, hb]
   exact ⟨.int .i64 ces.size, by simp only [Sem.run_bind, run_underlying hT hu, hg, goInt, Result.andThen_ok, Sem.run_pure], by rw [hlen]; simp only [VRel]⟩
  ·cases h
 ·cases h
theorem acapB_run {t : TypeId} {x v : AV} {cx : Value} (hx : VRel γ x cx) (h : acapB T t x = some v) (ts : List TypeId) (rest : List Value) (ty : TypeId) :
  ∃ c, (Builtin.cap_ (t :: ts).toArray ty (cx :: rest).toArray).run P w = .ok c w ∧ VRel γ v c := by
 unfold acapB at h
 simp only [Builtin.cap_, List.getElem?_toArray, List.getElem?_cons_zero]
 split at h
 ·rename_i e a n c hu
  obtain rfl := Option.some.inj h
  refine ⟨.int .i64 c, ?_, by simp [VRel]⟩
  cases a with
  | none => simp only [VRel] at hx; obtain ⟨rfl, _⟩ := hx; simp [run_underlying hT hu, goInt]
  | some a => obtain ⟨l, o⟩ := a; simp only [VRel] at hx; obtain ⟨i, _, rfl⟩ := hx; simp [run_underlying hT hu, goInt]
 ·cases h
theorem aclear_run {t : TypeId} {x : AV} {cx : Value} {s' : AS} (hx : VRel γ x cx) (h : aclear T t x s = some s') (ts : List TypeId) (rest : List Value) (ty : TypeId) :
  Sim P B γ s w (Builtin.clear_ (t :: ts).toArray ty (cx :: rest).toArray) .undef s' := by
 unfold aclear at h
 simp only [Builtin.clear_, List.getElem?_toArray, List.getElem?_cons_zero]
 have hundef : ∀ γ, VRel γ AV.undef (.tuple #[]) := by intro γ; simp only [VRel]; exact ⟨_, rfl, VRels.nil⟩
 split at h
 ·rename_i e n m ex hu
  obtain rfl := Option.some.inj h
  simp only [VRel] at hx; obtain ⟨rfl, _⟩ := hx
  exact Sim.val hr (by simp [run_underlying hT hu]) (hundef _)
 ·rename_i e hu
  obtain rfl := Option.some.inj h
  simp only [VRel] at hx; obtain ⟨a, m, rfl⟩ := hx
  exact Sim.val hr (by simp [run_underlying hT hu]) (hundef _)
 ·rename_i e l o n m ex hu
  simp only [VRel] at hx; obtain ⟨i, hi, rfl⟩ := hx
  split at h
  ·rename_i h0; subst h0
   obtain rfl := Option.some.inj h
   exact Sim.val hr (by simp [run_underlying hT hu]) (hundef _)
  ·rename_i h0
   simp only [Option.bind_eq_some_iff] at h
   obtain ⟨z, hz, zc, hzc, h⟩ := h
   obtain ⟨rfl, hone⟩ := acells_some hzc
   obtain ⟨cz, hrz, hvz⟩ := run_zeroValue hT hz w
   obtain ⟨j, w', hj, hrun, hd, hr'⟩ := awr_run hT hr h (zeroCells_rels ((hvz γ).cells hone) n) (rep_one hone n)
   rw [hi] at hj; obtain rfl := Option.some.inj hj
   refine ⟨γ, w', .tuple #[], ?_, hundef _, hd, hr'⟩
   obtain ⟨k, rfl⟩ : ∃ k, n = k + 1 := ⟨n - 1, by omega⟩
   simp [run_underlying hT hu, hrz, hrun]
 ·cases h
omit hT hr in
theorem amax_run (big : Bool) {l : List AV} {cl : List Value} {v : AV} (hl : VRels γ l cl) (h : amax big l = some v) (ts : Array TypeId) (ty : TypeId) :
  ∃ c, (if big then Builtin.max_ ts ty cl.toArray else Builtin.min_ ts ty cl.toArray).run P w = .ok c w ∧ VRel γ v c := by
 have key : ∀ (rest : List AV) (crest : List Value) (x : AV) (cx : Value), VRel γ x cx → VRels γ rest crest → amaxL big x rest = some v →
   ∃ c, (if big then crest.foldlM Builtin.max2 cx else crest.foldlM Builtin.min2 cx).run P w = .ok c w ∧ VRel γ v c := by
  intro rest
  induction rest with
  | nil =>
   intro crest x cx hx hc h
   obtain rfl := VRels.nil_iff.1 hc
   simp only [amaxL] at h; obtain rfl := Option.some.inj h
   exact ⟨cx, by cases big <;> rfl, hx⟩
  | cons y ys ih =>
   intro crest x cx hx hc h
   obtain ⟨d, ds, rfl, hd, hds⟩ := VRels.cons_iff.1 hc
   simp only [amaxL, Option.bind_eq_some_iff] at h
   obtain ⟨z, hz, h⟩ := h
   unfold amax2 at hz
   split at hz
   ·obtain rfl := Option.some.inj hz
    simp only [VRel] at hx hd; subst hx hd
    obtain ⟨c, hc, hv⟩ := ih ds _ _ (by simp only [VRel]; rfl) hds h
    refine ⟨c, ?_, hv⟩
    cases big
    ·simp only [Bool.false_eq_true, if_false] at hc ⊢
     simpa [List.foldlM_cons, Builtin.min2] using hc
    ·simp only [if_true] at hc ⊢
     simpa [List.foldlM_cons, Builtin.max2] using hc
   ·cases hz
 cases l with
 | nil => simp [amax] at h
 | cons x rest =>
  obtain ⟨d, ds, rfl, hd, hds⟩ := VRels.cons_iff.1 hl
  obtain ⟨c, hc, hv⟩ := key rest ds x d hd hds h
  exact ⟨c, by cases big <;> simpa [Builtin.max_, Builtin.min_] using hc, hv⟩
omit hT hr in
theorem vundef (γ : Gam) : VRel γ AV.undef undef := by simp only [VRel]; exact ⟨_, rfl, VRels.nil⟩
omit hT hr in
theorem ERels.find (n : Nat) : ∀ {es : List (AV × AV × Nat)} {cs : List MapEntry} {e : AV × AV × Nat}, ERels γ es cs → es.find? (fun e => e.2.2 == n) = some e → ∃ c, cs.find? (fun c => c.born == n) = some c ∧ VRel γ e.1 c.key ∧ VRel γ e.2.1 c.val
 | [], cs, e, h, h' => by cases h'
 | (k, v, m) :: es, cs, e, h, h' => by
  simp only [ERels] at h
  obtain ⟨c, cs', rfl, h1, h2, h3, h4⟩ := h
  simp only [List.find?_cons] at h' ⊢
  rw [h3]
  cases hm : (m == n) with
  | true =>
   rw [hm] at h'
   obtain rfl := Option.some.inj h'
   exact ⟨c, rfl, h1, h2⟩
  | false =>
   rw [hm] at h'
   exact ERels.find n h4 h'
omit hT in
theorem aentry_run {x v : AV} {cx : Value} (hx : VRel γ x cx) (h : aentry x s = some v) : ∃ c, (Instr.entry cx).run P w = .ok c w ∧ VRel γ v c := by
 unfold aentry at h
 split at h
 ·rename_i l
  simp only [VRel] at hx
  obtain ⟨i, hi, rfl⟩ := hx
  split at h
  ·rename_i m since seen stepped ro hl
   obtain ⟨i', hi', hO, _⟩ := hr.obj l _ hl
   rw [hi] at hi'; obtain rfl := Option.some.inj hi'
   obtain ⟨h0, j, hj, hO⟩ := hO
   split at h
   ·rename_i es clock ro' hm
    obtain ⟨j', hj', hM, _⟩ := hr.obj m _ hm
    rw [hj] at hj'; obtain rfl := Option.some.inj hj'
    obtain ⟨ces, hces, hrel⟩ := hM
    split at h
    ·rename_i hcl
     subst hcl
     simp only [Option.bind_eq_some_iff, Option.map_eq_some_iff] at h
     obtain ⟨n, hn, e, he, rfl⟩ := h
     obtain ⟨c, hc, h1, h2⟩ := ERels.find n hrel he
     refine ⟨.tuple #[c.key, c.val], ?_, ?_⟩
     ·have hb : seen.toArray.back? = some n := by simpa using hn
      have hf : ces.find? (fun c => c.born == n) = some c := by rw [← Array.find?_toList]; exact hc
      have g1 : (getObj i.b).run P w = .ok (.mapIter (some j.b) since seen.toArray clock) w := by simp [getObj, Sem.run, hO]
      have g2 : (getObj j.b).run P w = .ok (.map ces clock) w := by simp [getObj, Sem.run, hces]
      simp only [h0, Nat.add_zero, Instr.entry, Sem.run_bind, g1, Result.andThen_ok, hb, g2, bne_self_eq_false, Bool.false_eq_true, if_false, hf, Sem.run_pure]
     ·simp only [VRel]
      exact ⟨_, rfl, VRels.cons h1 (VRels.cons h2 VRels.nil)⟩
    ·cases h
   ·cases h
  ·cases h
 ·cases h
def SimN (P : Program) (B : Nat) (γ : Gam) (s : AS) (w : World) (m : Sem Next) (v : AV) (s' : AS) : Prop :=
 ∃ γ' w' n cv, m.run P w = .ok n w' ∧ (n = .value cv ∨ (n = .skip ∧ cv = undef)) ∧ VRel γ' v cv ∧ Did B γ s w γ' s' w' ∧ Rel B γ' s' w'
omit hT hr in
theorem SimN.of_sim {m : Sem Value} {v : AV} {s' : AS} (h : Sim P B γ s w m v s') : SimN P B γ s w (do pure (.value (← m))) v s' := by
 obtain ⟨γ', w', cv, h1, h2, h3, h4⟩ := h
 exact ⟨γ', w', .value cv, cv, by simp [h1], .inl rfl, h2, h3, h4⟩
omit hT hr in
theorem SimN.of_simU {m : Sem Unit} {s' : AS} (h : SimU P B γ s w m s') : SimN P B γ s w (do m; pure .skip) .undef s' := by
 obtain ⟨γ', w', h1, h3, h4⟩ := h
 exact ⟨γ', w', .skip, undef, by simp [h1], .inr ⟨rfl, rfl⟩, vundef _, h3, h4⟩
omit hT in
theorem SimN.of_run {m : Sem Value} {v : AV} (h : ∃ c, m.run P w = .ok c w ∧ VRel γ v c) : SimN P B γ s w (do pure (.value (← m))) v s := by
 obtain ⟨c, h1, h2⟩ := h
 exact SimN.of_sim (Sim.val hr h1 h2)
omit hT hr in
theorem prels_of {ρ : Operand → AV} {ρ' : Operand → Value} (hρ : ∀ x, VRel γ (ρ x) (ρ' x)) : ∀ (l : List (Nat × Operand)), PRels γ (l.map fun p => (p.1, ρ p.2)) (l.map fun p => (p.1, ρ' p.2))
 | [] => rfl
 | (i, x) :: l => ⟨_, _, rfl, hρ x, prels_of hρ l⟩
omit hT hr in
theorem vrels_of {ρ : Operand → AV} {ρ' : Operand → Value} (hρ : ∀ x, VRel γ (ρ x) (ρ' x)) : ∀ (l : List Operand), VRels γ (l.map ρ) (l.map ρ')
 | [] => VRels.nil
 | x :: l => VRels.cons (hρ x) (vrels_of hρ l)
omit hT hr in
theorem orels_of {ρ : Operand → AV} {ρ' : Operand → Value} (hρ : ∀ x, VRel γ (ρ x) (ρ' x)) : ∀ (o : Option Operand), ORels γ (o.map ρ) (o.map ρ')
 | none => rfl
 | some x => ⟨_, rfl, hρ x⟩
theorem abuiltin_run {b : Builtin} {ts : List TypeId} {args : List AV} {cargs : List Value} {v : AV} {s' : AS} (ha : VRels γ args cargs) (h : abuiltin T b ts args s = some (v, s')) (ty : TypeId) (consts : Array Bool) :
  SimN P B γ s w (builtin b ts.toArray ty consts cargs.toArray) v s' := by
 unfold abuiltin at h
 split at h
 ·rename_i t ts' x rest
  obtain ⟨d, ds, rfl, hd, hds⟩ := VRels.cons_iff.1 ha
  simp only [Option.map_eq_some_iff] at h
  obtain ⟨u, hu, e⟩ := h
  obtain ⟨rfl, rfl⟩ : _ ∧ _ := by simpa using e
  exact SimN.of_run hr (alenB_run hT hr (xt := 0) hd hu ts' ds ty)
 ·rename_i t ts' x rest
  obtain ⟨d, ds, rfl, hd, hds⟩ := VRels.cons_iff.1 ha
  simp only [Option.map_eq_some_iff] at h
  obtain ⟨u, hu, e⟩ := h
  obtain ⟨rfl, rfl⟩ : _ ∧ _ := by simpa using e
  exact SimN.of_run hr (acapB_run hT hr hd hu ts' ds ty)
 ·rename_i t xt ts' dst x rest
  obtain ⟨d, ds, rfl, hd, hds⟩ := VRels.cons_iff.1 ha
  obtain ⟨f, fs, rfl, hf, hfs⟩ := VRels.cons_iff.1 hds
  have := aappend_run hT hr hd hf h ty
  exact SimN.of_sim (by simpa [Builtin.append_] using this)
 ·rename_i t xt ts' dst x rest
  obtain ⟨d, ds, rfl, hd, hds⟩ := VRels.cons_iff.1 ha
  obtain ⟨f, fs, rfl, hf, hfs⟩ := VRels.cons_iff.1 hds
  have := acopy_run hT hr (xt := xt) hd hf h ty
  exact SimN.of_sim (by simpa [Builtin.copy_] using this)
 ·rename_i t ts' m k rest
  obtain ⟨d, ds, rfl, hd, hds⟩ := VRels.cons_iff.1 ha
  obtain ⟨f, fs, rfl, hf, hfs⟩ := VRels.cons_iff.1 hds
  simp only [Option.map_eq_some_iff] at h
  obtain ⟨u, hu, e⟩ := h
  obtain ⟨rfl, rfl⟩ : _ ∧ _ := by simpa using e
  obtain ⟨γ', w', h1, h2, h3⟩ := adelete_run hT hr (xt := 0) hd hf hu ty
  exact SimN.of_sim ⟨γ', w', undef, by simpa [Builtin.delete_] using h1, vundef _, h2, h3⟩
 ·rename_i t ts' x rest
  obtain ⟨d, ds, rfl, hd, hds⟩ := VRels.cons_iff.1 ha
  simp only [Option.map_eq_some_iff] at h
  obtain ⟨u, hu, e⟩ := h
  obtain ⟨rfl, rfl⟩ : _ ∧ _ := by simpa using e
  exact SimN.of_sim (aclear_run hT hr hd hu ts' ds ty)
 ·simp only [Option.map_eq_some_iff] at h
  obtain ⟨u, hu, e⟩ := h
  obtain ⟨rfl, rfl⟩ : _ ∧ _ := by simpa using e
  exact SimN.of_run hr (by simpa using amax_run (P := P) (w := w) true ha hu ts.toArray ty)
 ·simp only [Option.map_eq_some_iff] at h
  obtain ⟨u, hu, e⟩ := h
  obtain ⟨rfl, rfl⟩ : _ ∧ _ := by simpa using e
  exact SimN.of_run hr (by simpa using amax_run (P := P) (w := w) false ha hu ts.toArray ty)
 ·cases h
set_option maxHeartbeats 2000000 in
theorem aop_sim {o : Oper} {ρ : Operand → AV} {ρ' : Operand → Value} {v : AV} {s' : AS} (hρ : ∀ x, VRel γ (ρ x) (ρ' x)) (h : aop T o.op ρ s = some (v, s')) : SimN P B γ s w (execOp ρ' o) v s' := by
  obtain ⟨dst, op, type, pos, after, guard⟩ := o
  simp only at h
  unfold aop at h
  split at h
  case h_1 x =>
    obtain ⟨rfl, rfl⟩ : _ ∧ _ := by simpa using h
    exact ⟨γ, w, .value (ρ' x), _, rfl, .inl rfl, hρ x, Did.refl, hr⟩
  case h_2 x =>
    obtain ⟨rfl, rfl⟩ : _ ∧ _ := by simpa using h
    exact ⟨γ, w, .value (ρ' x), _, rfl, .inl rfl, hρ x, Did.refl, hr⟩
  case h_3 c a b =>
    split at h
    · rename_i t ht
      obtain ⟨rfl, rfl⟩ : _ ∧ _ := by simpa using h
      have hc := hρ c
      rw [ht] at hc; simp only [VRel] at hc
      refine ⟨γ, w, .value (if t then ρ' a else ρ' b), _, ?_, .inl rfl, ?_, Did.refl, hr⟩
      · simp only [execOp, hc, asBool, Sem.run_bind, Sem.run_pure, Result.andThen_ok]
      · cases t
        · exact hρ b
        · exact hρ a
    · cases h
  case h_4 e =>
    simp only [Option.bind_eq_some_iff, Option.map_eq_some_iff] at h
    obtain ⟨z, hz, cs, hcs, e'⟩ := h
    obtain ⟨rfl, rfl⟩ : _ ∧ _ := by simpa using e'
    show SimN P B γ s w (do pure (.value (← Instr.alloc e true (.tuple #[])))) _ _
    exact SimN.of_sim (sim_alloc hT hr hz hcs)
  case h_5 t x =>
    simp only [Option.map_eq_some_iff] at h
    obtain ⟨cs, hcs, e'⟩ := h
    obtain ⟨rfl, rfl⟩ : _ ∧ _ := by simpa using e'
    show SimN P B γ s w (do pure (.value (← Instr.box t (ρ' x)))) _ _
    have hb : Instr.box t (ρ' x) = (do pure (.pointer (some (← newVar t (ρ' x))))) := rfl
    rw [hb]
    exact SimN.of_sim (sim_newVar t hr (hρ x) hcs)
  case h_6 t parts =>
    simp only [Option.map_eq_some_iff] at h
    obtain ⟨u, hu, e'⟩ := h
    obtain ⟨rfl, rfl⟩ : _ ∧ _ := by simpa using e'
    show SimN P B γ s w (do pure (.value (← Instr.build t (parts.map fun (i, x) => (i, ρ' x))))) _ _
    exact SimN.of_run hr (abuild_run hT (γ := γ) (w := w) (cparts := parts.map fun (i, x) => (i, ρ' x)) (by simpa using prels_of hρ parts.toList) hu)
  case h_7 t len parts =>
    have hp : PRels γ (parts.toList.map fun p => (p.1, ρ p.2)) (parts.map fun (p : Nat × Operand) => (p.1, ρ' p.2)).toList := by
      rw [Array.toList_map]; exact prels_of hρ parts.toList
    have hs := SimN.of_sim (abuildSlice_run hT hr hp h)
    exact hs
  case h_8 t a =>
    simp only [Option.map_eq_some_iff] at h
    obtain ⟨u, hu, e'⟩ := h
    obtain ⟨rfl, rfl⟩ : _ ∧ _ := by simpa using e'
    show SimN P B γ s w (do pure (.value (← Instr.loadAt t (ρ' a)))) _ _
    exact SimN.of_sim (sim_load hT hr (hρ a) hu)
  case h_9 t a x =>
    simp only [Option.map_eq_some_iff] at h
    obtain ⟨u, hu, e'⟩ := h
    obtain ⟨rfl, rfl⟩ : _ ∧ _ := by simpa using e'
    show SimN P B γ s w (do Instr.storeAt t (ρ' a) (ρ' x); pure .skip) _ _
    exact SimN.of_simU (sim_store hT hr (hρ a) (hρ x) hu)
  case h_10 x =>
    have hx := hρ x
    split at h
    · rename_i p hp
      obtain ⟨rfl, rfl⟩ : _ ∧ _ := by simpa using h
      rw [hp] at hx
      have hx0 := hx
      obtain ⟨l, o⟩ := p
      simp only [VRel] at hx; obtain ⟨i, hi, hx⟩ := hx
      exact ⟨γ, w, .value (ρ' x), _, by simp only [execOp, hx]; rfl, .inl rfl, hx0, Did.refl, hr⟩
    · rename_i f c hp
      obtain ⟨rfl, rfl⟩ : _ ∧ _ := by simpa using h
      rw [hp] at hx
      have hx0 := hx
      simp only [VRel] at hx; obtain ⟨cc, hx, _⟩ := hx
      exact ⟨γ, w, .value (ρ' x), _, by simp only [execOp, hx]; rfl, .inl rfl, hx0, Did.refl, hr⟩
    · rename_i f ft c hp
      obtain ⟨rfl, rfl⟩ : _ ∧ _ := by simpa using h
      rw [hp] at hx
      have hx0 := hx
      simp only [VRel] at hx; obtain ⟨cf, cc, hx, _⟩ := hx
      exact ⟨γ, w, .value (ρ' x), _, by simp only [execOp, hx]; rfl, .inl rfl, hx0, Did.refl, hr⟩
    · rename_i t u hp
      obtain ⟨rfl, rfl⟩ : _ ∧ _ := by simpa using h
      rw [hp] at hx
      have hx0 := hx
      simp only [VRel] at hx; obtain ⟨cc, hx, _⟩ := hx
      exact ⟨γ, w, .value (ρ' x), _, by simp only [execOp, hx]; rfl, .inl rfl, hx0, Did.refl, hr⟩
    · cases h
  case h_11 op t x y yt =>
    split at h
    · rename_i hg
      simp only [Option.map_eq_some_iff] at h
      obtain ⟨u, hu, e'⟩ := h
      obtain ⟨rfl, rfl⟩ : _ ∧ _ := by simpa using e'
      obtain ⟨c, hc, hv⟩ := abin_run hT (hρ x) (hρ y) hu w
      have he := eqGuard_run hT (op := op) (hρ x) (hρ y) hg w
      exact ⟨γ, w, .value c, _, by simp only [execOp, Sem.run_bind, he, hc, Result.andThen_ok, Sem.run_pure], .inl rfl, hv, Did.refl, hr⟩
    · cases h
  case h_12 op t x =>
    simp only [Option.map_eq_some_iff] at h
    obtain ⟨u, hu, e'⟩ := h
    obtain ⟨rfl, rfl⟩ : _ ∧ _ := by simpa using e'
    show SimN P B γ s w (do pure (.value (← Op.unary op (ρ' x)))) _ _
    exact SimN.of_run hr (aun_run hT (hρ x) hu w)
  case h_13 src dst x =>
    show SimN P B γ s w (do pure (.value (← convert src dst (ρ' x)))) _ _
    exact SimN.of_sim (aconvert_run hT hr (hρ x) h)
  case h_14 t x =>
    cases hu : T.und t with
    | none => simp [hu] at h
    | some td =>
      have hrun : (Instr.makeInterface t (ρ' x)).run P w = .ok (.iface t (ρ' x)) w ∧ v = .iface t (ρ x) ∧ s' = s := by
        cases td <;> simp only [hu] at h <;> first
          | (cases h; done)
          | (obtain ⟨rfl, rfl⟩ : _ ∧ _ := by simpa using h
             exact ⟨by simp only [Instr.makeInterface, Sem.run_bind, run_underlying hT hu, Result.andThen_ok, Sem.run_pure], rfl, rfl⟩)
      obtain ⟨hrun, rfl, rfl⟩ := hrun
      show SimN P B γ s' w (do pure (.value (← Instr.makeInterface t (ρ' x)))) _ _
      exact SimN.of_run hr ⟨_, hrun, by simp only [VRel]; exact ⟨_, rfl, hρ x⟩⟩
  case h_15 f first captured =>
    split at h
    · rename_i hf
      obtain ⟨rfl, rfl⟩ : _ ∧ _ := by simpa using h
      have : first = #[] := by simpa using hf
      subst this
      refine ⟨γ, w, .value (.func (.func f) #[] (captured.map ρ')), _, by simp [execOp, Instr.makeFunc], .inl rfl, ?_, Did.refl, hr⟩
      simp only [VRel]
      exact ⟨_, rfl, by simpa using vrels_of hρ captured.toList⟩
    · obtain ⟨rfl, rfl⟩ : _ ∧ _ := by simpa using h
      refine ⟨γ, w, .value (.func (.func f) (first.map ρ') (captured.map ρ')), _, by simp [execOp, Instr.makeFunc], .inl rfl, ?_, Did.refl, hr⟩
      simp only [VRel]
      exact ⟨_, _, rfl, by simpa using vrels_of hρ first.toList, by simpa using vrels_of hρ captured.toList⟩
  case h_16 t =>
    split at h
    · obtain ⟨rfl, rfl⟩ : _ ∧ _ := by simpa using h
      obtain ⟨g1, g2⟩ := hr.alloc (w' := { w with heap := w.heap.push (.map #[] 0) }) (o := .map [] 0 false) (i := ⟨w.heap.size, 0, 0⟩) rfl rfl rfl ⟨#[], by simp, rfl⟩
      refine ⟨_, _, .value (.map (some w.heap.size)), _, by simp [execOp, Instr.makeMap], .inl rfl, ?_, g2, g1⟩
      simp only [VRel]
      exact ⟨_, updG_same _ _ _, rfl⟩
    · cases h
  case h_17 t l c =>
    show SimN P B γ s w (do pure (.value (← Instr.makeSlice t (ρ' l) (ρ' c)))) _ _
    exact SimN.of_sim (amakeSlice_run hT hr (hρ l) (hρ c) h)
  case h_18 t x lo hi mx =>
    simp only [Option.map_eq_some_iff] at h
    obtain ⟨u, hu, e'⟩ := h
    obtain ⟨rfl, rfl⟩ : _ ∧ _ := by simpa using e'
    show SimN P B γ s w (do pure (.value (← Instr.sliceAt t (ρ' x) (lo.map ρ') (hi.map ρ') (mx.map ρ')))) _ _
    exact SimN.of_run hr (aslice_run hT (orels_of hρ lo) (orels_of hρ hi) (orels_of hρ mx) (hρ x) hu w)
  case h_19 t x f =>
    simp only [Option.map_eq_some_iff] at h
    obtain ⟨u, hu, e'⟩ := h
    obtain ⟨rfl, rfl⟩ : _ ∧ _ := by simpa using e'
    show SimN P B γ s w (do pure (.value (← Instr.fieldAt t (ρ' x) f))) _ _
    exact SimN.of_run hr (afieldAddr_run hT (hρ x) hu w)
  case h_20 t x f =>
    simp only [Option.map_eq_some_iff] at h
    obtain ⟨u, hu, e'⟩ := h
    obtain ⟨rfl, rfl⟩ : _ ∧ _ := by simpa using e'
    show SimN P B γ s w (do pure (.value (← Instr.field t (ρ' x) f))) _ _
    exact SimN.of_run hr (afield_run hT (hρ x) hu w)
  case h_21 t x ix =>
    simp only [Option.map_eq_some_iff] at h
    obtain ⟨u, hu, e'⟩ := h
    obtain ⟨rfl, rfl⟩ : _ ∧ _ := by simpa using e'
    show SimN P B γ s w (do pure (.value (← Instr.indexAt t (ρ' x) (ρ' ix)))) _ _
    exact SimN.of_run hr (aindexAddr_run hT (hρ x) (hρ ix) hu w)
  case h_22 t x ix =>
    simp only [Option.map_eq_some_iff] at h
    obtain ⟨u, hu, e'⟩ := h
    obtain ⟨rfl, rfl⟩ : _ ∧ _ := by simpa using e'
    show SimN P B γ s w (do pure (.value (← Instr.index t (ρ' x) (ρ' ix)))) _ _
    exact SimN.of_run hr (aindex_run hT (hρ x) (hρ ix) hu w)
  case h_23 t x ix ok =>
    simp only [Option.map_eq_some_iff] at h
    obtain ⟨u, hu, e'⟩ := h
    obtain ⟨rfl, rfl⟩ : _ ∧ _ := by simpa using e'
    show SimN P B γ s w (do pure (.value (← Instr.lookup t (ρ' x) (ρ' ix) ok))) _ _
    exact SimN.of_run hr (alookup_run hT hr (hρ x) (hρ ix) hu)
  case h_24 t m k u =>
    simp only [Option.map_eq_some_iff] at h
    obtain ⟨u', hu, e'⟩ := h
    obtain ⟨rfl, rfl⟩ : _ ∧ _ := by simpa using e'
    show SimN P B γ s w (do Instr.mapUpdate t (ρ' m) (ρ' k) (ρ' u); pure .skip) _ _
    exact SimN.of_simU (amapUpdate_run hT hr (hρ m) (hρ k) (hρ u) hu)
  case h_25 t m k u =>
    simp only [Option.map_eq_some_iff] at h
    obtain ⟨u', hu, e'⟩ := h
    obtain ⟨rfl, rfl⟩ : _ ∧ _ := by simpa using e'
    show SimN P B γ s w (do Instr.mapUpdate t (ρ' m) (ρ' k) (ρ' u); pure .skip) _ _
    exact SimN.of_simU (amapUpdate_run hT hr (hρ m) (hρ k) (hρ u) hu)
  case h_26 t i =>
    split at h
    · rename_i vs hvs
      simp only [Option.map_eq_some_iff] at h
      obtain ⟨u, hu, e'⟩ := h
      obtain ⟨rfl, rfl⟩ : _ ∧ _ := by simpa using e'
      have ht := hρ t
      rw [hvs] at ht
      simp only [VRel] at ht
      obtain ⟨cs, hcs, hrel⟩ := ht
      obtain ⟨c, hc, hv⟩ := hrel.get hu
      have hc' : cs[i]? = some c := by simpa using hc
      exact SimN.of_run hr (m := Instr.extract (ρ' t) i) ⟨c, by simp [Instr.extract, hcs, hc'], hv⟩
    · cases h
  case h_27 c =>
    split at h
    · rename_i b hb
      have := abuiltin_run hT hr (vrels_of hρ c.args.toList) h type (c.args.map fun | .const _ => true | _ => false)
      obtain ⟨γ', w', n, cv, h1, h2⟩ := this
      refine ⟨γ', w', n, cv, ?_, h2⟩
      have ha : (List.map ρ' c.args.toList).toArray = c.args.map ρ' := by apply Array.ext'; rw [Array.toList_map]
      have ht : c.argTypes.toList.toArray = c.argTypes := Array.toArray_toList
      rw [ha, ht] at h1
      simp only [execOp, resolve, hb, Sem.run_bind, Sem.run_pure, Result.andThen_ok, invoke]
      exact h1
    · cases h
  case h_28 t x =>
    have hx := hρ x
    show SimN P B γ s w (do pure (.value (← Instr.range t (ρ' x)))) _ _
    split at h
    · rename_i b hu hb
      obtain ⟨rfl, rfl⟩ : _ ∧ _ := by simpa using h
      rw [hb] at hx; simp only [VRel] at hx
      obtain ⟨g1, g2⟩ := hr.alloc (w' := { w with heap := w.heap.push (.stringIter ⟨b.toArray⟩ 0) }) (o := .strIt b 0 false) (i := ⟨w.heap.size, 0, 0⟩) rfl rfl rfl ⟨rfl, by simp⟩
      exact ⟨_, _, _, .pointer (some ⟨w.heap.size, 0, none⟩), by simp [Instr.range, run_underlying hT hu, hx], .inl rfl, by simp only [VRel]; exact ⟨_, updG_same _ _ _, rfl⟩, g2, g1⟩
    · rename_i k e hu hb
      obtain ⟨rfl, rfl⟩ : _ ∧ _ := by simpa using h
      rw [hb] at hx; simp only [VRel] at hx
      obtain ⟨g1, g2⟩ := hr.alloc (w' := { w with heap := w.heap.push (.mapIter none 0 #[] 0) }) (o := .mapIt none 0 [] 0 false) (i := ⟨w.heap.size, 0, 0⟩) rfl rfl rfl ⟨rfl, by simp⟩
      exact ⟨_, _, _, .pointer (some ⟨w.heap.size, 0, none⟩), by simp [Instr.range, run_underlying hT hu, hx], .inl rfl, by simp only [VRel]; exact ⟨_, updG_same _ _ _, rfl⟩, g2, g1⟩
    · rename_i k e m hu hb
      split at h
      · rename_i es clock ro hm
        obtain ⟨rfl, rfl⟩ : _ ∧ _ := by simpa using h
        rw [hb] at hx; simp only [VRel] at hx
        obtain ⟨j, hj, hx⟩ := hx
        obtain ⟨j', hj', hO, _⟩ := hr.obj m _ hm
        rw [hj] at hj'; obtain rfl := Option.some.inj hj'
        obtain ⟨ces, hces, _⟩ := hO
        obtain ⟨g1, g2⟩ := hr.alloc (w' := { w with heap := w.heap.push (.mapIter (some j.b) clock #[] clock) }) (o := .mapIt (some m) clock [] clock false) (i := ⟨w.heap.size, 0, 0⟩) rfl rfl rfl ⟨rfl, j, Gam.le_upd hr.fin0 _ _ hj, by simp⟩
        have hg : ∀ w2 : World, w2.heap[j.b]? = w.heap[j.b]? → (getObj j.b).run P w2 = .ok (.map ces clock) w2 := by
          intro w2 h2
          simp [getObj, Sem.run, h2, hces]
        exact ⟨_, _, _, .pointer (some ⟨w.heap.size, 0, none⟩), by simp [Instr.range, run_underlying hT hu, hx, hg w rfl], .inl rfl, by simp only [VRel]; exact ⟨_, updG_same _ _ _, rfl⟩, g2, g1⟩
      · cases h
    · cases h
  case h_29 it =>
    simp only [Option.map_eq_some_iff] at h
    obtain ⟨u, hu, e'⟩ := h
    obtain ⟨rfl, rfl⟩ : _ ∧ _ := by simpa using e'
    show SimN P B γ s w (do pure (.value (← Instr.entry (ρ' it)))) _ _
    exact SimN.of_run hr (aentry_run hr (hρ it) hu)
  case h_30 => cases h
end
end Go.Am
end

section
namespace Go.Am
theorem ERels.filter {γ : Gam} (p : Nat → Bool) : ∀ {es : List (AV × AV × Nat)} {cs : List MapEntry}, ERels γ es cs → ERels γ (es.filter fun e => p e.2.2) (cs.filter fun c => p c.born)
 | [], cs, h => by simp only [ERels] at h; subst h; simp [ERels]
 | (k, v, n) :: es, cs, h => by
  simp only [ERels] at h
  obtain ⟨c, cs', rfl, h1, h2, h3, h4⟩ := h
  have ih := ERels.filter p h4
  simp only [List.filter_cons, h3]
  split
  ·simp only [ERels]; exact ⟨c, _, rfl, h1, h2, h3, ih⟩
  ·exact ih
theorem ERels.all {γ : Gam} (p : Nat → Bool) : ∀ {es : List (AV × AV × Nat)} {cs : List MapEntry}, ERels γ es cs → (es.all fun e => p e.2.2) = (cs.all fun c => p c.born)
 | [], cs, h => by simp only [ERels] at h; subst h; rfl
 | (k, v, n) :: es, cs, h => by
  simp only [ERels] at h
  obtain ⟨c, cs', rfl, h1, h2, h3, h4⟩ := h
  simp only [List.all_cons, h3, ERels.all p h4]
theorem ERels.mem {γ : Gam} : ∀ {es : List (AV × AV × Nat)} {cs : List MapEntry} {i : Nat} {c : MapEntry}, ERels γ es cs → cs[i]? = some c → ∃ e, es[i]? = some e ∧ VRel γ e.1 c.key ∧ VRel γ e.2.1 c.val ∧ c.born = e.2.2
 | [], cs, i, c, h, h' => by simp only [ERels] at h; subst h; simp at h'
 | (k, v, n) :: es, cs, i, c, h, h' => by
  simp only [ERels] at h
  obtain ⟨d, cs', rfl, h1, h2, h3, h4⟩ := h
  cases i with
  | zero => simp only [List.getElem?_cons_zero, Option.some.injEq] at h'; subst h'; exact ⟨_, rfl, h1, h2, h3⟩
  | succ i =>
   obtain ⟨e, h5⟩ := ERels.mem (i := i) h4 (by simpa using h')
   exact ⟨e, by simpa using h5⟩
theorem run_getObj {P : Program} {w : World} {r : Nat} {o : Obj} (h : w.heap[r]? = some o) (hc : ∀ c e f, o ≠ .cells c e f) : (getObj r).run P w = .ok o w := by
 cases o with
 | cells c e f => exact absurd rfl (hc c e f)
 | _ => simp [getObj, Sem.run, h]
theorem run_setObj_any {P : Program} {w : World} {b : Nat} {o o' : Obj} (hb : w.heap[b]? = some o) (hc : ∀ c e f, o ≠ .cells c e f) : (setObj b o').run P w = .ok () { w with heap := w.heap.setIfInBounds b o' } := by
 cases o with
 | cells c e f => exact absurd rfl (hc c e f)
 | _ => simp [setObj, Sem.run, hb]
theorem run_choose {P : Program} {n : Nat} (hn : 0 < n) (w : World) : ∃ (j : Nat) (w1 : World), j < n ∧ w1.heap = w.heap ∧ Env w w1 ∧ (choose (Question.mapNext n)).run P w = .ok j w1 := by
 by_cases hf : n ≤ 1
 ·exact ⟨0, w, by omega, rfl, ⟨rfl, rfl, rfl⟩, by simp [choose, Sem.run, Question.forced, hf]⟩
 ·exact ⟨_, { w with drawn := w.drawn + 1 }, Nat.mod_lt _ hn, rfl, ⟨rfl, rfl, rfl⟩, by
   simp only [choose, Sem.run, Question.forced, decide_eq_true_eq, hf, if_false, Question.cut]
   rfl⟩
theorem acand_sim {P : Program} {B : Nat} {γ : Gam} {s : AS} {w : World} (hr : Rel B γ s w) {ρ : Operand → AV} {ρ' : Operand → Value} (hρ : ∀ x, VRel γ (ρ x) (ρ' x)) {o : Oper} {l : List (AV × AS)} (h : acand o.op ρ s = some l) :
  ∃ p ∈ l, ∃ γ' w' cv, (execOp ρ' o).run P w = .ok (.value cv) w' ∧ VRel γ' p.1 cv ∧ Did B γ s w γ' p.2 w' ∧ Rel B γ' p.2 w' := by
 obtain ⟨dst, op, type, pos, after, guard⟩ := o
 simp only at h
 unfold acand at h
 split at h
 ·rename_i it isStr
  have hit := hρ it
  have hex : ∀ v w', (Instr.next (ρ' it) isStr type).run P w = .ok v w' → (execOp ρ' { dst, op := .next it isStr, type, pos, after, guard }).run P w = .ok (.value v) w' := by
   intro v w' hv
   show Sem.run P (do pure (Next.value (← Instr.next (ρ' it) isStr type))) w = _
   simp only [Sem.run_bind, hv, Result.andThen_ok, Sem.run_pure]
  split at h
  ·rename_i r hp
   rw [hp] at hit
   simp only [VRel] at hit
   obtain ⟨i, hi, hit⟩ := hit
   split at h
   ·rename_i since seen last ro hl
    obtain ⟨j, hj, hO, _⟩ := hr.obj r _ hl
    rw [hi] at hj; obtain rfl := Option.some.inj hj
    obtain ⟨h0, hO⟩ := hO
    split at h
    ·cases h
    ·rename_i hs
     obtain rfl := Option.some.inj h
     have hs' : isStr = false := by simpa using hs
     refine ⟨_, List.mem_singleton.2 rfl, γ, w, .tuple #[.bool false], hex _ _ ?_, ?_, Did.refl, hr⟩
     ·simp [Instr.next, hit, h0, run_getObj hO (by simp), hs']
     ·simp only [VRel]; exact ⟨_, rfl, VRels.cons (by simp [VRel]) VRels.nil⟩
   ·rename_i m since seen last hl
    obtain ⟨j, hj, hO, hB⟩ := hr.obj r _ hl
    rw [hi] at hj; obtain rfl := Option.some.inj hj
    obtain ⟨h0, j, hj, hO⟩ := hO
    split at h
    ·cases h
    ·rename_i hs
     have hs' : isStr = false := by simpa using hs
     split at h
     ·rename_i es clock ro' hm
      obtain ⟨j', hj', hM, _⟩ := hr.obj m _ hm
      rw [hj] at hj'; obtain rfl := Option.some.inj hj'
      obtain ⟨ces, hces, hrel⟩ := hM
      split at h
      ·cases h
      ·rename_i hcond
       obtain rfl := Option.some.inj h
       have hlen := hrel.length
       have hne : ∀ {α : Type} (l : List α), l ≠ [] ↔ l.isEmpty = false := by intro α l; cases l <;> simp
       have htest : (!seen.toArray.isEmpty && !ces.isEmpty && ces.all (fun e => decide (e.born ≥ last))) = false := by
        have e1 : seen.toArray.isEmpty = seen.isEmpty := by cases seen <;> rfl
        have e2 : ces.isEmpty = es.isEmpty := by
         obtain ⟨ces⟩ := ces
         cases ces with
         | nil => cases es with
          | nil => rfl
          | cons _ _ => simp at hlen
         | cons _ _ => cases es with
          | nil => simp at hlen
          | cons _ _ => rfl
        have e3 : ces.all (fun e => decide (e.born ≥ last)) = es.all fun e => decide (last ≤ e.2.2) := by
         rw [← Array.all_toList]
         exact (ERels.all (fun n => decide (last ≤ n)) hrel).symm
        rw [e1, e2, e3]
        cases hq : (!seen.isEmpty && !es.isEmpty && es.all fun e => decide (last ≤ e.2.2)) with
        | false => rfl
        | true =>
         exfalso
         simp only [Bool.and_eq_true, Bool.not_eq_true'] at hq
         exact hcond ⟨(hne _).2 hq.1.1, (hne _).2 hq.1.2, hq.2⟩
       have rl := hrel.filter fun n => !seen.contains n
       have ro := ERels.filter (fun n => decide (n < since)) rl
       have rn := ERels.filter (fun n => decide (since ≤ n)) rl
       have rap := ro.append rn
       let L := ces.filter fun e => !seen.toArray.contains e.born
       let O := L.filter fun e => decide (e.born < since)
       let N := L.filter fun e => decide (e.born ≥ since)
       have hL : L.toList = ces.toList.filter fun c => !seen.contains c.born := by simp [L]
       have hOl : O.toList = (ces.toList.filter fun c => !seen.contains c.born).filter fun c => decide (c.born < since) := by simp only [O, Array.toList_filter, hL]
       have hNl : N.toList = (ces.toList.filter fun c => !seen.contains c.born).filter fun c => decide (since ≤ c.born) := by simp only [N, Array.toList_filter, hL, ge_iff_le]
       rw [← hOl, ← hNl] at rap
       rw [← hOl] at ro
       have hoE : O.isEmpty = ((es.filter fun e => !seen.contains e.2.2).filter fun e => decide (e.2.2 < since)).isEmpty := by
        have h1 := ro.length
        cases hq : O.isEmpty with
        | true =>
         have : O.toList = [] := by simpa using hq
         rw [this] at h1
         have : ((es.filter fun e => !seen.contains e.2.2).filter fun e => decide (e.2.2 < since)) = [] := List.length_eq_zero_iff.1 (by simpa using h1)
         rw [this]; rfl
        | false =>
         have : O.toList ≠ [] := by intro e; rw [show O = #[] from by simpa using e] at hq; simp at hq
         cases hq2 : ((es.filter fun e => !seen.contains e.2.2).filter fun e => decide (e.2.2 < since)) with
         | nil => rw [hq2] at h1; simp only [List.length_nil] at h1; exact absurd (List.length_eq_zero_iff.1 h1.symm) this
         | cons _ _ => rfl
       let C : Array (Option MapEntry) := (if O.isEmpty then #[none] else #[]) ++ (O ++ N).map some
       have hCpos : 0 < C.size := by
        simp only [C, Array.size_append, Array.size_map]
        cases hq : O.isEmpty with
        | true => simp only [if_true, List.size_toArray, List.length_cons]; omega
        | false =>
         have : 0 < O.size := by
          rcases Nat.eq_zero_or_pos O.size with h | h
          ·rw [Array.eq_empty_of_size_eq_zero h] at hq; simp at hq
          ·exact h
         simp; omega
       obtain ⟨k, w1, hk, hheap, henv, hch⟩ := run_choose (P := P) hCpos w
       have hgo : ∀ v w', (match C[k]? with
         | some (some e) => (do setObj i.b (.mapIter (some j.b) since (seen.toArray.push e.born) clock); pure (.tuple #[.bool true, e.key, e.val]) : Sem Value)
         | some none => pure (.tuple #[.bool false])
         | none => stuck "Next: no such candidate").run P w1 = .ok v w' → (Instr.next (ρ' it) isStr type).run P w = .ok v w' := by
        intro v w' hv
        simp only [hit, h0, Nat.add_zero, hs', Instr.next, Sem.run_bind, run_getObj hO (by simp), Result.andThen_ok, run_getObj hces (by simp), htest, Bool.false_eq_true, if_false]
        show Result.andThen ((choose (Question.mapNext C.size)).run P w) _ = _
        rw [hch]
        exact hv
       have hgetC : ∃ x, C[k]? = some x := ⟨C[k], Array.getElem?_eq_getElem hk⟩
       obtain ⟨x, hx⟩ := hgetC
       have hr1 : Rel B γ s w1 := hr.of_heap hheap
       have hd1 : Did B γ s w γ s w1 := Did.of_heap hheap henv
       cases x with
       | none =>
        have hOe : O.isEmpty = true := by
         cases hq : O.isEmpty with
         | true => rfl
         | false =>
          simp only [C, hq, Bool.false_eq_true, if_false, Array.empty_append, Array.getElem?_map, Option.map_eq_some_iff] at hx
          obtain ⟨_, _, h⟩ := hx
          cases h
        refine ⟨(.tup [.bool false], s), ?_, γ, w1, .tuple #[.bool false], hex _ _ (hgo _ _ (by rw [hx]; rfl)), ?_, hd1, hr1⟩
        ·rw [hoE] at hOe
         rw [if_pos hOe]
         simp
        ·simp only [VRel]; exact ⟨_, rfl, VRels.cons (by simp [VRel]) VRels.nil⟩
       | some c =>
        have hcm : ∃ q : Nat, (O ++ N).toList[q]? = some c := by
         simp only [C] at hx
         cases hq : O.isEmpty with
         | true =>
          rw [hq] at hx
          simp only [if_true] at hx
          rw [Array.getElem?_append] at hx
          split at hx
          ·rename_i hlt
           have : k = 0 := by simpa using hlt
           subst this
           simp at hx
          ·simp only [Array.getElem?_map, Option.map_eq_some_iff, Option.some.injEq, exists_eq_right] at hx
           exact ⟨_, by rw [Array.getElem?_toList]; exact hx⟩
         | false =>
          rw [hq] at hx
          simp only [Bool.false_eq_true, if_false, Array.empty_append, Array.getElem?_map, Option.map_eq_some_iff, Option.some.injEq, exists_eq_right] at hx
          exact ⟨k, by rw [Array.getElem?_toList]; exact hx⟩
        obtain ⟨q, hq⟩ := hcm
        rw [Array.toList_append] at hq
        obtain ⟨e, he, v1, v2, v3⟩ := ERels.mem rap hq
        have hlt : i.b < w1.heap.size := by
         have := (hr.obj r _ hl)
         rw [hheap]
         rcases Nat.lt_or_ge i.b w.heap.size with h | h
         ·exact h
         ·rw [Array.getElem?_eq_none h] at hO; cases hO
        obtain ⟨g1, g2⟩ := hr1.write (w' := { w1 with heap := w1.heap.setIfInBounds i.b (.mapIter (some j.b) since (seen.toArray.push c.born) clock) }) hl rfl (o' := .mapIt (some m) since (seen ++ [e.2.2]) clock false) rfl hi rfl ⟨h0, j, hj, by simp [hlt, v3]⟩
        refine ⟨(.tup [.bool true, e.1, e.2.1], s.put r (.mapIt (some m) since (seen ++ [e.2.2]) clock false)), ?_, γ, _, .tuple #[.bool true, c.key, c.val], hex _ _ (hgo _ _ (by rw [hx]; simp only [Sem.run_bind, run_setObj_any (show w1.heap[i.b]? = some (.mapIter (some j.b) since seen.toArray last) by rw [hheap]; exact hO) (by simp), Result.andThen_ok, Sem.run_pure])), ?_, hd1.trans g2, g1⟩
        ·refine List.mem_append_right _ (List.mem_map.2 ⟨e, List.mem_of_getElem? he, rfl⟩)
        ·simp only [VRel]; exact ⟨_, rfl, VRels.cons (by simp [VRel]) (VRels.cons v1 (VRels.cons v2 VRels.nil))⟩
     ·cases h
   ·rename_i b pos hl
    obtain ⟨j, hj, hO, _⟩ := hr.obj r _ hl
    rw [hi] at hj; obtain rfl := Option.some.inj hj
    obtain ⟨h0, hO⟩ := hO
    split at h
    ·rename_i hs
     split at h
     ·rename_i hlt
      obtain rfl := Option.some.inj h
      have hlt2 : i.b < w.heap.size := by
       rcases Nat.lt_or_ge i.b w.heap.size with h | h
       ·exact h
       ·rw [Array.getElem?_eq_none h] at hO; cases hO
      obtain ⟨g1, g2⟩ := hr.write (w' := { w with heap := w.heap.setIfInBounds i.b (.stringIter ⟨b.toArray⟩ (pos + (Utf8.decode ⟨b.toArray⟩ pos).2)) }) hl rfl (o' := .strIt b (pos + (Utf8.decode ⟨b.toArray⟩ pos).2) false) rfl hi rfl ⟨h0, by simp [hlt2]⟩
      refine ⟨_, List.mem_singleton.2 rfl, γ, _, .tuple #[.bool true, goInt pos, .int .i32 (Utf8.decode ⟨b.toArray⟩ pos).1], hex _ _ ?_, ?_, g2, g1⟩
      ·have hsz : pos < (ByteArray.mk b.toArray).size := by simpa [ByteArray.size] using hlt
       simp only [hit, h0, Nat.add_zero, hs, Instr.next, Sem.run_bind, run_getObj hO (by simp), Result.andThen_ok, if_pos hsz]
       simp only [run_setObj_any hO (by simp), Result.andThen_ok, Sem.run_pure]
      ·simp only [VRel]; exact ⟨_, rfl, VRels.cons (by simp [VRel]) (VRels.cons (by simp [VRel, goInt]) (VRels.cons (by simp [VRel]) VRels.nil))⟩
     ·rename_i hlt
      obtain rfl := Option.some.inj h
      refine ⟨_, List.mem_singleton.2 rfl, γ, w, .tuple #[.bool false], hex _ _ ?_, ?_, Did.refl, hr⟩
      ·have hsz : ¬ pos < (ByteArray.mk b.toArray).size := by simpa [ByteArray.size] using hlt
       simp only [hit, h0, Nat.add_zero, hs, Instr.next, Sem.run_bind, run_getObj hO (by simp), Result.andThen_ok, if_neg hsz, Sem.run_pure]
      ·simp only [VRel]; exact ⟨_, rfl, VRels.cons (by simp [VRel]) VRels.nil⟩
    ·cases h
   ·cases h
  ·cases h
 ·cases h
end Go.Am
end

section
namespace Go.Am
abbrev Fr := Nat → AV
def upd (f : Fr) (d : Nat) (v : AV) : Fr := fun t => if t = d then v else f t
@[simp] theorem upd_same (f : Fr) (d : Nat) (v : AV) : upd f d v d = v := by simp [upd]
theorem upd_ne (f : Fr) {d t : Nat} (v : AV) (h : t ≠ d) : upd f d v t = f t := by simp [upd, h]
def updO (f : Fr) (d : Option Nat) (v : AV) : Fr := match d with | some d => upd f d v | none => f
structure FRel (γ : Gam) (n : Nat) (f : Fr) (a : Act) : Prop where
 size : a.tmps.size = n
 defers : a.defers = []
 vals : ∀ t, VRel γ (f t) (a.tmps.getD t undef)
theorem FRel.mono {γ γ' : Gam} {n : Nat} {f : Fr} {a : Act} (h : FRel γ n f a) (hle : Gam.le γ γ') : FRel γ' n f a := ⟨h.size, h.defers, fun t => (h.vals t).mono hle⟩
theorem FRel.eval {γ : Gam} {n : Nat} {f : Fr} {a : Act} (h : FRel γ n f a) : ∀ x, VRel γ (aev f x) (a.eval x)
 | .tmp t => h.vals t
 | .const v => ofV_rel γ v
 | .func g => by simp only [aev, Act.eval, VRel]; exact ⟨_, rfl, VRels.nil⟩
 | .global _ => by simp [aev, VRel]
def dstOk (n : Nat) : Option Nat → Bool
 | some d => decide (d < n)
 | none => true
theorem FRel.put {γ : Gam} {n : Nat} {f : Fr} {a : Act} (h : FRel γ n f a) {d : Option Nat} {v : AV} {c : Value} (hd : dstOk n d = true) (hv : VRel γ v c) : FRel γ n (updO f d v) (a.put d c) := by
 cases d with
 | none => exact h
 | some d =>
  have hdn : d < n := by simpa [dstOk] using hd
  refine ⟨by simp [Act.put, h.size], h.defers, fun t => ?_⟩
  simp only [updO, upd, Act.put]
  by_cases ht : t = d
  ·subst ht
   have : (a.tmps.setIfInBounds t c).getD t undef = c := by simp [Array.getD, h.size, hdn]
   rw [if_pos rfl, this]; exact hv
  ·rw [if_neg ht]
   have := h.vals t
   have e : (a.tmps.setIfInBounds d c).getD t undef = a.tmps.getD t undef := by
    simp only [Array.getD_eq_getD_getElem?]
    rw [Array.getElem?_setIfInBounds_ne (fun e => ht e.symm)]
   rw [e]; exact this
def PostR (B : Nat) (γ : Gam) (s : AS) (w : World) (n : Nat) (Q : Exit → Fr → AS → Prop) : Exit → Act → World → Prop := fun e a' w' =>
 ∃ γ' f' s', FRel γ' n f' a' ∧ Did B γ s w γ' s' w' ∧ Rel B γ' s' w' ∧ Q e f' s'
def AWp (P : Program) (n : Nat) (c : Code) (f : Fr) (s : AS) (Q : Exit → Fr → AS → Prop) : Prop :=
 ∀ (B : Nat) (γ : Gam) (a : Act) (w : World), FRel γ n f a → Rel B γ s w → c.wp P (PostR B γ s w n Q) a w
def XThen (K : Fr → AS → Prop) (Q : Exit → Fr → AS → Prop) : Exit → Fr → AS → Prop
 | .normal, f, s => K f s
 | e, f, s => Q e f s
def XBlock (id : Nat) (Q : Exit → Fr → AS → Prop) : Exit → Fr → AS → Prop
 | .exit id', f, s => if id' = id then Q .normal f s else Q (.exit id') f s
 | e, f, s => Q e f s
def XScope (Q : Exit → Fr → AS → Prop) : Exit → Fr → AS → Prop
 | .goto _, _, _ => False
 | e, f, s => Q e f s
theorem PostR.trans {B : Nat} {γ γ' : Gam} {s s' : AS} {w w' : World} {n : Nat} {Q : Exit → Fr → AS → Prop} (hd : Did B γ s w γ' s' w') {e : Exit} {a : Act} {w'' : World} (h : PostR B γ' s' w' n Q e a w'') : PostR B γ s w n Q e a w'' := by
 obtain ⟨γ2, f2, s2, h1, h2, h3, h4⟩ := h
 exact ⟨γ2, f2, s2, h1, hd.trans h2, h3, h4⟩
section
variable {P : Program} {n : Nat} {f : Fr} {s : AS} {Q : Exit → Fr → AS → Prop}
theorem AWp.mono {c : Code} {Q' : Exit → Fr → AS → Prop} (h : AWp P n c f s Q) (hq : ∀ e f s, Q e f s → Q' e f s) : AWp P n c f s Q' :=
 fun B γ a w hf hr => wp_mono (h B γ a w hf hr) fun e a' w' ⟨γ', f', s', h1, h2, h3, h4⟩ => ⟨γ', f', s', h1, h2, h3, hq _ _ _ h4⟩
theorem AWp.skip (h : Q .normal f s) : AWp P n .skip f s Q := fun B γ a w hf hr => wp_skip ⟨γ, f, s, hf, Did.refl, hr, h⟩
theorem AWp.label {l : Nat} (h : Q .normal f s) : AWp P n (.label l) f s Q := fun B γ a w hf hr => wp_label ⟨γ, f, s, hf, Did.refl, hr, h⟩
theorem AWp.exit {id : Nat} (h : Q (.exit id) f s) : AWp P n (.exit id) f s Q := fun B γ a w hf hr => wp_exit ⟨γ, f, s, hf, Did.refl, hr, h⟩
theorem AWp.ret (h : Q .ret f s) : AWp P n .ret f s Q := fun B γ a w hf hr => wp_ret ⟨γ, f, s, hf, Did.refl, hr, h⟩
theorem AWp.seq {x y : Code} (h : AWp P n x f s (XThen (fun f s => AWp P n y f s Q) Q)) : AWp P n (.seq x y) f s Q := by
 intro B γ a w hf hr
 refine wp_seq (wp_mono (h B γ a w hf hr) ?_)
 rintro e a' w' ⟨γ', f', s', h1, h2, h3, h4⟩
 cases e with
 | normal => exact wp_mono (h4 B γ' a' w' h1 h3) fun e a w hh => PostR.trans h2 hh
 | _ => exact ⟨γ', f', s', h1, h2, h3, h4⟩
theorem AWp.cond {c : Operand} {x y : Code} {t : Bool} (hc : aev f c = .bool t) (h : AWp P n (if t then x else y) f s Q) : AWp P n (.cond c x y) f s Q := by
 intro B γ a w hf hr
 have hv := hf.eval c
 rw [hc] at hv
 simp only [VRel] at hv
 exact wp_cond hv (h B γ a w hf hr)
theorem AWp.block {id : Nat} {c : Code} (h : AWp P n c f s (XBlock id Q)) : AWp P n (.block id c) f s Q := by
 intro B γ a w hf hr
 refine wp_block (wp_mono (h B γ a w hf hr) ?_)
 rintro e a' w' ⟨γ', f', s', h1, h2, h3, h4⟩
 cases e with
 | exit id' =>
  simp only [XBlock] at h4
  simp only [Exit.inBlock]
  split
  ·rename_i hid; rw [if_pos hid] at h4; exact ⟨γ', f', s', h1, h2, h3, h4⟩
  ·rename_i hid; rw [if_neg hid] at h4; exact ⟨γ', f', s', h1, h2, h3, h4⟩
 | _ => exact ⟨γ', f', s', h1, h2, h3, h4⟩
theorem AWp.scope {c : Code} (h : AWp P n c f s (XScope Q)) : AWp P n (.scope c) f s Q := by
 intro B γ a w hf hr
 refine wp_scope_straight (wp_mono (h B γ a w hf hr) ?_)
 rintro e a' w' ⟨γ', f', s', h1, h2, h3, h4⟩
 cases e with
 | goto l => exact h4.elim
 | _ => exact ⟨γ', f', s', h1, h2, h3, h4⟩
theorem AWp.loop {c : Code} (I : Nat → Fr → AS → Prop) (m : Nat) (h₀ : I m f s)
  (round : ∀ m f s, I m f s → AWp P n c f s (XThen (fun f' s' => ∃ m', m' < m ∧ I m' f' s') Q)) : AWp P n (.loop c) f s Q := by
 intro B γ a w hf hr
 refine wp_loop_ghost (fun m a' w' => ∃ γ' f' s', FRel γ' n f' a' ∧ Did B γ s w γ' s' w' ∧ Rel B γ' s' w' ∧ I m f' s') m ⟨γ, f, s, hf, Did.refl, hr, h₀⟩ ?_
 rintro m a' w' ⟨γ', f', s', h1, h2, h3, h4⟩
 refine wp_mono (round m f' s' h4 B γ' a' w' h1 h3) ?_
 rintro e a2 w2 ⟨γ2, f2, s2, g1, g2, g3, g4⟩
 cases e with
 | normal => obtain ⟨m', hm, hI⟩ := g4; exact ⟨m', hm, γ2, f2, s2, g1, h2.trans g2, g3, hI⟩
 | _ => exact ⟨γ2, f2, s2, g1, h2.trans g2, g3, g4⟩
end
def callable (P : Program) (g : FuncId) : Bool :=
 match P.funcs[g]? with
 | some fn => !(fn.name == "runtime.NumGoroutine") && !fn.body.isNone
 | none => false
theorem run_callFunc {P : Program} {g : FuncId} (h : callable P g = true) (args : Array Value) (w : World) : (callFunc g args).run P w = .ok (.enter g args) w := by
 unfold callable at h
 cases hf : P.funcs[g]? with
 | none => simp [hf] at h
 | some fn =>
  simp only [hf, Bool.and_eq_true, Bool.not_eq_true'] at h
  simp only [callFunc, Sem.run_bind, run_program, Result.andThen_ok, hf, h.1, h.2, Bool.false_eq_true, if_false, Sem.run_pure]
def Lands (P : Program) (g : FuncId) (cargs : Array Value) (w : World) (R : Ending → World → Prop) : Prop :=
 ((callFunc g cargs).run P w = .ok (.enter g cargs) w ∧ Calls P g cargs w R) ∨ ∃ cv w', (callFunc g cargs).run P w = .ok (.value cv) w' ∧ R (.returned cv) w'
theorem Lands.mono {P : Program} {g : FuncId} {cargs : Array Value} {w : World} {R R' : Ending → World → Prop} (h : Lands P g cargs w R) (hr : ∀ e w, R e w → R' e w) : Lands P g cargs w R' := by
 rcases h with ⟨h1, h2⟩ | ⟨cv, w', h1, h2⟩
 ·exact .inl ⟨h1, h2.mono hr⟩
 ·exact .inr ⟨cv, w', h1, hr _ _ h2⟩
def ACalls (P : Program) (g : FuncId) (args : List AV) (s : AS) (R : AV → AS → Prop) : Prop :=
 ∀ (B : Nat) (γ : Gam) (cargs : Array Value) (w : World), VRels γ args cargs.toList → Rel B γ s w →
  Lands P g cargs w fun e w' => ∃ γ' v cv s', e = .returned cv ∧ VRel γ' v cv ∧ Did B γ s w γ' s' w' ∧ Rel B γ' s' w' ∧ R v s'
theorem ACalls.mono {P : Program} {g : FuncId} {args : List AV} {s : AS} {R R' : AV → AS → Prop} (h : ACalls P g args s R) (hr : ∀ v s, R v s → R' v s) : ACalls P g args s R' :=
 fun B γ ca w h1 h2 => (h B γ ca w h1 h2).mono fun e w' ⟨γ', v, cv, s', a, b, c, d, e⟩ => ⟨γ', v, cv, s', a, b, c, d, hr _ _ e⟩
def awanted (ops : Array Oper) (f : Fr) (o : Oper) : Option Bool :=
 match o.guard with
 | none => some true
 | some (j, want) =>
  match (ops[j]?).bind (·.dst) with
  | some d => match f d with
   | .bool b => some (b == want)
   | .tup _ => some false
   | _ => none
  | none => some false
theorem awanted_run {γ : Gam} {n : Nat} {f : Fr} {a : Act} (h : FRel γ n f a) {ops : Array Oper} {o : Oper} {b : Bool} (hw : awanted ops f o = some b) : Region.wanted o (yielded ops a.tmps) = b := by
 unfold awanted at hw
 unfold Region.wanted
 cases hg : o.guard with
 | none => simp only [hg] at hw ⊢; exact Option.some.inj hw
 | some p =>
  obtain ⟨j, want⟩ := p
  simp only [hg] at hw ⊢
  unfold yielded
  cases hd : (ops[j]?).bind (·.dst) with
  | none => simp only [hd] at hw ⊢; simpa using hw
  | some d =>
   simp only [hd] at hw
   have hv := h.vals d
   simp only [Option.bind_some]
   split at hw
   ·rename_i c hc
    rw [hc] at hv; simp only [VRel] at hv
    obtain rfl := Option.some.inj hw
    have : a.tmps[d]? = some (.bool c) := by
     rw [Array.getD_eq_getD_getElem?] at hv
     cases hq : a.tmps[d]? with
     | none => rw [hq] at hv; simp [undef] at hv
     | some u => rw [hq] at hv; simp at hv; rw [hv]
    rw [this]; simp
   ·rename_i l hc
    rw [hc] at hv; simp only [VRel] at hv
    obtain ⟨cs, hcs, _⟩ := hv
    obtain rfl := Option.some.inj hw
    have : ∀ c, a.tmps[d]? ≠ some (.bool c) := by
     intro c hq
     rw [Array.getD_eq_getD_getElem?, hq] at hcs
     simp at hcs
    cases hq : a.tmps[d]? with
    | none => rfl
    | some u => cases u <;> first | rfl | exact (this _ hq).elim
   ·cases hw
def acallee (f : Fr) : Op → Option (FuncId × List AV)
 | .call c => match c.callee with
  | .value x => match aev f x with
   | .func g cap => some (g, c.args.toList.map (aev f) ++ cap)
   | .meth g ft cap => some (g, ft ++ (c.args.toList.map (aev f) ++ cap))
   | _ => none
  | _ => none
 | _ => none
def vcOp (P : Program) (T : TT) (n : Nat) (o : Oper) (f : Fr) (s : AS) (K : Fr → AS → Prop) : Prop :=
 dstOk n o.dst = true ∧
 ((match acallee f o.op with
 | some (g, args) => ACalls P g args s fun v s' => K (updO f o.dst v) s'
 | none => ∃ v s', aop T o.op (aev f) s = some (v, s') ∧ K (updO f o.dst v) s') ∨
 ∃ l, acand o.op (aev f) s = some l ∧ ∀ p ∈ l, K (updO f o.dst p.1) p.2)
def isNext : Op → Bool
 | .next .. => true
 | _ => false
theorem acand_none {op : Op} (h : isNext op = false) (ρ : Operand → AV) (s : AS) : acand op ρ s = none := by
 cases op <;> first | rfl | cases h
def vcOps (P : Program) (T : TT) (n : Nat) (ops : Array Oper) : List Oper → Fr → AS → (Fr → AS → Prop) → Prop
 | [], f, s, K => K f s
 | o :: rest, f, s, K => match awanted ops f o with
  | some true => vcOp P T n o f s fun f' s' => vcOps P T n ops rest f' s' K
  | some false => dstOk n o.dst = true ∧ vcOps P T n ops rest (updO f o.dst .undef) s K
  | none => False
theorem acallee_run {γ : Gam} {n : Nat} {f : Fr} {a : Act} (h : FRel γ n f a) {o : Oper} {g : FuncId} {args : List AV} (hc : acallee f o.op = some (g, args)) {P : Program} (w : World) :
  ∃ cargs : Array Value, VRels γ args cargs.toList ∧ (execOp a.eval o).run P w = (callFunc g cargs).run P w := by
 obtain ⟨dst, op, type, pos, after, guard⟩ := o
 simp only at hc
 unfold acallee at hc
 split at hc
 ·rename_i c
  split at hc
  ·rename_i x hx
   split at hc
   ·rename_i g' cap hv
    obtain ⟨rfl, rfl⟩ : _ ∧ _ := by simpa using hc
    have he := h.eval x
    rw [hv] at he
    simp only [VRel] at he
    obtain ⟨cc, hcc, hrel⟩ := he
    refine ⟨(c.args.map a.eval) ++ cc, ?_, ?_⟩
    ·rw [Array.toList_append, Array.toList_map]
     exact (vrels_of h.eval c.args.toList).append hrel
    ·simp only [execOp, resolve, hx, hcc, Deferred.ofValue, Sem.run_bind, Sem.run_pure, Result.andThen_ok, invoke]
     have : (#[] : Array Value) ++ c.args.map a.eval = c.args.map a.eval := by simp
     rw [this]
   ·rename_i g' ft cap hv
    obtain ⟨rfl, rfl⟩ : _ ∧ _ := by simpa using hc
    have he := h.eval x
    rw [hv] at he
    simp only [VRel] at he
    obtain ⟨cf, cc, hcc, hrelf, hrel⟩ := he
    refine ⟨(cf ++ c.args.map a.eval) ++ cc, ?_, ?_⟩
    ·rw [Array.toList_append, Array.toList_append, Array.toList_map, List.append_assoc]
     exact hrelf.append ((vrels_of h.eval c.args.toList).append hrel)
    ·simp only [execOp, resolve, hx, hcc, Deferred.ofValue, Sem.run_bind, Sem.run_pure, Result.andThen_ok, invoke]
   ·cases hc
  ·cases hc
 ·cases hc
theorem vcOp_sound {P : Program} {T : TT} (hT : TT.Ok P T) {n : Nat} {o : Oper} {f : Fr} {s : AS} {K : Fr → AS → Prop} (h : vcOp P T n o f s K) {B : Nat} {γ : Gam} {a : Act} {w : World} (hf : FRel γ n f a) (hr : Rel B γ s w)
  {next : Act → World → Prop} {Q : Exit → Act → World → Prop} (hn : ∀ γ' f' s' a' w', FRel γ' n f' a' → Did B γ s w γ' s' w' → Rel B γ' s' w' → K f' s' → next a' w') : o.wp P a w next Q := by
 obtain ⟨hd, h⟩ := h
 unfold Oper.wp
 rcases h with h | ⟨l, hl, h⟩
 rotate_left
 ·obtain ⟨p, hp, γ', w', cv, hrun, hv, hdid, hr'⟩ := acand_sim (P := P) hr hf.eval hl
  rw [hrun]
  exact hn γ' _ p.2 _ w' ((hf.mono hdid.le).put hd hv) hdid hr' (h p hp)
 split at h
 ·rename_i g args hc
  obtain ⟨cargs, hargs, hrun⟩ := acallee_run hf hc (P := P) w
  rw [hrun]
  rcases h B γ cargs w hargs hr with ⟨h1, h2⟩ | ⟨cv, w', h1, γ', v, cv', s', e, hv, hdid, hr', hk⟩
  ·rw [h1]
   simp only [Oper.upon]
   refine h2.mono ?_
   rintro e w' ⟨γ', v, cv, s', rfl, hv, hdid, hr', hk⟩
   exact hn γ' _ s' _ w' ((hf.mono hdid.le).put hd hv) hdid hr' hk
  ·rw [h1]
   injection e with e
   subst e
   exact hn γ' _ s' _ w' ((hf.mono hdid.le).put hd hv) hdid hr' hk
 ·obtain ⟨v, s', hop, hk⟩ := h
  obtain ⟨γ', w', nx, cv, hrun, hnx, hv, hdid, hr'⟩ := aop_sim hT hr hf.eval hop
  rw [hrun]
  rcases hnx with rfl | ⟨rfl, rfl⟩
  ·exact hn γ' _ s' _ w' ((hf.mono hdid.le).put hd hv) hdid hr' hk
  ·exact hn γ' _ s' _ w' ((hf.mono hdid.le).put hd hv) hdid hr' hk
theorem vcOps_sound {P : Program} {T : TT} (hT : TT.Ok P T) {n : Nat} {ops : Array Oper} {Q : Exit → Fr → AS → Prop} {B : Nat} {γ0 : Gam} {s0 : AS} {w0 : World} : ∀ (l : List Nat) (os : List Oper) (f : Fr) (s : AS) (γ : Gam) (a : Act) (w : World),
  l.map (ops[·]?) = os.map some → vcOps P T n ops os f s (fun f s => Q .normal f s) → FRel γ n f a → Rel B γ s w → Did B γ0 s0 w0 γ s w → wpOps P ops (PostR B γ0 s0 w0 n Q) l a w
 | [], os, f, s, γ, a, w, hl, h, hf, hr, hd => by
  cases os with
  | nil => exact ⟨γ, f, s, hf, hd, hr, h⟩
  | cons _ _ => simp at hl
 | i :: l, os, f, s, γ, a, w, hl, h, hf, hr, hd => by
  cases os with
  | nil => simp at hl
  | cons o os =>
   simp only [List.map_cons, List.cons.injEq] at hl
   simp only [wpOps, hl.1]
   simp only [vcOps] at h
   split at h
   ·rename_i hw
    rw [awanted_run hf hw, if_pos rfl]
    exact .inl (vcOp_sound hT h hf hr fun γ' f' s' a' w' h1 h2 h3 h4 => vcOps_sound hT l os f' s' γ' a' w' hl.2 h4 h1 h3 (hd.trans h2))
   ·rename_i hw
    rw [awanted_run hf hw, if_neg (by simp)]
    exact vcOps_sound hT l os _ s γ _ w hl.2 h.2 (hf.put h.1 (vundef γ)) hr hd
   ·exact h.elim
theorem AWp.region {P : Program} {T : TT} (hT : TT.Ok P T) {n : Nat} {id : Nat} {ops : Array Oper} {f : Fr} {s : AS} {Q : Exit → Fr → AS → Prop} (h : vcOps P T n ops ops.toList f s fun f s => Q .normal f s) :
  AWp P n (.region id ops false) f s Q := by
 intro B γ a w hf hr
 refine wp_region (vcOps_sound hT (List.range ops.size) ops.toList f s γ a w ?_ h hf hr Did.refl)
 apply List.ext_getElem?
 intro i
 simp only [List.getElem?_map]
 by_cases hi : i < ops.size
 ·simp [hi]
 ·have : ops.toList[i]? = none := List.getElem?_eq_none (by simpa using hi)
  rw [this, List.getElem?_eq_none (by simpa using hi)]; rfl
def ares (T : TT) (rs : List ResultVar) (f : Fr) (s : AS) : Option AV :=
 (resL rs).map fun vs => match vs with | [v] => v | vs => .tup vs
where
 resL : List ResultVar → Option (List AV)
  | [] => some []
  | .tmp t :: rs => (resL rs).map fun vs => f t :: vs
  | .cell a t :: rs => (ald T t s (f a)).bind fun v => (resL rs).map fun vs => v :: vs
def resF (tmps : Array Value) : ResultVar → Sem Value
 | .tmp t => pure (tmps.getD t undef)
 | .cell x t => do loadVar t (← asAddr (tmps.getD x undef))
theorem ares_run {P : Program} {T : TT} (hT : TT.Ok P T) {B : Nat} {γ : Gam} {n : Nat} {f : Fr} {s : AS} {a : Act} {w : World} (hf : FRel γ n f a) (hr : Rel B γ s w) {fn : Func} {v : AV} (h : ares T fn.results.toList f s = some v) :
  ∃ cv, (results fn a.tmps).run P w = .ok cv w ∧ VRel γ v cv := by
 unfold ares at h
 simp only [Option.map_eq_some_iff] at h
 obtain ⟨vs, hvs, e⟩ := h
 have key : ∀ (F : ResultVar → Sem Value), (∀ t, F (.tmp t) = pure (a.tmps.getD t undef)) → (∀ x t, F (.cell x t) = do loadVar t (← asAddr (a.tmps.getD x undef))) →
   ∀ (rs : List ResultVar) (vs : List AV), ares.resL T f s rs = some vs → ∃ cvs : List Value, (rs.mapM F).run P w = .ok cvs w ∧ VRels γ vs cvs := by
  intro F hF1 hF2 rs
  induction rs with
  | nil => intro vs h; simp only [ares.resL] at h; obtain rfl := Option.some.inj h; exact ⟨[], rfl, VRels.nil⟩
  | cons r rs ih =>
   intro vs h
   cases r with
   | tmp t =>
    simp only [ares.resL, Option.map_eq_some_iff] at h
    obtain ⟨us, hus, rfl⟩ := h
    obtain ⟨cvs, h1, h2⟩ := ih us hus
    exact ⟨_, by simp only [List.mapM_cons, Sem.run_bind, hF1, Sem.run_pure, Result.andThen_ok, h1], VRels.cons (hf.vals t) h2⟩
   | cell x t =>
    simp only [ares.resL, Option.bind_eq_some_iff, Option.map_eq_some_iff] at h
    obtain ⟨u, hu, us, hus, rfl⟩ := h
    obtain ⟨cvs, h1, h2⟩ := ih us hus
    have hx := hf.vals x
    have hp : ∃ l o, f x = .ptr (some (l, o)) := by
     unfold ald at hu
     split at hu
     ·rename_i l o e; exact ⟨l, o, e⟩
     ·cases hu
    obtain ⟨l, o, hp⟩ := hp
    rw [hp] at hx hu
    simp only [VRel] at hx
    obtain ⟨i, hi, hxe⟩ := hx
    obtain ⟨cv, hrun, hv⟩ := ald_run hT hr hi hu
    exact ⟨_, by simp only [List.mapM_cons, Sem.run_bind, hF2, hxe, asAddr, hrun, Sem.run_pure, Result.andThen_ok, h1], VRels.cons hv h2⟩
 have hres : ∃ cvs : List Value, (results fn a.tmps).run P w = .ok (if h : cvs.toArray.size = 1 then cvs.toArray[0] else .tuple cvs.toArray) w ∧ VRels γ vs cvs := by
  have hE : results fn a.tmps = (do let vs ← fn.results.mapM (resF a.tmps); pure (if h : vs.size = 1 then vs[0] else .tuple vs)) := rfl
  rw [hE]
  simp only [Sem.run_bind]
  rw [Array.mapM_eq_mapM_toList]
  obtain ⟨cvs, h1, h2⟩ := key (resF a.tmps) (fun _ => rfl) (fun _ _ => rfl) fn.results.toList vs hvs
  exact ⟨cvs, by simp only [Sem.run_map, h1, Result.andThen_ok, Sem.run_pure], h2⟩
 obtain ⟨cvs, hrun, hrel⟩ := hres
 refine ⟨_, hrun, ?_⟩
 subst e
 split
 ·obtain ⟨d, ds, rfl, hd, hds⟩ := VRels.cons_iff.1 hrel
  obtain rfl := VRels.nil_iff.1 hds
  rw [dif_pos (by simp)]
  exact hd
 ·rename_i vs' hne
  have hlen := hrel.length
  have : ¬ cvs.toArray.size = 1 := by
   intro h1
   simp only [List.size_toArray] at h1
   obtain ⟨v, rfl⟩ := List.length_eq_one_iff.1 (hlen.trans h1)
   exact hne v rfl
  rw [dif_neg this]
  simp only [VRel]
  exact ⟨_, rfl, hrel⟩
def ainit (args : List AV) : Fr := fun t => args.getD t .undef
theorem ACalls.of_body {P : Program} {T : TT} (hT : TT.Ok P T) {g : FuncId} {fn : Func} {c : Code} {args : List AV} {s : AS} {R : AV → AS → Prop} (hf : P.funcs[g]? = some fn) (hc : callable P g = true) (hb : fn.body = some c)
  (h : AWp P (args.length + (fn.ntmps - args.length)) c (ainit args) s fun e f s' => match e with
   | .normal | .ret => ∃ v, ares T fn.results.toList f s' = some v ∧ R v s'
   | _ => False) : ACalls P g args s R := by
 refine fun B γ cargs w hargs hr => .inl ⟨run_callFunc hc _ w, calls_of_wp hf hb ?_⟩
 have hlen := hargs.length
 simp only [Array.length_toList] at hlen
 have hfr : FRel γ (args.length + (fn.ntmps - args.length)) (ainit args) { tmps := cargs ++ Array.replicate (fn.ntmps - cargs.size) undef, defers := [] } := by
  refine ⟨by simp [hlen], rfl, fun t => ?_⟩
  simp only [ainit, Array.getD_eq_getD_getElem?, List.getD_eq_getElem?_getD]
  by_cases ht : t < args.length
  ·obtain ⟨cv, hcv, hrel⟩ := hargs.get (List.getElem?_eq_getElem ht)
   rw [Array.getElem?_append_left (by omega)]
   rw [Array.getElem?_toList] at hcv
   rw [hcv, List.getElem?_eq_getElem ht]
   exact hrel
  ·rw [List.getElem?_eq_none (by omega)]
   have : ((cargs ++ Array.replicate (fn.ntmps - cargs.size) undef)[t]?).getD undef = undef := by
    rw [Array.getElem?_append_right (by omega)]
    by_cases hq : t - cargs.size < fn.ntmps - cargs.size
    ·simp [hq]
    ·rw [Array.getElem?_eq_none (by simp; omega)]; rfl
   rw [this]
   exact vundef γ
 refine wp_mono (h B γ _ w hfr hr) ?_
 rintro e a' w' ⟨γ', f', s', h1, h2, h3, h4⟩
 cases e with
 | normal =>
  obtain ⟨v, hv, hR⟩ := h4
  obtain ⟨cv, hrun, hrel⟩ := ares_run hT h1 h3 hv
  exact ⟨h1.defers, cv, hrun, γ', v, cv, s', rfl, hrel, h2, h3, hR⟩
 | ret =>
  obtain ⟨v, hv, hR⟩ := h4
  obtain ⟨cv, hrun, hrel⟩ := ares_run hT h1 h3 hv
  exact ⟨h1.defers, cv, hrun, γ', v, cv, s', rfl, hrel, h2, h3, hR⟩
 | exit id => exact h4.elim
 | goto l => exact h4.elim
 | panic ch => exact h4.elim
 | outgrown => exact h4.elim
end Go.Am
end
