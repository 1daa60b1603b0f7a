/-
  The abstract machine Am: what a write, an allocation, a moved block do to the relation between the abstract heap and a world.
-/
import Derived.Test.YtbfchlimonimkaaAmBase
namespace Go.Am

theorem Rel.of_heap {B : Nat} {γ : Gam} {s : AS} {w w' : World} (h : Rel B γ s w) (hw : w'.heap = w.heap) : Rel B γ s w' :=
  ⟨fun l o hl => let ⟨i, a, b, c⟩ := h.obj l o hl; ⟨i, a, b.congr (by rw [hw]), c⟩, h.inj, h.fin, h.stp, by rw [hw]; exact h.base⟩

theorem Did.of_heap {B : Nat} {γ : Gam} {s : AS} {w w' : World} (hw : w'.heap = w.heap) (he : Env w w' := by exact ⟨rfl, rfl, rfl⟩) : Did B γ s w γ s w' :=
  ⟨Gam.le_refl γ, fun _ _ _ => by rw [hw], by rw [hw]; exact Nat.le_refl _, fun l o i h1 h2 h3 => .inr ⟨l, o, i, h1, h2, h3, rfl⟩, ⟨0, by simp⟩, rfl, rfl, fun _ h h' => absurd h h', fun _ _ h _ _ => h, he⟩

theorem put_sld {s : AS} {l : Nat} {o' : AO} (hro' : o'.ro = false) : ∀ x o, (s.put l o').cur.get x = some o → o.live = true → o.ro = true → s.cur.get x = some o := by
  intro x o h h1 h2
  simp only [AS.put, Tr.get_set] at h
  split at h
  · obtain rfl := Option.some.inj h; rw [hro'] at h2; cases h2
  · exact h
theorem new_sld {s : AS} {o' : AO} (hro' : o'.ro = false) : ∀ x o, (s.new o').cur.get x = some o → o.live = true → o.ro = true → s.cur.get x = some o := by
  intro x o h h1 h2
  simp only [AS.new, Tr.get_set] at h
  split at h
  · obtain rfl := Option.some.inj h; rw [hro'] at h2; cases h2
  · exact h
theorem kill_sld {s : AS} {l : Nat} : ∀ x o, (s.kill l).cur.get x = some o → o.live = true → o.ro = true → s.cur.get x = some o := by
  intro x o h h1 h2
  simp only [AS.kill, Tr.get_set] at h
  split at h
  · obtain rfl := Option.some.inj h; cases h1
  · exact h

/-- An object of the heap is rewritten. -/
theorem Rel.write {B : Nat} {γ : Gam} {s : AS} {w w' : World} {l : Nat} {o o' : AO} {i : CI} {obj : Obj} (h : Rel B γ s w) (hl : s.h l = some o) (hro : o.ro = false) (hro' : o'.ro = false)
    (hi : γ l = some i) (hw : w'.heap = w.heap.setIfInBounds i.b obj) (ho : ORel γ w' i o') (he : Env w w' := by exact ⟨rfl, rfl, rfl⟩) : Rel B γ (s.put l o') w' ∧ Did B γ s w γ (s.put l o') w' := by
  have hsz : w'.heap.size = w.heap.size := by rw [hw]; simp
  have hne : ∀ b, b ≠ i.b → w'.heap[b]? = w.heap[b]? := by
    intro b hb; rw [hw, Array.getElem?_setIfInBounds_ne (Ne.symm hb)]
  have hlive := AO.live_of_ro hro'
  constructor
  · refine ⟨fun l' p hp => ?_, fun l1 l2 p1 p2 i1 i2 h1 h2 r1 g1 g2 e => ?_, h.fin, h.stp, by rw [hsz]; exact h.base⟩
    · rw [AS.put_h _ _ hlive] at hp
      split at hp
      · rename_i e; subst e
        obtain rfl := Option.some.inj hp
        obtain ⟨j, hj, _, hB⟩ := h.obj l' o hl
        rw [hi] at hj; obtain rfl := Option.some.inj hj
        exact ⟨i, hi, ho, fun _ => hB hro⟩
      · rename_i e
        obtain ⟨j, hj, hO, hB⟩ := h.obj l' p hp
        refine ⟨j, hj, hO.congr (hne _ ?_), hB⟩
        intro e2
        exact e (h.inj l l' o p i j hl hp hro hi hj e2.symm).symm
    · have key : ∀ x p, (s.put l o').h x = some p → ∃ q, s.h x = some q ∧ (p.ro = false → q.ro = false) := by
        intro x p hx
        rw [AS.put_h _ _ hlive] at hx
        split at hx
        · rename_i e; subst e; exact ⟨o, hl, fun _ => hro⟩
        · exact ⟨p, hx, fun h => h⟩
      obtain ⟨q1, k1, r1'⟩ := key l1 p1 h1
      obtain ⟨q2, k2, _⟩ := key l2 p2 h2
      exact h.inj l1 l2 q1 q2 i1 i2 k1 k2 (r1' r1) g1 g2 e
  · refine ⟨Gam.le_refl γ, fun b hb hn => hne b fun e => hn l o i hl hro hi e.symm, by rw [hsz]; exact Nat.le_refl _, fun l' p j h1 h2 h3 => .inr ?_, ⟨0, by simp [AS.put_nl]⟩, rfl, rfl, fun _ h h' => absurd h h', put_sld hro', he⟩
    rw [AS.put_h _ _ hlive] at h1
    split at h1
    · rename_i e; subst e; exact ⟨l', o, j, hl, hro, h3, rfl⟩
    · exact ⟨l', p, j, h1, h2, h3, rfl⟩

def updG (γ : Gam) (l : Nat) (i : CI) : Gam := fun x => if x = l then some i else γ x
theorem updG_same (γ : Gam) (l : Nat) (i : CI) : updG γ l i l = some i := by simp [updG]
theorem Gam.le_upd {γ : Gam} {l : Nat} {i : CI} (h : γ l = none) : Gam.le γ (updG γ l i) := by
  intro x j hx
  simp only [updG]
  split
  · rename_i e; subst e; rw [h] at hx; exact absurd hx (by simp)
  · exact hx

theorem upd_dom {γ : Gam} {s : AS} {i : CI} (l : Nat) (h : γ l = none) (h' : updG γ s.nl i l ≠ none) : ∃ j, l = s.nl + j * s.st := by
  simp only [updG] at h'
  split at h'
  · rename_i e; exact ⟨0, by simp [e]⟩
  · exact absurd h h'

/-- A new object. -/
theorem Rel.alloc {B : Nat} {γ : Gam} {s : AS} {w w' : World} {o : AO} {i : CI} {obj : Obj} (h : Rel B γ s w) (hro : o.ro = false)
    (hib : i.b = w.heap.size) (hw : w'.heap = w.heap.push obj) (ho : ORel (updG γ s.nl i) w' i o) (he : Env w w' := by exact ⟨rfl, rfl, rfl⟩) :
    Rel B (updG γ s.nl i) (s.new o) w' ∧ Did B γ s w (updG γ s.nl i) (s.new o) w' := by
  have hnone : γ s.nl = none := h.fin0
  have hle : Gam.le γ (updG γ s.nl i) := Gam.le_upd hnone
  have hold : ∀ b, b < w.heap.size → w'.heap[b]? = w.heap[b]? := by
    intro b hb; rw [hw, Array.getElem?_push_lt hb, Array.getElem?_eq_getElem hb]
  have hsz : w'.heap.size = w.heap.size + 1 := by rw [hw]; simp
  have hB := h.base
  have hst := h.stp
  have hlive := AO.live_of_ro hro
  have hno : ∀ p, s.h s.nl = some p → False := by
    intro p hp
    obtain ⟨j, hj, _⟩ := h.obj _ p hp
    rw [hnone] at hj; cases hj
  constructor
  · refine ⟨fun l' p hp => ?_, fun l1 l2 p1 p2 i1 i2 h1 h2 r1 g1 g2 e => ?_, fun j => ?_, hst, by omega⟩
    · rw [AS.new_h _ hlive] at hp
      split at hp
      · rename_i e; subst e
        obtain rfl := Option.some.inj hp
        exact ⟨i, updG_same _ _ _, ho, fun _ => by omega⟩
      · obtain ⟨j, hj, hO, hb1⟩ := h.obj l' p hp
        exact ⟨j, hle _ _ hj, (hO.mono hle).congr (hold _ hO.lt), hb1⟩
    · rw [AS.new_h _ hlive] at h1 h2
      simp only [updG] at g1 g2
      by_cases e1 : l1 = s.nl <;> by_cases e2 : l2 = s.nl
      · rw [e1, e2]
      · rw [if_pos e1] at g1; rw [if_neg e2] at h2 g2
        obtain rfl := Option.some.inj g1
        obtain ⟨j, hj, hO, _⟩ := h.obj l2 p2 h2
        rw [hj] at g2; obtain rfl := Option.some.inj g2
        have := hO.lt
        omega
      · rw [if_pos e2] at g2; rw [if_neg e1] at h1 g1
        obtain rfl := Option.some.inj g2
        obtain ⟨j, hj, hO, _⟩ := h.obj l1 p1 h1
        rw [hj] at g1; obtain rfl := Option.some.inj g1
        have := hO.lt
        omega
      · rw [if_neg e1] at h1 g1; rw [if_neg e2] at h2 g2
        exact h.inj l1 l2 p1 p2 i1 i2 h1 h2 r1 g1 g2 e
    · rw [AS.new_nl, AS.new_st]
      simp only [updG]
      have e1 : s.nl + s.st + j * s.st = s.nl + (j + 1) * s.st := by rw [Nat.add_mul, Nat.one_mul]; omega
      rw [if_neg (by omega), e1]
      exact h.fin (j + 1)
  · refine ⟨hle, fun b hb _ => hold b hb, by omega, fun l' p j h1 h2 h3 => ?_, ⟨1, by simp [AS.new_nl]⟩, rfl, rfl, upd_dom, new_sld hro, he⟩
    rw [AS.new_h _ hlive] at h1
    simp only [updG] at h3
    by_cases e : l' = s.nl
    · rw [if_pos e] at h3; obtain rfl := Option.some.inj h3; exact .inl (by omega)
    · rw [if_neg e] at h1 h3; exact .inr ⟨l', p, j, h1, h2, h3, rfl⟩

theorem Rel.kill {B : Nat} {γ : Gam} {s : AS} {w : World} (h : Rel B γ s w) (l : Nat) : Rel B γ (s.kill l) w ∧ Did B γ s w γ (s.kill l) w := by
  have key : ∀ x p, (s.kill l).h x = some p → s.h x = some p := by
    intro x p hx
    rw [AS.kill_h] at hx
    split at hx
    · exact absurd hx (by simp)
    · exact hx
  exact ⟨⟨fun l' p hp => h.obj l' p (key _ _ hp), fun l1 l2 p1 p2 i1 i2 h1 h2 r1 g1 g2 e => h.inj l1 l2 p1 p2 i1 i2 (key _ _ h1) (key _ _ h2) r1 g1 g2 e, h.fin, h.stp, h.base⟩,
    ⟨Gam.le_refl γ, fun _ _ _ => rfl, Nat.le_refl _, fun l' p j h1 h2 h3 => .inr ⟨l', p, j, key _ _ h1, h2, h3, rfl⟩, ⟨0, by simp [AS.kill_nl]⟩, rfl, rfl, fun _ h h' => absurd h h', kill_sld, rfl, rfl, rfl⟩⟩

/-- An object is taken over by a new label, and rewritten in place. -/
theorem Rel.take {B : Nat} {γ : Gam} {s : AS} {w w' : World} {l : Nat} {o o' : AO} {i i' : CI} {obj : Obj} (h : Rel B γ s w) (hl : s.h l = some o) (hro : o.ro = false) (hro' : o'.ro = false)
    (hi : γ l = some i) (hib : i'.b = i.b) (hw : w'.heap = w.heap.setIfInBounds i.b obj) (ho : ORel (updG γ s.nl i') w' i' o') (he : Env w w' := by exact ⟨rfl, rfl, rfl⟩) :
    Rel B (updG γ s.nl i') ((s.kill l).new o') w' ∧ Did B γ s w (updG γ s.nl i') ((s.kill l).new o') w' := by
  have hnone : γ s.nl = none := h.fin0
  have hle : Gam.le γ (updG γ s.nl i') := Gam.le_upd hnone
  have hsz : w'.heap.size = w.heap.size := by rw [hw]; simp
  have hne : ∀ b, b ≠ i.b → w'.heap[b]? = w.heap[b]? := by
    intro b hb; rw [hw, Array.getElem?_setIfInBounds_ne (Ne.symm hb)]
  obtain ⟨j0, hj0, hO0, hB0⟩ := h.obj l o hl
  rw [hi] at hj0; obtain rfl := Option.some.inj hj0
  have hB0 := hB0 hro
  have hst := h.stp
  have hlive := AO.live_of_ro hro'
  have key : ∀ x p, x ≠ s.nl → ((s.kill l).new o').h x = some p → x ≠ l ∧ s.h x = some p := by
    intro x p hx hp
    rw [AS.new_h _ hlive, AS.kill_nl, if_neg hx, AS.kill_h] at hp
    split at hp
    · exact absurd hp (by simp)
    · rename_i e; exact ⟨e, hp⟩
  have far : ∀ x p j, s.h x = some p → x ≠ l → γ x = some j → j.b ≠ i.b := by
    intro x p j hx hxl hj e
    exact hxl (h.inj l x o p i j hl hx hro hi hj e.symm).symm
  constructor
  · refine ⟨fun x p hp => ?_, fun l1 l2 p1 p2 i1 i2 h1 h2 r1 g1 g2 e => ?_, fun j => ?_, hst, by rw [hsz]; exact h.base⟩
    · by_cases e : x = s.nl
      · subst e
        rw [AS.new_h _ hlive, AS.kill_nl, if_pos rfl] at hp
        obtain rfl := Option.some.inj hp
        exact ⟨i', updG_same _ _ _, ho, fun _ => by omega⟩
      · obtain ⟨hxl, hx⟩ := key x p e hp
        obtain ⟨j, hj, hO, hb1⟩ := h.obj x p hx
        exact ⟨j, hle _ _ hj, (hO.mono hle).congr (hne _ (far x p j hx hxl hj)), hb1⟩
    · simp only [updG] at g1 g2
      by_cases e1 : l1 = s.nl <;> by_cases e2 : l2 = s.nl
      · rw [e1, e2]
      · rw [if_pos e1] at g1; rw [if_neg e2] at g2
        obtain rfl := Option.some.inj g1
        obtain ⟨hxl, hx⟩ := key l2 p2 e2 h2
        exact absurd (e.symm.trans hib) (far l2 p2 i2 hx hxl g2)
      · rw [if_pos e2] at g2; rw [if_neg e1] at g1
        obtain rfl := Option.some.inj g2
        obtain ⟨hxl, hx⟩ := key l1 p1 e1 h1
        exact absurd (e.trans hib) (far l1 p1 i1 hx hxl g1)
      · rw [if_neg e1] at g1; rw [if_neg e2] at g2
        exact h.inj l1 l2 p1 p2 i1 i2 (key l1 p1 e1 h1).2 (key l2 p2 e2 h2).2 r1 g1 g2 e
    · rw [AS.new_nl, AS.new_st, AS.kill_nl, AS.kill_st]
      simp only [updG]
      have e1 : s.nl + s.st + j * s.st = s.nl + (j + 1) * s.st := by rw [Nat.add_mul, Nat.one_mul]; omega
      rw [if_neg (by omega), e1]
      exact h.fin (j + 1)
  · refine ⟨hle, fun b hb hn => hne b fun e => hn l o i hl hro hi e.symm, by rw [hsz]; exact Nat.le_refl _, fun x p j h1 h2 h3 => .inr ?_, ⟨1, by simp [AS.new_nl, AS.kill_nl, AS.kill_st]⟩, rfl, rfl, upd_dom, fun l p h h1 h2 => kill_sld l p (new_sld hro' l p h h1 h2) h1 h2, he⟩
    simp only [updG] at h3
    by_cases e : x = s.nl
    · rw [if_pos e] at h3; obtain rfl := Option.some.inj h3; exact ⟨l, o, i, hl, hro, hi, hib.symm⟩
    · rw [if_neg e] at h3; exact ⟨x, p, j, (key x p e h1).2, h2, h3, rfl⟩

end Go.Am
