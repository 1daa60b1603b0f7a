/-
  A part of the proof: an abstract machine over the model, and contracts of functions of this program over it.
-/
import Derived.RangeFuncSeq
import Derived.RangeFuncCalls
import Derived.TacticsIn
import Derived.IntWalk
import Derived.OpenShut
import Derived.Deep.Slices
import Derived.Carry
import Derived.Lay
import Derived.Test.YtblpmffajlkmjaaDoorP2
set_option linter.unusedVariables false
set_option linter.unusedSimpArgs false
set_option linter.unusedSectionVars false
section
namespace Go.Am
structure MpTy {K : Type} [DecidableEq K] (T : TT) (t kt et : TypeId) (kf : K → AV) (z : AV) : Prop where
 u : T.und t = some (.map kt et)
 eq : ∀ a b, aeq T 100 kt (kf a) (kf b) = some (decide (a = b))
 ok : ∀ a, akeyOk T 100 kt (kf a) = true
 bits : ∀ a, abits 100 (kf a) (kf a) = true
 z : T.zer et = some z
def mget {K V : Type} [DecidableEq K] (es : List (K × V × Nat)) (k : K) : Option V := (es.find? fun e => decide (e.1 = k)).map fun e => e.2.1
def ents {K V : Type} (kf : K → AV) (vf : V → AV) (es : List (K × V × Nat)) : List (AV × AV × Nat) := es.map fun e => (kf e.1, vf e.2.1, e.2.2)
structure MpAt {K V : Type} (kf : K → AV) (vf : V → AV) (s : AS) (m : Nat) (es : List (K × V × Nat)) (c : Nat) (ro : Bool) : Prop where
 obj : s.h m = some (.map (ents kf vf es) c ro)
 st : es.Pairwise fun a b => a.2.2 < b.2.2
 lt : ∀ e ∈ es, e.2.2 < c
 nd : es.Pairwise fun a b => a.1 ≠ b.1
section
variable {K V : Type} [DecidableEq K] {kf : K → AV} {vf : V → AV}
theorem mget_nil (k : K) : mget ([] : List (K × V × Nat)) k = none := rfl
theorem mget_cons (e : K × V × Nat) (es : List (K × V × Nat)) (k : K) : mget (e :: es) k = if e.1 = k then some e.2.1 else mget es k := by
 unfold mget
 rw [List.find?_cons]
 by_cases h : e.1 = k
 ·simp [h]
 ·simp [h]
theorem mget_append (es fs : List (K × V × Nat)) (k : K) : mget (es ++ fs) k = (mget es k).or (mget fs k) := by
 induction es with
 | nil => simp [mget_nil]
 | cons e es ih =>
  rw [List.cons_append, mget_cons, mget_cons, ih]
  split <;> simp
theorem mget_some {es : List (K × V × Nat)} {k : K} {v : V} (h : mget es k = some v) : ∃ (j n : Nat), es[j]? = some (k, v, n) := by
 induction es with
 | nil => cases h
 | cons e es ih =>
  rw [mget_cons] at h
  split at h
  ·rename_i hk
   obtain ⟨k', v', n⟩ := e
   simp only at hk h
   subst hk
   obtain rfl := Option.some.inj h
   exact ⟨0, n, rfl⟩
  ·obtain ⟨j, n, hj⟩ := ih h
   exact ⟨j + 1, n, by simpa using hj⟩
theorem mget_mem {es : List (K × V × Nat)} (nd : es.Pairwise fun a b => a.1 ≠ b.1) {e : K × V × Nat} (h : e ∈ es) : mget es e.1 = some e.2.1 := by
 induction es with
 | nil => cases h
 | cons x es ih =>
  obtain ⟨n1, n2⟩ := List.pairwise_cons.1 nd
  rw [mget_cons]
  rcases List.mem_cons.1 h with rfl | h
  ·rw [if_pos rfl]
  ·rw [if_neg (n1 e h), ih n2 h]
theorem mget_none {es : List (K × V × Nat)} {k : K} : mget es k = none ↔ ∀ e ∈ es, e.1 ≠ k := by
 induction es with
 | nil => simp [mget_nil]
 | cons e es ih =>
  rw [mget_cons]
  by_cases h : e.1 = k
  ·rw [if_pos h]
   constructor
   ·intro h; cases h
   ·intro h'; exact absurd h (h' e (by simp))
  ·rw [if_neg h, ih]
   simp [h]
theorem mget_set {k : K} {v v0 : V} {n : Nat} : ∀ (es : List (K × V × Nat)) (j : Nat), es[j]? = some (k, v0, n) → (∀ j', j' < j → ∀ e, es[j']? = some e → e.1 ≠ k) → j < es.length → ∀ k', mget (es.set j (k, v, n)) k' = if k' = k then some v else mget es k'
 | [], j, _, _, hl, _ => by simp at hl
 | x :: es, 0, hj, _, _, k' => by
  simp only [List.getElem?_cons_zero, Option.some.injEq] at hj
  subst hj
  rw [List.set_cons_zero, mget_cons, mget_cons]
  by_cases e : k = k'
  ·subst e; simp
  ·simp only [if_neg e, if_neg (fun h : k' = k => e h.symm)]
 | x :: es, j + 1, hj, hb, hl, k' => by
  have hx : x.1 ≠ k := hb 0 (by omega) x rfl
  rw [List.set_cons_succ, mget_cons, mget_cons, mget_set es j (by simpa using hj) (fun j' hj' e he => hb (j' + 1) (by omega) e (by simpa using he)) (by simpa using hl) k']
  by_cases e : x.1 = k'
  ·rw [if_pos e, if_pos e, if_neg (fun h => hx (e.trans h))]
  ·rw [if_neg e, if_neg e]
variable {T : TT} {t kt et : TypeId} {z : AV} (ht : MpTy T t kt et kf z)
include ht
theorem afind_mp (k : K) : ∀ (es : List (K × V × Nat)) (i : Nat), (mget es k = none → afind T kt (kf k) (ents kf vf es) i = some none) ∧ ∀ v, mget es k = some v → ∃ j n, es[j]? = some (k, v, n) ∧ (∀ j', j' < j → ∀ e, es[j']? = some e → e.1 ≠ k) ∧ afind T kt (kf k) (ents kf vf es) i = some (some (i + j, vf v))
 | [], i => ⟨fun _ => rfl, fun v h => by cases h⟩
 | e :: es, i => by
  obtain ⟨h1, h2⟩ := afind_mp k es (i + 1)
  simp only [ents, List.map_cons, afind, ht.eq]
  rw [mget_cons]
  by_cases hk : e.1 = k
  ·rw [if_pos hk]
   refine ⟨(fun h => by cases h), fun v h => ?_⟩
   obtain rfl := Option.some.inj h
   refine ⟨0, e.2.2, by rw [← hk]; rfl, fun j' hj => by omega, ?_⟩
   rw [decide_eq_true hk.symm]; rfl
  ·rw [if_neg hk]
   have hd : decide (k = e.1) = false := decide_eq_false (fun h => hk h.symm)
   rw [hd]
   refine ⟨h1, fun v h => ?_⟩
   obtain ⟨j, n, a, b, c⟩ := h2 v h
   refine ⟨j + 1, n, by simpa using a, fun j' hj e' he' => ?_, by rw [show i + (j + 1) = i + 1 + j by omega]; exact c⟩
   cases j' with
   | zero => simp only [List.getElem?_cons_zero, Option.some.injEq] at he'; subst he'; exact hk
   | succ j' => exact b j' (by omega) e' (by simpa using he')
theorem MpAt.find {s : AS} {m : Nat} {es : List (K × V × Nat)} {c : Nat} {ro : Bool} (h : MpAt kf vf s m es c ro) (k : K) (ok : Bool) :
  alookup T t (.map (some m)) (kf k) ok s = some (if ok then .tup [((mget es k).map vf).getD z, .bool (mget es k).isSome] else ((mget es k).map vf).getD z) := by
 obtain ⟨h1, h2⟩ := afind_mp (vf := vf) ht k es 0
 simp only [alookup, ht.u, ht.ok, if_true, h.obj, Option.bind_some]
 cases hq : mget es k with
 | none =>
  rw [h1 hq]
  simp only [Option.bind_some, ht.z, Option.map_some, Option.map_none, Option.getD_none, Option.isSome_none]
 | some v =>
  obtain ⟨j, n, _, _, hf⟩ := h2 v hq
  rw [hf]
  simp only [Option.bind_some, Option.map_some, Option.getD_some, Option.isSome_some]
theorem ents_set (es : List (K × V × Nat)) (j : Nat) (e : K × V × Nat) : (ents kf vf es).set j (kf e.1, vf e.2.1, e.2.2) = ents kf vf (es.set j e) := by
 simp [ents, List.map_set]
theorem MpAt.upd {s : AS} (hw : WFs s) {m : Nat} {es : List (K × V × Nat)} {c : Nat} (h : MpAt kf vf s m es c false) (k : K) (v : V) {Q : AS → Prop}
  (hq : ∀ s' es' c', MpAt kf vf s' m es' c' false → (∀ k', mget es' k' = if k' = k then some v else mget es k') → WFs s' → Mut [m] s s' → Q s') : StQ (amapUpdate T t (.map (some m)) (kf k) (vf v) s) Q := by
 obtain ⟨h1, h2⟩ := afind_mp (vf := vf) ht k es 0
 cases hg : mget es k with
 | none =>
  have hno := mget_none.1 hg
  have hP := hw.put (o := .map (ents kf vf es ++ [(kf k, vf v, c)]) (c + 1) false) h.obj rfl
  refine ⟨_, ?_, hq _ (es ++ [(k, v, c)]) (c + 1) ⟨?_, ?_, ?_, ?_⟩ (fun k' => ?_) hP.wf hP.mut⟩
  ·simp only [amapUpdate, ht.u, h.obj, ht.ok, if_true, h1 hg, Option.bind_some]
  ·rw [hP.at]; simp [ents]
  ·refine List.pairwise_append.2 ⟨h.st, List.pairwise_singleton _ _, fun a ha b hb => ?_⟩
   obtain rfl := List.mem_singleton.1 hb
   exact h.lt a ha
  ·intro e he
   rcases List.mem_append.1 he with he | he
   ·have := h.lt e he; omega
   ·obtain rfl := List.mem_singleton.1 he; show c < c + 1; omega
  ·refine List.pairwise_append.2 ⟨h.nd, List.pairwise_singleton _ _, fun a ha b hb => ?_⟩
   obtain rfl := List.mem_singleton.1 hb
   exact hno a ha
  ·rw [mget_append, mget_cons, mget_nil]
   by_cases e : k = k'
   ·subst e; rw [if_pos rfl, if_pos rfl, hg]; rfl
   ·rw [if_neg e, if_neg (fun h => e h.symm)]; cases mget es k' <;> rfl
 | some v0 =>
  obtain ⟨j, n, hj, hb, hf⟩ := h2 v0 hg
  rw [Nat.zero_add] at hf
  have hjl : j < es.length := by
   rcases Nat.lt_or_ge j es.length with h | h
   ·exact h
   ·rw [List.getElem?_eq_none h] at hj; cases hj
  have hge : (ents kf vf es)[j]? = some (kf k, vf v0, n) := by simp [ents, hj]
  have hP := hw.put (o := .map (ents kf vf (es.set j (k, v, n))) c false) h.obj rfl
  have hkeys : (es.set j (k, v, n)).map (fun e => (e.1, e.2.2)) = es.map fun e => (e.1, e.2.2) := by
   apply List.ext_getElem?
   intro i
   simp only [List.getElem?_map, List.getElem?_set]
   split
   ·rename_i e; subst e; rw [hj]; first | rfl | (rw [if_pos hjl]; rfl)
   ·rfl
  have hpw : ∀ (R : K × Nat → K × Nat → Prop), (es.Pairwise fun a b => R (a.1, a.2.2) (b.1, b.2.2)) → ((es.set j (k, v, n)).Pairwise fun a b => R (a.1, a.2.2) (b.1, b.2.2)) := by
   intro R hp
   have := (List.pairwise_map (f := fun e : K × V × Nat => (e.1, e.2.2)) (R := R)).2 hp
   rw [← hkeys] at this
   exact List.pairwise_map.1 this
  refine ⟨_, ?_, hq _ (es.set j (k, v, n)) c ⟨hP.at, hpw (fun a b => a.2 < b.2) h.st, ?_, hpw (fun a b => a.1 ≠ b.1) h.nd⟩ (fun k' => ?_) hP.wf hP.mut⟩
  ·simp only [amapUpdate, ht.u, h.obj, ht.ok, if_true, hf, Option.bind_some, hge, ht.bits, if_true]
   rw [← ents_set ht es j (k, v, n)]
  ·intro e he
   obtain ⟨i, hi⟩ := List.mem_iff_getElem?.1 he
   rw [List.getElem?_set] at hi
   by_cases hji : j = i
   ·rw [if_pos hji] at hi
    first
     | (obtain rfl := Option.some.inj hi; exact h.lt (k, v0, n) (List.mem_of_getElem? hj))
     | (rw [if_pos hjl] at hi; obtain rfl := Option.some.inj hi; exact h.lt (k, v0, n) (List.mem_of_getElem? hj))
   ·rw [if_neg hji] at hi
    exact h.lt e (List.mem_of_getElem? hi)
  ·exact mget_set es j hj hb hjl k'
end
section
variable {K V : Type} {kf : K → AV} {vf : V → AV}
theorem MpAt.mut {s s' : AS} {m : Nat} {es : List (K × V × Nat)} {c : Nat} {ro : Bool} {L : List Nat} (h : MpAt kf vf s m es c ro) (e : Mut L s s') (hm : m ∉ L) : MpAt kf vf s' m es c ro := ⟨e.1 _ _ hm h.obj, h.st, h.lt, h.nd⟩
theorem MpAt.ext {s s' : AS} {m : Nat} {es : List (K × V × Nat)} {c : Nat} {ro : Bool} (h : MpAt kf vf s m es c ro) (e : Ext s s') : MpAt kf vf s' m es c ro := h.mut (L := []) e.mut (by simp)
theorem MpAt.new {s : AS} {m : Nat} (h : s.h m = some (.map [] 0 false)) : MpAt kf vf s m ([] : List (K × V × Nat)) 0 false := ⟨h, List.Pairwise.nil, by simp, List.Pairwise.nil⟩
/-! ### ranges -/
structure Iter (s : AS) (it m : Nat) (es : List (K × V × Nat)) (c : Nat) (done : List (K × V × Nat)) : Prop where
 «at» : s.h it = some (.mapIt (some m) c (done.map fun e => e.2.2) c false)
 sub : ∀ e ∈ done, e ∈ es
 nd : done.Nodup
theorem Iter.mut {s s' : AS} {it m : Nat} {es done : List (K × V × Nat)} {c : Nat} {L : List Nat} (h : Iter s it m es c done) (e : Mut L s s') (hi : it ∉ L) : Iter s' it m es c done := ⟨e.1 _ _ hi h.at, h.sub, h.nd⟩
theorem Iter.ext {s s' : AS} {it m : Nat} {es done : List (K × V × Nat)} {c : Nat} (h : Iter s it m es c done) (e : Ext s s') : Iter s' it m es c done := h.mut (L := []) e.mut (by simp)
theorem stamp_inj {es : List (K × V × Nat)} (st : es.Pairwise fun a b => a.2.2 < b.2.2) {a b : K × V × Nat} (ha : a ∈ es) (hb : b ∈ es) (h : a.2.2 = b.2.2) : a = b := by
 induction es with
 | nil => cases ha
 | cons x es ih =>
  obtain ⟨s1, s2⟩ := List.pairwise_cons.1 st
  rcases List.mem_cons.1 ha with ea | ha <;> rcases List.mem_cons.1 hb with eb | hb
  ·rw [ea, eb]
  ·have := s1 b hb; rw [ea] at h; omega
  ·have := s1 a ha; rw [eb] at h; omega
  ·exact ih s2 ha hb
open Classical in
theorem nodup_len {α : Type} : ∀ {d es : List α}, d.Nodup → (∀ e ∈ d, e ∈ es) → d.length ≤ es.length
 | [], es, _, _ => Nat.zero_le _
 | x :: d, es, h, hs => by
  obtain ⟨n1, n2⟩ := List.nodup_cons.1 h
  have hx := hs x (by simp)
  have := nodup_len (d := d) (es := es.erase x) n2 fun e he => (List.mem_erase_of_ne (fun h => n1 (by rw [← h]; exact he))).2 (hs e (by simp [he]))
  have hp : 0 < es.length := List.length_pos_of_mem hx
  rw [List.length_erase_of_mem hx] at this
  simp only [List.length_cons]; omega
theorem Iter.lt {s : AS} {it m : Nat} {es done : List (K × V × Nat)} {c : Nat} (h : Iter s it m es c done) {e : K × V × Nat} (he : e ∈ es) (hn : e ∉ done) : done.length < es.length := by
 have := nodup_len (d := e :: done) (es := es) (List.nodup_cons.2 ⟨hn, h.nd⟩) fun x hx => by
  rcases List.mem_cons.1 hx with rfl | hx
  ·exact he
  ·exact h.sub x hx
 simp only [List.length_cons] at this; omega
theorem Iter.next {s : AS} (hw : WFs s) {it m : Nat} {es done : List (K × V × Nat)} {c : Nat} {ro : Bool} (h : MpAt kf vf s m es c ro) (hi : Iter s it m es c done) {A : Prop} {B : AV → AV → AS → Prop}
  (hA : (∀ e ∈ es, e ∈ done) → A) (hB : ∀ e s', e ∈ es → e ∉ done → Iter s' it m es c (done ++ [e]) → WFs s' → Mut [it] s s' → B (kf e.1) (vf e.2.1) s') : NextP (acandM (.ptr (some (it, 0))) s) A B := by
 have hcond : ¬ (done.map (fun e => e.2.2) ≠ [] ∧ ents kf vf es ≠ [] ∧ ((ents kf vf es).all fun e => decide (c ≤ e.2.2)) = true) := by
  rintro ⟨_, h2, h3⟩
  cases es with
  | nil => exact h2 rfl
  | cons e es =>
   have := h.lt e (by simp)
   simp [ents] at h3
   omega
 refine ⟨_, _, (by simp only [acandM, hi.at, h.obj]; rw [if_neg hcond]), ?_, ?_⟩
 ·intro he
  refine hA fun e hes => ?_
  have hlt := h.lt e hes
  simp only [List.isEmpty_iff, List.filter_eq_nil_iff] at he
  have := he (kf e.1, vf e.2.1, e.2.2)
  simp only [List.mem_filter, ents, List.mem_map] at this
  have hc : (done.map fun e => e.2.2).contains e.2.2 = true := by
   cases hq : (done.map fun e => e.2.2).contains e.2.2 with
   | true => rfl
   | false => exact absurd (decide_eq_true hlt) (this ⟨⟨e, hes, rfl⟩, by rw [hq]; rfl⟩)
  simp only [List.contains_iff_mem, List.mem_map] at hc
  obtain ⟨e', he', hst⟩ := hc
  rw [← stamp_inj h.st (hi.sub e' he') hes hst]
  exact he'
 ·intro k v s' hm
  obtain ⟨x, hx, he⟩ := List.mem_map.1 hm
  have hx2 : x ∈ (ents kf vf es).filter fun e => !(done.map fun e => e.2.2).contains e.2.2 := by
   rcases List.mem_append.1 hx with hx | hx
   ·exact (List.mem_filter.1 hx).1
   ·exact (List.mem_filter.1 hx).1
  obtain ⟨hxm, hxn⟩ := List.mem_filter.1 hx2
  simp only [ents, List.mem_map] at hxm
  obtain ⟨e, hes, rfl⟩ := hxm
  simp only [Prod.mk.injEq] at he
  obtain ⟨rfl, rfl, rfl⟩ := he
  have hn : e ∉ done := by
   intro hd
   have : (done.map fun e => e.2.2).contains e.2.2 = true := by
    simp only [List.contains_iff_mem, List.mem_map]; exact ⟨e, hd, rfl⟩
   rw [this] at hxn; cases hxn
  have hP := hw.put (o := .mapIt (some m) c (done.map (fun e => e.2.2) ++ [e.2.2]) c false) hi.at rfl
  refine hB e _ hes hn ⟨by rw [hP.at]; simp, fun x hx => ?_, ?_⟩ hP.wf hP.mut
  ·rcases List.mem_append.1 hx with hx | hx
   ·exact hi.sub x hx
   ·obtain rfl := List.mem_singleton.1 hx; exact hes
  ·refine List.nodup_append.2 ⟨hi.nd, by simp, fun a ha b hb => ?_⟩
   obtain rfl := List.mem_singleton.1 hb
   rintro rfl
   exact hn ha
theorem Iter.entry {s : AS} {it m : Nat} {es done : List (K × V × Nat)} {c : Nat} {ro : Bool} {e : K × V × Nat} (h : MpAt kf vf s m es c ro) (hi : Iter s it m es c (done ++ [e])) {Q : AV → AV → Prop} (hq : Q (kf e.1) (vf e.2.1)) : RdE (aentry (.ptr (some (it, 0))) s) Q := by
 refine ⟨_, _, ?_, hq⟩
 have hes := hi.sub e (by simp)
 simp only [aentry, hi.at, h.obj, if_true]
 have hl : (List.map (fun e : K × V × Nat => e.2.2) (done ++ [e])).getLast? = some e.2.2 := by simp
 rw [hl]
 simp only [Option.bind_some]
 have hf : (ents kf vf es).find? (fun x => x.2.2 == e.2.2) = some (kf e.1, vf e.2.1, e.2.2) := by
  have : ∀ (l : List (K × V × Nat)), (∀ x ∈ l, x.2.2 = e.2.2 → x = e) → e ∈ l → (ents kf vf l).find? (fun x => x.2.2 == e.2.2) = some (kf e.1, vf e.2.1, e.2.2) := by
   intro l
   induction l with
   | nil => intro _ h; cases h
   | cons x l ih =>
    intro h1 h2
    simp only [ents, List.map_cons, List.find?_cons]
    cases hq : (x.2.2 == e.2.2) with
    | true =>
     have := h1 x (by simp) (by simpa using hq)
     rw [this]
    | false =>
     rcases List.mem_cons.1 h2 with rfl | h2
     ·simp at hq
     ·exact ih (fun y hy => h1 y (by simp [hy])) h2
  exact this es (fun x hx hst => stamp_inj h.st hx hes hst) hes
 rw [hf]
 rfl
end
end Go.Am
end

section
namespace Go.Am
open Go.RowKit
def sideObj : Obj → Bool
 | .loop _ => true
 | .deferred _ => true
 | _ => false
theorem ORel.not_side {γ : Gam} {w : World} {i : CI} {o : AO} {ob : Obj} (h : ORel γ w i o) (hb : w.heap[i.b]? = some ob) : sideObj ob = false := by
 cases o with
 | cells cs g ro => obtain ⟨c, e, fz, h1, _⟩ := h; rw [h1] at hb; cases hb; rfl
 | map es clock ro => obtain ⟨c, h1, _⟩ := h; rw [h1] at hb; cases hb; rfl
 | mapIt m since seen stepped ro =>
  cases m with
  | none => obtain ⟨_, h1⟩ := h; rw [h1] at hb; cases hb; rfl
  | some m => obtain ⟨_, j, _, h1⟩ := h; rw [h1] at hb; cases hb; rfl
 | strIt s pos ro => obtain ⟨_, h1⟩ := h; rw [h1] at hb; cases hb; rfl
 | dead => exact h.elim
section
variable {B : Nat} {γ γ' : Gam} {s s' : AS} {w w' : World}
theorem Rel.side (h : Rel B γ s w) (hs : w.heap.size ≤ w'.heap.size) (hb : ∀ (b : Nat) (ob : Obj), w.heap[b]? = some ob → sideObj ob = false → w'.heap[b]? = some ob) : Rel B γ s w' := by
 refine ⟨fun l o hl => ?_, h.inj, h.fin, h.stp, Nat.le_trans h.base hs⟩
 obtain ⟨i, a, b, c⟩ := h.obj l o hl
 refine ⟨i, a, b.congr ?_, c⟩
 have hlt := b.lt
 rw [hb i.b _ (Array.getElem?_eq_getElem hlt) (b.not_side (Array.getElem?_eq_getElem hlt)), Array.getElem?_eq_getElem hlt]
theorem Rel.side_ne (h : Rel B γ s w) {b : Nat} {ob : Obj} (hl : w.heap[b]? = some ob) (hs : sideObj ob = true) : ∀ l o i, s.h l = some o → γ l = some i → i.b ≠ b := by
 rintro l o i h1 h2 rfl
 obtain ⟨i', a, b, c⟩ := h.obj l o h1
 rw [h2] at a
 obtain rfl := Option.some.inj a
 have := b.not_side hl
 rw [hs] at this; cases this
theorem Did.keeps (d : Did B γ s w γ' s' w') (h : Rel B γ s w) {b : Nat} {ob : Obj} (hl : w.heap[b]? = some ob) (hs : sideObj ob = true) : w'.heap[b]? = some ob := by
 rw [d.frm b (Array.getElem?_eq_some_iff.1 hl).1 fun l o i h1 _ h2 => h.side_ne hl hs l o i h1 h2]; exact hl
theorem Did.swap {w1 w2 : World} (d : Did B γ s w1 γ' s' w2) (h1 : w.heap.size ≤ w1.heap.size) (h2 : w2.heap.size ≤ w'.heap.size) (hf : ∀ b, b < w.heap.size → (∀ l o i, s.h l = some o → o.ro = false → γ l = some i → i.b ≠ b) → w'.heap[b]? = w.heap[b]?) (he : Env w w') : Did B γ s w γ' s' w' :=
 ⟨d.le, hf, by have := d.siz; omega, fun l o i a b c => (d.new l o i a b c).imp (fun h => by omega) id, d.nl, d.st, d.lay, d.dom, d.sld, he⟩
end
/-! ### frames with marks -/
def FX (γ : Gam) (n : Nat) (f : Fr) (ds : List Deferred) (a : Act) : Prop := a.defers = ds ∧ FRel γ n f { a with defers := [] }
theorem FX.mono {γ γ' : Gam} {n : Nat} {f : Fr} {ds : List Deferred} {a : Act} (h : FX γ n f ds a) (hle : Gam.le γ γ') : FX γ' n f ds a := ⟨h.1, h.2.mono hle⟩
theorem FX.eval {γ : Gam} {n : Nat} {f : Fr} {ds : List Deferred} {a : Act} (h : FX γ n f ds a) (x : Operand) : VRel γ (aev f x) (a.eval x) := by
 have := h.2.eval x
 cases x <;> exact this
theorem FX.put {γ : Gam} {n : Nat} {f : Fr} {ds : List Deferred} {a : Act} (h : FX γ n f ds a) {d : Option Nat} {v : AV} {c : Value} (hd : dstOk n d = true) (hv : VRel γ v c) : FX γ n (updO f d v) ds (a.put d c) := by
 refine ⟨?_, ?_⟩
 ·cases d <;> exact h.1
 ·have := h.2.put hd hv
  cases d <;> exact this
abbrev Fz (rd : Option Nat) : Fence := { Fence.wide with round := rd }
def PostX (B : Nat) (γ : Gam) (s : AS) (w : World) (n : Nat) (ds : List Deferred) (Q : Exit → Fr → AS → Prop) : Exit → Act → World → Prop := fun e a' w' =>
 ∃ γ' f' s', FX γ' n f' ds a' ∧ Did B γ s w γ' s' w' ∧ Rel B γ' s' w' ∧ Q e f' s'
theorem PostX.trans {B : Nat} {γ γ' : Gam} {s s' : AS} {w w' : World} {n : Nat} {ds : List Deferred} {Q : Exit → Fr → AS → Prop} (hd : Did B γ s w γ' s' w') {e : Exit} {a : Act} {w'' : World} (h : PostX B γ' s' w' n ds Q e a w'') : PostX B γ s w n ds Q e a w'' := by
 obtain ⟨γ2, f2, s2, h1, h2, h3, h4⟩ := h
 exact ⟨γ2, f2, s2, h1, hd.trans h2, h3, h4⟩
def Kept (Iv : Gam → World → Prop) : Prop := ∀ B γ s w γ' s' w', Rel B γ s w → Iv γ w → Did B γ s w γ' s' w' → Iv γ' w'
theorem Kept.true : Kept fun _ _ => True := fun _ _ _ _ _ _ _ _ _ _ => trivial
def AWpX (Iv : Gam → World → Prop) (rd : Option Nat) (ds : List Deferred) (P : Program) (n : Nat) (c : Code) (f : Fr) (s : AS) (Q : Exit → Fr → AS → Prop) : Prop :=
 ∀ (B : Nat) (γ : Gam) (a : Act) (w : World), FX γ n f ds a → Rel B γ s w → Iv γ w → c.wpIn (Fz rd) 0 P (PostX B γ s w n ds Q) a w
def YOk (Iv : Gam → World → Prop) (P : Program) (l : Nat) (args : List AV) (s : AS) (R : AV → AS → Prop) : Prop :=
 ∀ (B : Nat) (γ : Gam) (cargs : Array Value) (w : World), VRels γ args cargs.toList → Rel B γ s w → Iv γ w →
  YieldAt Fence.wide 0 P l cargs w fun e w' => ∃ γ' v cv s', e = .returned cv ∧ VRel γ' v cv ∧ Did B γ s w γ' s' w' ∧ Rel B γ' s' w' ∧ R v s'
def ICalls (Iv : Gam → World → Prop) (P : Program) (g : FuncId) (args : List AV) (s : AS) (R : AV → AS → Prop) : Prop :=
 ∀ (B : Nat) (γ : Gam) (cargs : Array Value) (w : World), VRels γ args cargs.toList → Rel B γ s w → Iv γ w →
  Calls P g cargs w fun e w' => ∃ γ' v cv s', e = .returned cv ∧ VRel γ' v cv ∧ Did B γ s w γ' s' w' ∧ Rel B γ' s' w' ∧ R v s'
theorem wpIn_loop_ghost {F : Fence} {k : Nat} {P : Program} {Q : Exit → Act → World → Prop} {a : Act} {w : World} {c : Code} (I : Nat → Act → World → Prop) (n₀ : Nat) (h₀ : I n₀ a w)
  (round : ∀ n a w, I n a w → c.wpIn F k P (Exit.then (fun a' w' => ∃ n', n' < n ∧ I n' a' w') Q) a w) : (Code.loop c).wpIn F k P Q a w := by
 refine wpIn_loop (fun a w => ∃ n, I n a w) (fun a w => leastOf (fun n => I n a w)) ⟨n₀, h₀⟩ ?_
 intro a w hI
 refine Go.wpIn_mono (round _ a w (leastOf_spec hI).1) ?_
 intro e a' w' hq
 cases e with
 | normal =>
  obtain ⟨n', hlt, hI'⟩ := hq
  exact show (∃ n, I n a' w') ∧ leastOf (fun n => I n a' w') < leastOf (fun n => I n a w) from ⟨⟨n', hI'⟩, Nat.lt_of_le_of_lt ((leastOf_spec ⟨n', hI'⟩).2 n' hI') hlt⟩
 | exit id => exact hq
 | goto l => exact hq
 | ret => exact hq
 | panic ch => exact hq
 | outgrown => exact hq
section
variable {Iv : Gam → World → Prop} {rd : Option Nat} {ds : List Deferred} {P : Program} {n : Nat} {f : Fr} {s : AS} {Q : Exit → Fr → AS → Prop}
theorem AWpX.skip (h : Q .normal f s) : AWpX Iv rd ds P n .skip f s Q := fun B γ a w hf hr _ => wpIn_skip ⟨γ, f, s, hf, Did.refl, hr, h⟩
theorem AWpX.exit {id : Nat} (h : Q (.exit id) f s) : AWpX Iv rd ds P n (.exit id) f s Q := fun B γ a w hf hr _ => wpIn_exit ⟨γ, f, s, hf, Did.refl, hr, h⟩
theorem AWpX.seq (hI : Kept Iv) {x y : Code} (h : AWpX Iv rd ds P n x f s (XThen (fun f s => AWpX Iv rd ds P n y f s Q) Q)) : AWpX Iv rd ds P n (.seq x y) f s Q := by
 intro B γ a w hf hr hi
 refine wpIn_seq (Go.wpIn_mono (h B γ a w hf hr hi) ?_)
 rintro e a' w' ⟨γ', f', s', h1, h2, h3, h4⟩
 cases e with
 | normal => exact Go.wpIn_mono (h4 B γ' a' w' h1 h3 (hI _ _ _ _ _ _ _ hr hi h2)) fun e a w hh => PostX.trans h2 hh
 | _ => exact ⟨γ', f', s', h1, h2, h3, h4⟩
theorem AWpX.cond {c : Operand} {x y : Code} {t : Bool} (hc : aev f c = .bool t) (h : AWpX Iv rd ds P n (if t then x else y) f s Q) : AWpX Iv rd ds P n (.cond c x y) f s Q := by
 intro B γ a w hf hr hi
 have hv := hf.eval c
 rw [hc] at hv
 simp only [VRel] at hv
 exact wpIn_cond hv (h B γ a w hf hr hi)
theorem AWpX.block {id : Nat} {c : Code} (h : AWpX Iv rd ds P n c f s (XBlock id Q)) : AWpX Iv rd ds P n (.block id c) f s Q := by
 intro B γ a w hf hr hi
 refine wpIn_block (Go.wpIn_mono (h B γ a w hf hr hi) ?_)
 rintro e a' w' ⟨γ', f', s', h1, h2, h3, h4⟩
 cases e with
 | exit id' =>
  simp only [XBlock] at h4
  simp only [Exit.inBlock]
  split
  ·rename_i hid; rw [if_pos hid] at h4; exact ⟨γ', f', s', h1, h2, h3, h4⟩
  ·rename_i hid; rw [if_neg hid] at h4; exact ⟨γ', f', s', h1, h2, h3, h4⟩
 | _ => exact ⟨γ', f', s', h1, h2, h3, h4⟩
theorem AWpX.loop (hI : Kept Iv) {c : Code} (I : Nat → Fr → AS → Prop) (m : Nat) (h₀ : I m f s)
  (round : ∀ m f s, I m f s → AWpX Iv rd ds P n c f s (XThen (fun f' s' => ∃ m', m' < m ∧ I m' f' s') Q)) : AWpX Iv rd ds P n (.loop c) f s Q := by
 intro B γ a w hf hr hi
 refine wpIn_loop_ghost (fun m a' w' => ∃ γ' f' s', FX γ' n f' ds a' ∧ Did B γ s w γ' s' w' ∧ Rel B γ' s' w' ∧ I m f' s') m ⟨γ, f, s, hf, Did.refl, hr, h₀⟩ ?_
 rintro m a' w' ⟨γ', f', s', h1, h2, h3, h4⟩
 refine Go.wpIn_mono (round m f' s' h4 B γ' a' w' h1 h3 (hI _ _ _ _ _ _ _ hr hi h2)) ?_
 rintro e a2 w2 ⟨γ2, f2, s2, g1, g2, g3, g4⟩
 cases e with
 | normal => obtain ⟨m', hm, hI⟩ := g4; exact ⟨m', hm, γ2, f2, s2, g1, h2.trans g2, g3, hI⟩
 | _ => exact ⟨γ2, f2, s2, g1, h2.trans g2, g3, g4⟩
end
/-! ### operations -/
def isDefer : Op → Bool
 | .defer _ => true
 | _ => false
theorem semAt_exec {o : Oper} (h : isDefer o.op = false) (rd : Option Nat) (ρ : Operand → Value) : o.semAt rd ρ = execOp ρ o := by
 cases rd with
 | none => rfl
 | some l => exact Oper.semAt_some l ρ o fun c e => by rw [e] at h; cases h
def ayield (f : Fr) : Op → Option (Nat × List AV)
 | .call c => match c.callee with
  | .value x => match aev f x with
   | .yld l => some (l, c.args.toList.map (aev f))
   | _ => none
  | _ => none
 | _ => none
theorem ayield_run {γ : Gam} {n : Nat} {f : Fr} {ds : List Deferred} {a : Act} (h : FX γ n f ds a) {o : Oper} {l : Nat} {args : List AV} (hc : ayield f o.op = some (l, args)) {P : Program} (w : World) :
  ∃ cargs : Array Value, VRels γ args cargs.toList ∧ (execOp a.eval o).run P w = (Instr.yield l cargs).run P w := by
 obtain ⟨dst, op, type, pos, after, guard⟩ := o
 simp only at hc
 unfold ayield at hc
 split at hc
 ·rename_i c
  split at hc
  ·rename_i x hx
   split at hc
   ·rename_i l' hv
    obtain ⟨rfl, rfl⟩ : _ ∧ _ := by simpa using hc
    have he := h.eval x
    rw [hv] at he
    simp only [VRel] at he
    refine ⟨c.args.map a.eval, ?_, ?_⟩
    ·rw [Array.toList_map]
     exact vrels_of h.eval c.args.toList
    ·simp only [execOp, resolve, hx, he, Deferred.ofValue, Sem.run_bind, Sem.run_pure, Result.andThen_ok, invoke]
     simp
   ·cases hc
  ·cases hc
 ·cases hc
theorem vcOp_soundX {P : Program} {T : TT} (hT : TT.Ok P T) {n : Nat} {o : Oper} {f : Fr} {s : AS} {K : Fr → AS → Prop} (h : vcOp P T n o f s K) (hnd : isDefer o.op = false) {B : Nat} {γ : Gam} {rd : Option Nat} {ds : List Deferred} {a : Act} {w : World} (hf : FX γ n f ds a) (hr : Rel B γ s w)
  {next : Act → World → Prop} {Q : Exit → Act → World → Prop} (hn : ∀ γ' f' s' a' w', FX γ' n f' ds a' → Did B γ s w γ' s' w' → Rel B γ' s' w' → K f' s' → next a' w') : o.wpIn (Fz rd) 0 P a w next Q := by
 obtain ⟨hd, h⟩ := h
 refine ⟨fun _ _ => trivial, ?_⟩
 rw [semAt_exec hnd]
 rcases h with h | ⟨l, hl, h⟩
 rotate_left
 ·obtain ⟨p, hp, γ', w', cv, hrun, hv, hdid, hr'⟩ := acand_sim (P := P) hr hf.eval hl
  rw [hrun]
  exact hn γ' _ p.2 _ w' ((hf.mono hdid.le).put hd hv) hdid hr' (h p hp)
 split at h
 ·rename_i g args hc
  obtain ⟨cargs, hargs, hrun⟩ := acallee_run hf.2 hc (P := P) w
  have hrun' : (execOp a.eval o).run P w = (callFunc g cargs).run P w := by
   have : ({ a with defers := [] } : Act).eval = a.eval := by funext x; cases x <;> rfl
   rw [← this]; exact hrun
  rw [hrun']
  rcases h B γ cargs w hargs hr with ⟨h1, h2⟩ | ⟨cv, w', h1, γ', v, cv', s', e, hv, hdid, hr', hk⟩
  ·rw [h1]
   refine ⟨fun h => (by cases h), ?_⟩
   have hcall := callsIn_wide (n := 0) |>.2 h2
   refine (show CallsIn (Fz rd) 0 P g cargs w _ from hcall).mono ?_
   rintro e w' ⟨γ', v, cv, s', rfl, hv, hdid, hr', hk⟩
   exact hn γ' _ s' _ w' ((hf.mono hdid.le).put hd hv) hdid hr' hk
  ·rw [h1]
   injection e with e
   subst e
   exact hn γ' _ s' _ w' ((hf.mono hdid.le).put hd hv) hdid hr' hk
 ·obtain ⟨v, s', hop, hk⟩ := h
  obtain ⟨γ', w', nx, cv, hrun, hnx, hv, hdid, hr'⟩ := aop_sim hT hr hf.eval hop
  rw [hrun]
  rcases hnx with rfl | ⟨rfl, rfl⟩
  ·exact hn γ' _ s' _ w' ((hf.mono hdid.le).put hd hv) hdid hr' hk
  ·exact hn γ' _ s' _ w' ((hf.mono hdid.le).put hd hv) hdid hr' hk
def vcRaw (P : Program) (n : Nat) (o : Oper) (f : Fr) (K : Fr → Prop) : Prop :=
 dstOk n o.dst = true ∧ ∃ v, (∀ (γ : Gam) (ρ : Operand → Value) (w : World), (∀ x, VRel γ (aev f x) (ρ x)) → ∃ cv, (execOp ρ o).run P w = .ok (.value cv) w ∧ VRel γ v cv) ∧ K (updO f o.dst v)
def vcOpsX (Iv : Gam → World → Prop) (P : Program) (T : TT) (n : Nat) (ops : Array Oper) : List Oper → Fr → AS → (Fr → AS → Prop) → Prop
 | [], f, s, K => K f s
 | o :: rest, f, s, K => match awanted ops f o with
  | some true => match ayield f o.op with
   | some (l, args) => dstOk n o.dst = true ∧ YOk Iv P l args s fun v s' => vcOpsX Iv P T n ops rest (updO f o.dst v) s' K
   | none => isDefer o.op = false ∧ (vcOp P T n o f s (fun f' s' => vcOpsX Iv P T n ops rest f' s' K) ∨ vcRaw P n o f fun f' => vcOpsX Iv P T n ops rest f' s K)
  | some false => dstOk n o.dst = true ∧ vcOpsX Iv P T n ops rest (updO f o.dst .undef) s K
  | none => False
theorem vcOpsX_sound {Iv : Gam → World → Prop} (hI : Kept Iv) {P : Program} {T : TT} (hT : TT.Ok P T) {n : Nat} {ops : Array Oper} {Q : Exit → Fr → AS → Prop} {B : Nat} {rd : Option Nat} {ds : List Deferred} {γ0 : Gam} {s0 : AS} {w0 : World} : ∀ (l : List Nat) (os : List Oper) (f : Fr) (s : AS) (γ : Gam) (a : Act) (w : World),
  l.map (ops[·]?) = os.map some → vcOpsX Iv P T n ops os f s (fun f s => Q .normal f s) → FX γ n f ds a → Rel B γ s w → Iv γ w → Did B γ0 s0 w0 γ s w → wpOpsIn (Fz rd) 0 P ops (PostX B γ0 s0 w0 n ds Q) l a w
 | [], os, f, s, γ, a, w, hl, h, hf, hr, hi, hd => by
  cases os with
  | nil => exact ⟨γ, f, s, hf, hd, hr, h⟩
  | cons _ _ => simp at hl
 | i :: l, os, f, s, γ, a, w, hl, h, hf, hr, hi, hd => by
  cases os with
  | nil => simp at hl
  | cons o os =>
   simp only [List.map_cons, List.cons.injEq] at hl
   simp only [wpOpsIn, hl.1]
   simp only [vcOpsX] at h
   split at h
   ·rename_i hw
    rw [awanted_run hf.2 hw, if_pos rfl]
    split at h
    ·rename_i k args hc
     obtain ⟨cargs, hargs, hrun⟩ := ayield_run hf hc (P := P) w
     obtain ⟨fn, tmps, assign, body, hy, hR⟩ := h.2 B γ cargs w hargs hr hi
     have hnd : isDefer o.op = false := by
      cases ho : o.op <;> first | rfl | (rw [ho] at hc; cases hc)
     refine ⟨fun _ _ => trivial, ?_⟩
     rw [semAt_exec hnd, hrun, hy]
     refine ⟨fun h => (by cases h), (show RoundIn (Fz rd) 0 P k fn tmps assign body w _ from hR).mono ?_⟩
     rintro e w' ⟨γ', v, cv, s', rfl, hv, hdid, hr', hk⟩
     exact vcOpsX_sound hI hT l os _ s' γ' _ w' hl.2 hk ((hf.mono hdid.le).put h.1 hv) hr' (hI _ _ _ _ _ _ _ hr hi hdid) (hd.trans hdid)
    ·rcases h.2 with h2 | ⟨hdd, v, hrun, hk⟩
     ·exact vcOp_soundX hT h2 h.1 hf hr fun γ' f' s' a' w' h1 h2 h3 h4 => vcOpsX_sound hI hT l os f' s' γ' a' w' hl.2 h4 h1 h3 (hI _ _ _ _ _ _ _ hr hi h2) (hd.trans h2)
     ·obtain ⟨cv, hr2, hv⟩ := hrun γ a.eval w hf.eval
      refine ⟨fun _ _ => trivial, ?_⟩
      rw [semAt_exec h.1, hr2]
      exact vcOpsX_sound hI hT l os _ s γ _ w hl.2 hk (hf.put hdd hv) hr hi hd
   ·rename_i hw
    rw [awanted_run hf.2 hw, if_neg (by simp)]
    exact ⟨fun _ _ => trivial, vcOpsX_sound hI hT l os _ s γ _ w hl.2 h.2 (hf.put h.1 (vundef γ)) hr hi hd⟩
   ·exact h.elim
theorem AWpX.region {Iv : Gam → World → Prop} (hI : Kept Iv) {P : Program} {T : TT} (hT : TT.Ok P T) {rd : Option Nat} {ds : List Deferred} {n : Nat} {id : Nat} {ops : Array Oper} {f : Fr} {s : AS} {Q : Exit → Fr → AS → Prop} (h : vcOpsX Iv P T n ops ops.toList f s fun f s => Q .normal f s) :
  AWpX Iv rd ds P n (.region id ops false) f s Q := by
 intro B γ a w hf hr hi
 refine wpIn_region (vcOpsX_sound hI hT (List.range ops.size) ops.toList f s γ a w ?_ h hf hr hi Did.refl)
 apply List.ext_getElem?
 intro i
 simp only [List.getElem?_map]
 by_cases hi : i < ops.size
 ·simp [hi]
 ·have : ops.toList[i]? = none := List.getElem?_eq_none (by simpa using hi)
  rw [this, List.getElem?_eq_none (by simpa using hi)]; rfl
/-! ### the record, rounds -/
def RecI (l D : Nat) (r : Loop) (n : Nat) (f0 : Fr) (γ : Gam) (w : World) : Prop :=
 w.heap[l]? = some (.loop r) ∧ w.heap[D]? = some (.deferred (some [])) ∧ FRel γ n f0 { tmps := r.tmps, defers := [] }
theorem RecI.kept {l D : Nat} {r : Loop} {n : Nat} {f0 : Fr} : Kept (RecI l D r n f0) :=
 fun _ _ _ _ _ _ _ hr hi d => ⟨d.keeps hr hi.1 rfl, d.keeps hr hi.2.1 rfl, hi.2.2.mono d.le⟩
theorem YOk.round {P : Program} {l D : Nat} {r : Loop} {n p : Nat} {f0 : Fr} {s : AS} {v : AV} {R : AV → AS → Prop} (hst : r.state = .ready) (hpe : r.pending = none) (hps : r.params = #[p]) (hp : p < n)
  (h : AWpX (fun _ _ => True) (some l) [] P n r.assign (upd f0 p v) s fun e f' s' => e = .normal ∧ AWpX (fun _ _ => True) (some l) [] P n r.body f' s' fun e _ s'' => e = .normal ∧ R (.bool true) s'') :
  YOk (RecI l D r n f0) P l [v] s R := by
 intro B γ cargs w hargs hr hi
 obtain ⟨hl, hk, hf0⟩ := hi
 obtain ⟨c, cs, hc, hv, hcs⟩ := VRels.cons_iff.1 hargs
 obtain rfl := VRels.nil_iff.1 hcs
 obtain rfl : cargs = #[c] := by
  cases cargs with
  | mk l => simp only at hc; rw [hc]
 refine ⟨r.fn, _, r.assign, r.body, run_yield hl (by rw [hps]; rfl), roundIn_of_wpIn trivial ?_⟩
 have ha : FX γ n (upd f0 p v) [] { tmps := (r.params.zip #[c]).foldl (fun tmps (t, a) => tmps.setIfInBounds t a) r.tmps, defers := [] } := by
  refine ⟨rfl, ?_⟩
  have := hf0.put (d := some p) (v := v) (c := c) (by simpa [dstOk] using hp) hv
  have e : (r.params.zip #[c]).foldl (fun tmps (t, a) => tmps.setIfInBounds t a) r.tmps = r.tmps.setIfInBounds p c := by rw [hps, ← Array.foldl_toList, Array.toList_zip]; rfl
  simp only [e]
  exact this
 refine Go.wpIn_mono (h B γ _ w ha hr trivial) ?_
 rintro e a1 w1 ⟨γ1, f1, s1, h1, d1, r1, rfl, hb⟩
 have hl1 := d1.keeps hr hl rfl
 refine ⟨_, run_beginRound hl1 hst, ?_⟩
 have hlt1 := (Array.getElem?_eq_some_iff.1 hl1).1
 have r2 : Rel B γ1 s1 (w1.putObj l (.loop { r with state := .busy })) := r1.side (by simp) fun b ob hob hs => by
  rw [World.putObj_heap_other]; exact hob
  rintro rfl; rw [hl1] at hob; cases hob; cases hs
 have hl2 : (w1.putObj l (.loop { r with state := .busy })).heap[l]? = some (.loop { r with state := .busy }) := World.putObj_heap_same hlt1
 refine Go.wpIn_mono (hb B γ1 a1 _ h1 r2 trivial) ?_
 rintro e a3 w3 ⟨γ3, f3, s3, h3, d3, r3, rfl, hR⟩
 have hl3 := d3.keeps r2 hl2 rfl
 have hlt3 := (Array.getElem?_eq_some_iff.1 hl3).1
 have hback : ({ ({ r with state := .busy } : Loop) with state := if (none : Option Code).isNone then .ready else .done, pending := none } : Loop) = r := by
  cases r; simp only at hst hpe; subst hst; subst hpe; rfl
 have hrun := run_endRound (P := P) none hl3
 rw [hback] at hrun
 refine ⟨_, _, hrun, γ3, .bool true, _, s3, rfl, rfl, d1.trans (d3.swap (by simp) (by simp) (fun b hb hnb => ?_) ?_), r3.side (by simp) fun b ob hob hs => ?_, hR⟩
 ·by_cases e : b = l
  ·subst e; rw [World.putObj_heap_same hlt3, hl1]
  ·rw [World.putObj_heap_other e, d3.frm b (by simpa using hb) hnb, World.putObj_heap_other e]
 ·exact d3.env
 ·rw [World.putObj_heap_other]; exact hob
  rintro rfl; rw [hl3] at hob; cases hob; cases hs
theorem wpIn_rangeFunc_am {P : Program} {n p : Nat} {g : Operand} {assign body : Code} {f : Fr} {s : AS} {ds : List Deferred} {K : AS → Prop} {gf : FuncId} {cap : List AV} (hg : aev f g = .func gf cap) (hc : callable P gf = true)
  (hit : ∀ (l D : Nat) (r : Loop), r.state = .ready → r.pending = none → r.params = #[p] → r.assign = assign → r.body = body → ICalls (RecI l D r n f) P gf (.yld l :: cap) s fun _ s' => K s')
  {B : Nat} {γ : Gam} {a : Act} {w : World} (hf : FX γ n f ds a) (hr : Rel B γ s w) :
  (Code.rangeFunc g #[p] assign body).wpIn Fence.wide 0 P (fun e a' w' => ∃ D γ' s', e = .normal ∧ w.heap.size ≤ D ∧ w'.heap[D]? = some (.deferred (some [])) ∧ FX γ' n f ({ target := .collected D, args := #[] } :: ds) a' ∧ Did B γ s w γ' s' w' ∧ Rel B γ' s' w' ∧ K s') a w := by
 have he := hf.eval g
 rw [hg] at he
 simp only [VRel] at he
 obtain ⟨cc, hcc, hcap⟩ := he
 refine wpIn_rangeFunc ?_
 intro fn _
 obtain ⟨r, hre⟩ : ∃ r : Loop, r = { state := .ready, pending := none, fn, tmps := a.tmps, params := #[p], assign, body, defers := w.heap.size } := ⟨_, rfl⟩
 obtain ⟨W1, hW1⟩ : ∃ W1, (w.alloc (.deferred (some []))).alloc (.loop r) = W1 := ⟨_, rfl⟩
 have hL1 : W1.heap[w.heap.size + 1]? = some (.loop r) := by
  rw [← hW1]; have := World.alloc_heap_new (w.alloc (.deferred (some []))) (.loop r); rwa [World.size_alloc] at this
 have hK1 : W1.heap[w.heap.size]? = some (.deferred (some [])) := by
  rw [← hW1]; exact (Below.heap_alloc _ _ _ (by simp)).trans (World.alloc_heap_new w _)
 have hsz : W1.heap.size = w.heap.size + 2 := by rw [← hW1]; simp
 have hold : ∀ b, b < w.heap.size → W1.heap[b]? = w.heap[b]? := fun b hb => by
  rw [← hW1, Below.heap_alloc _ _ _ (by simp; omega), Below.heap_alloc _ _ _ hb]
 have hr1 : Rel B γ s W1 := hr.side (by omega) fun b ob hob _ => (hold b (Array.getElem?_eq_some_iff.1 hob).1).trans hob
 refine ⟨w.heap.size + 1, [{ target := .collected w.heap.size, args := #[] }], W1, { target := .fn (.func gf) cc, args := #[.func (.yield (w.heap.size + 1)) #[] #[]] }, W1, gf,
  #[.func (.yield (w.heap.size + 1)) #[] #[]] ++ cc, W1, ?_, ?_, fun _ _ => trivial, ?_, fun h => (by cases h), ?_⟩
 ·rw [← hW1, hre]; exact run_enterLoop_outer _ _ _ _ _
 ·simp only [resolve, hcc]
  simp [go_sem]
 ·simp [invoke, go_sem, run_callFunc hc]
 ·refine callsIn_wide.2 ((hit (w.heap.size + 1) w.heap.size r (by rw [hre]) (by rw [hre]) (by rw [hre]) (by rw [hre]) (by rw [hre]) B γ _ W1 ?_ hr1 ⟨hL1, hK1, by rw [hre]; exact hf.2⟩).mono ?_)
  ·rw [Array.toList_append]
   exact VRels.cons (by simp [VRel]) hcap
  ·rintro e w3 ⟨γ', v, cv, s', rfl, hv, d, r3, hk⟩
   have hl3 := d.keeps hr1 hL1 rfl
   have hk3 := d.keeps hr1 hK1 rfl
   have hend := run_endLoop (P := P) hl3 (by rw [hre]; simp)
   refine ⟨none, _, by rw [hend, hre], w.heap.size, γ', s', rfl, Nat.le_refl _, (World.putObj_heap_other (by omega)).trans hk3, ⟨by rw [← hf.1]; rfl, hf.2.mono d.le⟩, d.swap (by omega) (by simp) (fun b hb hnb => ?_) ?_, r3.side (by simp) fun b ob hob hs => ?_, hk⟩
   ·rw [World.putObj_heap_other (by omega), d.frm b (by omega) hnb, hold b hb]
   ·have := d.env
    rw [← hW1] at this
    exact this
   ·rw [World.putObj_heap_other]; exact hob
    rintro rfl; rw [hl3] at hob; cases hob; cases hs
theorem ICalls.body {Iv : Gam → World → Prop} {P : Program} {T : TT} (hT : TT.Ok P T) {g : FuncId} {fn : Func} {c : Code} {args : List AV} {s : AS} {R : AV → AS → Prop} {n : Nat} {rs : List ResultVar} (hf : P.funcs[g]? = some fn) (hb : fn.body = some c)
  (hn : args.length + (fn.ntmps - args.length) = n) (hrs : fn.results.toList = rs) (h : AWpX Iv none [] P n c (ainit args) s (XRet T rs R)) : ICalls Iv P g args s R := by
 subst hn hrs
 intro B γ cargs w hargs hr hi
 refine callsIn_wide (n := 0) |>.1 (callsIn_of_wp hf hb trivial ?_)
 have hlen := hargs.length
 simp only [Array.length_toList] at hlen
 have hfr : FRel γ (args.length + (fn.ntmps - args.length)) (ainit args) { tmps := cargs ++ Array.replicate (fn.ntmps - cargs.size) undef, defers := [] } := by
  refine ⟨by simp [hlen], rfl, fun t => ?_⟩
  simp only [ainit, Array.getD_eq_getD_getElem?, List.getD_eq_getElem?_getD]
  by_cases ht : t < args.length
  ·obtain ⟨cv, hcv, hrel⟩ := hargs.get (List.getElem?_eq_getElem ht)
   rw [Array.getElem?_append_left (by omega)]
   rw [Array.getElem?_toList] at hcv
   rw [hcv, List.getElem?_eq_getElem ht]
   exact hrel
  ·rw [List.getElem?_eq_none (by omega)]
   have : ((cargs ++ Array.replicate (fn.ntmps - cargs.size) undef)[t]?).getD undef = undef := by
    rw [Array.getElem?_append_right (by omega)]
    by_cases hq : t - cargs.size < fn.ntmps - cargs.size
    ·simp [hq]
    ·rw [Array.getElem?_eq_none (by simp; omega)]; rfl
   rw [this]
   exact vundef γ
 refine Go.wpIn_mono (h B γ _ w ⟨rfl, hfr⟩ hr hi) ?_
 rintro e a' w' ⟨γ', f', s', h1, h2, h3, h4⟩
 cases e with
 | normal =>
  obtain ⟨v, hv, hR⟩ := h4
  obtain ⟨cv, hrun, hrel⟩ := ares_run hT h1.2 h3 hv
  exact ⟨h1.1, cv, hrun, γ', v, cv, s', rfl, hrel, h2, h3, hR⟩
 | ret =>
  obtain ⟨v, hv, hR⟩ := h4
  obtain ⟨cv, hrun, hrel⟩ := ares_run hT h1.2 h3 hv
  exact ⟨h1.1, cv, hrun, γ', v, cv, s', rfl, hrel, h2, h3, hR⟩
 | exit id => exact h4.elim
 | goto l => exact h4.elim
 | panic ch => exact h4.elim
 | outgrown => exact h4.elim
end Go.Am
end

section
namespace Go.Am
section
variable {Iv : Gam → World → Prop} {P : Program} {T : TT} {n : Nat} {ops rest : Array Oper} {o : Oper} {os : List Oper} {f : Fr} {s : AS} {K : Fr → AS → Prop}
theorem awanted_gn (hg : o.guard = none) : awanted ops f o = some true := by simp [awanted, hg]
theorem vcOpsX.aop {v : AV} {s' : AS} (hg : o.guard = none) (hy : ayield f o.op = none) (hnd : isDefer o.op = false) (hc : acallee f o.op = none) (hd : dstOk n o.dst = true) (h : aop T o.op (aev f) s = some (v, s')) (k : vcOpsX Iv P T n ops os (updO f o.dst v) s' K) : vcOpsX Iv P T n ops (o :: os) f s K := by
 simp only [vcOpsX, awanted_gn hg, hy]
 refine ⟨hnd, .inl ⟨hd, .inl ?_⟩⟩
 rw [hc]
 exact ⟨v, s', h, k⟩
theorem vcOpsX.next {it : Operand} (hg : o.guard = none) (hop : o.op = .next it false) (hd : dstOk n o.dst = true) (h : NextM (acandM (aev f it) s) s fun v s' => vcOpsX Iv P T n ops os (updO f o.dst v) s' K) : vcOpsX Iv P T n ops (o :: os) f s K := by
 have hy : ayield f o.op = none := by rw [hop]; rfl
 simp only [vcOpsX, awanted_gn hg, hy]
 obtain ⟨l, h1, h2⟩ := NextM_get h
 exact ⟨by rw [hop]; rfl, .inl ⟨hd, .inr ⟨l, by rw [hop]; exact h1, h2⟩⟩⟩
theorem vcOpsX.yield {l : Nat} {args : List AV} (hg : o.guard = none) (hy : ayield f o.op = some (l, args)) (hd : dstOk n o.dst = true) (h : YOk Iv P l args s fun v s' => vcOpsX Iv P T n ops os (updO f o.dst v) s' K) : vcOpsX Iv P T n ops (o :: os) f s K := by
 simp only [vcOpsX, awanted_gn hg, hy]
 exact ⟨hd, h⟩
theorem YOk.mono {l : Nat} {args : List AV} {R R' : AV → AS → Prop} (h : YOk Iv P l args s R) (hr : ∀ v s', R v s' → R' v s') : YOk Iv P l args s R' := by
 intro B γ cargs w h1 h2 h3
 obtain ⟨fn, tmps, assign, body, hy, hR⟩ := h B γ cargs w h1 h2 h3
 refine ⟨fn, tmps, assign, body, hy, hR.mono ?_⟩
 rintro e w' ⟨γ', v, cv, s', a, b, c, d, e⟩
 exact ⟨γ', v, cv, s', a, b, c, d, hr _ _ e⟩
theorem ICalls.pre {g : FuncId} {args : List AV} {R : AV → AS → Prop} (h : WFs s → ICalls Iv P g args s R) : ICalls Iv P g args s R :=
 fun B γ cargs w h1 h2 h3 => h h2.wfs B γ cargs w h1 h2 h3
end
section
variable {Iv : Gam → World → Prop} {P : Program} {T : TT} {n : Nat} {ops : Array Oper} {os : List Oper} {f : Fr} {s : AS} {K : Fr → AS → Prop}
end
end Go.Am
end

section
namespace Go.Am
open Go.RowKit
structure STy (T : TT) (t : TypeId) : Prop where
 agg : T.agg t = some false
 siz : T.siz t = some 1
theorem FX.init {γ : Gam} {args : List AV} {cargs : Array Value} (hargs : VRels γ args cargs.toList) {k n : Nat} (hn : args.length + (k - args.length) = n) : FX γ n (ainit args) [] { tmps := cargs ++ Array.replicate (k - cargs.size) undef, defers := [] } := by
 subst hn
 have hlen := hargs.length
 simp only [Array.length_toList] at hlen
 refine ⟨rfl, by simp [hlen], rfl, fun t => ?_⟩
 simp only [ainit, Array.getD_eq_getD_getElem?, List.getD_eq_getElem?_getD]
 by_cases ht : t < args.length
 ·obtain ⟨cv, hcv, hrel⟩ := hargs.get (List.getElem?_eq_getElem ht)
  rw [Array.getElem?_append_left (by omega)]
  rw [Array.getElem?_toList] at hcv
  rw [hcv, List.getElem?_eq_getElem ht]
  exact hrel
 ·rw [List.getElem?_eq_none (by omega)]
  have : ((cargs ++ Array.replicate (k - cargs.size) undef)[t]?).getD undef = undef := by
   rw [Array.getElem?_append_right (by omega)]
   by_cases hq : t - cargs.size < k - cargs.size
   ·simp [hq]
   ·rw [Array.getElem?_eq_none (by simp; omega)]; rfl
  rw [this]
  exact vundef γ
end Go.Am
end

section
namespace Go.Am
open Go.RowKit
def keysCode1 (tm tk tf tb : TypeId) : Code :=
 (Go.Code.seq (Go.Code.region 0 #[{ dst := some 4, op := Go.Op.load tm (Go.Operand.tmp 1), type := tm, pos := "iter.go:27", after := #[], guard := none }, { dst := some 5, op := Go.Op.range tm (Go.Operand.tmp 4), type := 0, pos := "iter.go:27", after := #[{ on := 0, ground := Go.Ground.data }], guard := none }] false) (Go.Code.block 0 (Go.Code.loop (Go.Code.seq (Go.Code.region 1 #[{ dst := some 6, op := Go.Op.next (Go.Operand.tmp 5) false, type := 0, pos := "iter.go:27", after := #[], guard := none }, { dst := some 7, op := Go.Op.extract (Go.Operand.tmp 6) 0, type := tb, pos := "iter.go:27", after := #[{ on := 0, ground := Go.Ground.data }], guard := none }] false) (Go.Code.seq (Go.Code.cond (Go.Operand.tmp 7) Go.Code.skip (Go.Code.exit 0)) (Go.Code.block 1 (Go.Code.seq (Go.Code.region 2 #[{ dst := some 8, op := Go.Op.entry (Go.Operand.tmp 5), type := 0, pos := "iter.go:27", after := #[], guard := none }, { dst := some 9, op := Go.Op.extract (Go.Operand.tmp 8) 0, type := tk, pos := "iter.go:27", after := #[{ on := 0, ground := Go.Ground.data }], guard := none }, { dst := some 3, op := Go.Op.assign (Go.Operand.tmp 9), type := tk, pos := "iter.go:27", after := #[{ on := 1, ground := Go.Ground.data }, { on := 0, ground := Go.Ground.phase }, { on := 1, ground := Go.Ground.phase }], guard := none }] false) (Go.Code.seq (Go.Code.region 3 #[{ dst := some 10, op := Go.Op.move (Go.Operand.tmp 0), type := tf, pos := "iter.go:28", after := #[], guard := none }, { dst := some 11, op := Go.Op.move (Go.Operand.tmp 3), type := tk, pos := "iter.go:28", after := #[], guard := none }, { dst := some 12, op := Go.Op.call { callee := Go.Callee.value (Go.Operand.tmp 10), args := #[Go.Operand.tmp 11], argTypes := #[tk] }, type := tb, pos := "iter.go:28", after := #[{ on := 0, ground := Go.Ground.data }, { on := 1, ground := Go.Ground.data }], guard := none }, { dst := some 13, op := Go.Op.unOp Go.UnOp.not tb (Go.Operand.tmp 12), type := tb, pos := "iter.go:28", after := #[{ on := 2, ground := Go.Ground.data }], guard := none }] false) (Go.Code.cond (Go.Operand.tmp 13) Go.Code.ret Go.Code.skip)))))))))
theorem keys1_calls {Iv : Gam → World → Prop} (hI : Kept Iv) {P : Program} {T : TT} (hT : TT.Ok P T) {g : FuncId} {fn : Func} {tm tk tf tb : TypeId} (hf : P.funcs[g]? = some fn) (hb : fn.body = some (keysCode1 tm tk tf tb)) (hn : fn.ntmps = 14) (hrs : fn.results = #[])
  {kt et : TypeId} (hagg : T.agg tm = some false) (hu : T.und tm = some (.map kt et))
  {K V : Type} [DecidableEq K] {kc : K → AV} {vf : V → AV} {s : AS} {l lb m : Nat} {es : List (K × V × Nat)} {c : Nat} {ro : Bool} (hbx : At s lb [.map (some m)]) (hm : MpAt kc vf s m es c ro)
  {J : Nat → List (K × V × Nat) → AS → Prop}
  (h0 : ∀ it s', Iter s' it m es c ([] : List (K × V × Nat)) → Fresh s s' it (.mapIt (some m) c [] c false) → J it [] s')
  (hJ : ∀ it done s', J it done s' → WFs s' ∧ MpAt kc vf s' m es c ro ∧ Iter s' it m es c done)
  (hnx : ∀ it done s1 s2 s3 e, J it done s1 → e ∈ es → e ∉ done → Iter s2 it m es c (done ++ [e]) → Mut [it] s1 s2 → Ext s2 s3 → WFs s3 → YOk Iv P l [kc e.1] s3 fun v s4 => v = .bool true ∧ J it (done ++ [e]) s4) :
  ICalls Iv P g [.yld l, .ptr (some (lb, 0))] s fun _ s' => ∃ it done, (∀ e ∈ es, e ∈ done) ∧ J it done s' := by
 refine ICalls.pre fun hw => ICalls.body (n := 14) (rs := []) hT hf hb (by simp [hn]) (by rw [hrs]) ?_
 unfold keysCode1
 refine AWpX.seq hI (AWpX.region hI hT ?_)
 refine vcOpsX.aop (v := .map (some m)) (s' := s) rfl rfl rfl rfl rfl ?_ ?_
 ·show (ald T tm s (.ptr (some (lb, 0)))).map (·, s) = _
  rw [ald_scalar hagg, hbx.rd1]; rfl
 have F := hw.new (o := .mapIt (some m) c [] c false) rfl
 refine vcOpsX.aop (v := .ptr (some (s.nl, 0))) (s' := s.new (.mapIt (some m) c [] c false)) rfl rfl rfl rfl rfl ?_ ?_
 ·have e : aev (updO (ainit [.yld l, .ptr (some (lb, 0))]) (some 4) (.map (some m))) (.tmp 4) = .map (some m) := rfl
  simp only [Am.aop, e, hu, hm.obj]
 show AWpX _ _ _ _ _ _ _ _ _
 have j0 := h0 s.nl _ ⟨F.at, by simp, List.nodup_nil⟩ F
 generalize s.new (.mapIt (some m) c [] c false) = s0 at j0
 generalize s.nl = it at j0
 refine AWpX.block (AWpX.loop hI (fun mm f s' => f 0 = .yld l ∧ f 5 = .ptr (some (it, 0)) ∧ ∃ done, mm = es.length - done.length ∧ J it done s') es.length ⟨rfl, rfl, [], rfl, j0⟩ ?_)
 rintro mm f s1 ⟨f0, f5, done, rfl, j⟩
 obtain ⟨w1, M1, I1⟩ := hJ it done s1 j
 refine AWpX.seq hI (AWpX.region hI hT (vcOpsX.next rfl rfl rfl ?_))
 show NextM (acandM (f 5) s1) s1 _
 rw [f5]
 refine Iter.next w1 M1 I1 (fun hall => ?_) (fun e s2 he hne I2 w2 m2 => ?_)
 ·refine vcOpsX.aop (v := .bool false) (s' := s1) rfl rfl rfl rfl rfl rfl ?_
  show AWpX _ _ _ _ _ _ _ _ _
  refine AWpX.seq hI (AWpX.cond (t := false) rfl (AWpX.exit ?_))
  simp only [XThen, XBlock, if_true]
  exact ⟨.tup [], rfl, it, done, hall, j⟩
 have hlt := I1.lt he hne
 have M2 := M1.mut m2 (by
  simp only [List.mem_singleton]
  rintro rfl
  have := I1.at
  rw [M1.obj] at this; cases this)
 refine vcOpsX.aop (v := .bool true) (s' := s2) rfl rfl rfl rfl rfl rfl ?_
 show AWpX _ _ _ _ _ _ _ _ _
 refine AWpX.seq hI (AWpX.cond (t := true) rfl (AWpX.skip ?_))
 show AWpX _ _ _ _ _ _ _ _ _
 refine AWpX.block (AWpX.seq hI (AWpX.region hI hT ?_))
 obtain ⟨k', v', hent, hkv⟩ := Iter.entry (Q := fun a b => a = kc e.1) M2 I2 rfl
 subst hkv
 refine vcOpsX.aop (v := .tup [kc e.1, v']) (s' := s2) rfl rfl rfl rfl rfl ?_ ?_
 ·show (aentry (f 5) s2).map (·, s2) = _
  rw [f5, hent]; rfl
 refine vcOpsX.aop (v := kc e.1) (s' := s2) rfl rfl rfl rfl rfl rfl ?_
 refine vcOpsX.aop (v := kc e.1) (s' := s2) rfl rfl rfl rfl rfl rfl ?_
 show AWpX _ _ _ _ _ _ _ _ _
 refine AWpX.seq hI (AWpX.region hI hT ?_)
 refine vcOpsX.aop (v := .yld l) (s' := s2) rfl rfl rfl rfl rfl ?_ ?_
 ·show some (f 0, s2) = _
  rw [f0]
 refine vcOpsX.aop (v := kc e.1) (s' := s2) rfl rfl rfl rfl rfl rfl ?_
 refine vcOpsX.yield (l := l) (args := [kc e.1]) rfl rfl rfl ((hnx it done s1 s2 s2 e j he hne I2 m2 (Ext.refl _) w2).mono ?_)
 rintro v s4 ⟨rfl, j4⟩
 refine vcOpsX.aop (v := .bool false) (s' := s4) rfl rfl rfl rfl rfl rfl ?_
 show AWpX _ _ _ _ _ _ _ _ _
 refine AWpX.cond (t := false) rfl (AWpX.skip ?_)
 exact ⟨es.length - (done.length + 1), by omega, f0, f5, done ++ [e], by simp, j4⟩
def apAssign1 (te : TypeId) : Code := (Go.Code.region 2 #[{ dst := some 5, op := Go.Op.assign (Go.Operand.tmp 7), type := te, pos := "iter.go:51", after := #[], guard := none }] false)
def apBody1 (ts te : TypeId) : Code := (Go.Code.block 1 (Go.Code.region 3 #[{ dst := some 8, op := Go.Op.load ts (Go.Operand.tmp 2), type := ts, pos := "iter.go:52", after := #[], guard := none }, { dst := some 9, op := Go.Op.move (Go.Operand.tmp 5), type := te, pos := "iter.go:52", after := #[], guard := none }, { dst := some 10, op := Go.Op.buildSlice ts 1 #[(0, Go.Operand.tmp 9)], type := ts, pos := "iter.go:52", after := #[{ on := 1, ground := Go.Ground.data }], guard := none }, { dst := some 11, op := Go.Op.call { callee := Go.Callee.builtin Go.Builtin.append, args := #[Go.Operand.tmp 8, Go.Operand.tmp 10], argTypes := #[ts, ts] }, type := ts, pos := "iter.go:52", after := #[{ on := 0, ground := Go.Ground.data }, { on := 2, ground := Go.Ground.data }], guard := none }, { dst := none, op := Go.Op.store ts (Go.Operand.tmp 2) (Go.Operand.tmp 11), type := 0, pos := "iter.go:52", after := #[{ on := 3, ground := Go.Ground.data }, { on := 3, ground := Go.Ground.chain }, { on := 0, ground := Go.Ground.phase }, { on := 1, ground := Go.Ground.phase }, { on := 2, ground := Go.Ground.phase }, { on := 3, ground := Go.Ground.phase }], guard := none }] false))
def apSeqCode1 (ts te tq : TypeId) : Code :=
 (Go.Code.seq (Go.Code.region 0 #[{ dst := some 2, op := Go.Op.box ts (Go.Operand.tmp 0), type := 0, pos := "iter.go:50", after := #[], guard := none }, { dst := some 4, op := Go.Op.assign (Go.Operand.const (Go.Value.slice none 0 0)), type := ts, pos := "iter.go:50", after := #[], guard := none }] false) (Go.Code.seq (Go.Code.seq (Go.Code.region 1 #[{ dst := some 6, op := Go.Op.move (Go.Operand.tmp 1), type := tq, pos := "iter.go:51", after := #[], guard := none }] false) (Go.Code.block 0 (Go.Code.rangeFunc (Go.Operand.tmp 6) #[7] (apAssign1 te) (apBody1 ts te)))) (Go.Code.seq (Go.Code.region 4 #[{ dst := some 12, op := Go.Op.load ts (Go.Operand.tmp 2), type := ts, pos := "iter.go:54", after := #[], guard := none }, { dst := some 4, op := Go.Op.assign (Go.Operand.tmp 12), type := ts, pos := "iter.go:54", after := #[{ on := 0, ground := Go.Ground.data }, { on := 0, ground := Go.Ground.phase }], guard := none }] false) Go.Code.ret)))
def ItRun1 {K V : Type} (P : Program) (kf : K → AV) (vf : V → AV) (m : Nat) (es : List (K × V × Nat)) (c : Nat) (ro : Bool) (el : K × V × Nat → AV) (gf : FuncId) (cap : List AV) (s : AS) : Prop :=
 ∀ (Iv : Gam → World → Prop) (hI : Kept Iv) (l : Nat) (J : Nat → List (K × V × Nat) → AS → Prop),
  (∀ it s', Iter s' it m es c ([] : List (K × V × Nat)) → Fresh s s' it (.mapIt (some m) c [] c false) → J it [] s') →
  (∀ it done s', J it done s' → WFs s' ∧ MpAt kf vf s' m es c ro ∧ Iter s' it m es c done) →
  (∀ it done s1 s2 s3 e, J it done s1 → e ∈ es → e ∉ done → Iter s2 it m es c (done ++ [e]) → Mut [it] s1 s2 → Ext s2 s3 → WFs s3 → YOk Iv P l [el e] s3 fun v s4 => v = .bool true ∧ J it (done ++ [e]) s4) →
  ICalls Iv P gf (.yld l :: cap) s fun _ s' => ∃ it done, (∀ e ∈ es, e ∈ done) ∧ J it done s'
theorem appendSeq1_calls {P : Program} {T : TT} (hT : TT.Ok P T) {g : FuncId} {fn : Func} {ts te tq by_ : TypeId} (hf : P.funcs[g]? = some fn) (hc : callable P g = true) (hb : fn.body = some (apSeqCode1 ts te tq)) (hn : fn.ntmps = 13) (hrs : fn.results = #[.tmp 4])
  (hts : STy T ts) (hsl : SlTy T ts te 1 by_) {K V : Type} {kf : K → AV} {vf : V → AV} {m : Nat} {es : List (K × V × Nat)} {c : Nat} {ro : Bool} {el : K × V × Nat → AV} (hone1 : ∀ e, (el e).one = true)
  {gf : FuncId} {cap : List AV} (hgf : callable P gf = true) (hes : es.length ≤ 2 ^ 30) {s : AS} (hm : MpAt kf vf s m es c ro) (hrun : ∀ s1, Ext s s1 → WFs s1 → ItRun1 P kf vf m es c ro el gf cap s1) {a : Option (Nat × Nat)} :
  ACalls P g [.slc a 0 0 true, .func gf cap] s fun v s' => ∃ done : List (K × V × Nat), (∀ e ∈ es, e ∈ done) ∧ (∀ e ∈ done, e ∈ es) ∧ done.Nodup ∧ GroN (fun e => [el e]) 1 [] s s' v done := by
 intro B γ cargs w hargs hr
 refine .inl ⟨run_callFunc hc _ w, callsIn_wide (n := 0) |>.1 (callsIn_of_wp_marks hf hb trivial ?_)⟩
 have hw := hr.wfs
 have hel : ∀ e, ((fun e => [el e]) e).length = 1 := fun e => rfl
 have hone : ∀ e, ((fun e => [el e]) e).all AV.one = true := fun e => by simp [hone1]
 have fx0 : FX γ 13 (ainit [.slc a 0 0 true, .func gf cap]) [] { tmps := cargs ++ Array.replicate (fn.ntmps - cargs.size) undef, defers := [] } := FX.init hargs (by simp [hn])
 have KT := Kept.true
 unfold apSeqCode1
 have h1 : AWpX (fun _ _ => True) none [] P 13 _ (ainit [.slc a 0 0 true, .func gf cap]) s fun e f' s' => e = .normal ∧ ∃ bx, f' 1 = .func gf cap ∧ f' 2 = .ptr (some (bx, 0)) ∧ Fresh s s' bx (.cells [.slc a 0 0 true] 0 false) :=
  AWpX.region (id := 0) KT hT (ops := #[{ dst := some 2, op := Go.Op.box ts (Go.Operand.tmp 0), type := 0, pos := "iter.go:50", after := #[], guard := none }, { dst := some 4, op := Go.Op.assign (Go.Operand.const (Go.Value.slice none 0 0)), type := ts, pos := "iter.go:50", after := #[], guard := none }])
   (vcOpsX.aop (v := .ptr (some (s.nl, 0))) (s' := s.new (.cells [.slc a 0 0 true] 0 false)) rfl rfl rfl rfl rfl rfl (vcOpsX.aop (v := .slc none 0 0 true) (s' := s.new (.cells [.slc a 0 0 true] 0 false)) rfl rfl rfl rfl rfl rfl ⟨rfl, s.nl, rfl, rfl, hw.new rfl⟩))
 refine wpIn_seq (Go.wpIn_mono (h1 B γ _ w fx0 hr trivial) ?_)
 rintro e a1 w1 ⟨γ1, f1, s1, fx1, d1, r1, rfl, bx, f11, f12, F1⟩
 have w1' := r1.wfs
 have h2 : AWpX (fun _ _ => True) none [] P 13 _ f1 s1 fun e f' s' => e = .normal ∧ s' = s1 ∧ f' 6 = .func gf cap ∧ f' 2 = .ptr (some (bx, 0)) :=
  AWpX.region (id := 1) KT hT (ops := #[{ dst := some 6, op := Go.Op.move (Go.Operand.tmp 1), type := tq, pos := "iter.go:51", after := #[], guard := none }])
   (vcOpsX.aop (v := .func gf cap) (s' := s1) rfl rfl rfl rfl rfl (by show some (f1 1, s1) = _; rw [f11]) ⟨rfl, rfl, rfl, f12⟩)
 refine wpIn_seq (wpIn_seq (Go.wpIn_mono (h2 B γ1 a1 w1 fx1 r1 trivial) ?_))
 rintro e a2 w2 ⟨γ2, f2, s2, fx2, d2, r2, rfl, rfl, f26, f22⟩
 have hbx0 : s.h bx = none := F1.no
 have Es2 : Ext s s2 := F1.ext
 have hm2 := hm.ext Es2
 let J : Nat → List (K × V × Nat) → AS → Prop := fun it done s' => WFs s' ∧ MpAt kf vf s' m es c ro ∧ Iter s' it m es c done ∧ s2.h it = none ∧ it ≠ bx ∧ ∃ sI v, Ext s2 sI ∧ sI.h it ≠ none ∧ sI.h bx ≠ none ∧ Own s' bx [v] ∧ GroN (fun e => [el e]) 1 [bx, it] sI s' v done
 have hloop := wpIn_rangeFunc_am (n := 13) (p := 7) (assign := apAssign1 te) (body := apBody1 ts te) (K := fun s' => ∃ it done, (∀ e ∈ es, e ∈ done) ∧ J it done s') (g := .tmp 6) (f := f2) (ds := []) f26 hgf (fun l D r hst hpe hps has hbo => ?_) fx2 r2
 rotate_left
 ·refine hrun s2 Es2 w1' (RecI l D r 13 f2) RecI.kept l J (fun it s' I F => ?_) (fun it done s' j => ⟨j.1, j.2.1, j.2.2.1⟩) (fun it done q1 q2 q3 e j he hne I2 m2 e3 w3 => ?_)
  ·have hbi : it ≠ bx := by rintro rfl; have := F.no; rw [F1.at] at this; cases this
   exact ⟨F.wf, hm2.ext F.ext, I, F.no, hbi, s', _, F.ext, by rw [F.at]; simp, by rw [F.ext.1 _ _ F1.at]; simp, F1.own.ext F.ext, GroN.nil⟩
  ·obtain ⟨jw, jm, jI, jn, jb, sI, v, eI, hIt, hIb, jo, jg⟩ := j
   have hlt := jI.lt he hne
   have hmi : m ≠ it := by
    rintro rfl
    have := jI.at
    rw [jm.obj] at this; cases this
   have hmb : m ≠ bx := by
    rintro rfl
    have := jo.at
    obtain ⟨g1, g2, h1⟩ := this
    rw [jm.obj] at h1; cases h1
   have M3 := (jm.mut m2 (by simpa using hmi)).ext e3
   have I3 := I2.ext e3
   have o3 := (jo.mut m2 (by simpa using jb.symm)).ext e3
   have hM : ∀ x ∈ [bx, it], sI.h x ≠ none := by
    intro x hx
    simp only [List.mem_cons, List.not_mem_nil, or_false] at hx
    rcases hx with rfl | rfl
    ·exact hIb
    ·exact hIt
   have g3 : GroN (fun e => [el e]) 1 [bx, it] sI q3 v done := (jg.wr hM (m2.mono (by simp))).step e3
   refine YOk.round (p := 7) hst hpe hps (by decide) ?_
   rw [has, hbo]
   refine AWpX.region KT hT (vcOpsX.aop (v := el e) (s' := q3) rfl rfl rfl rfl rfl rfl ⟨rfl, ?_⟩)
   refine AWpX.block (AWpX.region KT hT ?_)
   have F4 : Ext q3 q3 := Ext.refl _
   have o4 := o3
   have g4 := g3
   refine vcOpsX.aop (v := v) (s' := q3) rfl rfl rfl rfl rfl ?_ ?_
   ·show (ald T ts q3 (upd (upd f2 7 (el e)) 5 (el e) 2)).map (·, q3) = _
    rw [show upd (upd f2 7 (el e)) 5 (el e) 2 = .ptr (some (bx, 0)) from f22, ald_scalar hts.agg, o4.at.rd1]; rfl
   refine vcOpsX.aop (v := el e) (s' := q3) rfl rfl rfl rfl rfl rfl ?_
   have hM4 : ∀ x ∈ [bx, it], q3.h x ≠ none := by
    intro x hx
    simp only [List.mem_cons, List.not_mem_nil, or_false] at hx
    rcases hx with rfl | rfl
    ·rw [o4]; simp
    ·rw [I3.at]; simp
   obtain ⟨gc, hgc, v', q5, happ, G5, w5, m5⟩ := GroN.append1s hsl rfl hone1 w3 g4 hM4 e (by omega) (K := fun v' s' => GroN (fun e => [el e]) 1 [bx, it] sI s' v' (done ++ [e]) ∧ WFs s' ∧ Mut (labOf v) q3 s') (fun v' s' a b c => ⟨a, b, c⟩)
   refine vcOpsX.aop (v := .slc (some (q3.nl, 0)) 1 1 true) (s' := q3.new (.cells gc 0 false)) rfl rfl rfl rfl rfl ?_ ?_
   ·show abuildSlice T ts 1 [(0, el e)] q3 = _
    exact absl_eq hgc
   refine vcOpsX.aop (v := v') (s' := q5) rfl rfl rfl rfl rfl happ ?_
   have hlab : ∀ x, q3.h x ≠ none → sI.h x ≠ none → x ∉ labOf v := fun x _ h2 hx => h2 (g4.new x hx)
   have o5 := o4.mut m5 (fun hx => hIb (g4.new _ hx))
   have hv1 : v'.one = true := G5.isSlc.2
   have P5 : Put q5 (q5.put bx (.cells [v'] 0 false)) bx (.cells [v'] 0 false) := w5.put o5 rfl
   refine vcOpsX.aop (v := .undef) (s' := q5.put bx (.cells [v'] 0 false)) rfl rfl rfl rfl rfl ?_ ?_
   ·show (ast T ts q5 (upd (upd f2 7 (el e)) 5 (el e) 2) v').map (fun x => (AV.undef, x)) = _
    rw [show upd (upd f2 7 (el e)) 5 (el e) 2 = .ptr (some (bx, 0)) from f22]
    have hac : acells v' = some [v'] := by cases v' <;> first | rfl | cases hv1
    simp only [ast, hac, Option.bind_some, hts.siz, List.length_singleton, if_true, awr, show q5.h bx = some (.cells [v] 0 false) from o5]
    rfl
   have hIm : sI.h m ≠ none := by rw [(hm2.ext eI).obj]; simp
   have hmv : m ∉ labOf v := fun hx => hIm (g4.new _ hx)
   have hiv : it ∉ labOf v := fun hx => hIt (g4.new _ hx)
   refine ⟨rfl, rfl, P5.wf, (M3.mut m5 hmv).mut P5.mut (by simpa using hmb), (I3.mut m5 hiv).mut P5.mut (by simpa using jb), jn, jb, sI, v', eI, hIt, hIb, P5.at, G5.wr hM (P5.mut.mono (by simp))⟩
 refine wpIn_block (Go.wpIn_mono hloop ?_)
 rintro e a3 w3 ⟨D, γ3, s3, rfl, hD, hK3, fx3, d3, r3, it, done, hall, jw, jm, jI, jn, jb, sI, v, eI, hIt, hIb, jo, jg⟩
 have h4 : AWpX (fun _ _ => True) none [{ target := .collected D, args := #[] }] P 13 _ f2 s3 fun e f' s' => e = .normal ∧ s' = s3 ∧ f' 4 = v :=
  AWpX.region (id := 4) KT hT (ops := #[{ dst := some 12, op := Go.Op.load ts (Go.Operand.tmp 2), type := ts, pos := "iter.go:54", after := #[], guard := none }, { dst := some 4, op := Go.Op.assign (Go.Operand.tmp 12), type := ts, pos := "iter.go:54", after := #[{ on := 0, ground := Go.Ground.data }, { on := 0, ground := Go.Ground.phase }], guard := none }])
   (vcOpsX.aop (v := v) (s' := s3) rfl rfl rfl rfl rfl (by show (ald T ts s3 (f2 2)).map (·, s3) = _; rw [f22, ald_scalar hts.agg, jo.at.rd1]; rfl) (vcOpsX.aop (v := v) (s' := s3) rfl rfl rfl rfl rfl rfl ⟨rfl, rfl, rfl⟩))
 refine wpIn_seq (Go.wpIn_mono (h4 B γ3 a3 w3 fx3 r3 trivial) ?_)
 rintro e a4 w4 ⟨γ4, f4, s4, fx4, d4, r4, rfl, rfl, f44⟩
 refine wpIn_ret ?_
 show LeavesInM _ _ _ _ a4.tmps _ a4.defers .returning w4
 rw [fx4.1]
 have hK4 := d4.keeps r3 hK3 rfl
 have hlt4 := (Array.getElem?_eq_some_iff.1 hK4).1
 refine ⟨by simp, .inl ⟨D, _, rfl, run_takeDeferred hK4, ?_⟩⟩
 have r5 : Rel B γ4 s4 (w4.putObj D (.deferred none)) := r4.side (by simp) fun b ob hob hs => by
  rw [World.putObj_heap_other]; exact hob
  rintro rfl; rw [hK4] at hob; cases hob; cases hs
 obtain ⟨cv, hrun, hv⟩ := ares_run hT fx4.2 r5 (fn := fn) (v := v) (by rw [hrs]; simp [ares, ares.resL, f44])
 have hsz := d1.siz
 have hsz2 := d2.siz
 refine ⟨cv, hrun, γ4, v, cv, s4, rfl, hv, (d1.trans (d2.trans (d3.trans d4))).swap (Nat.le_refl _) (by simp) (fun b hb hnb => ?_) ?_, r5, done, hall, jI.sub, jI.nd, jg.gro, ?_, fun la hla => ?_⟩
 ·rw [World.putObj_heap_other (by omega)]
  exact (d1.trans (d2.trans (d3.trans d4))).frm b hb hnb
 ·exact (d1.trans (d2.trans (d3.trans d4))).env
 ·refine ⟨fun x o _ hx => jg.chg.1 x o ?_ (eI.1 _ _ (Es2.1 _ _ hx)), Nat.le_trans (Nat.le_trans Es2.2 eI.2) jg.chg.2⟩
  simp only [List.mem_cons, List.not_mem_nil, or_false]
  rintro (rfl | rfl)
  ·rw [hbx0] at hx; cases hx
  ·have := Es2.none jn; rw [this] at hx; cases hx
 ·exact Es2.none (eI.none (jg.new la hla))
theorem keys1_run {P : Program} {T : TT} (hT : TT.Ok P T) {g : FuncId} {fn : Func} {tm tk tf tb : TypeId} (hf : P.funcs[g]? = some fn) (hb : fn.body = some (keysCode1 tm tk tf tb)) (hn : fn.ntmps = 14) (hrs : fn.results = #[])
  {kt et : TypeId} (hagg : T.agg tm = some false) (hu : T.und tm = some (.map kt et))
  {K V : Type} [DecidableEq K] {kc : K → AV} {vf : V → AV} {s : AS} {lb m : Nat} {es : List (K × V × Nat)} {c : Nat} {ro : Bool} (hbx : At s lb [.map (some m)]) (hm : MpAt kc vf s m es c ro) :
  ItRun1 P kc vf m es c ro (fun e => kc e.1) g [.ptr (some (lb, 0))] s :=
 fun Iv hI l J h0 hJ hnx => keys1_calls hI hT hf hb hn hrs hagg hu hbx hm h0 hJ hnx
theorem GroN.as {α β : Type} {f : α → List AV} {g : β → List AV} {h : α → β} (hg : ∀ x, g (h x) = f x) {sz : Nat} {M : List Nat} {s0 s : AS} {v : AV} {l : List α} (G : GroN f sz M s0 s v l) : GroN g sz M s0 s v (l.map h) := by
 refine ⟨?_, G.chg, G.new⟩
 have e : (l.map h).flatMap g = l.flatMap f := by
  rw [List.flatMap_map]; congr 1; funext x; exact hg x
 rcases G.gro with ⟨rfl, a, rfl⟩ | ⟨la, rfl, ho⟩
 ·exact .inl ⟨rfl, a, rfl⟩
 ·exact .inr ⟨la, by rw [List.length_map], by rw [e]; exact ho⟩
theorem keys_nodup {K V : Type} {es done : List (K × V × Nat)} (hp : es.Pairwise fun a b => a.1 ≠ b.1) (h2 : ∀ e ∈ done, e ∈ es) (h3 : done.Nodup) : (done.map fun e => e.1).Nodup := by
 refine List.pairwise_map.2 (List.Pairwise.imp_of_mem ?_ h3)
 intro a b ha hb hab he
 have ha' := h2 a ha
 have hb' := h2 b hb
 refine hab ?_
 have key : ∀ (l : List (K × V × Nat)), l.Pairwise (fun a b => a.1 ≠ b.1) → a ∈ l → b ∈ l → a = b := by
  intro l
  induction l with
  | nil => intro _ h; cases h
  | cons x l ih =>
   intro hp h4 h5
   obtain ⟨p1, p2⟩ := List.pairwise_cons.1 hp
   rcases List.mem_cons.1 h4 with r4 | h4 <;> rcases List.mem_cons.1 h5 with r5 | h5
   ·rw [r4, r5]
   ·exact absurd (by rw [← r4]; exact he) (p1 b h5)
   ·exact absurd (by rw [← r5]; exact he.symm) (p1 a h4)
   ·exact ih p2 h4 h5
 exact key es hp ha' hb'
end Go.Am
end

section
namespace Go.Trail
open Go.Am Go.Minster2
abbrev Nm := List UInt8
structure Cnt where
 s : Int
 u : Int
 p : Int
 q : Int
 e : Int
 deriving DecidableEq
def Cnt.zero : Cnt := ⟨0, 0, 0, 0, 0⟩
def Cnt.add (x d : Cnt) : Cnt := ⟨IntKind.wrap .i64 (x.s + d.s), IntKind.wrap .i64 (x.u + d.u), IntKind.wrap .i64 (x.p + d.p), IntKind.wrap .i64 (x.q + d.q), IntKind.wrap .i64 (x.e + d.e)⟩
abbrev Ent := Nm × Cnt
def nlt (a b : Nm) : Prop := bytesLt a b = true
theorem nlt_irr (a : Nm) : ¬ nlt a a := by unfold nlt; rw [bytesLt_irrefl]; simp
theorem nlt_tr {a b c : Nm} (h : nlt a b) (h' : nlt b c) : nlt a c := bytesLt_trans h h'
theorem nlt_tot (a b : Nm) : nlt a b ∨ a = b ∨ nlt b a := bytesLt_total a b
theorem nlt_ne {a b : Nm} (h : nlt a b) : a ≠ b := by rintro rfl; exact nlt_irr _ h
theorem ninc_eq : ∀ (a b : List Nm), a.Pairwise nlt → b.Pairwise nlt → (∀ x, x ∈ a ↔ x ∈ b) → a = b
 | [], [], _, _, _ => rfl
 | [], y :: b, _, _, h => by have := (h y).2 (by simp); simp at this
 | x :: a, [], _, _, h => by have := (h x).1 (by simp); simp at this
 | x :: a, y :: b, ha, hb, h => by
  rw [List.pairwise_cons] at ha hb
  have hxy : x = y := by
   have h1 := (h x).1 (by simp)
   have h2 := (h y).2 (by simp)
   rw [List.mem_cons] at h1 h2
   rcases h1 with h1 | h1
   ·exact h1
   ·rcases h2 with h2 | h2
    ·exact h2.symm
    ·exact absurd (nlt_tr (hb.1 x h1) (ha.1 y h2)) (nlt_irr _)
  subst hxy
  congr 1
  refine ninc_eq a b ha.2 hb.2 fun z => ?_
  constructor
  ·intro hz
   have h1 := (h z).1 (by simp [hz])
   rw [List.mem_cons] at h1
   rcases h1 with rfl | h1
   ·exact absurd (ha.1 z hz) (nlt_irr _)
   ·exact h1
  ·intro hz
   have h1 := (h z).2 (by simp [hz])
   rw [List.mem_cons] at h1
   rcases h1 with rfl | h1
   ·exact absurd (hb.1 z hz) (nlt_irr _)
   ·exact h1
def stepT : List Ent → Ent → List Ent
 | [], x => [(x.1, Cnt.zero.add x.2)]
 | y :: m, x => if y.1 = x.1 then (y.1, y.2.add x.2) :: m else y :: stepT m x
def insT : List Ent → Ent → List Ent
 | [], x => [x]
 | y :: o, x => if bytesLt y.1 x.1 then y :: insT o x else if y.1 = x.1 then (y.1, y.2.add x.2) :: o else x :: y :: o
def Cnt.small (x : Cnt) : Prop := Cnt.zero.add x = x
theorem insT_mem : ∀ (o : List Ent) (x e : Ent), o.Pairwise (fun a b => nlt a.1 b.1) → (e ∈ insT o x ↔ (e ∈ o ∧ e.1 ≠ x.1) ∨ (∃ y ∈ o, y.1 = x.1 ∧ e = (y.1, y.2.add x.2)) ∨ (e = x ∧ ∀ y ∈ o, y.1 ≠ x.1))
 | [], x, e, _ => by simp [insT]
 | y :: o, x, e, h => by
  rw [List.pairwise_cons] at h
  unfold insT
  by_cases hlt : bytesLt y.1 x.1 = true
  ·have hk : y.1 ≠ x.1 := nlt_ne hlt
   rw [if_pos hlt, List.mem_cons, insT_mem o x e h.2]
   simp only [List.mem_cons, exists_eq_or_imp, forall_eq_or_imp, hk, ne_eq, false_and, false_or, not_false_eq_true, true_and]
   constructor
   ·rintro (rfl | ⟨h1, h2⟩ | h1 | h1)
    ·exact .inl ⟨.inl rfl, hk⟩
    ·exact .inl ⟨.inr h1, h2⟩
    ·exact .inr (.inl h1)
    ·exact .inr (.inr h1)
   ·rintro (⟨rfl | h1, h2⟩ | h1 | h1)
    ·exact .inl rfl
    ·exact .inr (.inl ⟨h1, h2⟩)
    ·exact .inr (.inr (.inl h1))
    ·exact .inr (.inr (.inr h1))
  ·rw [if_neg hlt]
   by_cases hk : y.1 = x.1
   ·have hm : ∀ z ∈ o, z.1 ≠ x.1 := fun z hz hh => nlt_ne (h.1 z hz) (hk.trans hh.symm)
    rw [if_pos hk]
    simp only [List.mem_cons, exists_eq_or_imp, forall_eq_or_imp, hk, ne_eq, not_true_eq_false, false_and, and_false, or_false, true_and]
    constructor
    ·rintro (rfl | h1)
     ·exact .inr (.inl rfl)
     ·exact .inl ⟨.inr h1, hm e h1⟩
    ·rintro (⟨rfl | h1, h2⟩ | h1 | ⟨z, hz, h1, _⟩)
     ·exact absurd hk h2
     ·exact .inr h1
     ·exact .inl h1
     ·exact absurd h1 (hm z hz)
   ·rw [if_neg hk]
    have hxy : nlt x.1 y.1 := by
     rcases nlt_tot x.1 y.1 with h1 | h1 | h1
     ·exact h1
     ·exact absurd h1.symm hk
     ·exact absurd h1 hlt
    have hm : ∀ z ∈ y :: o, z.1 ≠ x.1 := by
     intro z hz
     rcases List.mem_cons.1 hz with rfl | hz
     ·exact hk
     ·exact fun hh => nlt_ne (nlt_tr hxy (h.1 z hz)) hh.symm
    rw [List.mem_cons]
    constructor
    ·rintro (rfl | h1)
     ·exact .inr (.inr ⟨rfl, hm⟩)
     ·exact .inl ⟨h1, hm e h1⟩
    ·rintro (⟨h1, _⟩ | ⟨z, hz, h1, _⟩ | ⟨rfl, _⟩)
     ·exact .inr h1
     ·exact absurd h1 (hm z hz)
     ·exact .inl rfl
theorem insT_inc : ∀ (o : List Ent) (x : Ent), o.Pairwise (fun a b => nlt a.1 b.1) → (insT o x).Pairwise (fun a b => nlt a.1 b.1)
 | [], x, _ => by simp [insT]
 | y :: o, x, h => by
  have h' := h
  rw [List.pairwise_cons] at h
  unfold insT
  by_cases hlt : bytesLt y.1 x.1 = true
  ·rw [if_pos hlt, List.pairwise_cons]
   refine ⟨fun z hz => ?_, insT_inc o x h.2⟩
   rcases (insT_mem o x z h.2).1 hz with ⟨h1, _⟩ | ⟨w, hw, h1, rfl⟩ | ⟨rfl, _⟩
   ·exact h.1 z h1
   ·exact h.1 w hw
   ·exact hlt
  ·rw [if_neg hlt]
   by_cases hk : y.1 = x.1
   ·rw [if_pos hk, List.pairwise_cons]
    exact ⟨fun z hz => h.1 z hz, h.2⟩
   ·rw [if_neg hk, List.pairwise_cons]
    have hxy : nlt x.1 y.1 := by
     rcases nlt_tot x.1 y.1 with h1 | h1 | h1
     ·exact h1
     ·exact absurd h1.symm hk
     ·exact absurd h1 hlt
    refine ⟨fun z hz => ?_, h'⟩
    rcases List.mem_cons.1 hz with rfl | hz
    ·exact hxy
    ·exact nlt_tr hxy (h.1 z hz)
def upF (f : Nm → Option Cnt) (x : Ent) : Nm → Option Cnt := fun k => if k = x.1 then some (((f x.1).getD Cnt.zero).add x.2) else f k
structure SameG (f : Nm → Option Cnt) (o : List Ent) : Prop where
 inc : o.Pairwise fun a b => nlt a.1 b.1
 mem : ∀ e : Ent, e ∈ o ↔ f e.1 = some e.2
theorem SameG.nil : SameG (fun _ => none) [] := ⟨by simp, by simp⟩
theorem SameG.step {f : Nm → Option Cnt} {o : List Ent} (h : SameG f o) {x : Ent} (hx : x.2.small) : SameG (upF f x) (insT o x) := by
 refine ⟨insT_inc _ _ h.inc, fun e => ?_⟩
 rw [insT_mem _ _ _ h.inc]
 unfold upF
 by_cases he : e.1 = x.1
 ·rw [if_pos he]
  constructor
  ·rintro (⟨_, h2⟩ | ⟨y, hy, h1, rfl⟩ | ⟨rfl, h2⟩)
   ·exact absurd he h2
   ·have := (h.mem y).1 hy
    rw [h1] at this
    rw [this]; rfl
   ·cases hv : f e.1 with
    | none => show some (Cnt.zero.add e.2) = _; rw [hx]
    | some v => exact absurd rfl (h2 (e.1, v) ((h.mem _).2 hv))
  ·intro h1
   cases hv : f x.1 with
   | none =>
    rw [hv] at h1
    refine .inr (.inr ⟨?_, fun y hy hk => ?_⟩)
    ·obtain ⟨e1, e2⟩ := e
     obtain ⟨x1, x2⟩ := x
     simp only [Option.some.injEq] at he h1 ⊢
     have : x2 = e2 := (show Cnt.zero.add x2 = x2 from hx).symm.trans h1
     rw [he, this]
    ·have := (h.mem y).1 hy
     rw [hk, hv] at this; cases this
   | some v =>
    rw [hv] at h1
    refine .inr (.inl ⟨(x.1, v), (h.mem _).2 hv, rfl, ?_⟩)
    obtain ⟨e1, e2⟩ := e
    simp only [Option.some.injEq, Option.getD_some] at he h1 ⊢
    rw [he, h1]
 ·rw [if_neg he, ← h.mem]
  constructor
  ·rintro (⟨h1, _⟩ | ⟨y, _, h1, rfl⟩ | ⟨rfl, _⟩)
   ·exact h1
   ·exact absurd h1 he
   ·exact absurd rfl he
  ·exact fun h1 => .inl ⟨h1, he⟩
theorem SameG.fold : ∀ (l : List Ent) {f : Nm → Option Cnt} {o : List Ent}, SameG f o → (∀ x ∈ l, x.2.small) → SameG (l.foldl upF f) (l.foldl insT o)
 | [], _, _, h, _ => h
 | x :: l, _, _, h, hs => SameG.fold l (h.step (hs x (by simp))) fun y hy => hs y (by simp [hy])
theorem SameG.sorted {f : Nm → Option Cnt} {o : List Ent} (h : SameG f o) {ks : List Nm} (hn : ks.Nodup) (hm : ∀ k, k ∈ ks ↔ f k ≠ none) (hs : ks.Pairwise fun a b => bytesLt b a = false) : ks.map (fun k => (k, (f k).getD Cnt.zero)) = o := by
 have hlt : ks.Pairwise nlt := by
  have := hs.and hn
  refine this.imp (fun {a b} hh => ?_)
  obtain ⟨h1, h2⟩ := hh
  rcases nlt_tot a b with h3 | h3 | h3
  ·exact h3
  ·exact absurd h3 h2
  ·exact absurd h3 (by unfold nlt; rw [h1]; simp)
 have ho : (o.map (·.1)).Pairwise nlt := by
  rw [List.pairwise_map]; exact h.inc
 have hk : ks = o.map (·.1) := by
  refine ninc_eq _ _ hlt ho fun x => ?_
  rw [hm]
  simp only [List.mem_map]
  constructor
  ·intro hx
   cases hv : f x with
   | none => exact absurd hv hx
   | some v => exact ⟨(x, v), (h.mem _).2 hv, rfl⟩
  ·rintro ⟨e, he, rfl⟩
   rw [(h.mem e).1 he]; simp
 rw [hk, List.map_map]
 have : ∀ e ∈ o, ((fun k => (k, (f k).getD Cnt.zero)) ∘ (·.1)) e = e := by
  intro e he
  simp only [Function.comp]
  rw [(h.mem e).1 he]
  rfl
 exact (List.map_congr_left this).trans (List.map_id _)
theorem insT_len : ∀ (o : List Ent) (x : Ent), (insT o x).length ≤ o.length + 1
 | [], x => by simp [insT]
 | y :: o, x => by
  unfold insT
  split
  ·have := insT_len o x; simp; omega
  ·split <;> simp
theorem foldT_len : ∀ (l : List Ent) (o : List Ent), (l.foldl insT o).length ≤ o.length + l.length
 | [], o => by simp
 | x :: l, o => by
  have := foldT_len l (insT o x)
  have := insT_len o x
  simp only [List.foldl_cons, List.length_cons]; omega
theorem ww (a b : Int) : IntKind.wrap .i64 (IntKind.wrap .i64 a + b) = IntKind.wrap .i64 (a + b) := by
 rw [IntKind.wrap_i64, IntKind.wrap_i64, IntKind.wrap_i64]; omega
theorem ww' (a b : Int) : IntKind.wrap .i64 (a + IntKind.wrap .i64 b) = IntKind.wrap .i64 (a + b) := by
 rw [Int.add_comm, ww, Int.add_comm]
theorem Cnt.add_small (x d : Cnt) : (x.add d).small := by
 unfold Cnt.small Cnt.add Cnt.zero
 simp only [ww']
 simp only [Int.zero_add]
theorem Cnt.small.all {x : Cnt} (h : x.small) : IntKind.wrap .i64 x.s = x.s ∧ IntKind.wrap .i64 x.u = x.u ∧ IntKind.wrap .i64 x.p = x.p ∧ IntKind.wrap .i64 x.q = x.q ∧ IntKind.wrap .i64 x.e = x.e := by
 unfold Cnt.small Cnt.add Cnt.zero at h
 cases x
 simp only [Int.zero_add, Cnt.mk.injEq] at h
 exact h
def totW (f : Cnt → Int) (o : List Ent) : Int := IntKind.wrap .i64 (o.map fun e => f e.2).sum
theorem insT_totW (f : Cnt → Int) (hf : ∀ (a d : Cnt), f (a.add d) = IntKind.wrap .i64 (f a + f d)) : ∀ (o : List Ent) (x : Ent), totW f (insT o x) = IntKind.wrap .i64 (totW f o + f x.2)
 | [], x => by
  unfold insT totW
  simp only [List.map_cons, List.map_nil, List.sum_cons, List.sum_nil, ww, Int.zero_add, Int.add_zero]
 | y :: o, x => by
  have ih := insT_totW f hf o x
  unfold totW at ih
  unfold insT
  split
  ·unfold totW
   rw [List.map_cons, List.sum_cons, List.map_cons, List.sum_cons, ← ww', ih, ww', ww, ← ww', ww, ww']
   congr 1
   omega
  ·split
   ·unfold totW
    rw [List.map_cons, List.sum_cons, List.map_cons, List.sum_cons, hf, ww, ww]
    congr 1
    omega
   ·unfold totW
    rw [List.map_cons, List.sum_cons, ww]
    congr 1
    omega
theorem foldT_totW (f : Cnt → Int) (hf : ∀ (a d : Cnt), f (a.add d) = IntKind.wrap .i64 (f a + f d)) : ∀ (l : List Ent) (o : List Ent), totW f (l.foldl insT o) = IntKind.wrap .i64 (totW f o + (l.map fun e => f e.2).sum)
 | [], o => by
  show IntKind.wrap .i64 _ = IntKind.wrap .i64 (IntKind.wrap .i64 _ + 0)
  rw [ww, Int.add_zero]
  rfl
 | x :: l, o => by
  rw [List.foldl_cons, foldT_totW f hf l, insT_totW f hf, ww, List.map_cons, List.sum_cons]
  congr 1
  omega
end Go.Trail
end

section
namespace Go.Am
open Go.ChangeShapes Go.WideShapes Go.Deep
/-! ### a table from a list -/
def Tr.ofL {α : Type} (F : Nat → α) : List Nat → Tr α
 | [] => .E
 | x :: xs => (Tr.ofL F xs).set x (F x)
theorem Tr.get_ofL {α : Type} (F : Nat → α) : ∀ (l : List Nat) (x : Nat), (Tr.ofL F l).get x = if x ∈ l then some (F x) else none
 | [], x => by simp [Tr.ofL, Tr.get]
 | y :: ys, x => by
  simp only [Tr.ofL, Tr.get_set, Tr.get_ofL F ys x, List.mem_cons]
  by_cases h : x = y
  ·subst h; simp
  ·simp [h]
def blockSize : Obj → Nat
 | .cells c _ _ => c.size
 | _ => 0
def maxL : List Nat → Nat
 | [] => 0
 | x :: xs => max x (maxL xs)
theorem le_maxL {l : List Nat} {x : Nat} (h : x ∈ l) : x ≤ maxL l := by
 induction l with
 | nil => cases h
 | cons y ys ih =>
  simp only [maxL]
  rcases List.mem_cons.1 h with rfl | h
  ·omega
  ·have := ih h; omega
def MW (w : World) : Nat := maxL (w.heap.toList.map blockSize) + 1
theorem lt_MW {w : World} {b : Nat} {c : Array Value} {e : TypeId} {fz : Nat × Nat} (h : w.heap[b]? = some (.cells c e fz)) : c.size < MW w := by
 have : c.size ∈ w.heap.toList.map blockSize := by
  rw [List.mem_map]
  refine ⟨.cells c e fz, ?_, rfl⟩
  rw [List.mem_iff_getElem?]
  exact ⟨b, by simpa using h⟩
 have := le_maxL this
 unfold MW; omega
mutual
def absV (n M : Nat) : Value → AV
 | .bool b => .bool b
 | .int k x => .int k x
 | .string s => .str s.data.toList
 | .pointer none => .ptr none
 | .pointer (some ⟨b, o, none⟩) => if b < n ∧ o < M then .ptr (some (b * M + o, 0)) else .bad
 | .slice none x y => .slc none x y true
 | .slice (some ⟨b, o, none⟩) x y => if b < n ∧ 0 < M then (if o < M then .slc (some (b * M + o, 0)) x y true else .slc (some (b * M, o)) x y true) else if x = 0 then .emp else .bad
 | .slice (some ⟨_, _, some _⟩) x _ => if x = 0 then .emp else .bad
 | .map none => .map none
 | .agg ⟨l⟩ => .agg (absVs n M l)
 | .nilFunc => .nilFunc
 | .nilIface => .nilIface
 | _ => .bad
def absVs (n M : Nat) : List Value → List AV
 | [] => []
 | v :: vs => absV n M v :: absVs n M vs
end
theorem absVs_map (n M : Nat) : ∀ l, absVs n M l = l.map (absV n M)
 | [] => rfl
 | v :: vs => by simp [absVs, absVs_map n M vs]
def gW (n M : Nat) : Gam := fun x => if x < n * M then some ⟨x / M, x % M, 0⟩ else none
theorem lab_div {b o M : Nat} (h : o < M) : (b * M + o) / M = b ∧ (b * M + o) % M = o := by
 rw [Nat.mul_comm]
 constructor
 ·rw [Nat.mul_add_div (by omega), Nat.div_eq_of_lt h, Nat.add_zero]
 ·rw [Nat.mul_add_mod, Nat.mod_eq_of_lt h]
theorem lab_lt {b o n M : Nat} (hb : b < n) (h : o < M) : b * M + o < n * M := by
 have : (b + 1) * M ≤ n * M := Nat.mul_le_mul_right _ hb
 rw [Nat.add_mul, Nat.one_mul] at this
 omega
theorem gW_at {b o n M : Nat} (hb : b < n) (h : o < M) : gW n M (b * M + o) = some ⟨b, o, 0⟩ := by
 simp only [gW, if_pos (lab_lt hb h), (lab_div h).1, (lab_div h).2]
mutual
theorem absV_rel (n M : Nat) : ∀ v, VRel (gW n M) (absV n M v) v
 | .bool b => by simp [absV, VRel]
 | .int k x => by simp [absV, VRel]
 | .string s => by simp [absV, VRel]
 | .pointer none => by simp [absV, VRel]
 | .pointer (some ⟨b, o, none⟩) => by
  simp only [absV]
  split
  ·rename_i h; simp only [VRel]; exact ⟨_, gW_at h.1 h.2, rfl⟩
  ·simp [VRel]
 | .pointer (some ⟨b, o, some _⟩) => by simp [absV, VRel]
 | .slice none x y => by simp [absV, VRel]
 | .slice (some ⟨b, o, none⟩) x y => by
  simp only [absV]
  split
  ·rename_i h
   split
   ·rename_i h2; simp only [VRel]; exact ⟨_, gW_at h.1 h2, by simp⟩
   ·simp only [VRel]; exact ⟨_, gW_at (o := 0) h.1 h.2, by simp⟩
  ·split
   ·rename_i h; subst h; simp only [VRel]; exact ⟨_, _, rfl⟩
   ·simp [VRel]
 | .slice (some ⟨b, o, some _⟩) x y => by
  simp only [absV]
  split
  ·rename_i h; subst h; simp only [VRel]; exact ⟨_, _, rfl⟩
  ·simp [VRel]
 | .map none => by simp [absV, VRel]
 | .map (some _) => by simp [absV, VRel]
 | .agg ⟨l⟩ => by simp only [absV, VRel]; exact ⟨⟨l⟩, rfl, absVs_rel n M l⟩
 | .nilFunc => by simp [absV, VRel]
 | .nilIface => by simp [absV, VRel]
 | .func _ _ _ => by simp [absV, VRel]
 | .iface _ _ => by simp [absV, VRel]
 | .tuple _ => by simp [absV, VRel]
 | .float _ _ => by simp [absV, VRel]
 | .complex _ _ _ => by simp [absV, VRel]
 | .chan _ => by simp [absV, VRel]
theorem absVs_rel (n M : Nat) : ∀ l, VRels (gW n M) (absVs n M l) l
 | [] => by simp [absVs, VRels]
 | v :: vs => by simp only [absVs]; exact VRels.cons (absV_rel n M v) (absVs_rel n M vs)
end
def win (w : World) (c : Array Value) (o : Nat) : List AV := ((c.toList.drop o).map (absV w.heap.size (MW w))).takeWhile AV.one
def objW (w : World) (x : Nat) : AO := match w.heap[x / MW w]? with
 | some (.cells c _ _) => .cells (win w c (x % MW w)) 0 true
 | _ => .dead
def sW (w : World) : AS := { lay := [Tr.ofL (objW w) (List.range (w.heap.size * MW w))], cur := .E, nl := w.heap.size * MW w, st := 1 }
theorem sW_h {w : World} {x : Nat} {o : AO} (h : (sW w).h x = some o) : x < w.heap.size * MW w ∧ ∃ c e fz, w.heap[x / MW w]? = some (.cells c e fz) ∧ o = .cells (win w c (x % MW w)) 0 true := by
 simp only [AS.h, sW, Tr.get, layGet, Tr.get_ofL, List.mem_range] at h
 by_cases hx : x < w.heap.size * MW w
 ·refine ⟨hx, ?_⟩
  rw [if_pos hx] at h
  simp only [objW] at h
  cases hb : w.heap[x / MW w]? with
  | none => rw [hb] at h; cases h
  | some ob =>
   rw [hb] at h
   cases ob with
   | cells c e fz =>
    simp only [AO.shut, Option.some.injEq] at h
    exact ⟨c, e, fz, rfl, h.symm⟩
   | _ => cases h
 ·rw [if_neg hx] at h; cases h
theorem sW_at {w : World} {b o : Nat} {c : Array Value} {e : TypeId} {fz : Nat × Nat} (hb : w.heap[b]? = some (.cells c e fz)) (ho : o ≤ c.size) : At (sW w) (b * MW w + o) (win w c o) := by
 have hM := lt_MW hb
 have hbl : b < w.heap.size := by
  rcases Nat.lt_or_ge b w.heap.size with h | h
  ·exact h
  ·rw [Array.getElem?_eq_none h] at hb; cases hb
 have hl := lab_lt hbl (show o < MW w by omega)
 refine ⟨0, true, ?_⟩
 simp only [AS.h, sW, Tr.get, layGet, Tr.get_ofL, List.mem_range, if_pos hl, objW, (lab_div (show o < MW w by omega)).1, (lab_div (show o < MW w by omega)).2, hb, AO.shut]
theorem takeWhile_get {p : AV → Bool} : ∀ (l : List AV) (k : Nat) (v : AV), (l.takeWhile p)[k]? = some v → p v = true ∧ l[k]? = some v
 | [], k, v, h => by simp at h
 | a :: l, k, v, h => by
  rw [List.takeWhile_cons] at h
  split at h
  ·rename_i ha
   cases k with
   | zero => simp at h; subst h; exact ⟨ha, rfl⟩
   | succ k => simp at h; simpa using takeWhile_get l k v h
  ·simp at h
theorem takeWhile_take {p : AV → Bool} : ∀ (l : List AV) (N : Nat), (∀ v ∈ l.take N, p v = true) → (l.takeWhile p).take N = l.take N
 | l, 0, _ => by simp
 | [], N + 1, _ => by simp
 | a :: l, N + 1, h => by
  have ha : p a = true := h a (by simp)
  rw [List.takeWhile_cons, if_pos ha, List.take_succ_cons, List.take_succ_cons, takeWhile_take l N fun v hv => h v (by simp [hv])]
theorem chunks (l : List AV) (sz : Nat) : ∀ n, l.take (n * sz) = ((List.range n).map fun i => (l.drop (i * sz)).take sz).flatten
 | 0 => by simp
 | n + 1 => by
  rw [Nat.add_mul, Nat.one_mul, List.take_add, chunks l sz n, List.range_succ, List.map_append, List.flatten_append]
  simp
theorem rel_sW (w : World) : Rel w.heap.size (gW w.heap.size (MW w)) (sW w) w := by
 refine ⟨fun x o h => ?_, fun x y o o' i i' h h' hro => ?_, fun j => ?_, Nat.le_refl 1, Nat.le_refl _⟩
 ·obtain ⟨hx, c, e, fz, hb, rfl⟩ := sW_h h
  refine ⟨⟨x / MW w, x % MW w, 0⟩, by simp only [gW, if_pos hx], ⟨c, e, fz, hb, fun k v hk => ?_, (fun h => by cases h), (fun h => absurd rfl h), (fun h => by cases h)⟩, (fun h => by cases h)⟩
  obtain ⟨h1, h2⟩ := takeWhile_get _ _ _ hk
  refine ⟨h1, ?_⟩
  rw [List.getElem?_map, List.getElem?_drop, Option.map_eq_some_iff] at h2
  obtain ⟨cv, h3, rfl⟩ := h2
  exact ⟨cv, by simpa using h3, absV_rel _ _ _⟩
 ·obtain ⟨_, c, e, fz, _, rfl⟩ := sW_h h
  cases hro
 ·simp only [gW, sW, Nat.mul_one]
  rw [if_neg (by omega)]
/-! ### data of flat types -/
inductive LK where
 | int (k : IntKind)
 | bool
 | str
def leafOk : LK → AV → Prop
 | .int k, v => ∃ n, v = .int k n ∧ k.min ≤ n ∧ n ≤ k.max
 | .bool, v => ∃ b, v = .bool b
 | .str, v => ∃ b, v = .str b ∧ b.length ≤ maxLen
def cellsOk : List LK → List AV → Prop
 | [], [] => True
 | k :: ks, v :: vs => leafOk k v ∧ cellsOk ks vs
 | _, _ => False
theorem leafOk.one {k : LK} {v : AV} (h : leafOk k v) : v.one = true := by
 cases k
 ·obtain ⟨n, rfl, _⟩ := h; rfl
 ·obtain ⟨n, rfl⟩ := h; rfl
 ·obtain ⟨n, rfl, _⟩ := h; rfl
theorem cellsOk.one : ∀ {ks : List LK} {vs : List AV}, cellsOk ks vs → ∀ v ∈ vs, v.one = true
 | [], [], _, v, hv => by cases hv
 | [], _ :: _, h, _, _ => h.elim
 | _ :: _, [], h, _, _ => h.elim
 | k :: ks, u :: vs, h, v, hv => by
  rcases List.mem_cons.1 hv with rfl | hv
  ·exact h.1.one
  ·exact cellsOk.one h.2 v hv
theorem cellsOk.append : ∀ {ks ks' : List LK} {vs vs' : List AV}, cellsOk ks vs → cellsOk ks' vs' → cellsOk (ks ++ ks') (vs ++ vs')
 | [], _, [], _, _, h' => by simpa using h'
 | [], _, _ :: _, _, h, _ => h.elim
 | _ :: _, _, [], _, h, _ => h.elim
 | k :: ks, _, v :: vs, _, h, h' => ⟨h.1, cellsOk.append h.2 h'⟩
def flatF (P : Program) (rec : TypeId → Option (List LK)) : List Field → Nat → Option (List LK)
 | [], _ => some []
 | f :: fs, o => (rec f.type).bind fun ks => if f.offset = o ∧ P.cellsOf f.type = ks.length then (flatF P rec fs (o + ks.length)).map (ks ++ ·) else none
def flatT (P : Program) : Nat → TypeId → Option (List LK)
 | 0, _ => none
 | d + 1, t => match P.underlying t with
  | some .bool => some [.bool]
  | some (.int k) => some [.int k]
  | some .string => some [.str]
  | some (.struct fs) => (flatF P (flatT P d) fs.toList 0).bind fun ks => if P.cellsOf t = ks.length then some ks else none
  | some (.array n e) => (flatT P d e).bind fun ks => if P.cellsOf e = ks.length ∧ P.cellsOf t = n * ks.length then some (List.replicate n ks).flatten else none
  | _ => none
section
variable {H : Type} {enc : TypeId × Value → H} {P : Program} {w : World} {base : Nat} {spare : Nat → Bool} {held : Bool}
theorem flat_open : ∀ (d : Nat) (t : TypeId) (ks : List LK) (fuel : Nat) (cs : List Value) (x : DataW H × List MemPlace) (n M : Nat), flatT P d t = some ks → DataW.trod enc P w base spare held fuel t cs = some x → cellsOk ks (cs.map (absV n M)) := by
 intro d
 induction d with
 | zero => intro t ks fuel cs x n M h; simp [flatT] at h
 | succ d ih =>
  intro t ks fuel cs x n M h ht
  unfold flatT at h
  split at h
  ·rename_i hu
   obtain rfl := Option.some.inj h
   obtain ⟨b, rfl, _⟩ := DataW.trod_bool hu ht
   exact ⟨⟨b, by simp [absV]⟩, trivial⟩
  ·rename_i k hu
   obtain rfl := Option.some.inj h
   obtain ⟨b, rfl, _, hwf⟩ := DataW.trod_int hu ht
   simp only [Lit.wf, Bool.and_eq_true, decide_eq_true_eq] at hwf
   exact ⟨⟨b, by simp [absV], hwf⟩, trivial⟩
  ·rename_i hu
   obtain rfl := Option.some.inj h
   obtain ⟨b, rfl, _, hl⟩ := DataW.trod_string hu ht
   exact ⟨⟨b.data.toList, by simp [absV], by simpa using hl⟩, trivial⟩
  ·rename_i fs hu
   obtain ⟨xs, m, rfl, _, hlen, hxs, hf⟩ := DataW.trod_struct hu ht
   simp only [Option.bind_eq_some_iff] at h
   obtain ⟨ks', hks, h⟩ := h
   split at h
   ·rename_i hsz
    obtain rfl := Option.some.inj h
    have key : ∀ (l : List Field) (o : Nat) (ks : List LK), flatF P (flatT P d) l o = some ks → (∀ f ∈ l, ∃ y, DataW.trod enc P w base spare held m f.type ((cs.drop f.offset).take (P.cellsOf f.type)) = some y) → o + ks.length ≤ cs.length → cellsOk ks (((cs.drop o).take ks.length).map (absV n M)) := by
     intro l
     induction l with
     | nil => intro o ks h _ _; simp only [flatF] at h; obtain rfl := Option.some.inj h; simp [cellsOk]
     | cons f l ihl =>
      intro o ks h hall hle
      simp only [flatF, Option.bind_eq_some_iff] at h
      obtain ⟨k1, hk1, h⟩ := h
      split at h
      ·rename_i hc
       obtain ⟨hc1, hc2⟩ := hc
       simp only [Option.map_eq_some_iff] at h
       obtain ⟨k2, hk2, rfl⟩ := h
       obtain ⟨y, hy⟩ := hall f (by simp)
       have g1 := ih _ _ _ _ _ n M hk1 hy
       rw [hc1, hc2] at g1
       rw [List.length_append] at hle
       have g2 := ihl (o + k1.length) k2 hk2 (fun f hf => hall f (by simp [hf])) (by omega)
       have := g1.append g2
       rw [List.length_append, List.take_add, List.map_append, List.drop_drop]
       exact this
      ·cases h
    have hall : ∀ f ∈ fs.toList, ∃ y, DataW.trod enc P w base spare held m f.type ((cs.drop f.offset).take (P.cellsOf f.type)) = some y := by
     intro f hfm
     obtain ⟨i, hi⟩ := List.mem_iff_getElem?.1 hfm
     have hi' : fs[i]? = some f := by simpa using hi
     have hil : i < xs.length := by
      rw [hxs]
      rcases Nat.lt_or_ge i fs.size with h | h
      ·exact h
      ·rw [Array.getElem?_eq_none h] at hi'; cases hi'
     exact ⟨_, (hf i f hi').trans (List.getElem?_eq_getElem hil)⟩
    have := key fs.toList 0 ks' hks hall (by rw [hlen, hsz]; omega)
    rw [List.drop_zero, List.take_of_length_le (by rw [hlen, hsz]; exact Nat.le_refl _)] at this
    exact this
   ·cases h
  ·rename_i len e hu
   obtain ⟨xs, m, rfl, _, hlen, hxs, hf⟩ := DataW.trod_array hu ht
   simp only [Option.bind_eq_some_iff] at h
   obtain ⟨k1, hk1, h⟩ := h
   split at h
   ·rename_i hc
    obtain ⟨hc1, hc2⟩ := hc
    obtain rfl := Option.some.inj h
    have key : ∀ (j i : Nat), i + j = len → cellsOk (List.replicate j k1).flatten (((cs.drop (i * k1.length)).take (j * k1.length)).map (absV n M)) := by
     intro j
     induction j with
     | zero => intro i _; simp [cellsOk]
     | succ j ihj =>
      intro i hij
      have hy := hf i (by omega)
      rw [List.getElem?_eq_getElem (by omega)] at hy
      have g1 := ih _ _ _ _ _ n M hk1 hy
      rw [hc1] at g1
      have g2 := ihj (i + 1) (by omega)
      have := g1.append g2
      rw [List.replicate_succ, List.flatten_cons]
      have e1 : (j + 1) * k1.length = k1.length + j * k1.length := by rw [Nat.add_mul, Nat.one_mul, Nat.add_comm]
      rw [e1, List.take_add, List.map_append, List.drop_drop]
      have e2 : i * k1.length + k1.length = (i + 1) * k1.length := by rw [Nat.add_mul, Nat.one_mul]
      rw [e2]
      exact this
    have := key len 0 (by omega)
    rw [Nat.zero_mul, List.drop_zero, List.take_of_length_le (by rw [hlen, hc2]; exact Nat.le_refl _)] at this
    exact this
   ·cases h
  ·cases h
end
end Go.Am
end

section
namespace Go.Am
open Go.ChangeShapes Go.WideShapes Go.Deep
section
variable {H : Type} {enc : TypeId × Value → H} {P : Program} {w : World}
/-! ### data that hold slices -/
end
end Go.Am
end

section
namespace Go.Am
open Go.ChangeShapes Go.WideShapes Go.ChangeAt Go.RowKit
theorem below_of_open {P : Program} {g : FuncId} {b : Bool} {cargs : Array Value} {W : World} (hg : callable P g = true) (h : ACalls P g (cargs.toList.map (absV W.heap.size (MW W))) (sW W) fun v s' => v = .bool b) : Calls P g cargs W fun e W' => e = .returned (.bool b) ∧ Below W.heap.size W W' := by
 have hargs : VRels (gW W.heap.size (MW W)) (cargs.toList.map (absV W.heap.size (MW W))) cargs.toList := by
  rw [← absVs_map]; exact absVs_rel _ _ _
 have hl : Calls P g cargs W (fun e w' => ∃ γ' v cv s', e = .returned cv ∧ VRel γ' v cv ∧ Did W.heap.size (gW W.heap.size (MW W)) (sW W) W γ' s' w' ∧ Rel W.heap.size γ' s' w' ∧ v = .bool b) := by
  rcases h W.heap.size _ cargs W hargs (rel_sW W) with ⟨_, h1⟩ | ⟨cv, w', h1, _⟩
  ·exact h1
  ·rw [run_callFunc hg] at h1; cases h1
 refine hl.mono ?_
 rintro e w' ⟨γ', v, cv, s', rfl, hv, hd, hr, rfl⟩
 simp only [VRel] at hv
 subst hv
 exact ⟨rfl, hd.below fun l o h => by obtain ⟨_, c, e, fz, _, rfl⟩ := sW_h h; rfl⟩
theorem below_trodAll {H : Type} {enc : TypeId × Value → H} {P : Program} {W W' : World} (hl : laidOutB P = true) (hb : Below W.heap.size W W') : ∀ (ts : List TypeId) (vs : List Value) (ds : List (DataW H)) (ps : List MemPlace),
  (ts.all fun t => P.readableRec t && decide (t < P.types.size)) = true → DataW.TrodAll enc P W 0 (fun _ => true) true ts vs ds ps → (∀ x ∈ ps, x.block < W.heap.size) →
  DataW.TrodAll enc P W' 0 (fun b => decide (b < W.heap.size)) true ts vs ds ps
 | [], vs, ds, ps, _, h, _ => by
  obtain ⟨rfl, rfl, rfl⟩ := trodAll_nil h
  exact h
 | t :: ts, vs, ds, ps, hr, h, hlt => by
  simp only [List.all_cons, Bool.and_eq_true, decide_eq_true_eq] at hr
  obtain ⟨v, vs1, d, ds1, a, b, rfl, rfl, rfl, h1, h2⟩ := trodAll_cons h
  exact ⟨a, b, Below.trod hl hr.1.1 hr.1.2 h1 hb (fun x hx => hlt x (by simp [hx])), below_trodAll hl hb ts vs1 ds1 b hr.2 h2 (fun x hx => hlt x (by simp [hx])), rfl⟩
theorem trodAll_at {H : Type} {enc : TypeId × Value → H} {P : Program} {W : World} {base : Nat} {spare : Nat → Bool} {held : Bool} : ∀ {ts : List TypeId} {vs : List Value} {ds : List (DataW H)} {ps : List MemPlace}, DataW.TrodAll enc P W base spare held ts vs ds ps →
  ∀ (i : Nat) t, ts[i]? = some t → ∃ v d p, vs[i]? = some v ∧ ds[i]? = some d ∧ DataW.Trod enc P W base spare held t v d p
 | [], _, _, _, _, i, t, hi => by simp at hi
 | t :: ts, vs, ds, ps, h, i, t', hi => by
  obtain ⟨v, vs1, d, ds1, a, b, rfl, rfl, rfl, h1, h2⟩ := trodAll_cons h
  cases i with
  | zero => simp at hi; subst hi; exact ⟨v, d, a, rfl, rfl, h1⟩
  | succ i => simp at hi; obtain ⟨v', d', p', e1, e2, e3⟩ := trodAll_at h2 i t' hi; exact ⟨v', d', p', by simpa using e1, by simpa using e2, e3⟩
theorem trodAll_len {H : Type} {enc : TypeId × Value → H} {P : Program} {W : World} {base : Nat} {spare : Nat → Bool} {held : Bool} : ∀ {ts : List TypeId} {vs : List Value} {ds : List (DataW H)} {ps : List MemPlace}, DataW.TrodAll enc P W base spare held ts vs ds ps → vs.length = ts.length ∧ ds.length = ts.length
 | [], _, _, _, h => by obtain ⟨rfl, rfl, rfl⟩ := trodAll_nil h; exact ⟨rfl, rfl⟩
 | t :: ts, vs, ds, ps, h => by
  obtain ⟨v, vs1, d, ds1, a, b, rfl, rfl, rfl, h1, h2⟩ := trodAll_cons h
  have := trodAll_len h2
  simp [this.1, this.2]
theorem cells_dec {α : Type} {f : α → List AV} {Q : α → Prop} : ∀ (C : List (List AV)), (∀ c ∈ C, ∃ x, c = f x ∧ Q x) → ∃ l : List α, C.flatten = l.flatMap f ∧ C.length = l.length ∧ ∀ x ∈ l, Q x
 | [], _ => ⟨[], by simp⟩
 | c :: C, h => by
  obtain ⟨x, rfl, hx⟩ := h c (by simp)
  obtain ⟨l, h1, h2, h3⟩ := cells_dec C fun c hc => h c (by simp [hc])
  exact ⟨x :: l, by simp [h1], by simp [h2], by simpa [hx] using h3⟩
end Go.Am
end

section
namespace Go.Am
open Go.ChangeShapes Go.WideShapes Go.Deep
open Go.ChangeShapes Go.WideShapes Go.ChangeAt Go.RowKit
def lenOk (v : AV) : Prop := ∀ a n c e, v = AV.slc a n c e → n ≤ reachBytes
def light {H : Type} (P : Program) (t : TypeId) (d : DataW H) : Prop := ∀ n ∈ d.weights P t, n ≤ reachBytes
section
variable {H : Type} {enc : TypeId × Value → H} {P : Program} {w : World}
theorem light_each : ∀ {ts : List TypeId} {ds : List (DataW H)}, (∀ n ∈ DataW.weightsEach P ts ds, n ≤ reachBytes) → ∀ (i : Nat) t d, ts[i]? = some t → ds[i]? = some d → light P t d
 | [], _, _, i, t, d, h1, _ => by simp at h1
 | t0 :: ts, [], _, i, t, d, _, h2 => by simp at h2
 | t0 :: ts, d0 :: ds, h, i, t, d, h1, h2 => by
  simp only [DataW.weightsEach, List.mem_append] at h
  cases i with
  | zero =>
   simp only [List.getElem?_cons_zero, Option.some.injEq] at h1 h2
   subst h1; subst h2
   exact fun n hn => h n (.inl hn)
  | succ i =>
   simp only [List.getElem?_cons_succ] at h1 h2
   exact light_each (fun n hn => h n (.inr hn)) i t d h1 h2
theorem light_all {e : TypeId} : ∀ {ds : List (DataW H)}, (∀ n ∈ DataW.weightsAll P e ds, n ≤ reachBytes) → ∀ d ∈ ds, light P e d
 | [], _, d, h => by cases h
 | d0 :: ds, h, d, hd => by
  simp only [DataW.weightsAll, List.mem_append] at h
  rcases List.mem_cons.1 hd with rfl | hd
  ·exact fun n hn => h n (.inl hn)
  ·exact light_all (fun n hn => h n (.inr hn)) d hd
theorem len_slice {t e : TypeId} (hu : P.underlying t = some (.slice e)) (hb : 1 ≤ P.bytesOf e) {n M : Nat} {fuel : Nat} {v : Value} {x : DataW H × List MemPlace} (h : DataW.trod enc P w 0 (fun _ => true) true fuel t [v] = some x) (hw : light P t x.1) : lenOk (absV n M v) := by
 intro a' k c e' he
 rcases open_slice hu h with ⟨hcs, _⟩ | ⟨a, len, cap, m, n', D, Pl, hcs, hb', hl, hm, hmm, rfl, hx⟩
 ·obtain rfl : v = .slice none 0 0 := by simpa using hcs
  simp only [absV, AV.slc.injEq] at he
  rw [← he.2.1]; exact Nat.zero_le _
 ·obtain rfl : v = .slice (some a) len cap := by simpa using hcs
  have hlen : len ≤ reachBytes := by
   have h2 : ((((List.range len).map D).length + ((List.range (m - len)).map fun j => D (len + j)).length) * P.bytesOf e) ≤ reachBytes := by
    refine hw _ ?_
    simp only [DataW.weights, hu, List.mem_cons, true_or]
   simp only [List.length_map, List.length_range] at h2
   have h3 : (len + (m - len)) * 1 ≤ (len + (m - len)) * P.bytesOf e := Nat.mul_le_mul_left _ hb
   omega
  obtain ⟨b, o, sp⟩ := a
  cases sp with
  | none =>
   simp only [absV] at he
   split at he
   ·split at he <;> (simp only [AV.slc.injEq] at he; rw [← he.2.1]; exact hlen)
   ·split at he <;> cases he
  | some _ =>
   simp only [absV] at he
   split at he <;> cases he
theorem slice_coreW {t e : TypeId} {sz : Nat} (hu : P.underlying t = some (.slice e)) (hsz : P.cellsOf e = sz) (hpos : 0 < sz) {Okp : List AV → Prop} (hopen : ∀ n cs y, DataW.trod enc P w 0 (fun _ => true) true n e cs = some y → light P e y.1 → cs.length = sz → Okp (cs.map (absV w.heap.size (MW w)))) (hone : ∀ l, Okp l → ∀ v ∈ l, v.one = true)
  {fuel : Nat} {v : Value} {y : DataW H × List MemPlace} (h : DataW.trod enc P w 0 (fun _ => true) true fuel t [v] = some y) (hw : light P t y.1) :
  (absV w.heap.size (MW w) v).one = true ∧ ∃ C : List (List AV), SlAt (sW w) (absV w.heap.size (MW w) v) sz C.flatten C.length ∧ (∀ c ∈ C, Okp c) ∧ C.length ≤ maxLen := by
 rcases open_slice hu h with ⟨hcs, _⟩ | ⟨a, len, cap, m, n, D, Pl, hcs, hb, hl, hm, hmm, hy, hx⟩
 ·obtain rfl : v = .slice none 0 0 := by simpa using hcs
  exact ⟨by simp [absV, AV.one], [], by simp only [absV, List.flatten_nil, List.length_nil]; exact SlAt.nil, by simp, by simp⟩
 ·obtain rfl : v = .slice (some a) len cap := by simpa using hcs
  simp only [if_true] at hmm
  subst hmm
  have hlight : ∀ i, i < m → light P e (D i) := by
   intro i hi
   have hall : ∀ n ∈ DataW.weightsAll P e ((List.range len).map D) ++ DataW.weightsAll P e ((List.range (m - len)).map fun j => D (len + j)), n ≤ reachBytes := fun n hn => hw n (by rw [hy]; simp only [DataW.weights, hu, List.mem_cons]; exact .inr hn)
   rcases Nat.lt_or_ge i len with h | h
   ·exact light_all (fun n hn => hall n (List.mem_append_left _ hn)) _ (List.mem_map.2 ⟨i, List.mem_range.2 h, rfl⟩)
   ·exact light_all (fun n hn => hall n (List.mem_append_right _ hn)) _ (List.mem_map.2 ⟨i - len, List.mem_range.2 (by omega), by congr 1; omega⟩)
  by_cases hm0 : m = 0
  ·subst hm0
   obtain rfl : len = 0 := by omega
   obtain ⟨b, o, sp⟩ := a
   refine ⟨?_, [], ?_, by simp, by simp⟩
   ·cases sp with
    | none =>
     simp only [absV]
     split
     ·split <;> rfl
     ·rfl
    | some _ => simp [absV, AV.one]
   ·simp only [List.flatten_nil, List.length_nil]
    cases sp with
    | none =>
     simp only [absV]
     split
     ·split <;> exact SlAt.nil
     ·exact SlAt.emp
    | some _ => simp only [absV, if_true]; exact SlAt.emp
  obtain ⟨b, o, sp⟩ := a
  have hcell0 : ∃ c, w.cell? ((Addr.add ⟨b, o, sp⟩ (0 * sz)).add 0) = some c := by
   obtain ⟨cs', h1, _⟩ := hx 0 (by omega)
   rw [hsz] at h1
   obtain ⟨_, hlen, hcell⟩ := World.cells?_some h1
   rw [hcell 0 hpos]
   exact ⟨_, List.getElem?_eq_getElem (by omega)⟩
  obtain ⟨rfl, c, e', fz, hblk⟩ : sp = none ∧ ∃ c e' fz, w.heap[b]? = some (.cells c e' fz) := by
   obtain ⟨x, hx⟩ := hcell0
   have e0 : (Addr.add ⟨b, o, sp⟩ (0 * sz)).add 0 = ⟨b, o, sp⟩ := by unfold Addr.add; simp
   rw [e0] at hx
   unfold World.cell? at hx
   split at hx
   ·rename_i c e' fz hblk
    cases sp with
    | none => exact ⟨rfl, c, e', fz, hblk⟩
    | some _ => simp at hx
   ·cases hx
  have hbl : b < w.heap.size := by
   rcases Nat.lt_or_ge b w.heap.size with h | h
   ·exact h
   ·rw [Array.getElem?_eq_none h] at hblk; cases hblk
  have hMW := lt_MW hblk
  have hel : ∀ i, i < m → ∃ ci, ci = ((c.toList.drop (o + i * sz)).take sz) ∧ ci.length = sz ∧ Okp (ci.map (absV w.heap.size (MW w))) := by
   intro i hi
   obtain ⟨cs', h1, h2⟩ := hx i hi
   rw [hsz] at h1
   obtain ⟨_, hlen, hcell⟩ := World.cells?_some h1
   have hcs' : cs' = (c.toList.drop (o + i * sz)).take sz := by
    apply List.ext_getElem?
    intro j
    rw [List.getElem?_take, List.getElem?_drop]
    split
    ·rename_i hj
     rw [← hcell j hj]
     simp only [World.cell?]
     have hblk2 : (((⟨b, o, none⟩ : Addr).add (i * sz)).add j).block = b ∧ (((⟨b, o, none⟩ : Addr).add (i * sz)).add j).off = o + i * sz + j ∧ (((⟨b, o, none⟩ : Addr).add (i * sz)).add j).spot = none := by
      unfold Addr.add
      by_cases h0 : i * sz = 0 <;> by_cases h1 : j = 0 <;> simp [h0, h1]
     rw [hblk2.1, hblk2.2.1, hblk2.2.2, hblk]
     simp
    ·rw [List.getElem?_eq_none (by omega)]
   exact ⟨cs', hcs', hlen, hopen n cs' _ h2 (hlight i hi) hlen⟩
  have ho : o < c.size := by
   obtain ⟨ci, h1, h2, _⟩ := hel 0 (by omega)
   have := congrArg List.length h1
   rw [h2, List.length_take, List.length_drop, Nat.zero_mul, Nat.add_zero, show c.toList.length = c.size from Array.length_toList] at this
   omega
  have hv : absV w.heap.size (MW w) (.slice (some ⟨b, o, none⟩) len m) = .slc (some (b * MW w + o, 0)) len m true := by
   simp only [absV]
   rw [if_pos ⟨hbl, by omega⟩, if_pos (by omega)]
  rw [hv]
  refine ⟨rfl, (List.range len).map fun i => ((c.toList.drop (o + i * sz)).take sz).map (absV w.heap.size (MW w)), ?_, ?_, ?_⟩
  ·rw [List.length_map, List.length_range]
   by_cases h0 : len = 0
   ·subst h0
    simp only [List.range_zero, List.map_nil, List.flatten_nil]
    exact SlAt.nil
   ·have hC : ((List.range len).map fun i => ((c.toList.drop (o + i * sz)).take sz).map (absV w.heap.size (MW w))).flatten = ((c.toList.drop o).map (absV w.heap.size (MW w))).take (len * sz) := by
     rw [chunks]
     congr 1
     apply List.map_congr_left
     intro i _
     rw [List.map_take, ← List.map_drop, List.drop_drop]
    have hone' : ∀ v ∈ ((c.toList.drop o).map (absV w.heap.size (MW w))).take (len * sz), v.one = true := by
     intro v hv
     rw [← hC] at hv
     obtain ⟨cc, hcc, hvc⟩ := List.mem_flatten.1 hv
     obtain ⟨i, hi, rfl⟩ := List.mem_map.1 hcc
     obtain ⟨ci, h1, _, h3⟩ := hel i (by have := List.mem_range.1 hi; omega)
     rw [h1] at h3
     exact hone _ h3 v hvc
    refine SlAt.mk (sW_at hblk (by omega)) ?_ ?_ hl
    ·rw [hC, List.length_take, List.length_map, List.length_drop, show c.toList.length = c.size from Array.length_toList]
     obtain ⟨ci, h1, h2, _⟩ := hel (len - 1) (by omega)
     have := congrArg List.length h1
     rw [h2, List.length_take, List.length_drop, show c.toList.length = c.size from Array.length_toList] at this
     have e : (len - 1) * sz + sz = len * sz := by
      rw [← Nat.succ_mul]; congr 1; omega
     omega
    ·rw [List.drop_zero]
     unfold win
     rw [takeWhile_take _ _ hone', hC]
  ·intro cc hcc
   obtain ⟨i, hi, rfl⟩ := List.mem_map.1 hcc
   obtain ⟨ci, h1, _, h3⟩ := hel i (by have := List.mem_range.1 hi; omega)
   rw [h1] at h3
   exact h3
  ·rw [List.length_map, List.length_range]; omega
end
end Go.Am
end

section
namespace Go.Am
open Go.ChangeShapes Go.WideShapes Go.Deep Go.ChangeAt Go.RowKit
def okF (rec : TypeId → List AV → Prop) : List Field → List AV → Prop
 | [], cs => cs = []
 | f :: fs, cs => ∃ a b, cs = a ++ b ∧ rec f.type a ∧ okF rec fs b
def okD (P : Program) (w : World) : Nat → TypeId → List AV → Prop
 | 0, _, _ => False
 | d + 1, t, cs => match P.underlying t with
  | some .string => ∃ b, cs = [.str b] ∧ b.length ≤ reachBytes
  | some (.slice e) => ∃ v, cs = [v] ∧ v.one = true ∧ lenOk v ∧ ∃ C : List (List AV), SlAt (sW w) v (P.cellsOf e) C.flatten C.length ∧ (∀ c ∈ C, okD P w d e c)
  | some (.struct fs) => okF (okD P w d) fs.toList cs
  | _ => ∃ ks, flatT P (d + 1) t = some ks ∧ cellsOk ks cs
def deepF5 (P : Program) (rec : TypeId → Bool) : List Field → Nat → Bool
 | [], _ => true
 | f :: fs, o => rec f.type && decide (f.offset = o) && deepF5 P rec fs (o + P.cellsOf f.type)
def sumF (P : Program) : List Field → Nat
 | [] => 0
 | f :: fs => P.cellsOf f.type + sumF P fs
def deep5 (P : Program) : Nat → TypeId → Bool
 | 0, _ => false
 | d + 1, t => match P.underlying t with
  | some .string => true
  | some (.slice e) => deep5 P d e && decide (0 < P.cellsOf e) && decide (1 ≤ P.bytesOf e) && decide (P.cellsOf t = 1)
  | some (.struct fs) => deepF5 P (deep5 P d) fs.toList 0 && decide (P.cellsOf t = sumF P fs.toList)
  | _ => (flatT P (d + 1) t).isSome
section
variable {H : Type} {enc : TypeId × Value → H} {P : Program} {w : World}
theorem okF.one {rec : TypeId → List AV → Prop} (hr : ∀ t cs, rec t cs → ∀ v ∈ cs, v.one = true) : ∀ {fs : List Field} {cs : List AV}, okF rec fs cs → ∀ v ∈ cs, v.one = true
 | [], cs, h, v, hv => by simp only [okF] at h; subst h; cases hv
 | f :: fs, cs, h, v, hv => by
  obtain ⟨a, b, rfl, h1, h2⟩ := h
  rcases List.mem_append.1 hv with hv | hv
  ·exact hr _ _ h1 v hv
  ·exact okF.one hr h2 v hv
theorem okD.one : ∀ (d : Nat) (t : TypeId) (cs : List AV), okD P w d t cs → ∀ v ∈ cs, v.one = true := by
 intro d
 induction d with
 | zero => intro t cs h; exact h.elim
 | succ d ih =>
  intro t cs h v hv
  unfold okD at h
  split at h
  ·obtain ⟨b, rfl, _⟩ := h; obtain rfl := List.mem_singleton.1 hv; rfl
  ·obtain ⟨u, rfl, h1, _⟩ := h; obtain rfl := List.mem_singleton.1 hv; exact h1
  ·exact okF.one ih h v hv
  ·obtain ⟨ks, _, h⟩ := h; exact h.one v hv
theorem deep5_open : ∀ (d : Nat) (t : TypeId) (fuel : Nat) (cs : List Value) (x : DataW H × List MemPlace), deep5 P d t = true → DataW.trod enc P w 0 (fun _ => true) true fuel t cs = some x → cs.length = P.cellsOf t → light P t x.1 → okD P w d t (cs.map (absV w.heap.size (MW w))) := by
 intro d
 induction d with
 | zero => intro t fuel cs x h; simp [deep5] at h
 | succ d ih =>
  intro t fuel cs x h ht hcl hw
  unfold deep5 at h
  unfold okD
  split at h
  ·rename_i hu
   obtain ⟨b, rfl, rfl, hl⟩ := DataW.trod_string hu ht
   refine ⟨b.data.toList, by simp [absV], ?_⟩
   have := hw b.data.toList.length (by simp [DataW.weights])
   exact this
  ·rename_i e hu
   simp only [Bool.and_eq_true, decide_eq_true_eq] at h
   obtain ⟨⟨⟨h1, h2⟩, h3⟩, h4⟩ := h
   obtain ⟨c, rfl⟩ : ∃ c, cs = [c] := List.length_eq_one_iff.1 (by rw [hcl, h4])
   have hl := len_slice (n := w.heap.size) (M := MW w) hu h3 ht hw
   obtain ⟨g1, C, g2, g3, _⟩ := slice_coreW (Okp := okD P w d e) hu rfl h2 (fun n cs y hy hly hlen => ih e n cs y h1 hy hlen hly) (fun l hl => okD.one d e l hl) ht hw
   exact ⟨_, rfl, g1, hl, C, g2, g3⟩
  ·rename_i fs hu
   simp only [Bool.and_eq_true, decide_eq_true_eq] at h
   obtain ⟨h1, h2⟩ := h
   obtain ⟨xs, m, rfl, rfl, hlen, hxs, hf⟩ := DataW.trod_struct hu ht
   have hwe : ∀ n ∈ DataW.weightsEach P (fs.toList.map (·.type)) (xs.map (·.1)), n ≤ reachBytes := fun n hn => hw n (by simp only [DataW.weights, hu]; exact hn)
   have key : ∀ (l : List Field) (o : Nat), deepF5 P (deep5 P d) l o = true → (∀ f ∈ l, ∃ y, DataW.trod enc P w 0 (fun _ => true) true m f.type ((cs.drop f.offset).take (P.cellsOf f.type)) = some y ∧ light P f.type y.1) → o + sumF P l ≤ cs.length → okF (okD P w d) l (((cs.drop o).take (sumF P l)).map (absV w.heap.size (MW w))) := by
    intro l
    induction l with
    | nil => intro o _ _ _; simp [okF, sumF]
    | cons f l ihl =>
     intro o h hall hle
     simp only [deepF5, Bool.and_eq_true, decide_eq_true_eq] at h
     obtain ⟨⟨k1, k2⟩, k3⟩ := h
     obtain ⟨y, hy, hly⟩ := hall f (by simp)
     simp only [sumF] at hle ⊢
     have g1 := ih _ _ _ _ k1 hy (by rw [List.length_take, List.length_drop, k2]; omega) hly
     rw [k2] at g1
     have g2 := ihl (o + P.cellsOf f.type) k3 (fun f hf => hall f (by simp [hf])) (by omega)
     refine ⟨_, _, ?_, g1, g2⟩
     rw [List.take_add, List.map_append, List.drop_drop]
   have hall : ∀ f ∈ fs.toList, ∃ y, DataW.trod enc P w 0 (fun _ => true) true m f.type ((cs.drop f.offset).take (P.cellsOf f.type)) = some y ∧ light P f.type y.1 := by
    intro f hfm
    obtain ⟨i, hi⟩ := List.mem_iff_getElem?.1 hfm
    have hi' : fs[i]? = some f := by simpa using hi
    have hil : i < xs.length := by
     rw [hxs]
     rcases Nat.lt_or_ge i fs.size with h | h
     ·exact h
     ·rw [Array.getElem?_eq_none h] at hi'; cases hi'
    refine ⟨_, (hf i f hi').trans (List.getElem?_eq_getElem hil), light_each hwe i f.type _ ?_ ?_⟩
    ·rw [List.getElem?_map, hi]; rfl
    ·rw [List.getElem?_map, List.getElem?_eq_getElem hil]; rfl
   have := key fs.toList 0 h1 hall (by rw [hlen, h2]; omega)
   rw [List.drop_zero, List.take_of_length_le (by rw [hlen, h2]; exact Nat.le_refl _)] at this
   exact this
  ·obtain ⟨ks, hk⟩ := Option.isSome_iff_exists.1 h
   exact ⟨ks, hk, flat_open (d + 1) t ks fuel cs x w.heap.size (MW w) hk ht⟩
theorem arg5 {t : TypeId} {d : Nat} (hk : deep5 P d t = true) (hsz : P.cellsOf t = 1) {e : TypeId} (hu : P.underlying t = some (.slice e)) {base : Nat} {v : Value} {y : DataW H} {ps : List MemPlace}
  (hv : Value.okWide P w .any base t v) (h : DataW.Trod enc P w 0 (fun _ => true) true t v y ps) (hw : light P t y) : okD P w d t [absV w.heap.size (MW w) v] := by
 obtain ⟨fuel, h⟩ := h
 have hve : v.cells.toList = [v] := by
  cases v with
  | agg l => exfalso; unfold Value.okWide at hv; rw [hu] at hv; simp only [Cell.okWide, hu, Cell.ok] at hv
  | _ => rfl
 rw [hve] at h
 exact deep5_open d t fuel [v] _ hk h (by rw [hsz]; rfl) hw
/-! ### cells by their kinds -/
inductive CK where
 | fl (k : LK)
 | str
 | sl (e : TypeId) (d : Nat)
def kindF (rec : TypeId → Option (List CK)) : List Field → Option (List CK)
 | [] => some []
 | f :: fs => (rec f.type).bind fun a => (kindF rec fs).map (a ++ ·)
def kinds (P : Program) : Nat → TypeId → Option (List CK)
 | 0, _ => none
 | d + 1, t => match P.underlying t with
  | some .string => some [.str]
  | some (.slice e) => some [.sl e d]
  | some (.struct fs) => kindF (kinds P d) fs.toList
  | _ => (flatT P (d + 1) t).map fun ks => ks.map .fl
def leafK (P : Program) (w : World) : CK → AV → Prop
 | .fl k, v => leafOk k v
 | .str, v => ∃ b, v = .str b ∧ b.length ≤ reachBytes
 | .sl e d, v => v.one = true ∧ lenOk v ∧ ∃ C : List (List AV), SlAt (sW w) v (P.cellsOf e) C.flatten C.length ∧ ∀ c ∈ C, okD P w d e c
def cellsK (P : Program) (w : World) : List CK → List AV → Prop
 | [], [] => True
 | k :: ks, v :: vs => leafK P w k v ∧ cellsK P w ks vs
 | _, _ => False
theorem cellsK.append : ∀ {ks ks' : List CK} {vs vs' : List AV}, cellsK P w ks vs → cellsK P w ks' vs' → cellsK P w (ks ++ ks') (vs ++ vs')
 | [], _, [], _, _, h' => by simpa using h'
 | [], _, _ :: _, _, h, _ => h.elim
 | _ :: _, _, [], _, h, _ => h.elim
 | k :: ks, _, v :: vs, _, h, h' => ⟨h.1, cellsK.append h.2 h'⟩
theorem cellsK.cons {k : CK} {ks : List CK} {c : List AV} (h : cellsK P w (k :: ks) c) : ∃ v vs, c = v :: vs ∧ leafK P w k v ∧ cellsK P w ks vs := by
 cases c with
 | nil => exact h.elim
 | cons v vs => exact ⟨v, vs, rfl, h.1, h.2⟩
theorem cellsK.nil {c : List AV} (h : cellsK P w [] c) : c = [] := by
 cases c with
 | nil => rfl
 | cons v vs => exact h.elim
theorem cellsK.flat : ∀ {ks : List LK} {vs : List AV}, cellsOk ks vs → cellsK P w (ks.map .fl) vs
 | [], [], _ => trivial
 | [], _ :: _, h => h.elim
 | _ :: _, [], h => h.elim
 | k :: ks, v :: vs, h => ⟨h.1, cellsK.flat h.2⟩
theorem cellsK.len : ∀ {ks : List CK} {vs : List AV}, cellsK P w ks vs → vs.length = ks.length
 | [], [], _ => rfl
 | [], _ :: _, h => h.elim
 | _ :: _, [], h => h.elim
 | k :: ks, v :: vs, h => by simp [cellsK.len h.2]
theorem okD.kinds : ∀ (d : Nat) (t : TypeId) (cs : List AV) (ks : List CK), okD P w d t cs → kinds P d t = some ks → cellsK P w ks cs := by
 intro d
 induction d with
 | zero => intro t cs ks h; exact h.elim
 | succ d ih =>
  intro t cs ks h hk
  unfold okD at h
  unfold Am.kinds at hk
  split at h
  ·rename_i hu
   rw [hu] at hk
   obtain rfl := Option.some.inj hk
   obtain ⟨b, rfl, hb⟩ := h
   exact ⟨⟨b, rfl, hb⟩, trivial⟩
  ·rename_i e hu
   rw [hu] at hk
   obtain rfl := Option.some.inj hk
   obtain ⟨v, rfl, h1, h2, h3⟩ := h
   exact ⟨⟨h1, h2, h3⟩, trivial⟩
  ·rename_i fs hu
   rw [hu] at hk
   have key : ∀ (l : List Field) (cs : List AV) (ks : List CK), okF (okD P w d) l cs → kindF (Am.kinds P d) l = some ks → cellsK P w ks cs := by
    intro l
    induction l with
    | nil =>
     intro cs ks h hk
     simp only [okF] at h
     obtain rfl := Option.some.inj hk
     subst h
     trivial
    | cons f l ihl =>
     intro cs ks h hk
     obtain ⟨a, b, rfl, h1, h2⟩ := h
     simp only [kindF, Option.bind_eq_some_iff, Option.map_eq_some_iff] at hk
     obtain ⟨k1, e1, k2, e2, rfl⟩ := hk
     exact (ih _ _ _ h1 e1).append (ihl _ _ h2 e2)
   exact key _ _ _ h hk
  ·rename_i hn1 hn2 hn3
   obtain ⟨ks', e1, h2⟩ := h
   split at hk
   ·rename_i hu; exact absurd hu hn1
   ·rename_i e hu; exact absurd hu (hn2 e)
   ·rename_i fs hu; exact absurd hu (hn3 fs)
   ·rw [e1] at hk
    obtain rfl := Option.some.inj hk
    exact cellsK.flat h2
theorem elems {α : Type} {f : α → List AV} {Q : α → Prop} (C : List (List AV)) (h : ∀ c ∈ C, ∃ x, c = f x ∧ Q x) : ∃ l : List α, C.flatten = l.flatMap f ∧ C.length = l.length ∧ ∀ x ∈ l, Q x := cells_dec C h
end
end Go.Am
end

section
namespace Go.Am
open Go.ChangeShapes Go.WideShapes Go.ChangeAt Go.RowKit
theorem law_openL {H : Type} {enc : TypeId × Value → H} {C : Checked} {os : Os} {f : FuncId} {fn : Func} {s : ChangeSpec} {fresh : Bool} {rt : TypeId} {X : World → Array Value → Prop} (own : ownKnob C.prog.godebug = none) (started : os.Started) (noInit : C.prog.inits.idxOf? f = none) (hfn : C.prog.funcs[f]? = some fn)
  (witness : ∃ (w : World) (tape : Tape) (i : Input), w.os = os ∧ (w.forCall tape i).Shaped C.prog ∧ i.vars = [] ∧ Input.okWide C.prog (w.forCall tape i) .any w.heap.size f i ∧
   ((s.pre enc C.prog fn [] false (w.forCall tape i).memory i.args ∧ X (w.forCall tape i).memory i.args) ∧ sizedMet enc C.prog fn (OpenSpec.ofChange s) false (w.forCall tape i).memory i.args) ∧ ({} : Assume).holds C.prog (lone (Frame.enter C.prog f i.args .normal) [] (w.forCall tape i)))
  (hg : callable C.prog f = true) (hv : s.vars = []) (hrt : fn.resultTypes = #[rt]) (hru : C.prog.underlying rt = some .bool) (hl : laidOutB C.prog = true) (hr : (fn.params.toList.all fun t => C.prog.readableRec t && decide (t < C.prog.types.size)) = true)
  (hsp : ∀ ds : List (DataW H), ds.length = fn.params.toList.length → s.fn H ds = { results := [.lit (.bool true)], args := ds })
  (hrun : ∀ (W : World) (base : Nat) (args : List Value), args.length = fn.params.toList.length → (∀ (j : Nat) t v, fn.params.toList[j]? = some t → args[j]? = some v → Value.okWide C.prog W .any base t v ∧ ∃ (d : DataW H) (p : List MemPlace), DataW.Trod enc C.prog W 0 (fun _ => true) true t v d p ∧ light C.prog t d) →
   ACalls C.prog f (args.map (absV W.heap.size (MW W))) (sW W) fun v s' => v = .bool true) :
  ReturnsInHanded {} C os f .any (fun w args => (s.pre enc C.prog fn [] false w args ∧ X w args) ∧ sizedMet enc C.prog fn (OpenSpec.ofChange s) false w args) (s.post enc C.prog fn false fresh false false) := by
 refine returnsInHanded_of_calls own started noInit witness ?_
 intro w tape i _ _ _ hok hpre hholds
 obtain ⟨_, _, _, fn', hfn', _, _, _, _, hval⟩ := hok
 have e : fn' = fn := Option.some.inj (hfn'.symm.trans hfn)
 subst e
 obtain ⟨⟨⟨ds, gs, before, hw, hc⟩, _⟩, hz⟩ := hpre
 have hwt := hz.weights hw
 have hW := DataW.Whole.of_heap (w' := w.forCall tape i) (by rfl) hw
 have hW' := hW
 obtain ⟨p, q, hA, hV, rfl, hfz, hnd⟩ := hW
 have hV2 := hV
 rw [hv] at hV2
 obtain ⟨rfl, rfl⟩ := trodVars_none hV2
 obtain ⟨hl1, hl2⟩ := trodAll_len hA
 simp only [List.all_eq_true, decide_eq_true_eq] at hwt
 have hrun' := hrun (w.forCall tape i) w.heap.size i.args.toList hl1 fun j t v hj hvj => by
  obtain ⟨v', d, p', h1, hd, h2⟩ := trodAll_at hA j t hj
  rw [hvj] at h1; obtain rfl := Option.some.inj h1
  refine ⟨hval j t v (by simpa using hj) (by simpa using hvj), d, p', h2, light_each hwt j t d ?_ ?_⟩
  ·rw [List.getElem?_append_left, hj]
   rcases Nat.lt_or_ge j fn'.params.toList.length with h | h
   ·exact h
   ·rw [List.getElem?_eq_none h] at hj; cases hj
  ·rw [List.append_nil]; exact hd
 refine (below_of_open hg hrun').mono fun e W' ⟨he, hb⟩ => ?_
 subst he
 refine ChangeSpec.post_blind (post_law (pa := p) (rt := rt) hW' hv hb hrt hru ?_ ?_)
 ·rw [List.append_nil]; exact hsp ds hl2
 ·exact below_trodAll hl hb _ _ _ _ hr hA fun x hx => hW'.lt x (by simp [hx])
end Go.Am
end
