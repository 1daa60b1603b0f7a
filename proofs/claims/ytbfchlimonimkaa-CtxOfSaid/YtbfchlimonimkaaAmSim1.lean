/-
  The abstract machine Am: the model's small steps over a related world.
-/
import Derived.Test.YtbfchlimonimkaaAmOps
set_option linter.unusedSectionVars false
set_option linter.unusedSimpArgs false
set_option linter.unusedVariables false
namespace Go.Am

section
variable {P : Program} {T : TT} (hT : TT.Ok P T)
include hT
theorem run_underlying {t : TypeId} {d : TypeDesc} (h : T.und t = some d) (w : World) : (underlying t).run P w = .ok d w := by
  simp [underlying, hT.und t d h]
theorem run_sizeOf {t : TypeId} {n : Nat} (h : T.siz t = some n) (w : World) : (sizeOf t).run P w = .ok n w := by
  have := hT.siz t n h
  cases hi : P.info? t with
  | none => simp [hi] at this
  | some i => simp [hi] at this; simp [sizeOf, typeInfo, hi, this]
theorem run_bytes {t : TypeId} {n : Nat} (h : T.byt t = some n) (w : World) : ∃ i, (typeInfo t).run P w = .ok i w ∧ i.bytes = n := by
  have := hT.byt t n h
  cases hi : P.info? t with
  | none => simp [hi] at this
  | some i => simp [hi] at this; exact ⟨i, by simp [typeInfo, hi], this⟩
theorem run_zeroValue {t : TypeId} {z : AV} (h : T.zer t = some z) (w : World) : ∃ c, (zeroValue t).run P w = .ok c w ∧ ∀ γ, VRel γ z c := by
  obtain ⟨i, c, hi, hc, hz⟩ := hT.zer t z h
  exact ⟨c, by simp [zeroValue, typeInfo, hi, hc], hz⟩
theorem run_isAgg {t : TypeId} {b : Bool} (h : T.agg t = some b) (w : World) : (isAgg t).run P w = .ok b w := by
  unfold TT.agg at h
  cases hu : T.und t with
  | none => simp [hu] at h
  | some d =>
    rw [hu] at h
    simp only [isAgg, Sem.run_bind, run_underlying hT hu, Result.andThen_ok]
    cases d <;> simp at h <;> subst h <;> rfl
end

theorem cell?_some {w : World} {b o : Nat} {c : Array Value} {e : TypeId} {fz : Nat × Nat} {v : Value} (h : w.heap[b]? = some (.cells c e fz)) (hv : c[o]? = some v) :
    w.cell? ⟨b, o, none⟩ = some v := by simp [World.cell?, h, hv]

theorem add_addr (b o i : Nat) : (Addr.mk b o none).add i = ⟨b, o + i, none⟩ := by
  unfold Addr.add; split
  · rename_i h; simp [h]
  · rfl

theorem run_loadCellsFrom (P : Program) {w : World} {b o : Nat} {c : Array Value} {e : TypeId} {fz : Nat × Nat} (h : w.heap[b]? = some (.cells c e fz)) :
    ∀ (n i : Nat) (acc : Array Value), o + i + n ≤ c.size → (loadCellsFrom ⟨b, o, none⟩ i n acc).run P w = .ok (acc ++ c.extract (o + i) (o + i + n)) w
  | 0, i, acc, _ => by simp [loadCellsFrom]; omega
  | n + 1, i, acc, hn => by
    have hc : c[o + i]? = some (c[o + i]'(by omega)) := Array.getElem?_eq_getElem (by omega)
    simp only [loadCellsFrom, Sem.run_bind, run_load, add_addr, cell?_some h hc, Result.andThen_ok]
    rw [run_loadCellsFrom P h n (i + 1) _ (by omega)]
    congr 1
    apply Array.ext'
    simp only [Array.toList_append, Array.toList_push, Array.toList_extract, List.append_assoc]
    congr 1
    rw [show o + i + (n + 1) = (o + i + 1) + n by omega, show o + (i + 1) = o + i + 1 by omega]
    simp only [List.extract_eq_take_drop]
    rw [show (o + i + 1 + n - (o + i)) = n + 1 by omega, show (o + i + 1 + n - (o + i + 1)) = n by omega]
    rw [List.drop_eq_getElem_cons (show o + i < c.toList.length by simpa using (by omega : o + i < c.size))]
    simp

theorem run_loadCells (P : Program) {w : World} {b o n : Nat} {c : Array Value} {e : TypeId} {fz : Nat × Nat} (h : w.heap[b]? = some (.cells c e fz)) (hn : o + n ≤ c.size) :
    (loadCells ⟨b, o, none⟩ n).run P w = .ok (c.extract o (o + n)) w := by
  have := run_loadCellsFrom P (o := o) h n 0 #[] (by omega)
  simpa [loadCells] using this

def wrc (c : Array Value) (o : Nat) : List Value → Array Value
  | [] => c
  | v :: vs => wrc (c.setIfInBounds o v) (o + 1) vs

theorem wrc_size : ∀ (vs : List Value) (c : Array Value) (o : Nat), (wrc c o vs).size = c.size
  | [], _, _ => rfl
  | v :: vs, c, o => by simp [wrc, wrc_size vs]

theorem setCell_heap {w : World} {b o : Nat} {c : Array Value} {e : TypeId} {fz : Nat × Nat} (h : w.heap[b]? = some (.cells c e fz)) (v : Value) :
    (w.setCell ⟨b, o, none⟩ v).heap = w.heap.setIfInBounds b (.cells (c.setIfInBounds o v) e fz) := by
  have hb : b < w.heap.size := by
    rcases Nat.lt_or_ge b w.heap.size with h' | h'
    · exact h'
    · simp [Array.getElem?_eq_none h'] at h
  have hg : w.heap[b] = .cells c e fz := by simpa [Array.getElem?_eq_getElem hb] using h
  apply Array.ext_getElem?
  intro i
  simp only [World.setCell, Array.getElem?_modify, Array.getElem?_setIfInBounds]
  by_cases hi : b = i
  · subst hi; simp [hb, hg]
  · simp [hi]

theorem setCell_os (w : World) (a : Addr) (v : Value) : (w.setCell a v).os = w.os := rfl
theorem setCell_output (w : World) (a : Addr) (v : Value) : (w.setCell a v).output = w.output := rfl

theorem run_storeCells (P : Program) {b o : Nat} {e : TypeId} {fz : Nat × Nat} : ∀ (vs : List Value) (i : Nat) (w : World) (c : Array Value), w.heap[b]? = some (.cells c e fz) →
    o + i + vs.length ≤ c.size → (∀ x, x < c.size → ¬ (fz.1 ≤ x ∧ x < fz.2)) → (∀ v ∈ vs, v.oneCell' = true) →
    ∃ w', (storeCells ⟨b, o, none⟩ vs i).run P w = .ok () w' ∧ w'.heap = w.heap.setIfInBounds b (.cells (wrc c (o + i) vs) e fz) ∧ Env w w'
  | [], i, w, c, h, _, _, _ => by
    refine ⟨w, by simp [storeCells], ?_, rfl, rfl, rfl⟩
    apply Array.ext_getElem?
    intro k
    simp only [Array.getElem?_setIfInBounds]
    have hb : b < w.heap.size := by
      rcases Nat.lt_or_ge b w.heap.size with h' | h'
      · exact h'
      · simp [Array.getElem?_eq_none h'] at h
    by_cases hk : b = k
    · subst hk; simp only [wrc, h, hb, if_true]
    · simp [hk]
  | v :: vs, i, w, c, h, hn, hf, hv => by
    simp only [List.length_cons] at hn
    have hc : c[o + i]? = some (c[o + i]'(by omega)) := Array.getElem?_eq_getElem (by omega)
    have hb : b < w.heap.size := by
      rcases Nat.lt_or_ge b w.heap.size with h' | h'
      · exact h'
      · simp [Array.getElem?_eq_none h'] at h
    have hfr : w.frozen? ⟨b, o + i, none⟩ = false := by
      have := hf (o + i) (by omega)
      simp only [World.frozen?, h, Bool.and_eq_false_iff, decide_eq_false_iff_not]
      by_cases g : fz.1 ≤ o + i
      · exact .inr fun g2 => this ⟨g, g2⟩
      · exact .inl g
    have hh := setCell_heap (o := o + i) h v
    have h1 : (w.setCell ⟨b, o + i, none⟩ v).heap[b]? = some (.cells (c.setIfInBounds (o + i) v) e fz) := by
      rw [hh]; simp [hb]
    obtain ⟨w', hr, hw', hev⟩ := run_storeCells P (b := b) (o := o) vs (i + 1) _ _ h1 (by simp; omega) (by simpa using hf) (fun u hu => hv u (List.mem_cons_of_mem _ hu))
    refine ⟨w', ?_, ?_, Env.trans ⟨setCell_os _ _ _, rfl, setCell_output _ _ _⟩ hev⟩
    · simp only [storeCells, Sem.run_bind, add_addr, run_store P w _ v .plain (hv v (by simp)), cell?_some h hc, hfr, Bool.false_eq_true, if_false, Result.andThen_ok]
      exact hr
    · rw [hw', hh]
      apply Array.ext_getElem?
      intro k
      simp only [Array.getElem?_setIfInBounds, Array.size_setIfInBounds, wrc]
      by_cases hk : b = k
      · subst hk; simp [hb]; rfl
      · simp [hk]

theorem run_newRow (P : Program) (w : World) (e : TypeId) (c : Array Value) :
    (newRow e c).run P w = .ok ⟨w.heap.size, 0, none⟩ { w with heap := w.heap.push (.cells c e) } := by
  simp [newRow]

theorem wrs_length : ∀ (vs cs : List AV) (o : Nat), (wrs cs o vs).length = cs.length
  | [], _, _ => rfl
  | v :: vs, cs, o => by simp [wrs, wrs_length vs]

theorem wrs_get : ∀ (vs cs : List AV) (o k : Nat), o + vs.length ≤ cs.length → (wrs cs o vs)[k]? = if o ≤ k ∧ k < o + vs.length then vs[k - o]? else cs[k]?
  | [], cs, o, k, _ => by simp only [wrs, List.length_nil]; rw [if_neg (by omega)]
  | v :: vs, cs, o, k, h => by
    simp only [List.length_cons] at h ⊢
    rw [wrs, wrs_get vs (cs.set o v) (o + 1) k (by simp; omega)]
    by_cases h1 : o = k
    · subst h1
      rw [if_neg (by omega), if_pos (by omega)]
      simp [List.getElem?_set]
      omega
    · by_cases h2 : o + 1 ≤ k ∧ k < o + 1 + vs.length
      · rw [if_pos h2, if_pos (by omega)]
        rw [show k - o = (k - (o + 1)) + 1 by omega]
        simp
      · rw [if_neg h2, if_neg (by omega), List.getElem?_set]
        simp [h1]

theorem wrc_get : ∀ (vs : List Value) (c : Array Value) (o k : Nat), o + vs.length ≤ c.size → (wrc c o vs)[k]? = if o ≤ k ∧ k < o + vs.length then vs[k - o]? else c[k]?
  | [], c, o, k, _ => by simp only [wrc, List.length_nil]; rw [if_neg (by omega)]
  | v :: vs, c, o, k, h => by
    simp only [List.length_cons] at h ⊢
    rw [wrc, wrc_get vs (c.setIfInBounds o v) (o + 1) k (by simp; omega)]
    by_cases h1 : o = k
    · subst h1
      rw [if_neg (by omega), if_pos (by omega)]
      simp [Array.getElem?_setIfInBounds]
      omega
    · by_cases h2 : o + 1 ≤ k ∧ k < o + 1 + vs.length
      · rw [if_pos h2, if_pos (by omega)]
        rw [show k - o = (k - (o + 1)) + 1 by omega]
        simp
      · rw [if_neg h2, if_neg (by omega), Array.getElem?_setIfInBounds]
        simp [h1]

/-- The cells of an object, read. -/
theorem ORel.read {γ : Gam} {w : World} {i : CI} {cs : List AV} {g : Nat} {ro : Bool} (h : ORel γ w i (.cells cs g ro)) {o n : Nat} (hn : o + n ≤ cs.length) :
    ∃ c e fz, w.heap[i.b]? = some (.cells c e fz) ∧ (n ≠ 0 → i.d + o + n ≤ c.size) ∧ VRels γ ((cs.drop o).take n) ((c.extract (i.d + o) (i.d + o + n)).toList) := by
  obtain ⟨c, e, fz, hb, hc, _⟩ := h
  have hsz : n ≠ 0 → i.d + o + n ≤ c.size := by
    intro h0
    obtain ⟨_, cv, hcv, _⟩ := hc (o + n - 1) _ (List.getElem?_eq_getElem (show o + n - 1 < cs.length by omega))
    have : i.d + (o + n - 1) < c.size := by
      rcases Nat.lt_or_ge (i.d + (o + n - 1)) c.size with h | h
      · exact h
      · simp [Array.getElem?_eq_none h] at hcv
    omega
  refine ⟨c, e, fz, hb, hsz, ?_⟩
  refine VRels.iff_get.2 ⟨?_, fun k v cv hv hcv => ?_⟩
  · by_cases h0 : n = 0
    · simp [h0]
    · have := hsz h0; simp; omega
  · rw [List.getElem?_take] at hv
    split at hv
    · rename_i hk
      rw [List.getElem?_drop] at hv
      obtain ⟨_, dv, hdv, hr⟩ := hc (o + k) v hv
      have : (c.extract (i.d + o) (i.d + o + n)).toList[k]? = some dv := by
        have h1 : i.d + o + n ≤ c.size := hsz (by omega)
        simp only [Array.toList_extract, List.extract_eq_take_drop, List.getElem?_take, List.getElem?_drop]
        rw [if_pos (by omega), ← Nat.add_assoc] at *
        simpa [Nat.add_assoc] using hdv
      rw [this] at hcv
      obtain rfl := Option.some.inj hcv
      exact hr
    · simp at hv

theorem acells_some {v : AV} {l : List AV} (h : acells v = some l) : l = v.cells ∧ l.all AV.one = true := by
  unfold acells at h
  split at h
  · rename_i hh; obtain rfl := Option.some.inj h; exact ⟨rfl, hh⟩
  · simp at h

end Go.Am
