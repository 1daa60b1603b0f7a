/-
  The abstract machine Am: each operation of the model does what the abstract one does (fifth part: what is built; append, copy, clear).
-/
import Derived.Test.YtbfchlimonimkaaAmSim5
import Derived.Test.YtbfchlimonimkaaAmSim2
set_option linter.unusedSectionVars false
set_option linter.unusedSimpArgs false
set_option linter.unusedVariables false
namespace Go.Am

def PRels (γ : Gam) : List (Nat × AV) → List (Nat × Value) → Prop
  | [], c => c = []
  | (i, v) :: ps, c => ∃ d ds, c = (i, d) :: ds ∧ VRel γ v d ∧ PRels γ ps ds

theorem foldl_zipIdx_wrc (off : Nat) : ∀ (l : List Value) (i : Nat) (c : Array Value), (l.zipIdx i).foldl (fun cs p => cs.setIfInBounds (off + p.2) p.1) c = wrc c (off + i) l
  | [], _, _ => rfl
  | v :: vs, i, c => by simp only [List.zipIdx_cons, List.foldl_cons, wrc]; rw [foldl_zipIdx_wrc off vs (i + 1)]; rfl

theorem rels_wr {γ : Gam} : ∀ {vs : List AV} {cvs : List Value} {cs : List AV} {c : Array Value} {o : Nat}, VRels γ vs cvs → VRels γ cs c.toList → VRels γ (wrs cs o vs) (wrc c o cvs).toList
  | [], cvs, cs, c, o, h, hc => by obtain rfl := VRels.nil_iff.1 h; exact hc
  | v :: vs, cvs, cs, c, o, h, hc => by
    obtain ⟨d, ds, rfl, hv, hs⟩ := VRels.cons_iff.1 h
    simp only [wrs, wrc]
    refine rels_wr hs ?_
    have := hc.set o hv
    simpa using this

theorem afill_run {γ : Gam} {place place' : Nat → Option (Nat × Nat)} (hp : ∀ i q, place i = some q → place' i = some q) : ∀ {parts : List (Nat × AV)} {cparts : List (Nat × Value)} {cs : List AV} {c : Array Value} {r : List AV},
    PRels γ parts cparts → VRels γ cs c.toList → afill place cs parts = some r → ∃ c', Instr.fill place' c cparts = some c' ∧ VRels γ r c'.toList ∧ r.length = cs.length
  | [], cparts, cs, c, r, h, hc, hf => by
    obtain rfl : cparts = [] := h
    simp only [afill] at hf; obtain rfl := Option.some.inj hf
    exact ⟨c, rfl, hc, rfl⟩
  | (i, v) :: ps, cparts, cs, c, r, h, hc, hf => by
    obtain ⟨d, ds, rfl, hv, hs⟩ := h
    simp only [afill] at hf
    split at hf
    · rename_i off size vc hpl hac
      split at hf
      · rename_i hcond
        obtain ⟨rfl, hone⟩ := acells_some hac
        have hvc := hv.cells hone
        have hlen := hvc.length
        have hcl := hc.length
        have hcond2 : ¬ (d.cells.size ≠ size ∨ off + d.cells.size > c.size) := by
          simp only [Array.length_toList] at hlen hcl
          omega
        have e : (d.cells.zipIdx.foldl (fun cs p => cs.setIfInBounds (off + p.2) p.1) c) = wrc c off d.cells.toList := by
          rw [← Array.foldl_toList]
          have := foldl_zipIdx_wrc off d.cells.toList 0 c
          simpa using this
        obtain ⟨c', h1, h2, h3⟩ := afill_run hp (c := wrc c off d.cells.toList) hs (rels_wr hvc hc) hf
        refine ⟨c', ?_, h2, by rw [h3, wrs_length]⟩
        simp only [Instr.fill, hp i _ hpl]
        rw [if_neg (by simpa using hcond2)]
        rw [← h1, ← e]
      · cases hf
    · cases hf

theorem afill_one {place : Nat → Option (Nat × Nat)} : ∀ {parts : List (Nat × AV)} {cs r : List AV}, afill place cs parts = some r → cs.all AV.one = true → r.all AV.one = true
  | [], cs, r, hf, h => by simp only [afill] at hf; obtain rfl := Option.some.inj hf; exact h
  | (i, v) :: ps, cs, r, hf, h => by
    simp only [afill] at hf
    split at hf
    · rename_i off size vc hpl hac
      split at hf
      · rename_i hcond
        obtain ⟨rfl, hone⟩ := acells_some hac
        refine afill_one hf ?_
        rw [List.all_eq_true]
        intro x hx
        obtain ⟨k, hk⟩ := List.mem_iff_getElem?.1 hx
        rw [wrs_get _ _ _ _ hcond.2] at hk
        split at hk
        · exact List.all_eq_true.1 hone x (List.mem_of_getElem? hk)
        · exact List.all_eq_true.1 h x (List.mem_of_getElem? hk)
      · cases hf
    · cases hf

theorem run_mapM {P : Program} {α β : Type} {f : α → Sem β} {g : α → β} {w : World} : ∀ (l : List α), (∀ x ∈ l, (f x).run P w = .ok (g x) w) → (l.mapM f).run P w = .ok (l.map g) w
  | [], _ => by simp
  | x :: xs, h => by
    have h1 := h x (by simp)
    have h2 := run_mapM xs (fun y hy => h y (List.mem_cons_of_mem _ hy))
    simp [List.mapM_cons, h1, h2]

section
variable {P : Program} {T : TT} (hT : TT.Ok P T) {B : Nat} {γ : Gam} {s : AS} {w : World} (hr : Rel B γ s w)
include hT

theorem abuild_run {t : TypeId} {parts : List (Nat × AV)} {cparts : Array (Nat × Value)} {v : AV} (hp : PRels γ parts cparts.toList) (h : abuild T t parts = some v) :
    ∃ c, (Instr.build t cparts).run P w = .ok c w ∧ VRel γ v c := by
  unfold abuild at h
  simp only [Option.bind_eq_some_iff] at h
  obtain ⟨z, hz, zc, hzc, h⟩ := h
  obtain ⟨cz, hrz, hvz⟩ := run_zeroValue hT hz w
  obtain ⟨rfl, hone⟩ := acells_some hzc
  have hcz := (hvz γ).cells hone
  split at h
  · rename_i fields hu
    split at h
    · rename_i hall
      simp only [Option.map_eq_some_iff] at h
      obtain ⟨r, hr', rfl⟩ := h
      have hpl : ∀ (i : Nat) (q : Nat × Nat), (((fields[i]?).bind fun (f : Field) => (T.siz f.type).map fun n => (f.offset, n)) = some q) → (fields.map fun f => (f.offset, (T.siz f.type).getD 0))[i]? = some q := by
        intro i q hq
        simp only [Option.bind_eq_some_iff, Option.map_eq_some_iff] at hq
        obtain ⟨f, hf, n, hn, rfl⟩ := hq
        simp [hf, hn]
      obtain ⟨c', h1, h2, _⟩ := afill_run hpl hp hcz hr'
      have hm : (fields.mapM fun (f : Field) => do pure (f.offset, ← sizeOf f.type) : Sem (Array (Nat × Nat))).run P w = .ok (fields.map fun f => (f.offset, (T.siz f.type).getD 0)) w := by
        rw [Array.mapM_eq_mapM_toList]
        have := run_mapM (P := P) (w := w) (f := fun (f : Field) => (do pure (f.offset, ← sizeOf f.type) : Sem (Nat × Nat))) (g := fun f => (f.offset, (T.siz f.type).getD 0)) fields.toList (by
          intro f hf
          have hh := Array.all_eq_true'.1 hall f (by simpa using hf)
          obtain ⟨n, hn⟩ := Option.isSome_iff_exists.1 hh
          simp [run_sizeOf hT hn, hn])
        simp only [Sem.run_map, this, Result.andThen_ok]
        congr 1
        apply Array.ext'
        simp
      refine ⟨.agg c', ?_, by simp only [VRel]; exact ⟨c', rfl, h2⟩⟩
      have h1' : Instr.fill (fun x => (fields.map fun f => (f.offset, (T.siz f.type).getD 0))[x]?) cz.cells cparts.toList = some c' := h1
      simp only [Instr.build, Sem.run_bind, hrz, run_underlying hT hu, hm, Result.andThen_ok, Sem.run_pure, h1']
    · cases h
  · rename_i k elem hu
    simp only [Option.bind_eq_some_iff, Option.map_eq_some_iff] at h
    obtain ⟨n, hn, r, hr', rfl⟩ := h
    obtain ⟨c', h1, h2, _⟩ := afill_run (place' := fun i => some (i * n, n)) (fun _ _ h => h) hp hcz hr'
    refine ⟨.agg c', ?_, by simp only [VRel]; exact ⟨c', rfl, h2⟩⟩
    simp only [Instr.build, Sem.run_bind, hrz, run_underlying hT hu, run_sizeOf hT hn, Result.andThen_ok, Sem.run_pure]
    simp [h1]
  · cases h

omit hT in
theorem rep_get (z : List AV) (n k : Nat) : (rep n z)[k]? = if k < n * z.length then z[k % z.length]? else none := by
  induction n generalizing k with
  | zero => simp [rep]
  | succ n ih =>
    have e : rep (n + 1) z = z ++ rep n z := by simp [rep, List.replicate_succ]
    rw [e, List.getElem?_append]
    split
    · rename_i hk
      have : k < (n + 1) * z.length := by
        have : z.length ≤ (n + 1) * z.length := Nat.le_mul_of_pos_left _ (by omega)
        omega
      rw [if_pos this, Nat.mod_eq_of_lt hk]
    · rename_i hk
      rw [ih]
      have hz : (n + 1) * z.length = n * z.length + z.length := by rw [Nat.add_mul, Nat.one_mul]
      by_cases h : k - z.length < n * z.length
      · rw [if_pos h, if_pos (by omega)]
        congr 1
        exact (Nat.mod_eq_sub_mod (by omega)).symm
      · rw [if_neg h, if_neg (by omega)]

omit hT in
theorem rep_length (z : List AV) (n : Nat) : (rep n z).length = n * z.length := by
  simp [rep]

omit hT in
theorem rep_rels {γ : Gam} {z : List AV} {cz : Array Value} (hz : VRels γ z cz.toList) (n : Nat) (hn : z.length ≠ 0 ∨ n = 0 ∨ True) :
    VRels γ (rep n z) ((Array.range (n * cz.size)).map (cz[· % cz.size]!)).toList := by
  have hl := hz.length
  simp only [Array.length_toList] at hl
  refine VRels.iff_get.2 ⟨by rw [rep_length]; simp [hl], fun i v c hv hc => ?_⟩
  rw [rep_get] at hv
  split at hv
  · rename_i hi
    obtain ⟨cv, hcv, hr⟩ := hz.get hv
    have hpos : 0 < cz.size := by
      rcases Nat.eq_zero_or_pos cz.size with h | h
      · rw [hl, h] at hi; simp at hi
      · exact h
    have : c = cv := by
      have hi2 : i < n * cz.size := by rw [← hl]; exact hi
      simp [hi2] at hc
      rw [← hc]
      have hm : i % cz.size < cz.size := Nat.mod_lt _ hpos
      rw [hl] at hcv
      simp [hm] at hcv
      rw [getElem!_pos cz _ hm]; exact hcv
    rw [this]; exact hr
  · cases hv

omit hT in
theorem rep_one {z : List AV} (h : z.all AV.one = true) (n : Nat) : (rep n z).all AV.one = true := by
  simp only [rep, List.all_eq_true, List.mem_flatten]
  rintro x ⟨l, hl, hx⟩
  obtain rfl := (List.mem_replicate.1 hl).2
  exact List.all_eq_true.1 h x hx

include hr
theorem abuildSlice_run {t : TypeId} {len : Nat} {parts : List (Nat × AV)} {cparts : Array (Nat × Value)} {v : AV} {s' : AS} (hp : PRels γ parts cparts.toList) (h : abuildSlice T t len parts s = some (v, s')) :
    Sim P B γ s w (Instr.buildSlice t len cparts) v s' := by
  unfold abuildSlice at h
  split at h
  · rename_i elem hu
    simp only [Option.bind_eq_some_iff] at h
    obtain ⟨n, hn, z, hz, zc, hzc, h⟩ := h
    split at h
    · rename_i hcond
      obtain ⟨rfl, hone⟩ := acells_some hzc
      obtain ⟨hlen, hbound⟩ := hcond
      simp only [Option.map_eq_some_iff] at h
      obtain ⟨cs, hcs, e⟩ := h
      obtain ⟨rfl, rfl⟩ : _ ∧ _ := by simpa using e
      obtain ⟨cz, hrz, hvz⟩ := run_zeroValue hT hz w
      have hcz := (hvz γ).cells hone
      have hczl := hcz.length
      simp only [Array.length_toList] at hczl
      let c0 : Array Value := (Array.range (len * n)).map ((if len * n = 0 then #[] else cz.cells)[· % (if len * n = 0 then #[] else cz.cells).size]!)
      have hc0 : VRels γ (rep len z.cells) c0.toList := by
        by_cases h0 : len * n = 0
        · have : rep len z.cells = [] := by
            apply List.eq_nil_of_length_eq_zero; rw [rep_length, hlen, h0]
          rw [this]; simp [c0, h0]; exact VRels.nil
        · have := rep_rels hcz len (.inr (.inr trivial))
          simp only [c0, if_neg h0]
          rw [← hlen, hczl]; exact this
      obtain ⟨c', h1, h2, h3⟩ := afill_run (place' := fun i => some (i * n, n)) (fun _ _ h => h) hp hc0 hcs
      have hone' := afill_one hcs (rep_one hone len)
      obtain ⟨g1, g2⟩ := hr.newCells (w' := { w with heap := w.heap.push (.cells c' elem) }) (g := 0) (x := 0) (e := elem) (c := c') (hc_of_rels h2 hone' (by intro k v h; simpa using h)) (by simp) (0, 0) (by simp) (fun _ => rfl) rfl
      refine ⟨_, _, .slice (some ⟨w.heap.size, 0, none⟩) len len, ?_, by simp only [VRel]; exact ⟨_, updG_same _ _ _, by simp⟩, g2, g1⟩
      have hb : ¬ (len * n > 2 ^ 24) := by omega
      simp only [Instr.buildSlice, Sem.run_bind, run_underlying hT hu, run_sizeOf hT hn, Result.andThen_ok, if_neg hb]
      by_cases h0 : len * n = 0
      · simp only [if_pos h0, Sem.run_pure, Result.andThen_ok]
        simp only [c0, if_pos h0] at h1
        simp [h0] at h1 ⊢
        simp [h1, run_newRow]
      · simp only [if_neg h0, Sem.run_bind, hrz, Sem.run_pure, Result.andThen_ok]
        simp only [c0, if_neg h0] at h1
        simp [h1, run_newRow]
    · cases h
  · cases h

end
end Go.Am
