/-
  The abstract machine Am: each operation of the model does what the abstract one does (first part).
-/
import Derived.Test.YtbfchlimonimkaaAmSim1
import GoSem.Dispatch
set_option linter.unusedSectionVars false
set_option linter.unusedSimpArgs false
set_option linter.unusedVariables false
namespace Go.Am

def Sim (P : Program) (B : Nat) (γ : Gam) (s : AS) (w : World) (m : Sem Value) (v : AV) (s' : AS) : Prop :=
  ∃ γ' w' cv, m.run P w = .ok cv w' ∧ VRel γ' v cv ∧ Did B γ s w γ' s' w' ∧ Rel B γ' s' w'
def SimU (P : Program) (B : Nat) (γ : Gam) (s : AS) (w : World) (m : Sem Unit) (s' : AS) : Prop :=
  ∃ γ' w', m.run P w = .ok () w' ∧ Did B γ s w γ' s' w' ∧ Rel B γ' s' w'

theorem Sim.val {P : Program} {B : Nat} {γ : Gam} {s : AS} {w : World} {m : Sem Value} {v : AV} {cv : Value} (hr : Rel B γ s w) (hm : m.run P w = .ok cv w) (hv : VRel γ v cv) :
    Sim P B γ s w m v s := ⟨γ, w, cv, hm, hv, Did.refl, hr⟩

theorem Rel.newCells {B : Nat} {γ : Gam} {s : AS} {w w' : World} {cs : List AV} {g x : Nat} {c : Array Value} {e : TypeId} (h : Rel B γ s w)
    (hc : ∀ (k : Nat) v, cs[k]? = some v → v.one = true ∧ ∃ cv, c[k]? = some cv ∧ VRel γ v cv) (hg : g ≠ 0 → c.size = cs.length + x * g ∧ ∀ k, cs.length ≤ k → k < c.size → ∃ v cv, v.one = true ∧ c[k]? = some cv ∧ VRel γ v cv) (fz : Nat × Nat) (hfz : ∀ o, o < c.size → ¬ (fz.1 ≤ o ∧ o < fz.2)) (hfz0 : g ≠ 1 → fz = (0, 0))
    (hw : w'.heap = w.heap.push (.cells c e fz)) (he : Env w w' := by exact ⟨rfl, rfl, rfl⟩) :
    Rel B (updG γ s.nl ⟨w.heap.size, 0, x⟩) (s.new (.cells cs g false)) w' ∧ Did B γ s w (updG γ s.nl ⟨w.heap.size, 0, x⟩) (s.new (.cells cs g false)) w' := by
  refine Rel.alloc h rfl rfl hw ⟨c, e, fz, by rw [hw]; simp, fun k v hk => ?_, fun _ => hfz, fun h0 => ?_, fun _ => hfz0⟩ he
  · obtain ⟨h1, cv, h2, h3⟩ := hc k v hk
    exact ⟨h1, cv, by simpa using h2, h3.mono (Gam.le_upd h.fin0)⟩
  · exact ⟨by simpa using (hg h0).1, fun k hk hk' => let ⟨v, cv, a, b, d⟩ := (hg h0).2 k (by simpa using hk) hk'; ⟨v, cv, a, b, d.mono (Gam.le_upd h.fin0)⟩⟩

theorem hc_of_rels {γ : Gam} {cs : List AV} {l : List Value} {c : Array Value} (h : VRels γ cs l) (hone : cs.all AV.one = true) (hl : ∀ (k : Nat) (v : Value), l[k]? = some v → c[k]? = some v) :
    ∀ (k : Nat) v, cs[k]? = some v → v.one = true ∧ ∃ cv, c[k]? = some cv ∧ VRel γ v cv := by
  intro k v hk
  obtain ⟨cv, hcv, hr⟩ := h.get hk
  exact ⟨List.all_eq_true.1 hone v (List.mem_of_getElem? hk), cv, hl k cv hcv, hr⟩

theorem sim_newVar {P : Program} {B : Nat} {γ : Gam} {s : AS} {w : World} {v : AV} {cv : Value} {cs : List AV} (t : TypeId) (hr : Rel B γ s w) (hv : VRel γ v cv) (hcs : acells v = some cs) :
    Sim P B γ s w (do pure (.pointer (some (← newVar t cv)))) (.ptr (some (s.nl, 0))) (s.new (.cells cs 0 false)) := by
  obtain ⟨rfl, hone⟩ := acells_some hcs
  have hc := hc_of_rels (c := cv.cells) (hv.cells hone) hone (by intro k v h; simpa using h)
  obtain ⟨h1, h2⟩ := hr.newCells (w' := { w with heap := w.heap.push (.cells cv.cells t) }) (g := 0) (x := 0) (e := t) hc (by simp) (0, 0) (by simp) (fun _ => rfl) rfl
  refine ⟨_, _, .pointer (some ⟨w.heap.size, 0, none⟩), ?_, ?_, h2, h1⟩
  · simp [newVar, run_newRow]
  · simp [VRel, updG_same]

section
variable {P : Program} {T : TT} (hT : TT.Ok P T) {B : Nat} {γ : Gam} {s : AS} {w : World} (hr : Rel B γ s w)
include hT hr

theorem sim_alloc {e : TypeId} {z : AV} {cs : List AV} (hz : T.zer e = some z) (hcs : acells z = some cs) :
    Sim P B γ s w (Instr.alloc e true (.tuple #[])) (.ptr (some (s.nl, 0))) (s.new (.cells cs 0 false)) := by
  obtain ⟨c, hc, hzr⟩ := run_zeroValue hT hz w
  obtain ⟨γ', w', cv, h1, h2⟩ := sim_newVar (P := P) e hr (hzr γ) hcs
  refine ⟨γ', w', cv, ?_, h2⟩
  simp only [Instr.alloc, Sem.run_bind, hc, Result.andThen_ok]
  simpa using h1

theorem rdc_run {l o n : Nat} {cs : List AV} (h : rdc s l o n = some cs) : ∃ i c e fz, γ l = some i ∧ w.heap[i.b]? = some (.cells c e fz) ∧ (n ≠ 0 → i.d + o + n ≤ c.size) ∧
    VRels γ cs ((c.extract (i.d + o) (i.d + o + n)).toList) ∧ cs.all AV.one = true ∧ cs.length = n := by
  unfold rdc at h
  split at h
  · rename_i cl g ro hl
    split at h
    · rename_i hn
      obtain rfl := Option.some.inj h
      obtain ⟨i, hi, hO, _⟩ := hr.obj l _ hl
      obtain ⟨c, e, fz, hb, hsz, hvs⟩ := hO.read hn
      refine ⟨i, c, e, fz, hi, hb, hsz, hvs, ?_, by simp; omega⟩
      obtain ⟨c2, e2, fz2, hb2, hc2, _⟩ := hO
      rw [List.all_eq_true]
      intro v hv
      have hv2 : v ∈ cl := List.mem_of_mem_drop (List.mem_of_mem_take hv)
      obtain ⟨k, hk⟩ := List.mem_iff_getElem?.1 hv2
      exact (hc2 k v hk).1
    · simp at h
  · simp at h

theorem run_loadCells_rdc {l o n : Nat} {cs : List AV} (h : rdc s l o n = some cs) : ∃ i c, γ l = some i ∧ (loadCells ⟨i.b, i.d + o, none⟩ n).run P w = .ok c w ∧ VRels γ cs c.toList ∧ cs.all AV.one = true ∧ cs.length = n ∧ c.size = n := by
  obtain ⟨i, c, e, fz, hi, hb, hsz, hvs, hone, hlen⟩ := rdc_run hT hr h
  by_cases h0 : n = 0
  · subst h0
    refine ⟨i, #[], hi, rfl, ?_, hone, hlen, rfl⟩
    obtain rfl := List.length_eq_zero_iff.1 hlen
    exact VRels.nil
  · refine ⟨i, _, hi, run_loadCells P hb (hsz h0), hvs, hone, hlen, ?_⟩
    have := hvs.length
    simp at this ⊢; omega

theorem rd1_run {l o : Nat} {v : AV} (h : rd1 s l o = some v) : ∃ i cv, γ l = some i ∧ w.cell? ⟨i.b, i.d + o, none⟩ = some cv ∧ VRel γ v cv ∧ v.one = true := by
  unfold rd1 at h
  split at h
  · rename_i cl g ro hl
    obtain ⟨i, hi, ⟨c, e, fz, hb, hc, _⟩, _⟩ := hr.obj l _ hl
    obtain ⟨h1, cv, h2, h3⟩ := hc o v h
    exact ⟨i, cv, hi, cell?_some hb h2, h3, h1⟩
  · simp at h

theorem ald_run {t : TypeId} {l o : Nat} {v : AV} {i : CI} (hi : γ l = some i) (h : ald T t s (.ptr (some (l, o))) = some v) : ∃ cv, (loadVar t ⟨i.b, i.d + o, none⟩).run P w = .ok cv w ∧ VRel γ v cv := by
  unfold ald at h
  simp only at h
  split at h
  · rename_i ha
    cases hs : T.siz t with
    | none => simp [hs] at h
    | some n =>
      simp only [hs, Option.bind_some, Option.map_eq_some_iff] at h
      obtain ⟨cs, hcs, rfl⟩ := h
      obtain ⟨j, c, hj, hrun, hvs, _⟩ := run_loadCells_rdc hT hr hcs
      rw [hi] at hj; obtain rfl := Option.some.inj hj
      exact ⟨.agg c, by simp [loadVar, run_isAgg hT ha, run_sizeOf hT hs, hrun], by simp only [VRel]; exact ⟨c, rfl, hvs⟩⟩
  · rename_i ha
    obtain ⟨j, cv, hj, hc, hv, _⟩ := rd1_run hT hr h
    rw [hi] at hj; obtain rfl := Option.some.inj hj
    exact ⟨cv, by simp [loadVar, run_isAgg hT ha, hc], hv⟩
  · cases h

theorem sim_load {t : TypeId} {p v : AV} {cp : Value} (hp : VRel γ p cp) (h : ald T t s p = some v) : Sim P B γ s w (Instr.loadAt t cp) v s := by
  have h0 := h
  unfold ald at h
  split at h
  · rename_i l o
    simp only [VRel] at hp
    obtain ⟨i, hi, rfl⟩ := hp
    obtain ⟨cv, hrun, hv⟩ := ald_run hT hr hi h0
    exact Sim.val hr (by simp [Instr.loadAt, Instr.sureAddr, hrun]) hv
  · cases h

/-- A write of cells. -/
theorem awr_run {l o : Nat} {vs : List AV} {cvs : List Value} {s' : AS} (h : awr s l o vs = some s') (hv : VRels γ vs cvs) (hone : vs.all AV.one = true) : ∃ i w', γ l = some i ∧
    (storeCells ⟨i.b, i.d + o, none⟩ cvs).run P w = .ok () w' ∧ Did B γ s w γ s' w' ∧ Rel B γ s' w' := by
  unfold awr at h
  split at h
  · rename_i cl g hl
    split at h
    · rename_i hn
      obtain rfl := Option.some.inj h
      obtain ⟨i, hi, hO, _⟩ := hr.obj l _ hl
      obtain ⟨c, e, fz, hb, hc, hf, hg, hf0⟩ := hO
      have hlen := hv.length
      have hsz : vs.length ≠ 0 → i.d + o + vs.length ≤ c.size := by
        intro h0
        obtain ⟨_, cv, hcv, _⟩ := hc (o + vs.length - 1) _ (List.getElem?_eq_getElem (show o + vs.length - 1 < cl.length by omega))
        have : i.d + (o + vs.length - 1) < c.size := by
          rcases Nat.lt_or_ge (i.d + (o + vs.length - 1)) c.size with h | h
          · exact h
          · simp [Array.getElem?_eq_none h] at hcv
        omega
      have hcells1 : ∀ v ∈ cvs, v.oneCell' = true := by
        intro v hm
        obtain ⟨k, hk⟩ := List.mem_iff_getElem?.1 hm
        have hkl : k < vs.length := by
          rcases Nat.lt_or_ge k cvs.length with h | h
          · omega
          · simp [List.getElem?_eq_none h] at hk
        have hvk := List.getElem?_eq_getElem hkl
        obtain ⟨c', hc', hr'⟩ := hv.get hvk
        rw [hk] at hc'; obtain rfl := Option.some.inj hc'
        exact hr'.one (List.all_eq_true.1 hone _ (List.mem_of_getElem? hvk))
      by_cases h0 : vs.length = 0
      · obtain rfl := List.length_eq_zero_iff.1 h0
        obtain rfl := List.length_eq_zero_iff.1 (hlen.symm.trans h0)
        have hw0 : w.heap = w.heap.setIfInBounds i.b (.cells c e fz) := by
          apply Array.ext_getElem?
          intro k
          rw [Array.getElem?_setIfInBounds]
          have hb' := ORel.lt (γ := γ) (o := .cells cl g false) ⟨c, e, fz, hb, hc, hf, hg, hf0⟩
          by_cases hk : i.b = k
          · subst hk; rw [if_pos rfl, if_pos hb', hb]
          · rw [if_neg hk]
        obtain ⟨g1, g2⟩ := hr.write (w' := w) hl rfl (o' := .cells (wrs cl o []) g false) rfl hi hw0 ⟨c, e, fz, hb, hc, hf, hg, hf0⟩
        exact ⟨i, w, hi, rfl, g2, g1⟩
      · obtain ⟨w', hrun, hw', hev⟩ := run_storeCells P (b := i.b) (o := i.d + o) cvs 0 w c hb (by have := hsz h0; omega) (hf rfl) hcells1
        have hb' := ORel.lt (γ := γ) (o := .cells cl g false) ⟨c, e, fz, hb, hc, hf, hg, hf0⟩
        have hO' : ORel γ w' i (.cells (wrs cl o vs) g false) := by
          refine ⟨wrc c (i.d + o + 0) cvs, e, fz, by rw [hw']; simp [hb'], fun k v hk => ?_, fun _ => by rw [wrc_size]; exact hf rfl, fun g0 => ?_, hf0⟩
          · have hs := hsz h0
            rw [wrs_get _ _ _ _ hn] at hk
            rw [wrc_get _ _ _ _ (by omega)]
            by_cases hin : o ≤ k ∧ k < o + vs.length
            · rw [if_pos hin] at hk
              rw [if_pos (by omega)]
              obtain ⟨c', hc', hr'⟩ := hv.get hk
              refine ⟨List.all_eq_true.1 hone _ (List.mem_of_getElem? hk), c', ?_, hr'⟩
              rw [show i.d + k - (i.d + o + 0) = k - o by omega]; exact hc'
            · rw [if_neg hin] at hk
              rw [if_neg (by omega)]
              exact hc k v hk
          · rw [wrc_size, wrs_length]
            refine ⟨(hg g0).1, fun k hk hk' => ?_⟩
            obtain ⟨v, cv, g1, g2, g3⟩ := (hg g0).2 k hk hk'
            refine ⟨v, cv, g1, ?_, g3⟩
            have hs := hsz h0
            rw [wrc_get _ _ _ _ (by omega), if_neg (by omega)]
            exact g2
        obtain ⟨g1, g2⟩ := hr.write (w' := w') hl rfl (o' := .cells (wrs cl o vs) g false) rfl hi hw' hO' hev
        exact ⟨i, w', hi, hrun, g2, g1⟩
    · simp at h
  · simp at h

theorem sim_store {t : TypeId} {p v : AV} {cp cv : Value} {s' : AS} (hp : VRel γ p cp) (hv : VRel γ v cv) (h : ast T t s p v = some s') : SimU P B γ s w (Instr.storeAt t cp cv) s' := by
  unfold ast at h
  split at h
  · rename_i l o
    simp only [VRel] at hp
    obtain ⟨i, hi, rfl⟩ := hp
    cases hc : acells v with
    | none => simp [hc] at h
    | some vs =>
      simp only [hc, Option.bind_some] at h
      split at h
      · rename_i hs
        obtain ⟨rfl, hone⟩ := acells_some hc
        obtain ⟨j, w', hj, hrun, hd, hr'⟩ := awr_run hT hr h (hv.cells hone) hone
        rw [hi] at hj; obtain rfl := Option.some.inj hj
        refine ⟨γ, w', ?_, hd, hr'⟩
        have hsz : cv.cells.size = v.cells.length := by have := (hv.cells hone).length; simp at this; omega
        simp [Instr.storeAt, Instr.sureAddr, storeVar, run_sizeOf hT hs, hsz, hrun]
      · simp at h
  · simp at h

end
end Go.Am
