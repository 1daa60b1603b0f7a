/-
  The abstract machine Am: each operation of the model does what the abstract one does (fourth part: slices, structs and slices built, append, copy).
-/
import Derived.Test.YtbfchlimonimkaaAmSim4
set_option linter.unusedSectionVars false
set_option linter.unusedSimpArgs false
set_option linter.unusedVariables false
namespace Go.Am

def ORels (γ : Gam) : Option AV → Option Value → Prop
  | none, c => c = none
  | some v, c => ∃ cv, c = some cv ∧ VRel γ v cv

theorem abound_run {P : Program} {γ : Gam} {y Y n : Nat} {v : AV} {c : Value} {code : BoundsCode} (hv : VRel γ v c) (h : abound1 y v = some n) (hY : y ≤ Y) (w : World) :
    (Instr.sliceBound c Y code).run P w = .ok n w ∧ n ≤ y := by
  unfold abound1 at h
  split at h
  · rename_i k i
    simp only [VRel] at hv; subst hv
    split at h
    · rename_i hb
      obtain rfl := Option.some.inj h
      have : 0 ≤ i ∧ i ≤ (Y : Int) := ⟨hb.1, by omega⟩
      exact ⟨by simp [Instr.sliceBound, asIntOf, this], by omega⟩
    · cases h
  · cases h

theorem aopt_low {P : Program} {γ : Gam} {y n : Nat} {v : Option AV} {c : Option Value} {code : BoundsCode} (hv : ORels γ v c) (h : aopt y v 0 = some n) (w : World) :
    (match c with | some v => Instr.sliceBound v y code | none => pure 0 : Sem Nat).run P w = .ok n w ∧ n ≤ y := by
  cases v with
  | none => obtain rfl := hv; simp only [aopt] at h; obtain rfl := Option.some.inj h; exact ⟨rfl, by omega⟩
  | some v => obtain ⟨cv, rfl, hr⟩ := hv; exact abound_run hr h (Nat.le_refl _) w

theorem abounds_run {P : Program} {γ : Gam} {len cap cap' : Nat} {low high max : Option AV} {lo hi mx : Option Value} {l h m : Nat} (isSlice : Bool) (hl : ORels γ low lo) (hh : ORels γ high hi) (hm : ORels γ max mx)
    (hc : cap ≤ cap') (hb : abounds len cap low high max = some (l, h, m)) (w : World) :
    (Instr.sliceBounds isSlice len cap' lo hi mx).run P w = .ok (l, h, if max.isSome then m else cap') w ∧ l ≤ h ∧ h ≤ m ∧ (max.isSome = false → m = cap) := by
  unfold abounds at hb
  split at hb
  · cases hb
  · rename_i hnm
    simp only [Option.bind_eq_some_iff, Option.map_eq_some_iff] at hb
    obtain ⟨m', hm', h', hh', l', hl', e⟩ := hb
    obtain ⟨rfl, rfl, rfl⟩ : l' = l ∧ h' = h ∧ m' = m := by simpa using e
    cases max with
    | some vm =>
      obtain ⟨cm, rfl, hrm⟩ := hm
      cases high with
      | none => simp at hnm
      | some vh =>
        obtain ⟨ch, rfl, hrh⟩ := hh
        simp only [aopt] at hm'
        simp only [ahigh] at hh'
        obtain ⟨r1, b1⟩ := abound_run (P := P) (code := if isSlice then .slice3Acap else .slice3Alen) hrm hm' hc w
        obtain ⟨r2, b2⟩ := abound_run (P := P) (code := .slice3B) hrh hh' (Nat.le_refl _) w
        obtain ⟨r3, b3⟩ := aopt_low (P := P) (code := .slice3C) hl hl' w
        refine ⟨?_, b3, b2, by simp⟩
        simp only [Instr.sliceBounds, Sem.run_bind, r1, r2, Result.andThen_ok, Option.isSome_some, if_true]
        cases lo <;> simp_all
    | none =>
      obtain rfl := hm
      simp only [aopt] at hm'
      obtain rfl := Option.some.inj hm'
      obtain ⟨r3, b3⟩ := aopt_low (P := P) (code := .sliceB) hl hl' w
      cases high with
      | none =>
        obtain rfl := hh
        simp only [ahigh] at hh'
        split at hh'
        · rename_i hle
          obtain rfl := Option.some.inj hh'
          refine ⟨?_, b3, hle, by simp⟩
          simp only [Instr.sliceBounds, Sem.run_bind, Sem.run_pure, Result.andThen_ok, Option.isSome_none]
          cases lo <;> simp_all
        · cases hh'
      | some vh =>
        obtain ⟨ch, rfl, hrh⟩ := hh
        simp only [ahigh] at hh'
        obtain ⟨r2, b2⟩ := abound_run (P := P) (code := if isSlice then .sliceAcap else .sliceAlen) hrh hh' hc w
        refine ⟨?_, b3, b2, by simp⟩
        simp only [Instr.sliceBounds, Sem.run_bind, Sem.run_pure, r2, Result.andThen_ok, Option.isSome_none]
        cases lo <;> simp_all

section
variable {P : Program} {T : TT} (hT : TT.Ok P T)
include hT

theorem aslice_run {γ : Gam} {t : TypeId} {x v : AV} {cx : Value} {low high max : Option AV} {lo hi mx : Option Value} (hl : ORels γ low lo) (hh : ORels γ high hi) (hm : ORels γ max mx)
    (hx : VRel γ x cx) (h : aslice T t x low high max = some v) (w : World) : ∃ c, (Instr.sliceAt t cx lo hi mx).run P w = .ok c w ∧ VRel γ v c := by
  unfold aslice at h
  split at h
  · rename_i s hu
    simp only [VRel] at hx; subst hx
    split at h
    · cases h
    · rename_i hms
      have hm0 : max = none := by cases max <;> simp_all
      subst hm0
      obtain rfl := hm
      cases hb : abounds s.length s.length low high none with
      | none => simp [hb] at h
      | some r =>
        obtain ⟨l, hh', m⟩ := r
        simp only [hb, Option.map_some] at h
        obtain rfl := Option.some.inj h
        obtain ⟨hr, h1, h2, h3⟩ := abounds_run (P := P) false hl hh (show ORels γ none none from rfl) (Nat.le_refl s.length) hb w
        have hsz : (ByteArray.mk s.toArray).size = s.length := by simp [ByteArray.size]
        refine ⟨.string ((ByteArray.mk s.toArray).extract l hh'), ?_, ?_⟩
        · simp [Instr.sliceAt, Instr.slice, run_underlying hT hu, hsz, hr]
        · simp only [VRel]
          congr 1
          apply ByteArray.ext
          simp [List.extract_eq_take_drop]
  · rename_i elem a len cap ex hu
    cases hs : T.siz elem with
    | none => simp [hs] at h
    | some n =>
      simp only [hs, Option.bind_some] at h
      cases hb : abounds len cap low high max with
      | none => simp [hb] at h
      | some r =>
        obtain ⟨l, hh', m⟩ := r
        simp only [hb, Option.bind_some] at h
        cases a with
        | none =>
          simp only [VRel] at hx
          obtain ⟨rfl, rfl⟩ := hx
          obtain rfl := Option.some.inj h
          obtain ⟨hr, h1, h2, h3⟩ := abounds_run (P := P) true hl hh hm (Nat.le_refl cap) hb w
          have hmm : (if max.isSome then m else cap) = m := by
            split
            · rfl
            · rename_i q; exact (h3 (by simpa using q)).symm
          rw [hmm] at hr
          refine ⟨.slice none (hh' - l) (m - l), ?_, by simp [VRel]⟩
          simp [Instr.sliceAt, Instr.slice, run_underlying hT hu, hr, run_sizeOf hT hs]
        | some bo =>
          obtain ⟨b, o⟩ := bo
          simp only [VRel] at hx
          obtain ⟨i, hi, rfl⟩ := hx
          obtain ⟨hr, h1, h2, h3⟩ := abounds_run (P := P) (cap' := if ex then cap else cap + i.x) true hl hh hm (by split <;> omega) hb w
          simp only at h
          split at h
          · rename_i hex
            obtain rfl := Option.some.inj h
            have hmm : (if max.isSome then m else if ex then cap else cap + i.x) = m := by
              by_cases hms : max.isSome = true
              · rw [if_pos hms]
              · rw [if_neg hms, if_pos (by simpa [hms] using hex)]; exact (h3 (by simpa using hms)).symm
            rw [hmm] at hr
            refine ⟨.slice (some ⟨i.b, if m = l then i.d + o else i.d + o + l * n, none⟩) (hh' - l) (m - l), ?_, ?_⟩
            · simp only [Instr.sliceAt, Instr.slice, Sem.run_bind, run_underlying hT hu, hr, run_sizeOf hT hs, Result.andThen_ok]
              by_cases hml : m = l
              · simp [hml]
              · simp [hml, add_addr]
            · simp only [VRel]
              refine ⟨i, hi, ?_⟩
              by_cases hml : m = l
              · simp [hml]
              · simp [hml, Nat.add_assoc]
          · rename_i hex
            have hex' : ex = false ∧ max.isSome = false := by simpa using hex
            obtain ⟨rfl, hms⟩ := hex'
            have hm3 := h3 hms
            subst hm3
            simp only [hms, Bool.false_eq_true, if_false] at hr
            split at h
            · rename_i hml
              obtain rfl := Option.some.inj h
              subst hml
              refine ⟨.slice (some (if m + i.x = m then ⟨i.b, i.d + o, none⟩ else ⟨i.b, i.d + o + m * n, none⟩)) (hh' - m) (m + i.x - m), ?_, ?_⟩
              · simp only [Instr.sliceAt, Instr.slice, Sem.run_bind, run_underlying hT hu, Bool.false_eq_true, if_false, hr, run_sizeOf hT hs, Result.andThen_ok]
                by_cases hml : m + i.x = m
                · simp [hml]
                · simp [add_addr]; split <;> rfl
              · simp only [VRel]
                exact ⟨_, _, by rw [show hh' - m = 0 by omega]⟩
            · rename_i hml
              obtain rfl := Option.some.inj h
              refine ⟨.slice (some ⟨i.b, i.d + o + l * n, none⟩) (hh' - l) (m + i.x - l), ?_, ?_⟩
              · simp only [Instr.sliceAt, Instr.slice, Sem.run_bind, run_underlying hT hu, Bool.false_eq_true, if_false, hr, run_sizeOf hT hs, Result.andThen_ok]
                have : ¬ (m + i.x = l) := by omega
                simp [this, add_addr]
              · simp only [VRel]
                exact ⟨i, hi, by simp [Nat.add_assoc]; omega⟩
  · rename_i k elem b o hu
    simp only [VRel] at hx
    obtain ⟨i, hi, rfl⟩ := hx
    cases hs : T.siz elem with
    | none => simp [hs] at h
    | some n =>
      simp only [hs, Option.bind_some] at h
      cases hb : abounds k k low high max with
      | none => simp [hb] at h
      | some r =>
        obtain ⟨l, hh', m⟩ := r
        simp only [hb, Option.map_some] at h
        obtain rfl := Option.some.inj h
        obtain ⟨hr, h1, h2, h3⟩ := abounds_run (P := P) false hl hh hm (Nat.le_refl k) hb w
        have hmm : (if max.isSome then m else k) = m := by
          split
          · rfl
          · rename_i q; exact (h3 (by simpa using q)).symm
        rw [hmm] at hr
        refine ⟨.slice (some ⟨i.b, if m = l then i.d + o else i.d + o + l * n, none⟩) (hh' - l) (m - l), ?_, ?_⟩
        · simp only [Instr.sliceAt, Sem.run_bind, run_underlying hT hu, Instr.sureAddr, Sem.run_pure, hr, run_sizeOf hT hs, Result.andThen_ok]
          by_cases hml : m = l
          · simp [hml]
          · simp [hml, add_addr]
        · simp only [VRel]
          refine ⟨i, hi, ?_⟩
          by_cases hml : m = l
          · simp [hml]
          · simp [hml, Nat.add_assoc]
  · cases h

end
end Go.Am
