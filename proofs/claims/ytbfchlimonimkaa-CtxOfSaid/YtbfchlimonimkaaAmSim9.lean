/-
  The abstract machine Am: each operation of the model does what the abstract one does (last part: conversions, lengths; all operations joined).
-/
import Derived.Test.YtbfchlimonimkaaAmSim8
set_option linter.unusedSectionVars false
set_option linter.unusedSimpArgs false
set_option linter.unusedVariables false
namespace Go.Am

theorem run_bytes_loop {P : Program} {γ : Gam} {w : World} {f : Value → ByteArray → Sem (ForInStep ByteArray)} (hf : ∀ n s, f (.int .u8 n) s = pure (ForInStep.yield (s.push (UInt8.ofNat n.toNat)))) :
    ∀ (cs : List AV) (ccs : List Value) (bs : List UInt8) (acc : ByteArray), VRels γ cs ccs → abytes cs = some bs → (forIn ccs acc f).run P w = .ok ⟨(acc.data.toList ++ bs).toArray⟩ w
  | [], ccs, bs, acc, h, hb => by
    obtain rfl := VRels.nil_iff.1 h
    simp only [abytes] at hb; obtain rfl := Option.some.inj hb
    simp
  | c :: cs, ccs, bs, acc, h, hb => by
    obtain ⟨d, ds, rfl, hd, hs⟩ := VRels.cons_iff.1 h
    unfold abytes at hb
    split at hb
    · cases ‹_ :: _ = []›
    · rename_i b cs' e
      obtain ⟨rfl, rfl⟩ : _ ∧ _ := by simpa using e
      simp only [Option.map_eq_some_iff] at hb
      obtain ⟨l, hl, rfl⟩ := hb
      simp only [VRel] at hd; subst hd
      have := run_bytes_loop (P := P) (w := w) hf cs ds l (acc.push (UInt8.ofNat b.toNat)) hs hl
      simp only [List.forIn_cons, hf, Sem.run_bind, Sem.run_pure, Result.andThen_ok]
      rw [this]
      simp [ByteArray.push]
    · cases hb

theorem run_markStringish {P : Program} {w w1 : World} {c : Array Value} {e : TypeId} (h1 : w1.heap = w.heap.push (.cells c e)) :
    (markStringish ⟨w.heap.size, 0, none⟩).run P w1 = .ok () { w1 with heap := w.heap.push (.cells c e (c.size, c.size + 1)) } := by
  have hg : w1.heap[w.heap.size]? = some (.cells c e) := by rw [h1]; simp
  simp only [markStringish, Sem.run_bind, run_shape, World.shape?, hg, Result.andThen_ok, run_freeze]
  congr 1
  simp only [World.freeze, Nat.one_ne_zero, if_false]
  congr 1
  apply Array.ext_getElem?
  intro i
  rw [Array.getElem?_modify, h1, Array.getElem?_push, Array.getElem?_push]
  by_cases hi : w.heap.size = i
  · subst hi; simp
  · rw [if_neg hi, if_neg (fun e => hi e.symm), if_neg (fun e => hi e.symm)]

section
variable {P : Program} {T : TT} (hT : TT.Ok P T) {B : Nat} {γ : Gam} {s : AS} {w : World} (hr : Rel B γ s w)
include hT hr

theorem aconvert_run {src dst : TypeId} {x v : AV} {cx : Value} {s' : AS} (hx : VRel γ x cx) (h : aconvert T src dst x s = some (v, s')) : Sim P B γ s w (convert src dst cx) v s' := by
  unfold aconvert at h
  split at h
  · rename_i sd k k' n hus hud
    obtain ⟨rfl, rfl⟩ : _ ∧ _ := by simpa using h
    simp only [VRel] at hx; subst hx
    refine Sim.val hr (cv := .int k (k.wrap n)) ?_ (by simp [VRel])
    simp only [convert, Sem.run_bind, run_underlying hT hus, run_underlying hT hud, Result.andThen_ok, Conv.intToInt]
    cases sd <;> rfl
  · rename_i sd b hus hud
    obtain ⟨rfl, rfl⟩ : _ ∧ _ := by simpa using h
    have hx0 := hx
    simp only [VRel] at hx; subst hx
    refine Sim.val hr (cv := .string ⟨b.toArray⟩) ?_ hx0
    simp only [convert, Sem.run_bind, run_underlying hT hus, run_underlying hT hud, Result.andThen_ok]
    cases sd <;> rfl
  · rename_i sd e b hus hud
    simp only [VRel] at hx; subst hx
    split at h
    · rename_i he
      obtain ⟨rfl, rfl⟩ : _ ∧ _ := by simpa using h
      let q : Question := .appendCap (ByteArray.mk b.toArray).size 0 e
      let cap := q.cut (w.tape w.drawn q)
      have hcap : b.length ≤ cap := by
        have : (ByteArray.mk b.toArray).size = b.length := by simp [ByteArray.size]
        show b.length ≤ (ByteArray.mk b.toArray).size + _
        omega
      let c0 : Array Value := (b.toArray.map fun x => Value.int .u8 x.toNat) ++ Array.replicate (cap - b.length) (.int .u8 0)
      have hc0 : ∀ (k : Nat) (v : AV), (b.map fun c => AV.int .u8 c.toNat)[k]? = some v → v.one = true ∧ ∃ cv, c0[k]? = some cv ∧ VRel γ v cv := by
        intro k v hk
        simp only [List.getElem?_map] at hk
        cases hb : b[k]? with
        | none => simp [hb] at hk
        | some u =>
          simp only [hb, Option.map_some] at hk
          obtain rfl := Option.some.inj hk
          refine ⟨rfl, .int .u8 u.toNat, ?_, by simp [VRel]⟩
          have hlt : k < b.length := by
            rcases Nat.lt_or_ge k b.length with h | h
            · exact h
            · simp [List.getElem?_eq_none h] at hb
          have hkb : b[k] = u := by simpa [List.getElem?_eq_getElem hlt] using hb
          show ((b.toArray.map fun x => Value.int .u8 x.toNat) ++ Array.replicate (cap - b.length) (.int .u8 0))[k]? = _
          rw [Array.getElem?_append_left (by simpa using hlt)]
          simp [hlt, hkb]
      have hsz : c0.size = b.length + (cap - b.length) := by simp [c0]
      have hct : ∀ k, (b.map fun x => AV.int .u8 x.toNat).length ≤ k → k < c0.size → ∃ v cv, v.one = true ∧ c0[k]? = some cv ∧ VRel γ v cv := by
        intro k hk hk'
        simp only [List.length_map] at hk
        refine ⟨.int .u8 0, .int .u8 0, rfl, ?_, by simp [VRel]⟩
        show ((b.toArray.map fun x => Value.int .u8 x.toNat) ++ Array.replicate (cap - b.length) (.int .u8 0))[k]? = _
        rw [Array.getElem?_append_right (by simpa using hk)]
        rw [Array.getElem?_replicate, if_pos (by simp at hk' ⊢; omega)]
      obtain ⟨g1, g2⟩ := hr.newCells (w' := { w with heap := w.heap.push (.cells c0 e (c0.size, c0.size + 1)), drawn := w.drawn + 1 }) (g := 1) (x := cap - b.length) (e := e) (c := c0) hc0 (fun _ => ⟨by simp [hsz], hct⟩) (c0.size, c0.size + 1) (by intro o ho h; simp at h; omega) (fun h => absurd rfl h) rfl
      refine ⟨_, _, .slice (some ⟨w.heap.size, 0, none⟩) b.length cap, ?_, ?_, g2, g1⟩
      · have hsz2 : (ByteArray.mk b.toArray).size = b.length := by simp [ByteArray.size]
        have hcv : (convert src dst (.string ⟨b.toArray⟩)).run P w = (Conv.stringToBytes e ⟨b.toArray⟩).run P w := by
          simp only [convert, Sem.run_bind, run_underlying hT hus, run_underlying hT hud, Result.andThen_ok]
          cases sd <;> simp only [Sem.run_bind, run_underlying hT he, Result.andThen_ok]
        rw [hcv]
        have hf : q.forced = false := rfl
        simp only [Conv.stringToBytes, Sem.run_bind, run_choose]
        rw [show (Question.appendCap (ByteArray.mk b.toArray).size 0 e).forced = false from rfl]
        simp only [Bool.false_eq_true, if_false, Result.andThen_ok, run_newRow, Sem.run_bind]
        have hc1 : (Array.map (fun x => Value.int IntKind.u8 ↑(UInt8.toNat x)) (ByteArray.mk b.toArray).data ++ Array.replicate (cap - (ByteArray.mk b.toArray).size) (Value.int IntKind.u8 0)) = c0 := by
          rw [hsz2]
        change ((Sem.run P (markStringish ⟨w.heap.size, 0, none⟩) { w with heap := w.heap.push (.cells (Array.map (fun x => Value.int IntKind.u8 ↑(UInt8.toNat x)) (ByteArray.mk b.toArray).data ++ Array.replicate (cap - (ByteArray.mk b.toArray).size) (Value.int IntKind.u8 0)) e), drawn := w.drawn + 1 }).andThen _) = _
        rw [hc1, run_markStringish (w := w) (c := c0) (e := e) rfl]
        simp only [Result.andThen_ok, Sem.run_pure, hsz2]
        rfl
      · simp only [VRel]
        exact ⟨_, updG_same _ _ _, by simp; omega⟩
    · cases h
  · rename_i e n m ex hus hud
    simp only [VRel] at hx; obtain ⟨rfl, _⟩ := hx
    split at h
    · rename_i he
      split at h
      · obtain ⟨rfl, rfl⟩ : _ ∧ _ := by simpa using h
        refine Sim.val hr (cv := .string .empty) ?_ (by simp [VRel]; rfl)
        simp [convert, run_underlying hT hus, run_underlying hT hud, run_underlying hT he, Conv.bytesToString]
      · cases h
    · cases h
  · rename_i e hus hud
    simp only [VRel] at hx; obtain ⟨a, m, rfl⟩ := hx
    split at h
    · rename_i he
      obtain ⟨rfl, rfl⟩ : _ ∧ _ := by simpa using h
      refine Sim.val hr (cv := .string .empty) ?_ (by simp [VRel]; rfl)
      simp [convert, run_underlying hT hus, run_underlying hT hud, run_underlying hT he, Conv.bytesToString, loadCells, loadCellsFrom]
    · cases h
  · rename_i e l o n m ex hus hud
    simp only [VRel] at hx; obtain ⟨i, hi, rfl⟩ := hx
    split at h
    · rename_i he
      simp only [Option.bind_eq_some_iff, Option.map_eq_some_iff] at h
      obtain ⟨cs, hcs, bs, hbs, e'⟩ := h
      obtain ⟨rfl, rfl⟩ : _ ∧ _ := by simpa using e'
      obtain ⟨j, c, hj, hrun, hvs, _⟩ := run_loadCells_rdc hT hr hcs
      rw [hi] at hj; obtain rfl := Option.some.inj hj
      refine Sim.val hr (cv := .string ⟨bs.toArray⟩) ?_ (by simp [VRel])
      simp only [convert, Sem.run_bind, run_underlying hT hus, run_underlying hT hud, run_underlying hT he, Result.andThen_ok, Conv.bytesToString, hrun]
      rw [← Array.forIn_toList, run_bytes_loop (P := P) (w := w) (fun _ _ => rfl) cs c.toList bs .empty hvs hbs]
      simp
    · cases h
  · cases h

theorem alenB_run {t xt : TypeId} {x v : AV} {cx : Value} (hx : VRel γ x cx) (h : alenB T t x s = some v) (ts : List TypeId) (rest : List Value) (ty : TypeId) :
    ∃ c, (Builtin.len_ (t :: ts).toArray ty (cx :: rest).toArray).run P w = .ok c w ∧ VRel γ v c := by
  unfold alenB at h
  simp only [Builtin.len_, List.getElem?_toArray, List.getElem?_cons_zero]
  split at h
  · rename_i b hu
    obtain rfl := Option.some.inj h
    simp only [VRel] at hx; subst hx
    exact ⟨.int .i64 b.length, by simp only [Sem.run_bind, run_underlying hT hu, Result.andThen_ok, Sem.run_pure, goInt, ByteArray.size, List.size_toArray], by simp only [VRel]⟩
  · rename_i n e hu
    obtain rfl := Option.some.inj h
    exact ⟨.int .i64 n, by simp [run_underlying hT hu, goInt], by simp [VRel]⟩
  · rename_i e a n c ex hu
    obtain rfl := Option.some.inj h
    refine ⟨.int .i64 n, ?_, by simp [VRel]⟩
    cases a with
    | none => simp only [VRel] at hx; obtain ⟨rfl, _⟩ := hx; simp [run_underlying hT hu, goInt]
    | some a => obtain ⟨l, o⟩ := a; simp only [VRel] at hx; obtain ⟨i, _, rfl⟩ := hx; simp [run_underlying hT hu, goInt]
  · rename_i e hu
    obtain rfl := Option.some.inj h
    simp only [VRel] at hx; obtain ⟨a, m, rfl⟩ := hx
    exact ⟨.int .i64 0, by simp [run_underlying hT hu, goInt], by simp [VRel]⟩
  · rename_i k e hu
    obtain rfl := Option.some.inj h
    simp only [VRel] at hx; subst hx
    exact ⟨.int .i64 0, by simp [run_underlying hT hu, goInt], by simp [VRel]⟩
  · rename_i k e l hu
    simp only [VRel] at hx; obtain ⟨i, hi, rfl⟩ := hx
    split at h
    · rename_i es clk ro hl
      obtain rfl := Option.some.inj h
      obtain ⟨j, hj, ⟨ces, hb, hce⟩, _⟩ := hr.obj l _ hl
      rw [hi] at hj; obtain rfl := Option.some.inj hj
      have hlen := hce.length
      simp only [Array.length_toList] at hlen
      have hg : (getObj i.b).run P w = .ok (.map ces clk) w := by simp [getObj, Sem.run, hb]
      exact ⟨.int .i64 ces.size, by simp only [Sem.run_bind, run_underlying hT hu, hg, goInt, Result.andThen_ok, Sem.run_pure], by rw [hlen]; simp only [VRel]⟩
    · cases h
  · cases h

theorem acapB_run {t : TypeId} {x v : AV} {cx : Value} (hx : VRel γ x cx) (h : acapB T t x = some v) (ts : List TypeId) (rest : List Value) (ty : TypeId) :
    ∃ c, (Builtin.cap_ (t :: ts).toArray ty (cx :: rest).toArray).run P w = .ok c w ∧ VRel γ v c := by
  unfold acapB at h
  simp only [Builtin.cap_, List.getElem?_toArray, List.getElem?_cons_zero]
  split at h
  · rename_i e a n c hu
    obtain rfl := Option.some.inj h
    refine ⟨.int .i64 c, ?_, by simp [VRel]⟩
    cases a with
    | none => simp only [VRel] at hx; obtain ⟨rfl, _⟩ := hx; simp [run_underlying hT hu, goInt]
    | some a => obtain ⟨l, o⟩ := a; simp only [VRel] at hx; obtain ⟨i, _, rfl⟩ := hx; simp [run_underlying hT hu, goInt]
  · cases h

theorem aclear_run {t : TypeId} {x : AV} {cx : Value} {s' : AS} (hx : VRel γ x cx) (h : aclear T t x s = some s') (ts : List TypeId) (rest : List Value) (ty : TypeId) :
    Sim P B γ s w (Builtin.clear_ (t :: ts).toArray ty (cx :: rest).toArray) .undef s' := by
  unfold aclear at h
  simp only [Builtin.clear_, List.getElem?_toArray, List.getElem?_cons_zero]
  have hundef : ∀ γ, VRel γ AV.undef (.tuple #[]) := by intro γ; simp only [VRel]; exact ⟨_, rfl, VRels.nil⟩
  split at h
  · rename_i e n m ex hu
    obtain rfl := Option.some.inj h
    simp only [VRel] at hx; obtain ⟨rfl, _⟩ := hx
    exact Sim.val hr (by simp [run_underlying hT hu]) (hundef _)
  · rename_i e hu
    obtain rfl := Option.some.inj h
    simp only [VRel] at hx; obtain ⟨a, m, rfl⟩ := hx
    exact Sim.val hr (by simp [run_underlying hT hu]) (hundef _)
  · rename_i e l o n m ex hu
    simp only [VRel] at hx; obtain ⟨i, hi, rfl⟩ := hx
    split at h
    · rename_i h0; subst h0
      obtain rfl := Option.some.inj h
      exact Sim.val hr (by simp [run_underlying hT hu]) (hundef _)
    · rename_i h0
      simp only [Option.bind_eq_some_iff] at h
      obtain ⟨z, hz, zc, hzc, h⟩ := h
      obtain ⟨rfl, hone⟩ := acells_some hzc
      obtain ⟨cz, hrz, hvz⟩ := run_zeroValue hT hz w
      obtain ⟨j, w', hj, hrun, hd, hr'⟩ := awr_run hT hr h (zeroCells_rels ((hvz γ).cells hone) n) (rep_one hone n)
      rw [hi] at hj; obtain rfl := Option.some.inj hj
      refine ⟨γ, w', .tuple #[], ?_, hundef _, hd, hr'⟩
      obtain ⟨k, rfl⟩ : ∃ k, n = k + 1 := ⟨n - 1, by omega⟩
      simp [run_underlying hT hu, hrz, hrun]
  · cases h

omit hT hr in
theorem amax_run (big : Bool) {l : List AV} {cl : List Value} {v : AV} (hl : VRels γ l cl) (h : amax big l = some v) (ts : Array TypeId) (ty : TypeId) :
    ∃ c, (if big then Builtin.max_ ts ty cl.toArray else Builtin.min_ ts ty cl.toArray).run P w = .ok c w ∧ VRel γ v c := by
  have key : ∀ (rest : List AV) (crest : List Value) (x : AV) (cx : Value), VRel γ x cx → VRels γ rest crest → amaxL big x rest = some v →
      ∃ c, (if big then crest.foldlM Builtin.max2 cx else crest.foldlM Builtin.min2 cx).run P w = .ok c w ∧ VRel γ v c := by
    intro rest
    induction rest with
    | nil =>
      intro crest x cx hx hc h
      obtain rfl := VRels.nil_iff.1 hc
      simp only [amaxL] at h; obtain rfl := Option.some.inj h
      exact ⟨cx, by cases big <;> rfl, hx⟩
    | cons y ys ih =>
      intro crest x cx hx hc h
      obtain ⟨d, ds, rfl, hd, hds⟩ := VRels.cons_iff.1 hc
      simp only [amaxL, Option.bind_eq_some_iff] at h
      obtain ⟨z, hz, h⟩ := h
      unfold amax2 at hz
      split at hz
      · obtain rfl := Option.some.inj hz
        simp only [VRel] at hx hd; subst hx hd
        obtain ⟨c, hc, hv⟩ := ih ds _ _ (by simp only [VRel]; rfl) hds h
        refine ⟨c, ?_, hv⟩
        cases big
        · simp only [Bool.false_eq_true, if_false] at hc ⊢
          simpa [List.foldlM_cons, Builtin.min2] using hc
        · simp only [if_true] at hc ⊢
          simpa [List.foldlM_cons, Builtin.max2] using hc
      · cases hz
  cases l with
  | nil => simp [amax] at h
  | cons x rest =>
    obtain ⟨d, ds, rfl, hd, hds⟩ := VRels.cons_iff.1 hl
    obtain ⟨c, hc, hv⟩ := key rest ds x d hd hds h
    exact ⟨c, by cases big <;> simpa [Builtin.max_, Builtin.min_] using hc, hv⟩

omit hT hr in
theorem vundef (γ : Gam) : VRel γ AV.undef undef := by simp only [VRel]; exact ⟨_, rfl, VRels.nil⟩

/-- What an operation does that is no call of a function: its next step is a value, or none. -/
def SimN (P : Program) (B : Nat) (γ : Gam) (s : AS) (w : World) (m : Sem Next) (v : AV) (s' : AS) : Prop :=
  ∃ γ' w' n cv, m.run P w = .ok n w' ∧ (n = .value cv ∨ (n = .skip ∧ cv = undef)) ∧ VRel γ' v cv ∧ Did B γ s w γ' s' w' ∧ Rel B γ' s' w'

omit hT hr in
theorem SimN.of_sim {m : Sem Value} {v : AV} {s' : AS} (h : Sim P B γ s w m v s') : SimN P B γ s w (do pure (.value (← m))) v s' := by
  obtain ⟨γ', w', cv, h1, h2, h3, h4⟩ := h
  exact ⟨γ', w', .value cv, cv, by simp [h1], .inl rfl, h2, h3, h4⟩

omit hT hr in
theorem SimN.of_simU {m : Sem Unit} {s' : AS} (h : SimU P B γ s w m s') : SimN P B γ s w (do m; pure .skip) .undef s' := by
  obtain ⟨γ', w', h1, h3, h4⟩ := h
  exact ⟨γ', w', .skip, undef, by simp [h1], .inr ⟨rfl, rfl⟩, vundef _, h3, h4⟩

omit hT in
theorem SimN.of_run {m : Sem Value} {v : AV} (h : ∃ c, m.run P w = .ok c w ∧ VRel γ v c) : SimN P B γ s w (do pure (.value (← m))) v s := by
  obtain ⟨c, h1, h2⟩ := h
  exact SimN.of_sim (Sim.val hr h1 h2)

omit hT hr in
theorem prels_of {ρ : Operand → AV} {ρ' : Operand → Value} (hρ : ∀ x, VRel γ (ρ x) (ρ' x)) : ∀ (l : List (Nat × Operand)), PRels γ (l.map fun p => (p.1, ρ p.2)) (l.map fun p => (p.1, ρ' p.2))
  | [] => rfl
  | (i, x) :: l => ⟨_, _, rfl, hρ x, prels_of hρ l⟩

omit hT hr in
theorem vrels_of {ρ : Operand → AV} {ρ' : Operand → Value} (hρ : ∀ x, VRel γ (ρ x) (ρ' x)) : ∀ (l : List Operand), VRels γ (l.map ρ) (l.map ρ')
  | [] => VRels.nil
  | x :: l => VRels.cons (hρ x) (vrels_of hρ l)

omit hT hr in
theorem orels_of {ρ : Operand → AV} {ρ' : Operand → Value} (hρ : ∀ x, VRel γ (ρ x) (ρ' x)) : ∀ (o : Option Operand), ORels γ (o.map ρ) (o.map ρ')
  | none => rfl
  | some x => ⟨_, rfl, hρ x⟩

theorem abuiltin_run {b : Builtin} {ts : List TypeId} {args : List AV} {cargs : List Value} {v : AV} {s' : AS} (ha : VRels γ args cargs) (h : abuiltin T b ts args s = some (v, s')) (ty : TypeId) (consts : Array Bool) :
    SimN P B γ s w (builtin b ts.toArray ty consts cargs.toArray) v s' := by
  unfold abuiltin at h
  split at h
  · rename_i t ts' x rest
    obtain ⟨d, ds, rfl, hd, hds⟩ := VRels.cons_iff.1 ha
    simp only [Option.map_eq_some_iff] at h
    obtain ⟨u, hu, e⟩ := h
    obtain ⟨rfl, rfl⟩ : _ ∧ _ := by simpa using e
    exact SimN.of_run hr (alenB_run hT hr (xt := 0) hd hu ts' ds ty)
  · rename_i t ts' x rest
    obtain ⟨d, ds, rfl, hd, hds⟩ := VRels.cons_iff.1 ha
    simp only [Option.map_eq_some_iff] at h
    obtain ⟨u, hu, e⟩ := h
    obtain ⟨rfl, rfl⟩ : _ ∧ _ := by simpa using e
    exact SimN.of_run hr (acapB_run hT hr hd hu ts' ds ty)
  · rename_i t xt ts' dst x rest
    obtain ⟨d, ds, rfl, hd, hds⟩ := VRels.cons_iff.1 ha
    obtain ⟨f, fs, rfl, hf, hfs⟩ := VRels.cons_iff.1 hds
    have := aappend_run hT hr hd hf h ty
    exact SimN.of_sim (by simpa [Builtin.append_] using this)
  · rename_i t xt ts' dst x rest
    obtain ⟨d, ds, rfl, hd, hds⟩ := VRels.cons_iff.1 ha
    obtain ⟨f, fs, rfl, hf, hfs⟩ := VRels.cons_iff.1 hds
    have := acopy_run hT hr (xt := xt) hd hf h ty
    exact SimN.of_sim (by simpa [Builtin.copy_] using this)
  · rename_i t ts' m k rest
    obtain ⟨d, ds, rfl, hd, hds⟩ := VRels.cons_iff.1 ha
    obtain ⟨f, fs, rfl, hf, hfs⟩ := VRels.cons_iff.1 hds
    simp only [Option.map_eq_some_iff] at h
    obtain ⟨u, hu, e⟩ := h
    obtain ⟨rfl, rfl⟩ : _ ∧ _ := by simpa using e
    obtain ⟨γ', w', h1, h2, h3⟩ := adelete_run hT hr (xt := 0) hd hf hu ty
    exact SimN.of_sim ⟨γ', w', undef, by simpa [Builtin.delete_] using h1, vundef _, h2, h3⟩
  · rename_i t ts' x rest
    obtain ⟨d, ds, rfl, hd, hds⟩ := VRels.cons_iff.1 ha
    simp only [Option.map_eq_some_iff] at h
    obtain ⟨u, hu, e⟩ := h
    obtain ⟨rfl, rfl⟩ : _ ∧ _ := by simpa using e
    exact SimN.of_sim (aclear_run hT hr hd hu ts' ds ty)
  · simp only [Option.map_eq_some_iff] at h
    obtain ⟨u, hu, e⟩ := h
    obtain ⟨rfl, rfl⟩ : _ ∧ _ := by simpa using e
    exact SimN.of_run hr (by simpa using amax_run (P := P) (w := w) true ha hu ts.toArray ty)
  · simp only [Option.map_eq_some_iff] at h
    obtain ⟨u, hu, e⟩ := h
    obtain ⟨rfl, rfl⟩ : _ ∧ _ := by simpa using e
    exact SimN.of_run hr (by simpa using amax_run (P := P) (w := w) false ha hu ts.toArray ty)
  · cases h

set_option maxHeartbeats 2000000 in
/-- Each operation that the abstract machine takes is done so by the model. -/
theorem aop_sim {o : Oper} {ρ : Operand → AV} {ρ' : Operand → Value} {v : AV} {s' : AS} (hρ : ∀ x, VRel γ (ρ x) (ρ' x)) (h : aop T o.op ρ s = some (v, s')) : SimN P B γ s w (execOp ρ' o) v s' := by
  obtain ⟨dst, op, type, pos, after, guard⟩ := o
  simp only at h
  unfold aop at h
  split at h
  case h_1 x => -- move
    obtain ⟨rfl, rfl⟩ : _ ∧ _ := by simpa using h
    exact ⟨γ, w, .value (ρ' x), _, rfl, .inl rfl, hρ x, Did.refl, hr⟩
  case h_2 x => -- assign
    obtain ⟨rfl, rfl⟩ : _ ∧ _ := by simpa using h
    exact ⟨γ, w, .value (ρ' x), _, rfl, .inl rfl, hρ x, Did.refl, hr⟩
  case h_3 c a b => -- pick
    split at h
    · rename_i t ht
      obtain ⟨rfl, rfl⟩ : _ ∧ _ := by simpa using h
      have hc := hρ c
      rw [ht] at hc; simp only [VRel] at hc
      refine ⟨γ, w, .value (if t then ρ' a else ρ' b), _, ?_, .inl rfl, ?_, Did.refl, hr⟩
      · simp only [execOp, hc, asBool, Sem.run_bind, Sem.run_pure, Result.andThen_ok]
      · cases t
        · exact hρ b
        · exact hρ a
    · cases h
  case h_4 e => -- alloc
    simp only [Option.bind_eq_some_iff, Option.map_eq_some_iff] at h
    obtain ⟨z, hz, cs, hcs, e'⟩ := h
    obtain ⟨rfl, rfl⟩ : _ ∧ _ := by simpa using e'
    show SimN P B γ s w (do pure (.value (← Instr.alloc e true (.tuple #[])))) _ _
    exact SimN.of_sim (sim_alloc hT hr hz hcs)
  case h_5 t x => -- box
    simp only [Option.map_eq_some_iff] at h
    obtain ⟨cs, hcs, e'⟩ := h
    obtain ⟨rfl, rfl⟩ : _ ∧ _ := by simpa using e'
    show SimN P B γ s w (do pure (.value (← Instr.box t (ρ' x)))) _ _
    have hb : Instr.box t (ρ' x) = (do pure (.pointer (some (← newVar t (ρ' x))))) := rfl
    rw [hb]
    exact SimN.of_sim (sim_newVar t hr (hρ x) hcs)
  case h_6 t parts => -- build
    simp only [Option.map_eq_some_iff] at h
    obtain ⟨u, hu, e'⟩ := h
    obtain ⟨rfl, rfl⟩ : _ ∧ _ := by simpa using e'
    show SimN P B γ s w (do pure (.value (← Instr.build t (parts.map fun (i, x) => (i, ρ' x))))) _ _
    exact SimN.of_run hr (abuild_run hT (γ := γ) (w := w) (cparts := parts.map fun (i, x) => (i, ρ' x)) (by simpa using prels_of hρ parts.toList) hu)
  case h_7 t len parts => -- buildSlice
    have hp : PRels γ (parts.toList.map fun p => (p.1, ρ p.2)) (parts.map fun (p : Nat × Operand) => (p.1, ρ' p.2)).toList := by
      rw [Array.toList_map]; exact prels_of hρ parts.toList
    have hs := SimN.of_sim (abuildSlice_run hT hr hp h)
    exact hs
  case h_8 t a => -- load
    simp only [Option.map_eq_some_iff] at h
    obtain ⟨u, hu, e'⟩ := h
    obtain ⟨rfl, rfl⟩ : _ ∧ _ := by simpa using e'
    show SimN P B γ s w (do pure (.value (← Instr.loadAt t (ρ' a)))) _ _
    exact SimN.of_sim (sim_load hT hr (hρ a) hu)
  case h_9 t a x => -- store
    simp only [Option.map_eq_some_iff] at h
    obtain ⟨u, hu, e'⟩ := h
    obtain ⟨rfl, rfl⟩ : _ ∧ _ := by simpa using e'
    show SimN P B γ s w (do Instr.storeAt t (ρ' a) (ρ' x); pure .skip) _ _
    exact SimN.of_simU (sim_store hT hr (hρ a) (hρ x) hu)
  case h_10 x => -- nilCheck
    have hx := hρ x
    split at h
    · rename_i p hp
      obtain ⟨rfl, rfl⟩ : _ ∧ _ := by simpa using h
      rw [hp] at hx
      have hx0 := hx
      obtain ⟨l, o⟩ := p
      simp only [VRel] at hx; obtain ⟨i, hi, hx⟩ := hx
      exact ⟨γ, w, .value (ρ' x), _, by simp only [execOp, hx]; rfl, .inl rfl, hx0, Did.refl, hr⟩
    · rename_i f c hp
      obtain ⟨rfl, rfl⟩ : _ ∧ _ := by simpa using h
      rw [hp] at hx
      have hx0 := hx
      simp only [VRel] at hx; obtain ⟨cc, hx, _⟩ := hx
      exact ⟨γ, w, .value (ρ' x), _, by simp only [execOp, hx]; rfl, .inl rfl, hx0, Did.refl, hr⟩
    · rename_i f ft c hp
      obtain ⟨rfl, rfl⟩ : _ ∧ _ := by simpa using h
      rw [hp] at hx
      have hx0 := hx
      simp only [VRel] at hx; obtain ⟨cf, cc, hx, _⟩ := hx
      exact ⟨γ, w, .value (ρ' x), _, by simp only [execOp, hx]; rfl, .inl rfl, hx0, Did.refl, hr⟩
    · rename_i t u hp
      obtain ⟨rfl, rfl⟩ : _ ∧ _ := by simpa using h
      rw [hp] at hx
      have hx0 := hx
      simp only [VRel] at hx; obtain ⟨cc, hx, _⟩ := hx
      exact ⟨γ, w, .value (ρ' x), _, by simp only [execOp, hx]; rfl, .inl rfl, hx0, Did.refl, hr⟩
    · cases h
  case h_11 op t x y yt => -- binOp
    split at h
    · rename_i hg
      simp only [Option.map_eq_some_iff] at h
      obtain ⟨u, hu, e'⟩ := h
      obtain ⟨rfl, rfl⟩ : _ ∧ _ := by simpa using e'
      obtain ⟨c, hc, hv⟩ := abin_run hT (hρ x) (hρ y) hu w
      have he := eqGuard_run hT (op := op) (hρ x) (hρ y) hg w
      exact ⟨γ, w, .value c, _, by simp only [execOp, Sem.run_bind, he, hc, Result.andThen_ok, Sem.run_pure], .inl rfl, hv, Did.refl, hr⟩
    · cases h
  case h_12 op t x => -- unOp
    simp only [Option.map_eq_some_iff] at h
    obtain ⟨u, hu, e'⟩ := h
    obtain ⟨rfl, rfl⟩ : _ ∧ _ := by simpa using e'
    show SimN P B γ s w (do pure (.value (← Op.unary op (ρ' x)))) _ _
    exact SimN.of_run hr (aun_run hT (hρ x) hu w)
  case h_13 src dst x => -- convert
    show SimN P B γ s w (do pure (.value (← convert src dst (ρ' x)))) _ _
    exact SimN.of_sim (aconvert_run hT hr (hρ x) h)
  case h_14 t x => -- makeInterface
    cases hu : T.und t with
    | none => simp [hu] at h
    | some td =>
      have hrun : (Instr.makeInterface t (ρ' x)).run P w = .ok (.iface t (ρ' x)) w ∧ v = .iface t (ρ x) ∧ s' = s := by
        cases td <;> simp only [hu] at h <;> first
          | (cases h; done)
          | (obtain ⟨rfl, rfl⟩ : _ ∧ _ := by simpa using h
             exact ⟨by simp only [Instr.makeInterface, Sem.run_bind, run_underlying hT hu, Result.andThen_ok, Sem.run_pure], rfl, rfl⟩)
      obtain ⟨hrun, rfl, rfl⟩ := hrun
      show SimN P B γ s' w (do pure (.value (← Instr.makeInterface t (ρ' x)))) _ _
      exact SimN.of_run hr ⟨_, hrun, by simp only [VRel]; exact ⟨_, rfl, hρ x⟩⟩
  case h_15 f first captured => -- makeFunc
    split at h
    · rename_i hf
      obtain ⟨rfl, rfl⟩ : _ ∧ _ := by simpa using h
      have : first = #[] := by simpa using hf
      subst this
      refine ⟨γ, w, .value (.func (.func f) #[] (captured.map ρ')), _, by simp [execOp, Instr.makeFunc], .inl rfl, ?_, Did.refl, hr⟩
      simp only [VRel]
      exact ⟨_, rfl, by simpa using vrels_of hρ captured.toList⟩
    · obtain ⟨rfl, rfl⟩ : _ ∧ _ := by simpa using h
      refine ⟨γ, w, .value (.func (.func f) (first.map ρ') (captured.map ρ')), _, by simp [execOp, Instr.makeFunc], .inl rfl, ?_, Did.refl, hr⟩
      simp only [VRel]
      exact ⟨_, _, rfl, by simpa using vrels_of hρ first.toList, by simpa using vrels_of hρ captured.toList⟩
  case h_16 t => -- makeMap
    split at h
    · obtain ⟨rfl, rfl⟩ : _ ∧ _ := by simpa using h
      obtain ⟨g1, g2⟩ := hr.alloc (w' := { w with heap := w.heap.push (.map #[] 0) }) (o := .map [] 0 false) (i := ⟨w.heap.size, 0, 0⟩) rfl rfl rfl ⟨#[], by simp, rfl⟩
      refine ⟨_, _, .value (.map (some w.heap.size)), _, by simp [execOp, Instr.makeMap], .inl rfl, ?_, g2, g1⟩
      simp only [VRel]
      exact ⟨_, updG_same _ _ _, rfl⟩
    · cases h
  case h_17 t l c => -- makeSlice
    show SimN P B γ s w (do pure (.value (← Instr.makeSlice t (ρ' l) (ρ' c)))) _ _
    exact SimN.of_sim (amakeSlice_run hT hr (hρ l) (hρ c) h)
  case h_18 t x lo hi mx => -- slice
    simp only [Option.map_eq_some_iff] at h
    obtain ⟨u, hu, e'⟩ := h
    obtain ⟨rfl, rfl⟩ : _ ∧ _ := by simpa using e'
    show SimN P B γ s w (do pure (.value (← Instr.sliceAt t (ρ' x) (lo.map ρ') (hi.map ρ') (mx.map ρ')))) _ _
    exact SimN.of_run hr (aslice_run hT (orels_of hρ lo) (orels_of hρ hi) (orels_of hρ mx) (hρ x) hu w)
  case h_19 t x f => -- fieldAddr
    simp only [Option.map_eq_some_iff] at h
    obtain ⟨u, hu, e'⟩ := h
    obtain ⟨rfl, rfl⟩ : _ ∧ _ := by simpa using e'
    show SimN P B γ s w (do pure (.value (← Instr.fieldAt t (ρ' x) f))) _ _
    exact SimN.of_run hr (afieldAddr_run hT (hρ x) hu w)
  case h_20 t x f => -- field
    simp only [Option.map_eq_some_iff] at h
    obtain ⟨u, hu, e'⟩ := h
    obtain ⟨rfl, rfl⟩ : _ ∧ _ := by simpa using e'
    show SimN P B γ s w (do pure (.value (← Instr.field t (ρ' x) f))) _ _
    exact SimN.of_run hr (afield_run hT (hρ x) hu w)
  case h_21 t x ix => -- indexAddr
    simp only [Option.map_eq_some_iff] at h
    obtain ⟨u, hu, e'⟩ := h
    obtain ⟨rfl, rfl⟩ : _ ∧ _ := by simpa using e'
    show SimN P B γ s w (do pure (.value (← Instr.indexAt t (ρ' x) (ρ' ix)))) _ _
    exact SimN.of_run hr (aindexAddr_run hT (hρ x) (hρ ix) hu w)
  case h_22 t x ix => -- index
    simp only [Option.map_eq_some_iff] at h
    obtain ⟨u, hu, e'⟩ := h
    obtain ⟨rfl, rfl⟩ : _ ∧ _ := by simpa using e'
    show SimN P B γ s w (do pure (.value (← Instr.index t (ρ' x) (ρ' ix)))) _ _
    exact SimN.of_run hr (aindex_run hT (hρ x) (hρ ix) hu w)
  case h_23 t x ix ok => -- lookup
    simp only [Option.map_eq_some_iff] at h
    obtain ⟨u, hu, e'⟩ := h
    obtain ⟨rfl, rfl⟩ : _ ∧ _ := by simpa using e'
    show SimN P B γ s w (do pure (.value (← Instr.lookup t (ρ' x) (ρ' ix) ok))) _ _
    exact SimN.of_run hr (alookup_run hT hr (hρ x) (hρ ix) hu)
  case h_24 t m k u => -- mapUpdate
    simp only [Option.map_eq_some_iff] at h
    obtain ⟨u', hu, e'⟩ := h
    obtain ⟨rfl, rfl⟩ : _ ∧ _ := by simpa using e'
    show SimN P B γ s w (do Instr.mapUpdate t (ρ' m) (ρ' k) (ρ' u); pure .skip) _ _
    exact SimN.of_simU (amapUpdate_run hT hr (hρ m) (hρ k) (hρ u) hu)
  case h_25 t m k u => -- insert
    simp only [Option.map_eq_some_iff] at h
    obtain ⟨u', hu, e'⟩ := h
    obtain ⟨rfl, rfl⟩ : _ ∧ _ := by simpa using e'
    show SimN P B γ s w (do Instr.mapUpdate t (ρ' m) (ρ' k) (ρ' u); pure .skip) _ _
    exact SimN.of_simU (amapUpdate_run hT hr (hρ m) (hρ k) (hρ u) hu)
  case h_26 t i => -- extract
    split at h
    · rename_i vs hvs
      simp only [Option.map_eq_some_iff] at h
      obtain ⟨u, hu, e'⟩ := h
      obtain ⟨rfl, rfl⟩ : _ ∧ _ := by simpa using e'
      have ht := hρ t
      rw [hvs] at ht
      simp only [VRel] at ht
      obtain ⟨cs, hcs, hrel⟩ := ht
      obtain ⟨c, hc, hv⟩ := hrel.get hu
      have hc' : cs[i]? = some c := by simpa using hc
      exact SimN.of_run hr (m := Instr.extract (ρ' t) i) ⟨c, by simp [Instr.extract, hcs, hc'], hv⟩
    · cases h
  case h_27 c => -- call
    split at h
    · rename_i b hb
      have := abuiltin_run hT hr (vrels_of hρ c.args.toList) h type (c.args.map fun | .const _ => true | _ => false)
      obtain ⟨γ', w', n, cv, h1, h2⟩ := this
      refine ⟨γ', w', n, cv, ?_, h2⟩
      have ha : (List.map ρ' c.args.toList).toArray = c.args.map ρ' := by apply Array.ext'; rw [Array.toList_map]
      have ht : c.argTypes.toList.toArray = c.argTypes := Array.toArray_toList
      rw [ha, ht] at h1
      simp only [execOp, resolve, hb, Sem.run_bind, Sem.run_pure, Result.andThen_ok, invoke]
      exact h1
    · cases h
  case h_28 t x => -- range
    have hx := hρ x
    show SimN P B γ s w (do pure (.value (← Instr.range t (ρ' x)))) _ _
    split at h
    · rename_i b hu hb
      obtain ⟨rfl, rfl⟩ : _ ∧ _ := by simpa using h
      rw [hb] at hx; simp only [VRel] at hx
      obtain ⟨g1, g2⟩ := hr.alloc (w' := { w with heap := w.heap.push (.stringIter ⟨b.toArray⟩ 0) }) (o := .strIt b 0 false) (i := ⟨w.heap.size, 0, 0⟩) rfl rfl rfl ⟨rfl, by simp⟩
      exact ⟨_, _, _, .pointer (some ⟨w.heap.size, 0, none⟩), by simp [Instr.range, run_underlying hT hu, hx], .inl rfl, by simp only [VRel]; exact ⟨_, updG_same _ _ _, rfl⟩, g2, g1⟩
    · rename_i k e hu hb
      obtain ⟨rfl, rfl⟩ : _ ∧ _ := by simpa using h
      rw [hb] at hx; simp only [VRel] at hx
      obtain ⟨g1, g2⟩ := hr.alloc (w' := { w with heap := w.heap.push (.mapIter none 0 #[] 0) }) (o := .mapIt none 0 [] 0 false) (i := ⟨w.heap.size, 0, 0⟩) rfl rfl rfl ⟨rfl, by simp⟩
      exact ⟨_, _, _, .pointer (some ⟨w.heap.size, 0, none⟩), by simp [Instr.range, run_underlying hT hu, hx], .inl rfl, by simp only [VRel]; exact ⟨_, updG_same _ _ _, rfl⟩, g2, g1⟩
    · rename_i k e m hu hb
      split at h
      · rename_i es clock ro hm
        obtain ⟨rfl, rfl⟩ : _ ∧ _ := by simpa using h
        rw [hb] at hx; simp only [VRel] at hx
        obtain ⟨j, hj, hx⟩ := hx
        obtain ⟨j', hj', hO, _⟩ := hr.obj m _ hm
        rw [hj] at hj'; obtain rfl := Option.some.inj hj'
        obtain ⟨ces, hces, _⟩ := hO
        obtain ⟨g1, g2⟩ := hr.alloc (w' := { w with heap := w.heap.push (.mapIter (some j.b) clock #[] clock) }) (o := .mapIt (some m) clock [] clock false) (i := ⟨w.heap.size, 0, 0⟩) rfl rfl rfl ⟨rfl, j, Gam.le_upd hr.fin0 _ _ hj, by simp⟩
        have hg : ∀ w2 : World, w2.heap[j.b]? = w.heap[j.b]? → (getObj j.b).run P w2 = .ok (.map ces clock) w2 := by
          intro w2 h2
          simp [getObj, Sem.run, h2, hces]
        exact ⟨_, _, _, .pointer (some ⟨w.heap.size, 0, none⟩), by simp [Instr.range, run_underlying hT hu, hx, hg w rfl], .inl rfl, by simp only [VRel]; exact ⟨_, updG_same _ _ _, rfl⟩, g2, g1⟩
      · cases h
    · cases h
  case h_29 => cases h

end
end Go.Am
