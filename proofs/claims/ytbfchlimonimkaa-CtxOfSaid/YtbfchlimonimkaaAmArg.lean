/-
  The abstract machine Am: a law over arguments, from the heap of what can be read.
-/
import Derived.Test.YtbfchlimonimkaaAmIn
import Derived.Carry
set_option linter.unusedSectionVars false
set_option linter.unusedSimpArgs false
set_option linter.unusedVariables false
namespace Go.Am
open Go.ChangeShapes Go.WideShapes Go.ChangeAt Go.RowKit

theorem below_of_open {P : Program} {g : FuncId} {b : Bool} {cargs : Array Value} {W : World} (hg : callable P g = true) (h : ACalls P g (cargs.toList.map (absV W.heap.size (MW W))) (sW W) fun v s' => v = .bool b) : Calls P g cargs W fun e W' => e = .returned (.bool b) ∧ Below W.heap.size W W' := by
  have hargs : VRels (gW W.heap.size (MW W)) (cargs.toList.map (absV W.heap.size (MW W))) cargs.toList := by
    rw [← absVs_map]; exact absVs_rel _ _ _
  have hl : Calls P g cargs W (fun e w' => ∃ γ' v cv s', e = .returned cv ∧ VRel γ' v cv ∧ Did W.heap.size (gW W.heap.size (MW W)) (sW W) W γ' s' w' ∧ Rel W.heap.size γ' s' w' ∧ v = .bool b) := by
    rcases h W.heap.size _ cargs W hargs (rel_sW W) with ⟨_, h1⟩ | ⟨cv, w', h1, _⟩
    · exact h1
    · rw [run_callFunc hg] at h1; cases h1
  refine hl.mono ?_
  rintro e w' ⟨γ', v, cv, s', rfl, hv, hd, hr, rfl⟩
  simp only [VRel] at hv
  subst hv
  exact ⟨rfl, hd.below fun l o h => by obtain ⟨_, c, e, fz, _, rfl⟩ := sW_h h; rfl⟩

theorem below_trodAll {H : Type} {enc : TypeId × Value → H} {P : Program} {W W' : World} (hl : laidOutB P = true) (hb : Below W.heap.size W W') : ∀ (ts : List TypeId) (vs : List Value) (ds : List (DataW H)) (ps : List MemPlace),
    (ts.all fun t => P.readableRec t && decide (t < P.types.size)) = true → DataW.TrodAll enc P W 0 (fun _ => true) true ts vs ds ps → (∀ x ∈ ps, x.block < W.heap.size) →
    DataW.TrodAll enc P W' 0 (fun b => decide (b < W.heap.size)) true ts vs ds ps
  | [], vs, ds, ps, _, h, _ => by
    obtain ⟨rfl, rfl, rfl⟩ := trodAll_nil h
    exact h
  | t :: ts, vs, ds, ps, hr, h, hlt => by
    simp only [List.all_cons, Bool.and_eq_true, decide_eq_true_eq] at hr
    obtain ⟨v, vs1, d, ds1, a, b, rfl, rfl, rfl, h1, h2⟩ := trodAll_cons h
    exact ⟨a, b, Below.trod hl hr.1.1 hr.1.2 h1 hb (fun x hx => hlt x (by simp [hx])), below_trodAll hl hb ts vs1 ds1 b hr.2 h2 (fun x hx => hlt x (by simp [hx])), rfl⟩

/-- one argument among all -/
theorem trodAll_at {H : Type} {enc : TypeId × Value → H} {P : Program} {W : World} {base : Nat} {spare : Nat → Bool} {held : Bool} : ∀ {ts : List TypeId} {vs : List Value} {ds : List (DataW H)} {ps : List MemPlace}, DataW.TrodAll enc P W base spare held ts vs ds ps →
    ∀ (i : Nat) t, ts[i]? = some t → ∃ v d p, vs[i]? = some v ∧ ds[i]? = some d ∧ DataW.Trod enc P W base spare held t v d p
  | [], _, _, _, _, i, t, hi => by simp at hi
  | t :: ts, vs, ds, ps, h, i, t', hi => by
    obtain ⟨v, vs1, d, ds1, a, b, rfl, rfl, rfl, h1, h2⟩ := trodAll_cons h
    cases i with
    | zero => simp at hi; subst hi; exact ⟨v, d, a, rfl, rfl, h1⟩
    | succ i => simp at hi; obtain ⟨v', d', p', e1, e2, e3⟩ := trodAll_at h2 i t' hi; exact ⟨v', d', p', by simpa using e1, by simpa using e2, e3⟩
theorem trodAll_len {H : Type} {enc : TypeId × Value → H} {P : Program} {W : World} {base : Nat} {spare : Nat → Bool} {held : Bool} : ∀ {ts : List TypeId} {vs : List Value} {ds : List (DataW H)} {ps : List MemPlace}, DataW.TrodAll enc P W base spare held ts vs ds ps → vs.length = ts.length ∧ ds.length = ts.length
  | [], _, _, _, h => by obtain ⟨rfl, rfl, rfl⟩ := trodAll_nil h; exact ⟨rfl, rfl⟩
  | t :: ts, vs, ds, ps, h => by
    obtain ⟨v, vs1, d, ds1, a, b, rfl, rfl, rfl, h1, h2⟩ := trodAll_cons h
    have := trodAll_len h2
    simp [this.1, this.2]

/-- elements of a slice, as what they stand for -/
theorem cells_dec {α : Type} {f : α → List AV} {Q : α → Prop} : ∀ (C : List (List AV)), (∀ c ∈ C, ∃ x, c = f x ∧ Q x) → ∃ l : List α, C.flatten = l.flatMap f ∧ C.length = l.length ∧ ∀ x ∈ l, Q x
  | [], _ => ⟨[], by simp⟩
  | c :: C, h => by
    obtain ⟨x, rfl, hx⟩ := h c (by simp)
    obtain ⟨l, h1, h2, h3⟩ := cells_dec C fun c hc => h c (by simp [hc])
    exact ⟨x :: l, by simp [h1], by simp [h2], by simpa [hx] using h3⟩

theorem cellsOk.cons {k : LK} {ks : List LK} {c : List AV} (h : cellsOk (k :: ks) c) : ∃ v vs, c = v :: vs ∧ leafOk k v ∧ cellsOk ks vs := by
  cases c with
  | nil => exact h.elim
  | cons v vs => exact ⟨v, vs, rfl, h.1, h.2⟩
theorem cellsOk.nil {c : List AV} (h : cellsOk [] c) : c = [] := by
  cases c with
  | nil => rfl
  | cons v vs => exact h.elim

/-- A law of one truth, over its arguments. -/
theorem law_open {H : Type} {enc : TypeId × Value → H} {C : Checked} {os : Os} {f : FuncId} {fn : Func} {s : ChangeSpec} {fresh : Bool} {rt : TypeId} (own : ownKnob C.prog.godebug = none) (started : os.Started) (noInit : C.prog.inits.idxOf? f = none) (hfn : C.prog.funcs[f]? = some fn)
    (witness : ∃ (w : World) (tape : Tape) (i : Input), w.os = os ∧ (w.forCall tape i).Shaped C.prog ∧ i.vars = [] ∧ Input.okWide C.prog (w.forCall tape i) .any w.heap.size f i ∧
      s.pre6 enc C.prog fn [] false (w.forCall tape i).memory i.args ∧ ({} : Assume).holds C.prog (lone (Frame.enter C.prog f i.args .normal) [] (w.forCall tape i)))
    (hg : callable C.prog f = true) (hv : s.vars = []) (hrt : fn.resultTypes = #[rt]) (hru : C.prog.underlying rt = some .bool) (hl : laidOutB C.prog = true) (hr : (fn.params.toList.all fun t => C.prog.readableRec t && decide (t < C.prog.types.size)) = true)
    (hsp : ∀ ds : List (DataW H), ds.length = fn.params.toList.length → s.fn H ds = { results := [.lit (.bool true)], args := ds })
    (hrun : ∀ (W : World) (base : Nat) (args : List Value), args.length = fn.params.toList.length → (∀ (j : Nat) t v, fn.params.toList[j]? = some t → args[j]? = some v → Value.okWide C.prog W .any base t v ∧ ∃ (d : DataW H) (p : List MemPlace), DataW.Trod enc C.prog W 0 (fun _ => true) true t v d p) →
      ACalls C.prog f (args.map (absV W.heap.size (MW W))) (sW W) fun v s' => v = .bool true) :
    ReturnsInHanded {} C os f .any (s.pre6 enc C.prog fn [] false) (s.post enc C.prog fn false fresh false false) := by
  refine returnsInHanded_of_change own started noInit hfn witness ?_
  intro W base args ds gs before hval hW hcnd _
  have hW' := hW
  obtain ⟨p, q, hA, hV, rfl, hfz, hnd⟩ := hW
  rw [hv] at hV
  obtain ⟨rfl, rfl⟩ := trodVars_none hV
  obtain ⟨hl1, hl2⟩ := trodAll_len hA
  have hrun' := hrun W base args.toList hl1 fun j t v hj hvj => by
    obtain ⟨v', d, p', h1, _, h2⟩ := trodAll_at hA j t hj
    rw [hvj] at h1; obtain rfl := Option.some.inj h1
    exact ⟨hval j t v (by simpa using hj) (by simpa using hvj), d, p', h2⟩
  refine (below_of_open hg hrun').mono fun e W' ⟨he, hb⟩ => ?_
  subst he
  refine ⟨_, rfl, post_law (pa := p) (rt := rt) hW' hv hb hrt hru ?_ ?_⟩
  · rw [List.append_nil]; exact hsp ds hl2
  · exact below_trodAll hl hb _ _ _ _ hr hA fun x hx => hW'.lt x (by simp [hx])
end Go.Am
