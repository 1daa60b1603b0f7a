/-
  The abstract machine Am, run: what the function that runs the machine comes to is what the model does (first part: a region that draws its order).
-/
import Derived.Test.YtbfchlimonimkaaAmExec
set_option linter.unusedSectionVars false
set_option linter.unusedSimpArgs false
set_option linter.unusedVariables false
namespace Go.Am

section
variable (P : Program) (T : TT) (n : Nat) (ops : Array Oper) (tab : Nat → Option (AV × AS)) (vw : Nat → AS)

def xval (i : Nat) : AV := match tab i with
  | none => .undef
  | some (v, _) => v

def Good (i : Nat) (o : Oper) (f : Fr) : Prop :=
  dstOk n o.dst = true ∧ match tab i with
  | none => awanted ops f o = some false
  | some (v, s') => awanted ops f o = some true ∧ vcV P T o f (vw i) fun v2 s2 => v2 = v ∧ s2 = s'

def dqx (K : Fr → Prop) : List Nat → Fr → Prop
  | [], f => K f
  | i :: is, f => match ops[i]? with
    | some o => Good P T n ops tab vw i o f ∧ dqx K is (updO f o.dst (xval tab i))
    | none => False
end

section
variable {P : Program} {T : TT} {n : Nat} {ops : Array Oper} {tab : Nat → Option (AV × AS)} {vw : Nat → AS} {K : Fr → Prop}

theorem Good.same {i : Nat} {o : Oper} {f : Fr} {d : Option Nat} {v : AV} (h : ∀ t, d = some t → t ∉ o.looksAt ops) : Good P T n ops tab vw i o (updO f d v) ↔ Good P T n ops tab vw i o f := by
  obtain ⟨h1, _, _⟩ := looks_same (T := T) (ops := ops) (f := f) (v := v) h
  unfold Good
  rw [h1]
  cases tab i with
  | none => exact Iff.rfl
  | some r =>
    obtain ⟨v', s'⟩ := r
    simp only
    rw [vcV_same h]

theorem dqx_pull {j : Nat} {oj : Oper} (hoj : ops[j]? = some oj) : ∀ (pre post : List Nat) (f : Fr), (∀ i ∈ pre, ∀ oi, ops[i]? = some oi → oi.apart ops oj = true) →
    dqx P T n ops tab vw K (pre ++ j :: post) f → Good P T n ops tab vw j oj f ∧ dqx P T n ops tab vw K (pre ++ post) (updO f oj.dst (xval tab j))
  | [], post, f, _, h => by simpa only [List.nil_append, dqx, hoj] using h
  | i :: pre, post, f, hfree, h => by
    simp only [List.cons_append, dqx] at h ⊢
    cases hoi : ops[i]? with
    | none => rw [hoi] at h; exact h.elim
    | some oi =>
      rw [hoi] at h
      simp only at h ⊢
      obtain ⟨ha1, ha2, ha3⟩ := Oper.apart_spec (hfree i (by simp) oi hoi)
      obtain ⟨gi, h⟩ := h
      obtain ⟨gj, hk⟩ := dqx_pull hoj pre post _ (fun i hi => hfree i (List.mem_cons_of_mem _ hi)) h
      exact ⟨(Good.same ha1).1 gj, (Good.same ha3).2 gi, by rw [← updO_comm ha2]; exact hk⟩

theorem dqx_congr {tab' : Nat → Option (AV × AS)} {vw' : Nat → AS} : ∀ (l : List Nat) (f : Fr), (∀ i ∈ l, tab' i = tab i ∧ vw' i = vw i) → dqx P T n ops tab vw K l f → dqx P T n ops tab' vw' K l f
  | [], f, _, h => h
  | i :: is, f, he, h => by
    simp only [dqx] at h ⊢
    cases hoi : ops[i]? with
    | none => rw [hoi] at h; exact h.elim
    | some oi =>
      rw [hoi] at h
      simp only at h ⊢
      obtain ⟨e1, e2⟩ := he i (by simp)
      refine ⟨?_, ?_⟩
      · have := h.1; unfold Good at this ⊢; rw [e1, e2]; exact this
      · have := dqx_congr is _ (fun k hk => he k (List.mem_cons_of_mem _ hk)) h.2
        unfold xval at this ⊢; rw [e1]; exact this
end

/-! ### The heap, half way -/

def InT (tab : Nat → Option (AV × AS)) (L : Nat → Prop) (l : Nat) (o : AO) : Prop := ∃ i v s', L i ∧ tab i = some (v, s') ∧ s'.cur.get l = some o ∧ o.ro = false
def InA (s : AS) (tab : Nat → Option (AV × AS)) (L : Nat → Prop) (l : Nat) (o : AO) : Prop := s.h l = some o ∨ InT tab L l o

structure Mid (B : Nat) (γ0 : Gam) (s : AS) (w0 : World) (m : Nat) (tab : Nat → Option (AV × AS)) (L : Nat → Prop) (γ : Gam) (w : World) : Prop where
  obj : ∀ l o, InA s tab L l o → ∃ i, γ l = some i ∧ ORel γ w i o ∧ (o.ro = false → B ≤ i.b)
  inj : ∀ l l' o o' i i', InA s tab L l o → InA s tab L l' o' → o.ro = false → γ l = some i → γ l' = some i' → i.b = i'.b → l = l'
  dom : ∀ j, γ (s.nl + j * s.st) ≠ none → ∃ i k v s', L i ∧ tab i = some (v, s') ∧ s.nl + j * s.st = s.nl + i * s.st + k * (m * s.st) ∧ s.nl + j * s.st < s'.nl
  nlk : ∀ i v s', L i → tab i = some (v, s') → ∃ k, s'.nl = s.nl + i * s.st + k * (m * s.st)
  base : B ≤ w.heap.size
  le : Gam.le γ0 γ
  frm : ∀ b, b < w0.heap.size → w.heap[b]? = w0.heap[b]?
  siz : w0.heap.size ≤ w.heap.size
  new : ∀ l o i, InT tab L l o → γ l = some i → w0.heap.size ≤ i.b
  dom0 : ∀ l, γ0 l = none → γ l ≠ none → ∃ j, l = s.nl + j * s.st
  env : Env w0 w
  rof : ∀ l o i v s', L i → tab i = some (v, s') → s'.cur.get l = some o → o.live = true → o.ro = false

theorem AO.shut_ro (o : AO) : o.shut.ro = true := by cases o <;> rfl
theorem AO.shut_shut (o : AO) : o.shut.shut = o.shut := by cases o <;> rfl
theorem AO.shut_live (o : AO) : o.shut.live = o.live := by cases o <;> rfl

theorem AS.h_cur {s : AS} {l : Nat} {o : AO} (h : s.cur.get l = some o) (ho : o.live = true) : s.h l = some o := by
  unfold AS.h; rw [h]; cases o <;> first | rfl | cases ho

theorem cls_inj {m i i' j k : Nat} (h : i < m) (h' : i' < m) (e : i + j * m = i' + k * m) : i = i' := by
  have := congrArg (· % m) e
  simp only [Nat.add_mul_mod_self_right, Nat.mod_eq_of_lt h, Nat.mod_eq_of_lt h'] at this
  exact this

theorem cls_eq {a i j k m i' st : Nat} (hst : 1 ≤ st) (e : a + i * st + j * (m * st) = a + i' * st + k * (m * st)) : i + j * m = i' + k * m := by
  rw [← Nat.mul_assoc, ← Nat.mul_assoc, Nat.add_assoc, Nat.add_assoc, ← Nat.add_mul, ← Nat.add_mul] at e
  exact Nat.eq_of_mul_eq_mul_right (by omega) (Nat.add_left_cancel e)

theorem cls_one {a i j m st : Nat} : a + i * st + j * (m * st) = a + (i + j * m) * st := by
  rw [← Nat.mul_assoc, Nat.add_assoc, ← Nat.add_mul]

section
variable {B : Nat} {γ0 γ : Gam} {s : AS} {w0 w : World} {m : Nat} {tab : Nat → Option (AV × AS)} {L : Nat → Prop}

theorem Mid.start (h : Rel B γ0 s w0) (hL : ∀ i, ¬ L i) : Mid B γ0 s w0 m tab L γ0 w0 := by
  have hn : ∀ l o, ¬ InT tab L l o := fun l o ⟨i, _, _, h, _⟩ => hL i h
  refine ⟨fun l o hi => ?_, fun l l' o o' i i' h1 h2 r e1 e2 e => ?_, fun j hj => absurd (h.fin j) hj, fun i _ _ h => absurd h (hL i), h.base, Gam.le_refl _, fun _ _ => rfl, Nat.le_refl _, fun l o i hi => absurd hi (hn l o), fun l h h' => absurd h h', ⟨rfl, rfl, rfl⟩, fun l o i v s' h => absurd h (hL i)⟩
  · rcases hi with hi | hi
    · exact h.obj l o hi
    · exact absurd hi (hn l o)
  · rcases h1 with h1 | h1
    · rcases h2 with h2 | h2
      · exact h.inj l l' o o' i i' h1 h2 r e1 e2 e
      · exact absurd h2 (hn _ _)
    · exact absurd h1 (hn _ _)

theorem Mid.weaken (h : Mid B γ0 s w0 m tab L γ w) {L' : Nat → Prop} (hL : ∀ k, L' k → L k ∨ tab k = none) (hL2 : ∀ k, L k → L' k) : Mid B γ0 s w0 m tab L' γ w := by
  have key : ∀ k v s', L' k → tab k = some (v, s') → L k := by
    intro k v s' h1 h2
    rcases hL k h1 with h | h
    · exact h
    · rw [h] at h2; cases h2
  have kT : ∀ l o, InT tab L' l o → InT tab L l o := fun l o ⟨i, v, s', a, b, c, d⟩ => ⟨i, v, s', key i v s' a b, b, c, d⟩
  have kA : ∀ l o, InA s tab L' l o → InA s tab L l o := fun l o h => h.imp id (kT l o)
  refine ⟨fun l o ho => h.obj l o (kA l o ho), fun l l' o o' i i' h1 h2 => h.inj l l' o o' i i' (kA _ _ h1) (kA _ _ h2), fun j hj => ?_, fun i v s' h1 h2 => h.nlk i v s' (key i v s' h1 h2) h2, h.base, h.le, h.frm, h.siz, fun l o i hi => h.new l o i (kT _ _ hi), h.dom0, h.env, fun l o i v s' h1 h2 => h.rof l o i v s' (key i v s' h1 h2) h2⟩
  obtain ⟨i, k, v, s', a, b⟩ := h.dom j hj
  exact ⟨i, k, v, s', hL2 i a, b⟩

theorem Mid.of_heap (h : Mid B γ0 s w0 m tab L γ w) {w' : World} (hw : w'.heap = w.heap) (he : Env w w' := by exact ⟨rfl, rfl, rfl⟩) : Mid B γ0 s w0 m tab L γ w' :=
  ⟨fun l o ho => let ⟨i, a, b, c⟩ := h.obj l o ho; ⟨i, a, b.congr (by rw [hw]), c⟩, h.inj, h.dom, h.nlk, by rw [hw]; exact h.base, h.le, fun b hb => by rw [hw]; exact h.frm b hb, by rw [hw]; exact h.siz, h.new, h.dom0, h.env.trans he, h.rof⟩

/-- what an operation sees is there -/
structure ViewOk (s : AS) (m i : Nat) (tab : Nat → Option (AV × AS)) (L : Nat → Prop) (v : AS) : Prop where
  cur : v.cur = .E
  nl : v.nl = s.nl + i * s.st
  st : v.st = m * s.st
  obj : ∀ l o, layGet v.lay l = some o → ∃ o', InA s tab L l o' ∧ o = o'.shut

theorem ViewOk.h {i : Nat} {v : AS} (hv : ViewOk s m i tab L v) {l : Nat} {o : AO} (h : v.h l = some o) : ∃ o', InA s tab L l o' ∧ o = o'.shut := by
  unfold AS.h at h
  rw [hv.cur] at h
  simp only [Tr.get] at h
  exact hv.obj l o h

theorem Mid.view (h : Mid B γ0 s w0 m tab L γ w) (hst : 1 ≤ s.st) {i : Nat} (hi : i < m) (hLm : ∀ k, L k → k < m) (hLi : ¬ L i) {v : AS} (hv : ViewOk s m i tab L v) : Rel B γ v w := by
  refine ⟨fun l o ho => ?_, fun l l' o o' i i' h1 h2 r e1 e2 e => ?_, fun j => ?_, ?_, h.base⟩
  · obtain ⟨o', ho', rfl⟩ := hv.h ho
    obtain ⟨c, h1, h2, _⟩ := h.obj l o' ho'
    exact ⟨c, h1, h2.shut, fun hr => by rw [AO.shut_ro] at hr; cases hr⟩
  · obtain ⟨o', _, rfl⟩ := hv.h h1
    rw [AO.shut_ro] at r; cases r
  · rw [hv.nl, hv.st]
    cases hq : γ (s.nl + i * s.st + j * (m * s.st)) with
    | none => rfl
    | some c =>
      exfalso
      rw [cls_one] at hq
      obtain ⟨i', k, v', s', hL', _, he, _⟩ := h.dom (i + j * m) (by rw [hq]; simp)
      rw [← cls_one] at he
      have := cls_inj hi (hLm i' hL') (cls_eq hst he)
      exact hLi (this ▸ hL')
  · rw [hv.st]; exact Nat.mul_pos (by omega) hst

theorem Mid.step (h : Mid B γ0 s w0 m tab L γ w) (hst : 1 ≤ s.st) {i : Nat} (hi : i < m) {vv : AS} (hv : ViewOk s m i tab L vv) {v : AV} {s' : AS} (ht : tab i = some (v, s'))
    {L' : Nat → Prop} (hL' : ∀ k, L' k ↔ k = i ∨ L k) {γ' : Gam} {w' : World} (hr : Rel B γ' s' w') (hd : Did B γ vv w γ' s' w') : Mid B γ0 s w0 m tab L' γ' w' := by
  have hms : 1 ≤ m * s.st := Nat.mul_pos (by omega) hst
  have hro : ∀ l o, vv.h l = some o → o.ro = false → False := by
    intro l o ho hr
    obtain ⟨o', _, rfl⟩ := hv.h ho
    rw [AO.shut_ro] at hr; cases hr
  have hfrm : ∀ b, b < w.heap.size → w'.heap[b]? = w.heap[b]? := fun b hb => hd.frm b hb fun l o c h1 h2 _ => (hro l o h1 h2).elim
  have hnew : ∀ l o c, s'.h l = some o → o.ro = false → γ' l = some c → w.heap.size ≤ c.b := by
    intro l o c h1 h2 h3
    rcases hd.new l o c h1 h2 h3 with h | ⟨l0, o0, i0, g1, g2, _⟩
    · exact h
    · exact (hro l0 o0 g1 g2).elim
  obtain ⟨kk, hkk⟩ := hd.nl
  rw [hv.nl, hv.st] at hkk
  have hst' : s'.st = m * s.st := by rw [hd.st, hv.st]
  have split : ∀ l o, InT tab L' l o → InT tab L l o ∨ (s'.cur.get l = some o ∧ o.ro = false) := by
    rintro l o ⟨k, v2, s2, hk, h1, h2, h3⟩
    rcases (hL' k).1 hk with rfl | hk'
    · rw [ht] at h1
      obtain ⟨rfl, rfl⟩ := by simpa using h1
      exact .inr ⟨h2, h3⟩
    · exact .inl ⟨k, v2, s2, hk', h1, h2, h3⟩
  have splitA : ∀ l o, InA s tab L' l o → InA s tab L l o ∨ (s'.cur.get l = some o ∧ o.ro = false) := by
    rintro l o (h1 | h1)
    · exact .inl (.inl h1)
    · exact (split l o h1).imp .inr id
  have hcur : ∀ l o, s'.cur.get l = some o → o.ro = false → s'.h l = some o := fun l o h1 h2 => AS.h_cur h1 (AO.live_of_ro h2)
  have old : ∀ l o c, InA s tab L l o → γ' l = some c → γ l = some c ∧ c.b < w.heap.size := by
    intro l o c h1 h2
    obtain ⟨c0, e0, hO, _⟩ := h.obj l o h1
    have := hd.le l c0 e0
    rw [h2] at this; obtain rfl := Option.some.inj this
    exact ⟨e0, hO.lt⟩
  refine ⟨fun l o ho => ?_, fun l l' o o' c c' h1 h2 r e1 e2 e => ?_, fun j hj => ?_, fun k v2 s2 hk h1 => ?_, hr.base, Gam.le_trans h.le hd.le, fun b hb => ?_, Nat.le_trans h.siz hd.siz, fun l o c hl hc => ?_, fun l h0 h1 => ?_, h.env.trans hd.env, fun l o k v2 s2 hk h1 h2 h3 => ?_⟩
  · rcases splitA l o ho with h1 | ⟨h1, h2⟩
    · obtain ⟨c, e, hO, hB⟩ := h.obj l o h1
      exact ⟨c, hd.le _ _ e, (hO.mono hd.le).congr (hfrm _ hO.lt), hB⟩
    · exact hr.obj l o (hcur l o h1 h2)
  · rcases splitA l o h1 with g1 | ⟨g1, r1⟩
    · obtain ⟨a1, b1⟩ := old l o c g1 e1
      rcases splitA l' o' h2 with g2 | ⟨g2, r2⟩
      · obtain ⟨a2, b2⟩ := old l' o' c' g2 e2
        exact h.inj l l' o o' c c' g1 g2 r a1 a2 e
      · have := hnew l' o' c' (hcur _ _ g2 r2) r2 e2
        omega
    · have hn := hnew l o c (hcur _ _ g1 r1) r1 e1
      rcases splitA l' o' h2 with g2 | ⟨g2, r2⟩
      · obtain ⟨a2, b2⟩ := old l' o' c' g2 e2
        omega
      · exact hr.inj l l' o o' c c' (hcur _ _ g1 r1) (hcur _ _ g2 r2) r e1 e2 e
  · cases hq : γ (s.nl + j * s.st) with
    | some c =>
      obtain ⟨i', k, v2, s2, a1, a2, a3, a4⟩ := h.dom j (by rw [hq]; simp)
      exact ⟨i', k, v2, s2, (hL' _).2 (.inr a1), a2, a3, a4⟩
    | none =>
      obtain ⟨j', hj'⟩ := hd.dom _ hq hj
      rw [hv.nl, hv.st] at hj'
      refine ⟨i, j', v, s', (hL' i).2 (.inl rfl), ht, hj', Nat.lt_of_not_le fun hge => ?_⟩
      have hle : kk ≤ j' := Nat.le_of_mul_le_mul_right (show kk * (m * s.st) ≤ j' * (m * s.st) by omega) hms
      obtain ⟨r, rfl⟩ : ∃ r, j' = kk + r := ⟨j' - kk, by omega⟩
      apply hj
      rw [hj', Nat.add_mul, ← Nat.add_assoc, ← hkk, ← hst']
      exact hr.fin r
  · rcases (hL' k).1 hk with rfl | hk'
    · rw [ht] at h1
      obtain ⟨rfl, rfl⟩ := by simpa using h1
      exact ⟨kk, hkk⟩
    · exact h.nlk k v2 s2 hk' h1
  · rw [hfrm b (Nat.lt_of_lt_of_le hb h.siz), h.frm b hb]
  · rcases split l o hl with h1 | ⟨h1, h2⟩
    · exact h.new l o c h1 (old l o c (.inr h1) hc).1
    · exact Nat.le_trans h.siz (hnew l o c (hcur _ _ h1 h2) h2 hc)
  · cases hq : γ l with
    | some c => exact h.dom0 l h0 (by rw [hq]; simp)
    | none =>
      obtain ⟨j, hj⟩ := hd.dom l hq h1
      rw [hv.nl, hv.st, cls_one] at hj
      exact ⟨_, hj⟩
  · rcases (hL' k).1 hk with rfl | hk'
    · rw [ht] at h1
      obtain ⟨rfl, rfl⟩ := by simpa using h1
      cases hq : o.ro with
      | false => rfl
      | true =>
        have := hd.sld l o h2 h3 hq
        rw [hv.cur] at this
        simp [Tr.get] at this
    · exact h.rof l o k v2 s2 hk' h1 h2 h3

/-- all done: the parts are put together -/
theorem Mid.done (h : Mid B γ0 s w0 m tab L γ w) (h0 : Rel B γ0 s w0) {c : Tr AO} {nl : Nat}
    (hc : ∀ l o, c.get l = some o → s.cur.get l = some o ∨ ∃ i v s', L i ∧ tab i = some (v, s') ∧ s'.cur.get l = some o) (hn : ∀ l, c.get l = none → s.cur.get l = none)
    (hnl : nl = s.nl ∨ ∃ i v s', L i ∧ tab i = some (v, s') ∧ nl = s'.nl) (hge : ∀ i v s', L i → tab i = some (v, s') → s'.nl ≤ nl ∨ s'.nl = s.nl + i * s.st) :
    Rel B γ { s with cur := c, nl := nl } w ∧ Did B γ0 s w0 γ { s with cur := c, nl := nl } w := by
  have hst := h0.stp
  have hk : ∃ k, nl = s.nl + k * s.st := by
    rcases hnl with rfl | ⟨i, v, s', h1, h2, rfl⟩
    · exact ⟨0, by simp⟩
    · obtain ⟨k, hk⟩ := h.nlk i v s' h1 h2
      exact ⟨_, hk.trans cls_one⟩
  obtain ⟨k, hk⟩ := hk
  have hin : ∀ l o, ({ s with cur := c, nl := nl } : AS).h l = some o → InA s tab L l o := by
    intro l o hl
    unfold AS.h at hl
    simp only at hl
    cases hq : c.get l with
    | none =>
      rw [hq] at hl
      simp only at hl
      left
      unfold AS.h
      rw [hn l hq]
      exact hl
    | some o' =>
      rw [hq] at hl
      have hlive : o'.live = true := by cases o' <;> first | rfl | cases hl
      have e : o' = o := by cases o' <;> first | (cases hl; done) | exact Option.some.inj hl
      subst e
      rcases hc l o' hq with h1 | ⟨i, v, s', h1, h2, h3⟩
      · exact .inl (AS.h_cur h1 hlive)
      · exact .inr ⟨i, v, s', h1, h2, h3, h.rof l o' i v s' h1 h2 h3 hlive⟩
  refine ⟨⟨fun l o hl => h.obj l o (hin l o hl), fun l l' o o' i i' h1 h2 r e1 e2 e => h.inj l l' o o' i i' (hin _ _ h1) (hin _ _ h2) r e1 e2 e, fun j => ?_, hst, h.base⟩,
    ⟨h.le, fun b hb _ => h.frm b hb, h.siz, fun l o i hl hr hi => ?_, ⟨k, hk⟩, rfl, rfl, h.dom0, fun l o hl h1 h2 => ?_, h.env⟩⟩
  · simp only
    cases hq : γ (nl + j * s.st) with
    | none => rfl
    | some ci =>
      exfalso
      have he : nl + j * s.st = s.nl + (k + j) * s.st := by rw [hk, Nat.add_mul, Nat.add_assoc]
      rw [he] at hq
      obtain ⟨i, k', v, s', a1, a2, a3, a4⟩ := h.dom (k + j) (by rw [hq]; simp)
      have h5 : nl ≤ nl + j * s.st := Nat.le_add_right _ _
      rcases hge i v s' a1 a2 with h6 | h6
      · omega
      · rw [a3, h6] at a4
        omega
  · rcases hin l o hl with h1 | h1
    · obtain ⟨i0, e0, _⟩ := h0.obj l o h1
      have := h.le l i0 e0
      rw [hi] at this; obtain rfl := Option.some.inj this
      exact .inr ⟨l, o, i, h1, hr, e0, rfl⟩
    · exact .inl (h.new l o i h1 hi)
  · rcases hc l o hl with h3 | ⟨i, v, s', h3, h4, h5⟩
    · exact h3
    · have := h.rof l o i v s' h3 h4 h5 h1
      rw [h2] at this; cases this

end

/-! ### Every order -/

section
variable {P : Program} {T : TT} {n : Nat} {ops : Array Oper} {tab : Nat → Option (AV × AS)} {vw : Nat → AS} {s sm : AS}

theorem drawx_sound (hT : TT.Ok P T) {m : Nat} (hD : DrawFacts ops m []) {Q : Exit → Fr → AS → Prop} {B : Nat} {γ0 : Gam} {w0 : World} (h0 : Rel B γ0 s w0)
    (hv : ∀ i v s', i < m → tab i = some (v, s') → ∀ (L : Nat → Prop), (∀ k, isAnc ops k i = true → L k) → (∀ l o k v2 s2, L k → tab k = some (v2, s2) → s2.cur.get l = some o → o.live = true → o.ro = false) → ViewOk s m i tab L (vw i))
    (hsm : ∀ γ w, Mid B γ0 s w0 m tab (fun i => i < m) γ w → Rel B γ sm w ∧ Did B γ0 s w0 γ sm w) :
    ∀ (fuel : Nat) (q : List Nat) (listed : Array Bool) (f : Fr) (γ : Gam) (a : Act) (w : World),
    q.Pairwise (· < ·) → (∀ i ∈ q, i < m) → Listed ops listed (fun i => i < m ∧ i ∉ q) → q.length + (ops.size - m) ≤ fuel →
    dqx P T n ops tab vw (fun f => vcOps P T n ops (ops.toList.drop m) f sm (fun f s => Q .normal f s)) q f → Mid B γ0 s w0 m tab (fun i => i < m ∧ i ∉ q) γ w →
    FRel γ n f a → Down ops listed → wpAny P .any ops (PostR B γ0 s w0 n Q) fuel listed a w := by
  have hle := hD.le
  have fin : ∀ (fuel : Nat) (listed : Array Bool) (f : Fr) (γ : Gam) (a : Act) (w : World), Listed ops listed (fun i => i < m ∧ i ∉ ([] : List Nat)) → ops.size - m ≤ fuel →
      vcOps P T n ops (ops.toList.drop m) f sm (fun f s => Q .normal f s) → Mid B γ0 s w0 m tab (fun i => i < m ∧ i ∉ ([] : List Nat)) γ w → FRel γ n f a → wpAny P .any ops (PostR B γ0 s w0 n Q) fuel listed a w := by
    intro fuel listed f γ a w hL hf h hM hfr
    obtain ⟨h1, h2⟩ := hsm γ w (by simpa using hM)
    exact tail_sound hT hD fuel m listed f sm γ a w (Nat.le_refl _) hD.le ⟨hL.size, fun i hi => by rw [hL.iff i hi]; simp⟩ hf h hfr h1 h2
  intro fuel
  induction fuel with
  | zero =>
    intro q listed f γ a w hsort hqm hL hf h hM hfr hdown
    obtain rfl : q = [] := List.length_eq_zero_iff.1 (by omega)
    exact fin 0 listed f γ a w hL (by simpa using hf) h hM hfr
  | succ fuel ih =>
    intro q listed f γ a w hsort hqm hL hf h hM hfr hdown
    cases q with
    | nil => exact fin (fuel + 1) listed f γ a w hL (by simpa using hf) h hM hfr
    | cons q0 q' =>
      refine ⟨fun hnil => ?_, fun i hi => ?_⟩
      · exfalso
        have hq0 := hqm q0 (by simp)
        have : q0 ∈ Region.ready .any ops listed := by
          refine (ready_iff hL q0).2 ⟨_, Array.getElem?_eq_getElem (by omega), by simp, fun e he hb => ?_⟩
          have := hD.back q0 _ (Array.getElem?_eq_getElem (by omega)) e he hb
          refine (hL.iff e.on (by omega)).2 ⟨by omega, ?_⟩
          simp only [List.mem_cons, not_or]
          refine ⟨by omega, fun hm => ?_⟩
          have := (List.pairwise_cons.1 hsort).1 e.on hm
          omega
        rw [hnil] at this; cases this
      · obtain ⟨o, ho, hp, he⟩ := (ready_iff hL i).1 hi
        have hil : i < ops.size := by
          rcases Nat.lt_or_ge i ops.size with h | h
          · exact h
          · simp [Array.getElem?_eq_none h] at ho
        have him : i < m := by
          rcases Nat.lt_or_ge i m with h | h
          · exact h
          · exfalso
            have hq0 := hqm q0 (by simp)
            have := anc_listed hdown i o ho he (hD.tail i hil h q0 (by omega))
            have := (hL.iff q0 (by omega)).1 this
            exact this.2 (by simp)
        have hiq : i ∈ q0 :: q' := by
          by_cases h : i ∈ q0 :: q'
          · exact h
          · exact absurd ⟨him, h⟩ hp
        obtain ⟨pre, post, hq⟩ := List.append_of_mem hiq
        rw [hq] at h hsort hqm hL hf hM
        have hpre : ∀ k ∈ pre, k < i := by
          intro k hk
          exact (List.pairwise_append.1 hsort).2.2 k hk i (by simp)
        have hancL : ∀ k, isAnc ops k i = true → k < m ∧ k ∉ pre ++ i :: post := by
          intro k hk
          have hl := anc_listed hdown i o ho he hk
          have hkl : k < ops.size := by
            rcases Nat.lt_or_ge k ops.size with h' | h'
            · exact h'
            · simp [Array.getD_eq_getD_getElem?, Array.getElem?_eq_none (show listed.size ≤ k by rw [hL.size]; exact h')] at hl
          exact (hL.iff k hkl).1 hl
        have hfree : ∀ k ∈ pre, ∀ ok, ops[k]? = some ok → ok.apart ops o = true := by
          intro k hk ok hok
          have hki := hpre k hk
          rcases hD.free i him k hki with h | ⟨x, y, hx, hy, h⟩
          · exact absurd (by simp [hk] : k ∈ pre ++ i :: post) (hancL k h).2
          · rw [hok] at hx; rw [ho] at hy
            obtain rfl := Option.some.inj hx; obtain rfl := Option.some.inj hy
            exact h
        obtain ⟨hg, hrest⟩ := dqx_pull ho pre post f hfree h
        have hsort' : (pre ++ post).Pairwise (· < ·) := by
          have := List.pairwise_append.1 hsort
          rw [List.pairwise_append]
          exact ⟨this.1, (List.pairwise_cons.1 this.2.1).2, fun x hx y hy => this.2.2 x hx y (by simp [hy])⟩
        have hnot : i ∉ pre ++ post := by
          intro hm
          rcases List.mem_append.1 hm with h | h
          · have := hpre i h; omega
          · have := (List.pairwise_cons.1 (List.pairwise_append.1 hsort).2.1).1 i h; omega
        have hset : ∀ k, (k < m ∧ k ∉ pre ++ post) ↔ (k = i ∨ (k < m ∧ k ∉ pre ++ i :: post)) := by
          intro k
          simp only [List.mem_append, List.mem_cons, not_or]
          constructor
          · rintro ⟨h1, h2, h3⟩
            by_cases hk : k = i
            · exact .inl hk
            · exact .inr ⟨h1, h2, hk, h3⟩
          · rintro (rfl | ⟨h1, h2, h3, h4⟩)
            · simp only [List.mem_append, not_or] at hnot
              exact ⟨him, hnot⟩
            · exact ⟨h1, h2, h4⟩
        have hL' : Listed ops (listed.setIfInBounds i true) (fun k => k < m ∧ k ∉ pre ++ post) := hL.set hset
        have hdown' : Down ops (listed.setIfInBounds i true) := by
          intro k ok hok hk e hem hb
          have mono : listed.getD e.on false = true → (listed.setIfInBounds i true).getD e.on false = true := by
            intro h
            have hel : e.on < listed.size := by
              rcases Nat.lt_or_ge e.on listed.size with h' | h'
              · exact h'
              · simp [Array.getD_eq_getD_getElem?, Array.getElem?_eq_none h'] at h
            simp only [Array.getD_eq_getD_getElem?, Array.getElem?_setIfInBounds] at h ⊢
            split
            · rename_i hie; subst hie; simp [hel]
            · exact h
          by_cases hki : i = k
          · subst hki
            rw [ho] at hok; obtain rfl := Option.some.inj hok
            exact mono (he e hem hb)
          · refine mono (hdown k ok hok ?_ e hem hb)
            simp only [Array.getD_eq_getD_getElem?, Array.getElem?_setIfInBounds] at hk ⊢
            rw [if_neg hki] at hk; exact hk
        have hlen : (pre ++ post).length + (ops.size - m) ≤ fuel := by simp at hf ⊢; omega
        have hqm' : ∀ k ∈ pre ++ post, k < m := fun k hk => hqm k (by rcases List.mem_append.1 hk with h | h <;> simp [h])
        obtain ⟨hdst, hg⟩ := hg
        unfold wpOp
        rw [ho]
        simp only
        cases ht : tab i with
        | none =>
          rw [ht] at hg
          simp only at hg
          rw [awanted_run hfr hg, if_neg (by simp)]
          have hxv : xval tab i = .undef := by simp [xval, ht]
          rw [hxv] at hrest
          refine ih _ _ _ γ _ w hsort' hqm' hL' hlen hrest ?_ (hfr.put hdst (vundef γ)) hdown'
          refine hM.weaken (fun k hk => ?_) (fun k hk => (hset k).2 (.inr hk))
          rcases (hset k).1 hk with rfl | h
          · exact .inr ht
          · exact .inl h
        | some r =>
          obtain ⟨v, s'⟩ := r
          rw [ht] at hg
          simp only at hg
          obtain ⟨hw, hvc⟩ := hg
          rw [awanted_run hfr hw, if_pos rfl]
          have hxv : xval tab i = v := by simp [xval, ht]
          rw [hxv] at hrest
          have hview := hv i v s' him ht _ hancL (fun l o k v2 s2 h1 h2 h3 h4 => hM.rof l o k v2 s2 h1 h2 h3 h4)
          have hrel := hM.view h0.stp him (fun k hk => hk.1) (fun hk => hk.2 (by simp)) hview
          have hop : vcOp P T n o f (vw i) (fun f2 s2 => f2 = updO f o.dst v ∧ s2 = s') := vcOp_of_vcV hdst hvc fun v2 s2 ⟨e1, e2⟩ => ⟨by rw [e1], e2⟩
          refine .inl (vcOp_sound hT hop hfr hrel ?_)
          rintro γ' f' s2 a' w' h1 h2 h3 ⟨rfl, rfl⟩
          exact ih _ _ _ γ' a' w' hsort' hqm' hL' hlen hrest (hM.step h0.stp him hview ht hset h3 h2) h1 hdown'
end
end Go.Am
