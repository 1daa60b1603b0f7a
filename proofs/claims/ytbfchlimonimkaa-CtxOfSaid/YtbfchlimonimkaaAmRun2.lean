/-
  The abstract machine Am, run: what the function that runs the machine comes to is what the model does (second part: regions, code, calls).
-/
import Derived.Test.YtbfchlimonimkaaAmRun
set_option linter.unusedSectionVars false
set_option linter.unusedSimpArgs false
set_option linter.unusedVariables false
namespace Go.Am

section
variable {P : Program} {T : TT} (hT : TT.Ok P T) {call : XCall} (hcall : CallOk P call) {n : Nat} {ops : Array Oper} {bs : List Nat} {m : Nat} {s : AS} {K : Fr → Prop}
include hT hcall

theorem xop1_vcV {o : Oper} {f : Fr} {s s' : AS} {v : AV} (h : xop1 T call o f s = some (v, s')) : vcV P T o f s fun v2 s2 => v2 = v ∧ s2 = s' := xop1_sound hT hcall h

theorem xq_sound : ∀ (l : List Nat) (f : Tr AV) (ds : List (Nat × Tr AO)) (mx : Nat) (f' : Tr AV) (ds' : List (Nat × Tr AO)) (mx' : Nat), l.Nodup → xq T call n ops bs m s l f ds mx = some (f', ds', mx') → K (xfr f') →
    ∃ (tab : Nat → Option (AV × AS)) (vw : Nat → AS), dqx P T n ops tab vw K l (xfr f) ∧
      (∀ i ∈ l, ∀ v s', tab i = some (v, s') → ∃ o dsi, vw i = xview s bs m i o dsi ∧ ∀ p ∈ dsi, p ∈ ds ∨ ∃ v2 s2, p.1 ∈ l ∧ tab p.1 = some (v2, s2) ∧ p.2 = s2.cur) ∧
      (∀ p ∈ ds', p ∈ ds ∨ ∃ v2 s2, p.1 ∈ l ∧ tab p.1 = some (v2, s2) ∧ p.2 = s2.cur) ∧
      mx ≤ mx' ∧ (∀ i ∈ l, ∀ v s', tab i = some (v, s') → s'.nl ≤ mx') ∧ (mx' = mx ∨ ∃ i ∈ l, ∃ v s', tab i = some (v, s') ∧ mx' = s'.nl)
  | [], f, ds, mx, f', ds', mx', _, h, hk => by
    simp only [xq, Option.some.injEq, Prod.mk.injEq] at h
    obtain ⟨rfl, rfl, rfl⟩ := h
    exact ⟨fun _ => none, fun _ => s, hk, by simp, fun p hp => .inl hp, Nat.le_refl _, by simp, .inl rfl⟩
  | i :: is, f, ds, mx, f', ds', mx', hnd, h, hk => by
    obtain ⟨hni, hnd⟩ := List.nodup_cons.1 hnd
    simp only [xq] at h
    cases ho : ops[i]? with
    | none => rw [ho] at h; cases h
    | some o =>
      rw [ho] at h
      simp only at h
      split at h
      · rename_i hd
        split at h
        · cases h
        · rename_i hw
          obtain ⟨tab, vw, h1, h2, h3, h4, h5, h6⟩ := xq_sound is _ ds mx f' ds' mx' hnd h hk
          have e : ∀ k, (if k = i then none else tab k : Option (AV × AS)) = (fun k => if k = i then none else tab k : Nat → Option (AV × AS)) k := fun _ => rfl
          have ne : ∀ k ∈ is, k ≠ i := fun k hk e => hni (e ▸ hk)
          have cv : ∀ p : Nat × Tr AO, (∃ v2 s2, p.1 ∈ is ∧ tab p.1 = some (v2, s2) ∧ p.2 = s2.cur) → ∃ v2 s2, p.1 ∈ i :: is ∧ (if p.1 = i then none else tab p.1 : Option (AV × AS)) = some (v2, s2) ∧ p.2 = s2.cur := by
            rintro p ⟨v2, s2, a, b, c⟩
            exact ⟨v2, s2, List.mem_cons_of_mem _ a, by rw [if_neg (ne _ a)]; exact b, c⟩
          refine ⟨fun k => if k = i then none else tab k, vw, ?_, ?_, ?_, h4, ?_, ?_⟩
          · simp only [dqx, ho]
            refine ⟨⟨hd, ?_⟩, ?_⟩
            · simp only [if_true]; exact hw
            · have : xval (fun k => if k = i then none else tab k) i = .undef := by simp [xval]
              rw [this, ← xfr_xupd]
              exact dqx_congr is _ (fun k hk => ⟨if_neg (ne k hk), rfl⟩) h1
          · intro k hkm v s' ht
            simp only at ht
            split at ht
            · cases ht
            · rename_i hne
              have hkm : k ∈ is := by rcases List.mem_cons.1 hkm with h | h; exact absurd h hne; exact h
              obtain ⟨op, dsi, a, b⟩ := h2 k hkm v s' ht
              exact ⟨op, dsi, a, fun p hp => (b p hp).imp id (cv p)⟩
          · exact fun p hp => (h3 p hp).imp id (cv p)
          · intro k hkm v s' ht
            simp only at ht
            split at ht
            · cases ht
            · rename_i hne
              have hkm : k ∈ is := by rcases List.mem_cons.1 hkm with h | h; exact absurd h hne; exact h
              exact h5 k hkm v s' ht
          · rcases h6 with h6 | ⟨k, a, v, s', b, c⟩
            · exact .inl h6
            · exact .inr ⟨k, List.mem_cons_of_mem _ a, v, s', by simp only; rw [if_neg (ne _ a)]; exact b, c⟩
        · rename_i hw
          split at h
          · rename_i v s' hx
            obtain ⟨tab, vw, h1, h2, h3, h4, h5, h6⟩ := xq_sound is _ _ _ f' ds' mx' hnd h hk
            have ne : ∀ k ∈ is, k ≠ i := fun k hk e => hni (e ▸ hk)
            have cv : ∀ p : Nat × Tr AO, p ∈ (if isE s'.cur then ds else (i, s'.cur) :: ds) ∨ (∃ v2 s2, p.1 ∈ is ∧ tab p.1 = some (v2, s2) ∧ p.2 = s2.cur) →
                p ∈ ds ∨ ∃ v2 s2, p.1 ∈ i :: is ∧ (if p.1 = i then some (v, s') else tab p.1 : Option (AV × AS)) = some (v2, s2) ∧ p.2 = s2.cur := by
              rintro p (h | ⟨v2, s2, a, b, c⟩)
              · split at h
                · exact .inl h
                · rcases List.mem_cons.1 h with rfl | h
                  · exact .inr ⟨v, s', by simp, by simp, rfl⟩
                  · exact .inl h
              · exact .inr ⟨v2, s2, List.mem_cons_of_mem _ a, by rw [if_neg (ne _ a)]; exact b, c⟩
            refine ⟨fun k => if k = i then some (v, s') else tab k, fun k => if k = i then xview s bs m i o.op ds else vw k, ?_, ?_, ?_, Nat.le_trans (Nat.le_max_left _ _) h4, ?_, ?_⟩
            · simp only [dqx, ho]
              refine ⟨⟨hd, ?_⟩, ?_⟩
              · simp only [if_true]; exact ⟨hw, xop1_vcV hT hcall hx⟩
              · have : xval (fun k => if k = i then some (v, s') else tab k) i = v := by simp [xval]
                rw [this, ← xfr_xupd]
                exact dqx_congr is _ (fun k hk => ⟨if_neg (ne k hk), if_neg (ne k hk)⟩) h1
            · intro k hkm v2 s2 ht
              simp only at ht ⊢
              by_cases hki : k = i
              · subst hki
                exact ⟨o.op, ds, by simp, fun p hp => .inl hp⟩
              · rw [if_neg hki] at ht ⊢
                have hkm : k ∈ is := by rcases List.mem_cons.1 hkm with h | h; exact absurd h hki; exact h
                obtain ⟨op, dsi, a, b⟩ := h2 k hkm v2 s2 ht
                exact ⟨op, dsi, a, fun p hp => cv p (b p hp)⟩
            · exact fun p hp => cv p (h3 p hp)
            · intro k hkm v2 s2 ht
              simp only at ht
              by_cases hki : k = i
              · rw [if_pos hki] at ht
                obtain ⟨rfl, rfl⟩ := by simpa using ht
                exact Nat.le_trans (Nat.le_max_right _ _) h4
              · rw [if_neg hki] at ht
                have hkm : k ∈ is := by rcases List.mem_cons.1 hkm with h | h; exact absurd h hki; exact h
                exact h5 k hkm v2 s2 ht
            · rcases h6 with h6 | ⟨k, a, v2, s2, b, c⟩
              · rw [h6]
                rcases Nat.le_total mx s'.nl with hle | hle
                · exact .inr ⟨i, by simp, v, s', by simp, Nat.max_eq_right hle⟩
                · exact .inl (Nat.max_eq_left hle)
              · exact .inr ⟨k, List.mem_cons_of_mem _ a, v2, s2, by simp only; rw [if_neg (ne _ a)]; exact b, c⟩
          · cases h
      · cases h
end

theorem layGet_append : ∀ (A B : List (Tr AO)) (l : Nat) (o : AO), layGet (A ++ B) l = some o → (∃ t ∈ A, ∃ o', t.get l = some o' ∧ o'.live = true ∧ o = o'.shut) ∨ layGet B l = some o
  | [], B, l, o, h => .inr h
  | t :: A, B, l, o, h => by
    simp only [List.cons_append, layGet] at h
    cases hq : t.get l with
    | none =>
      rw [hq] at h
      exact (layGet_append A B l o h).imp (fun ⟨t', a, b⟩ => ⟨t', List.mem_cons_of_mem _ a, b⟩) id
    | some o' =>
      rw [hq] at h
      left
      refine ⟨t, by simp, o', hq, ?_, ?_⟩ <;> cases o' <;> first | rfl | (cases h; done) | exact (Option.some.inj h).symm

theorem layGet_shut : ∀ (A : List (Tr AO)) (l : Nat) (o : AO), layGet A l = some o → o.shut = o
  | [], l, o, h => by cases h
  | t :: A, l, o, h => by
    rcases layGet_append [t] A l o (by simpa using h) with ⟨_, _, o', _, _, rfl⟩ | h
    · exact AO.shut_shut o'
    · exact layGet_shut A l o h

theorem mem_xlay {bs : List Nat} {i : Nat} {t : Tr AO} : ∀ (ds : List (Nat × Tr AO)), t ∈ xlay bs i ds → ∃ k, (k, t) ∈ ds ∧ (bs.getD i 0).testBit k = true
  | [], h => by cases h
  | (k, u) :: ds, h => by
    simp only [xlay] at h
    split at h
    · rename_i hb
      rcases List.mem_cons.1 h with rfl | h
      · exact ⟨k, by simp, hb⟩
      · obtain ⟨k', a, b⟩ := mem_xlay ds h; exact ⟨k', List.mem_cons_of_mem _ a, b⟩
    · obtain ⟨k', a, b⟩ := mem_xlay ds h; exact ⟨k', List.mem_cons_of_mem _ a, b⟩

theorem foldl_union_some {l : Nat} {o : AO} : ∀ (ds : List (Nat × Tr AO)) (c : Tr AO), (ds.foldl (fun c p => c.union p.2) c).get l = some o → c.get l = some o ∨ ∃ p ∈ ds, p.2.get l = some o
  | [], c, h => .inl h
  | p :: ds, c, h => by
    simp only [List.foldl_cons] at h
    rcases foldl_union_some ds _ h with h | ⟨q, a, b⟩
    · rw [Tr.get_union] at h
      cases hq : p.2.get l with
      | none => rw [hq] at h; exact .inl h
      | some x => rw [hq] at h; exact .inr ⟨p, by simp, by rw [hq]; exact h⟩
    · exact .inr ⟨q, List.mem_cons_of_mem _ a, b⟩

theorem foldl_union_none {l : Nat} : ∀ (ds : List (Nat × Tr AO)) (c : Tr AO), (ds.foldl (fun c p => c.union p.2) c).get l = none → c.get l = none
  | [], c, h => h
  | p :: ds, c, h => by
    simp only [List.foldl_cons] at h
    have := foldl_union_none ds _ h
    rw [Tr.get_union] at this
    cases hq : p.2.get l with
    | none => rw [hq] at this; exact this
    | some x => rw [hq] at this; cases this

section
variable {P : Program} {T : TT} (hT : TT.Ok P T) {call : XCall} (hcall : CallOk P call) (hmx : P.follows .mixedOrders = true)
include hT hcall hmx

theorem xdraw_sound {n id : Nat} {ops : Array Oper} {f f' : Tr AV} {s s' : AS} {Q : Exit → Fr → AS → Prop} (h : xdraw T call n ops f s = some (f', s')) (hQ : Q .normal (xfr f') s') : AWp P n (.region id ops true) (xfr f) s Q := by
  unfold xdraw at h
  simp only at h
  generalize hbs : (Region.before ops).toList = bs at h
  generalize hm : tailFrom bs ops.size = m at h
  split at h
  · rename_i hok
    have hD := drawFacts hok
    split at h
    · rename_i f1 ds mx hx
      have htail : vcOps P T n ops (ops.toList.drop m) (xfr f1) { s with cur := ds.foldl (fun c p => c.union p.2) s.cur, nl := mx } (fun f s => Q .normal f s) := xops_sound hT hcall _ _ _ _ _ h hQ
      obtain ⟨tab, vw, h1, h2, h3, h4, h5, h6⟩ := xq_sound hT hcall (K := fun f => vcOps P T n ops (ops.toList.drop m) f { s with cur := ds.foldl (fun c p => c.union p.2) s.cur, nl := mx } (fun f s => Q .normal f s))
        (List.range m) f [] s.nl f1 ds mx List.nodup_range hx htail
      intro B γ a w hf hr
      have hle := hD.le
      refine wp_region_any hmx ?_
      have hr' : Rel B γ s w := hr
      have hmid : Mid B γ s w m tab (fun i => i < m ∧ i ∉ List.range m) γ { w with drawn := w.drawn + 1 } := (Mid.start hr' (fun i ⟨h1, h2⟩ => h2 (List.mem_range.2 h1))).of_heap rfl
      refine drawx_sound (P := P) (tab := tab) (vw := vw) (s := s) (Q := Q) (n := n) (sm := { s with cur := ds.foldl (fun c p => c.union p.2) s.cur, nl := mx }) hT hD hr' ?_ ?_ ops.size (List.range m) (Array.replicate ops.size false) (xfr f) γ a { w with drawn := w.drawn + 1 }
        List.pairwise_lt_range (fun i hi => List.mem_range.1 hi) ⟨by simp, fun i hi => ?_⟩ (by simp; omega) h1 hmid hf ?_
      · intro i v s' hi ht L hL hro
        obtain ⟨op, dsi, e, hdsi⟩ := h2 i (List.mem_range.2 hi) v s' ht
        rw [e]
        refine ⟨rfl, rfl, rfl, fun l o hl => ?_⟩
        simp only [xview] at hl
        split at hl
        · cases hl
        · rcases layGet_append _ _ l o hl with ⟨t, htm, o', g1, g2, g3⟩ | hl
          · obtain ⟨k, hk, hb⟩ := mem_xlay _ htm
            rcases hdsi _ hk with h | ⟨v2, s2, _, g4, g5⟩
            · cases h
            · have hanc : isAnc ops k i = true := by
                unfold isAnc
                rw [← hb, ← hbs]
                simp [List.getD_eq_getElem?_getD]
              have hLk := hL k hanc
              simp only at g5 g4
              subst g5
              exact ⟨o', .inr ⟨k, v2, s2, hLk, g4, g1, hro l o' k v2 s2 hLk g4 g1 g2⟩, g3⟩
          · cases hq : s.cur.get l with
            | none =>
              simp only [layGet, hq] at hl
              refine ⟨o, .inl ?_, (layGet_shut _ _ _ hl).symm⟩
              unfold AS.h
              rw [hq]
              exact hl
            | some x =>
              simp only [layGet, hq] at hl
              refine ⟨x, .inl (AS.h_cur hq ?_), ?_⟩ <;> cases x <;> first | rfl | (cases hl; done) | exact (Option.some.inj hl).symm
      · intro γ' w' hM
        refine hM.done hr' ?_ (fun l hl => foldl_union_none ds _ hl) ?_ ?_
        · intro l o hl
          rcases foldl_union_some ds _ hl with h | ⟨p, hp, h⟩
          · exact .inl h
          · rcases h3 p hp with h' | ⟨v2, s2, g1, g2, g3⟩
            · cases h'
            · exact .inr ⟨p.1, v2, s2, List.mem_range.1 g1, g2, by rw [← g3]; exact h⟩
        · rcases h6 with h | ⟨i, g1, v, s2, g2, g3⟩
          · exact .inl h
          · exact .inr ⟨i, v, s2, List.mem_range.1 g1, g2, g3⟩
        · exact fun i v s2 hi ht => .inl (h5 i (List.mem_range.2 hi) v s2 ht)
      · simp [Array.getD_eq_getD_getElem?, hi]
      · intro i o ho hl
        simp only [Array.getD_eq_getD_getElem?] at hl
        by_cases hi : i < ops.size
        · simp [hi] at hl
        · simp [hi] at hl
    · cases h
  · cases h
end

/-! ### A region that draws the order of operations that need no heap -/

theorem aop_pure {T : TT} {op : Op} (hq : pureOp op = true) {ρ : Operand → AV} {s s' : AS} {v : AV} (h : aop T op ρ s = some (v, s')) : s' = s ∧ ∀ t, aop T op ρ t = some (v, t) := by
  cases op <;> (first | (cases hq; done) | skip)
  all_goals (try simp only [aop] at h)
  all_goals (try simp only [aop])
  case binOp op t x y yt =>
    split at h
    · rename_i hg
      simp only [Option.map_eq_some_iff] at h
      obtain ⟨u, hu, e⟩ := h
      simp only [Prod.mk.injEq] at e
      exact ⟨e.2.symm, fun t => by rw [if_pos hg, hu, e.1]; rfl⟩
    · cases h
  all_goals first
    | (simp only [Option.map_eq_some_iff] at h ⊢; obtain ⟨u, hu, e⟩ := h; simp only [Prod.mk.injEq] at e; exact ⟨e.2.symm, fun t => ⟨u, hu, by rw [e.1]⟩⟩)
    | (split at h <;> first | (cases h; done) | (simp only [Option.some.injEq, Prod.mk.injEq] at h; obtain ⟨rfl, rfl⟩ := h; exact ⟨rfl, fun t => by simp_all⟩) | (simp only [Option.map_eq_some_iff] at h ⊢; obtain ⟨u, hu, e⟩ := h; simp only [Prod.mk.injEq] at e; exact ⟨e.2.symm, fun t => ⟨u, hu, by rw [e.1]⟩⟩))
    | (simp only [Option.some.injEq, Prod.mk.injEq] at h; obtain ⟨rfl, rfl⟩ := h; exact ⟨rfl, fun t => rfl⟩)

def pview (s : AS) (m i : Nat) : AS := { lay := [], cur := .E, nl := s.nl + i * s.st, st := m * s.st }

theorem pure_dqx {P : Program} {T : TT} {n : Nat} {ops : Array Oper} {s : AS} {K : Fr → AS → Prop} {m : Nat} (hp : ∀ i o, i < m → ops[i]? = some o → pureOp o.op = true) : ∀ (k a : Nat) (f : Fr), a + k = m → m ≤ ops.size → vcOps P T n ops (ops.toList.drop a) f s K →
    ∃ tab : Nat → Option (AV × AS), (∀ i v s', tab i = some (v, s') → s' = pview s m i) ∧ dqx P T n ops tab (pview s m) (fun f => vcOps P T n ops (ops.toList.drop m) f s K) (List.range' a k) f
  | 0, a, f, ha, hm, h => by
    obtain rfl : a = m := by omega
    exact ⟨fun _ => none, (fun i v s' h => nomatch h), h⟩
  | k + 1, a, f, ha, hm, h => by
    have hlt : a < ops.size := by omega
    have hdr : ops.toList.drop a = ops[a] :: ops.toList.drop (a + 1) := by
      rw [List.drop_eq_getElem_cons (by simpa using hlt)]; simp
    have hok : ops[a]? = some ops[a] := Array.getElem?_eq_getElem hlt
    rw [hdr] at h
    simp only [vcOps] at h
    have hpa := hp a _ (by omega) hok
    have hac : acallee f ops[a].op = none := by
      unfold acallee
      split
      · rename_i c hc; rw [hc] at hpa; cases hpa
      · rfl
    have ne : ∀ i ∈ List.range' (a + 1) k, i ≠ a := by
      intro i hi e
      rw [List.mem_range'] at hi
      obtain ⟨j, _, hj⟩ := hi
      omega
    split at h
    · rename_i hw
      obtain ⟨hd, h⟩ := h
      rw [hac] at h
      obtain ⟨v, s', hop, hk⟩ := h
      obtain ⟨rfl, hall⟩ := aop_pure hpa hop
      obtain ⟨tab, ht, hq⟩ := pure_dqx hp k (a + 1) _ (by omega) hm hk
      refine ⟨fun i => if i = a then some (v, pview s' m a) else tab i, fun i v' s'' h' => ?_, ?_⟩
      · simp only at h'
        split at h'
        · rename_i e
          simp only [Option.some.injEq, Prod.mk.injEq] at h'
          rw [← h'.2, e]
        · exact ht i v' s'' h'
      · simp only [List.range'_succ, dqx, hok]
        refine ⟨⟨hd, ?_⟩, ?_⟩
        · simp only [if_true]
          refine ⟨hw, ?_⟩
          unfold vcV
          rw [hac]
          exact ⟨v, _, hall _, rfl, rfl⟩
        · have : xval (fun i => if i = a then some (v, pview s' m a) else tab i) a = v := by simp [xval]
          rw [this]
          exact dqx_congr _ _ (fun i hi => ⟨if_neg (ne i hi), rfl⟩) hq
    · rename_i hw
      obtain ⟨hd, hk⟩ := h
      obtain ⟨tab, ht, hq⟩ := pure_dqx hp k (a + 1) _ (by omega) hm hk
      refine ⟨fun i => if i = a then none else tab i, fun i v' s'' h' => ?_, ?_⟩
      · simp only at h'
        split at h'
        · cases h'
        · exact ht i v' s'' h'
      · simp only [List.range'_succ, dqx, hok]
        refine ⟨⟨hd, ?_⟩, ?_⟩
        · simp only [if_true]; exact hw
        · have : xval (fun i => if i = a then none else tab i) a = .undef := by simp [xval]
          rw [this]
          exact dqx_congr _ _ (fun i hi => ⟨if_neg (ne i hi), rfl⟩) hq
    · exact h.elim

theorem AWp.drawp {P : Program} {T : TT} (hT : TT.Ok P T) (hmx : P.follows .mixedOrders = true) {n id : Nat} {ops : Array Oper} {f : Fr} {s : AS} {Q : Exit → Fr → AS → Prop} (m : Nat) (bs : List Nat)
    (hok : drawOk ops m [] bs = true) (hp : ((List.range m).all fun i => (ops[i]?).all fun o => pureOp o.op) = true) (h : vcOps P T n ops ops.toList f s fun f s => Q .normal f s) : AWp P n (.region id ops true) f s Q := by
  intro B γ a w hf hr
  have hD := drawFacts hok
  have hle := hD.le
  have hp' : ∀ i o, i < m → ops[i]? = some o → pureOp o.op = true := by
    intro i o hi ho
    have := List.all_eq_true.1 hp i (List.mem_range.2 hi)
    rw [ho] at this
    exact this
  obtain ⟨tab, ht, hq⟩ := pure_dqx (m := m) hp' m 0 f (by omega) hle (by simpa using h)
  rw [← List.range_eq_range'] at hq
  refine wp_region_any hmx ?_
  have hmid : Mid B γ s w m tab (fun i => i < m ∧ i ∉ List.range m) γ { w with drawn := w.drawn + 1 } := (Mid.start hr (fun i ⟨h1, h2⟩ => h2 (List.mem_range.2 h1))).of_heap rfl
  refine drawx_sound (P := P) (tab := tab) (vw := pview s m) (s := s) (Q := Q) (n := n) (sm := s) hT hD hr ?_ ?_ ops.size (List.range m) (Array.replicate ops.size false) f γ a { w with drawn := w.drawn + 1 }
    List.pairwise_lt_range (fun i hi => List.mem_range.1 hi) ⟨by simp, fun i hi => ?_⟩ (by simp; omega) hq hmid hf ?_
  · intro i v s' hi ht L hL hro
    exact ⟨rfl, rfl, rfl, fun l o hl => by cases hl⟩
  · intro γ' w' hM
    have := hM.done hr (c := s.cur) (nl := s.nl) (fun l o hl => .inl hl) (fun l hl => hl) (.inl rfl) (fun i v s' hi h => by rw [ht i v s' h]; exact .inr rfl)
    exact this
  · simp [Array.getD_eq_getD_getElem?, hi]
  · intro i o ho hl
    simp only [Array.getD_eq_getD_getElem?] at hl
    by_cases hi : i < ops.size
    · simp [hi] at hl
    · simp [hi] at hl

/-- a region that draws the order of what needs no heap, then the rest -/
theorem AWp.seq_drawp {P : Program} {T : TT} (hT : TT.Ok P T) (hmx : P.follows .mixedOrders = true) {n id : Nat} {ops : Array Oper} {y : Code} {f : Fr} {s : AS} {Q : Exit → Fr → AS → Prop} (m : Nat) (bs : List Nat)
    (hok : drawOk ops m [] bs = true) (hp : ((List.range m).all fun i => (ops[i]?).all fun o => pureOp o.op) = true) (h : ∀ K : Fr → AS → Prop, (∀ f s, AWp P n y f s Q → K f s) → vcOps P T n ops ops.toList f s K) : AWp P n (.seq (.region id ops true) y) f s Q :=
  AWp.seq (AWp.drawp hT hmx m bs hok hp (h _ fun _ _ h => h))

theorem AWp.seq_no {P : Program} {n : Nat} {c : Operand} {x z : Code} {f : Fr} {s : AS} {Q : Exit → Fr → AS → Prop} (hc : aev f c = .bool false) (h : AWp P n z f s Q) : AWp P n (.seq (.cond c x .skip) z) f s Q :=
  AWp.seq (AWp.cond (t := false) hc (AWp.skip h))
theorem AWp.seq_yes {P : Program} {n : Nat} {c : Operand} {x y z : Code} {f : Fr} {s : AS} {Q : Exit → Fr → AS → Prop} (hc : aev f c = .bool true) (h : AWp P n x f s (XThen (fun f s => AWp P n z f s Q) Q)) : AWp P n (.seq (.cond c x y) z) f s Q :=
  AWp.seq (AWp.cond (t := true) hc h)
theorem AWp.seq_region_if {P : Program} {T : TT} (hT : TT.Ok P T) {n id : Nat} {ops : Array Oper} {c : Operand} {x y z : Code} {f : Fr} {s : AS} {Q : Exit → Fr → AS → Prop}
    (h : ∀ K : Fr → AS → Prop, (∀ f s t, aev f c = .bool t → AWp P n (if t then x else y) f s (XThen (fun f s => AWp P n z f s Q) Q) → K f s) → vcOps P T n ops ops.toList f s K) : AWp P n (.seq (.seq (.region id ops false) (.cond c x y)) z) f s Q := by
  refine AWp.seq (AWp.seq (AWp.region hT (h _ fun f s t hc hh => ?_)))
  exact AWp.cond hc hh
/-- the same, at the end of a code -/
theorem AWp.region_if {P : Program} {T : TT} (hT : TT.Ok P T) {n id : Nat} {ops : Array Oper} {c : Operand} {x y : Code} {f : Fr} {s : AS} {Q : Exit → Fr → AS → Prop}
    (h : ∀ K : Fr → AS → Prop, (∀ f s t, aev f c = .bool t → AWp P n (if t then x else y) f s Q → K f s) → vcOps P T n ops ops.toList f s K) : AWp P n (.seq (.region id ops false) (.cond c x y)) f s Q := by
  refine AWp.seq (AWp.region hT (h _ fun f s t hc hh => ?_))
  exact AWp.cond hc hh
theorem AWp.ret1' {P : Program} {T : TT} {n : Nat} {f : Fr} {s : AS} {R : AV → AS → Prop} {a : Nat} {K : Fr → AS → Prop} (h : R (f a) s) : AWp P n .ret f s (XThen K (XRet T [.tmp a] R)) :=
  AWp.ret ⟨f a, rfl, h⟩
end Go.Am
