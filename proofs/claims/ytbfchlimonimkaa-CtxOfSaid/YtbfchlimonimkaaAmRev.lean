/-
  The abstract machine Am: functions that the model itself answers; a slice whose room is laid open for a call, and shut behind it.
-/
import Derived.Test.YtbfchlimonimkaaAmPre
import Derived.Lib.Overlaps
set_option linter.unusedSectionVars false
set_option linter.unusedSimpArgs false
set_option linter.unusedVariables false
namespace Go.Am

theorem ACalls.extern {P : Program} {g : FuncId} {fn : Func} {e : Array Value → Sem Value} (hf : P.funcs[g]? = some fn) (hname : (fn.name == "runtime.NumGoroutine") = false) (hb : fn.body.isNone = true) (hn : Extern.findNext fn = none) (he : Extern.find fn = some e)
    {args : List AV} {s : AS} {R : AV → AS → Prop} (h : ∀ (B : Nat) (γ : Gam) (cargs : Array Value) (w : World), VRels γ args cargs.toList → Rel B γ s w →
      ∃ γ' v cv s' w', (e cargs).run P w = .ok cv w' ∧ VRel γ' v cv ∧ Did B γ s w γ' s' w' ∧ Rel B γ' s' w' ∧ R v s') : ACalls P g args s R := by
  intro B γ cargs w h1 h2
  obtain ⟨γ', v, cv, s', w', hr, hv, hd, hr', hR⟩ := h B γ cargs w h1 h2
  refine .inr ⟨cv, w', ?_, γ', v, cv, s', rfl, hv, hd, hr', hR⟩
  rw [run_callFunc_extern hf hname hb hn he, hr]
  rfl

/-- slices.overlaps, at two blocks -/
theorem acalls_overlaps {P : Program} {T : TT} (hT : TT.Ok P T) {g : FuncId} {fn : Func} {t tR elem : TypeId} {size : Nat} (hf : P.funcs[g]? = some fn) (hname : (fn.name == "runtime.NumGoroutine") = false) (hb : fn.body.isNone = true) (hn : Extern.findNext fn = none)
    (he : Extern.find fn = some (Extern.SlicesOverlaps.overlaps #[t, t] #[tR])) (hu : T.und t = some (.slice elem)) (hs : T.siz elem = some size)
    {s : AS} {la oa na ca lb ob nb cb : Nat} {ea eb : Bool} {csa csb : List AV} {ga gb : Nat} {rb : Bool} (ha : s.h la = some (.cells csa ga false)) (hg : ga ≠ 1) (hb' : s.h lb = some (.cells csb gb rb)) (hnb : csb ≠ []) (hne : la ≠ lb) :
    ACalls P g [.slc (some (la, oa)) na ca ea, .slc (some (lb, ob)) nb cb eb] s fun v s' => v = .bool false ∧ s' = s := by
  refine ACalls.extern hf hname hb hn he ?_
  intro B γ cargs w hargs hr
  obtain ⟨c1, r1, e1, h1, hargs⟩ := VRels.cons_iff.1 hargs
  obtain ⟨c2, r2, rfl, h2, hargs⟩ := VRels.cons_iff.1 hargs
  obtain rfl := VRels.nil_iff.1 hargs
  simp only [VRel] at h1 h2
  obtain ⟨ia, hia, rfl⟩ := h1
  obtain ⟨ib, hib, rfl⟩ := h2
  have hca : cargs = #[.slice (some ⟨ia.b, ia.d + oa, none⟩) na (if ea then ca else ca + ia.x), .slice (some ⟨ib.b, ib.d + ob, none⟩) nb (if eb then cb else cb + ib.x)] := by
    apply Array.ext'; rw [e1]
  subst hca
  obtain ⟨ja, hja, hOa, _⟩ := hr.obj la _ ha
  rw [hia] at hja; obtain rfl := Option.some.inj hja
  obtain ⟨jb, hjb, hOb, _⟩ := hr.obj lb _ hb'
  rw [hib] at hjb; obtain rfl := Option.some.inj hjb
  have hblk : ia.b ≠ ib.b := fun e => hne (hr.inj la lb _ _ ia ib ha hb' rfl hia hib e)
  obtain ⟨cA, eA, fzA, hA, _, _, _, hfz⟩ := hOa
  obtain ⟨cB, eB, fzB, hB, hBc, _⟩ := hOb
  obtain rfl := hfz rfl hg
  have hkB : cB.size ≠ 0 := by
    cases csb with
    | nil => exact absurd rfl hnb
    | cons x xs =>
      obtain ⟨_, cv, hcv, _⟩ := hBc 0 x rfl
      intro h0
      rw [Array.getElem?_eq_none (by omega)] at hcv
      cases hcv
  refine ⟨γ, .bool false, .bool false, s, w, ?_, by simp [VRel], Did.refl, hr, rfl, rfl⟩
  exact Lib.run_overlaps_apart w t tR elem (hT.und t _ hu) size (run_sizeOf hT hs) _ _ _ _ _ _ hblk eA eB cA.size cB.size (by simp [World.shape?, hA]) (by simp [World.shape?, hB]) hkB (by simp [World.frozen?, hA]) (by simp [World.frozen?, hA])

/-- what is not needed is forgotten; one object gets another name -/
theorem forgetL {B : Nat} {γ γ' : Gam} {s s' s'' : AS} {w w' : World} (hd : Did B γ s w γ' s' w') (hr : Rel B γ' s' w') {F L : Nat} {O O' : AO} {i i2 : CI}
    (hsub : ∀ k o, k ≠ F → s''.h k = some o → s'.h k = some o) (hF : s''.h F = some O) (hL : s'.h L = some O') (hro : O.ro = false) (hro' : O'.ro = false) (hdrop : L = F ∨ s''.h L = none) (hi : γ' L = some i) (hib : i2.b = i.b) (hO : ORel γ' w' i2 O)
    (hnl : ∃ k, F = s'.nl + k * s.st) (hst : s''.st = s.st) (hnl2 : s''.nl = F + s.st) (hlay : s''.lay = s.lay) (hsld : ∀ l o, s''.cur.get l = some o → o.live = true → o.ro = true → s.cur.get l = some o) :
    Rel B (updG γ' F i2) s'' w' ∧ Did B γ s w (updG γ' F i2) s'' w' := by
  obtain ⟨k, hk⟩ := hnl
  have hst' := hd.st
  have hFn : γ' F = none := by rw [hk, ← hst']; exact hr.fin k
  have hle : Gam.le γ' (updG γ' F i2) := Gam.le_upd hFn
  have hst1 : 1 ≤ s.st := by rw [← hst']; exact hr.stp
  have hFs : ∃ k, F = s.nl + k * s.st := by
    obtain ⟨k', hk'⟩ := hd.nl
    exact ⟨k' + k, by rw [hk, hk', Nat.add_mul, Nat.add_assoc]⟩
  have gk : ∀ x j, x ≠ F → updG γ' F i2 x = some j → γ' x = some j := by
    intro x j hx h
    simpa [updG, hx] using h
  refine ⟨⟨fun x p hp => ?_, fun x y p q a b hp hq hpr ha hb hab => ?_, fun j => ?_, by rw [hst]; exact hst1, hr.base⟩,
    ⟨Gam.le_trans hd.le hle, hd.frm, hd.siz, fun x p a hp hpr ha => ?_, ?_, hst, hlay, fun x h1 h2 => ?_, hsld, hd.env⟩⟩
  · by_cases hx : x = F
    · subst hx
      rw [hF] at hp; obtain rfl := Option.some.inj hp
      refine ⟨i2, updG_same _ _ _, hO.mono hle, fun _ => ?_⟩
      obtain ⟨j, hj, _, hB⟩ := hr.obj L O' hL
      rw [hi] at hj; obtain rfl := Option.some.inj hj
      rw [hib]; exact hB hro'
    · obtain ⟨j, hj, hOj, hB⟩ := hr.obj x p (hsub x p hx hp)
      exact ⟨j, hle _ _ hj, hOj.mono hle, hB⟩
  · by_cases hx : x = F <;> by_cases hy : y = F
    · rw [hx, hy]
    · exfalso
      subst hx
      rw [updG_same] at ha; obtain rfl := Option.some.inj ha
      have hb' := gk y b hy hb
      have := hr.inj L y O' q i b hL (hsub y q hy hq) hro' hi hb' (by rw [← hib]; exact hab)
      subst this
      rcases hdrop with h | h
      · exact hy h
      · rw [h] at hq; cases hq
    · exfalso
      subst hy
      rw [updG_same] at hb; obtain rfl := Option.some.inj hb
      have ha' := gk x a hx ha
      have := hr.inj x L p O' a i (hsub x p hx hp) hL hpr ha' hi (by rw [← hib]; exact hab)
      subst this
      rcases hdrop with h | h
      · exact hx h
      · rw [h] at hp; cases hp
    · exact hr.inj x y p q a b (hsub x p hx hp) (hsub y q hy hq) hpr (gk x a hx ha) (gk y b hy hb) hab
  · rw [hnl2, hst]
    have e : F + s.st + j * s.st = s'.nl + (k + (j + 1)) * s.st := by rw [hk, Nat.add_mul, Nat.add_mul, Nat.one_mul]; omega
    simp only [updG]
    rw [if_neg (by omega), e, ← hst']
    exact hr.fin _
  · by_cases hx : x = F
    · subst hx
      rw [updG_same] at ha; obtain rfl := Option.some.inj ha
      rw [hib]
      exact hd.new L O' i hL hro' hi
    · exact hd.new x p a (hsub x p hx hp) hpr (gk x a hx ha)
  · obtain ⟨k', hk'⟩ := hFs
    exact ⟨k' + 1, by rw [hnl2, hk', Nat.add_mul, Nat.one_mul, Nat.add_assoc]⟩
  · by_cases hx : x = F
    · rw [hx]; exact hFs
    · exact hd.dom x h1 (by simpa [updG, hx] using h2)

/-- the state behind a call that gives one row of cells -/
def AS.gave (s : AS) (l K : Nat) (o : AO) : AS := { s with cur := (s.cur.set l .dead).set (s.nl + K * s.st) o, nl := s.nl + K * s.st + s.st }

theorem AS.gave_h (s : AS) (l K : Nat) {o : AO} (ho : o.live = true) (x : Nat) : (s.gave l K o).h x = if x = s.nl + K * s.st then some o else if x = l then none else s.h x := by
  have h1 : (s.gave l K o).h x = ((s.kill l).put (s.nl + K * s.st) o).h x := rfl
  rw [h1, AS.put_h _ _ ho, AS.kill_h]

/-- A slice whose room is not known: its room is laid open for the call, and shut behind it. -/
theorem ACalls.reveal {P : Program} {g : FuncId} {l o len cap n K sz : Nat} {cs cs' : List AV} {post : List AV} {s : AS} (hl : s.h l = some (.cells cs sz false)) (hsz : sz ≠ 0) (hend : o + cap * sz = cs.length)
    (h : ∀ x js, js.length = x * sz → js.all AV.one = true → (∀ k, s.h (s.nl + k * s.st) = none) → ACalls P g (.slc (some (s.nl, o)) len (cap + x) true :: post) ((s.kill l).new (.cells (cs ++ js) sz false)) fun v s' =>
      (∃ k, k ≤ K ∧ s'.nl = s.nl + k * s.st) ∧ (∀ k ob, k ≠ l → s.h k = some ob → s'.h k = some ob) ∧
      ((v = .slc (some (s.nl, o)) n (cap + x) true ∧ n ≤ cap + x ∧ ∃ cs2, s'.h s.nl = some (.cells cs2 sz false) ∧ cs2.length = cs.length + x * sz ∧ (cs2.drop o).take (n * sz) = cs') ∨
       (∃ L, v = .slc (some (L, 0)) n n false ∧ s.h L = none ∧ s'.h L = some (.cells cs' sz false) ∧ cs'.length = n * sz))) :
    ACalls P g (.slc (some (l, o)) len cap false :: post) s fun v s' => v = .slc (some (s.nl + K * s.st, 0)) n n false ∧ s' = s.gave l K (.cells cs' sz false) := by
  intro B γ cargs w hargs hr
  obtain ⟨i, hi, hO, hB⟩ := hr.obj l _ hl
  obtain ⟨c, e, fz, hb, hc, hf, hg, hf0⟩ := hO
  obtain ⟨hgs, hgt⟩ := hg hsz
  -- what the room holds
  have hjs : ∀ j : Fin (i.x * sz), ∃ v, v.one = true ∧ ∃ cv, c[i.d + cs.length + j.1]? = some cv ∧ VRel γ v cv := by
    intro j
    obtain ⟨v, cv, h1, h2, h3⟩ := hgt (i.d + cs.length + j.1) (by omega) (by have := j.2; omega)
    exact ⟨v, h1, cv, h2, h3⟩
  let js : List AV := List.ofFn fun j => Classical.choose (hjs j)
  have hjl : js.length = i.x * sz := by simp [js]
  have hjg : ∀ (k : Nat) v, js[k]? = some v → v.one = true ∧ ∃ cv, c[i.d + cs.length + k]? = some cv ∧ VRel γ v cv := by
    intro k v hk
    have hkl : k < i.x * sz := by
      rcases Nat.lt_or_ge k (i.x * sz) with h | h
      · exact h
      · rw [List.getElem?_eq_none (by omega)] at hk; cases hk
    have : js[k]? = some (Classical.choose (hjs ⟨k, hkl⟩)) := by simp [js, List.getElem?_ofFn, hkl]
    rw [this] at hk; obtain rfl := Option.some.inj hk
    exact Classical.choose_spec (hjs ⟨k, hkl⟩)
  have hj1 : js.all AV.one = true := by
    rw [List.all_eq_true]
    intro v hv
    obtain ⟨k, hk⟩ := List.mem_iff_getElem?.1 hv
    exact (hjg k v hk).1
  -- its new name
  have hle : Gam.le γ (updG γ s.nl ⟨i.b, i.d, 0⟩) := Gam.le_upd hr.fin0
  have hO' : ORel (updG γ s.nl ⟨i.b, i.d, 0⟩) w ⟨i.b, i.d, 0⟩ (.cells (cs ++ js) sz false) := by
    refine ⟨c, e, fz, hb, fun k v hk => ?_, hf, fun _ => ⟨by simp only [List.length_append, hjl]; omega, fun k h1 h2 => ?_⟩, hf0⟩
    · rw [List.getElem?_append] at hk
      split at hk
      · obtain ⟨h1, cv, h2, h3⟩ := hc k v hk
        exact ⟨h1, cv, h2, h3.mono hle⟩
      · obtain ⟨h1, cv, h2, h3⟩ := hjg _ v hk
        exact ⟨h1, cv, by rw [← h2]; simp only; congr 1; omega, h3.mono hle⟩
    · simp only [List.length_append, hjl] at h1
      omega
  have hw0 : w.heap = w.heap.setIfInBounds i.b (.cells c e fz) := by
    apply Array.ext_getElem?
    intro k
    rw [Array.getElem?_setIfInBounds]
    have hb' := ORel.lt (γ := γ) (o := .cells cs sz false) ⟨c, e, fz, hb, hc, hf, hg, hf0⟩
    by_cases hk : i.b = k
    · subst hk; rw [if_pos rfl, if_pos hb', hb]
    · rw [if_neg hk]
  obtain ⟨hr1, hd1⟩ := hr.take (w' := w) hl rfl rfl hi (i' := ⟨i.b, i.d, 0⟩) (o' := .cells (cs ++ js) sz false) rfl hw0 hO'
  obtain ⟨c1, r1, e1, h1, hargs'⟩ := VRels.cons_iff.1 hargs
  simp only [VRel, Bool.false_eq_true, if_false] at h1
  obtain ⟨i', hi', rfl⟩ := h1
  rw [hi] at hi'; obtain rfl := Option.some.inj hi'
  have hnone : ∀ k, s.h (s.nl + k * s.st) = none := by
    intro k
    cases hq : s.h (s.nl + k * s.st) with
    | none => rfl
    | some p =>
      obtain ⟨j, hj, _⟩ := hr.obj _ p hq
      rw [hr.fin k] at hj; cases hj
  have hargs2 : VRels (updG γ s.nl ⟨i.b, i.d, 0⟩) (.slc (some (s.nl, o)) len (cap + i.x) true :: post) cargs.toList := by
    rw [e1]
    exact VRels.cons (by simp only [VRel]; exact ⟨_, updG_same _ _ _, by simp⟩) (hargs'.mono hle)
  refine (h i.x js hjl hj1 hnone B _ cargs w hargs2 hr1).mono ?_
  rintro e w' ⟨γ', v, cv, s', rfl, hv, hd, hr', ⟨k, hkK, hnl⟩, hkeep, hend'⟩
  have hd' := hd1.trans hd
  have hγ' : γ' s.nl = some ⟨i.b, i.d, 0⟩ := hd.le _ _ (updG_same _ _ _)
  have hFnl : ∃ k, s.nl + K * s.st = s'.nl + k * s.st := ⟨K - k, by rw [hnl, Nat.add_assoc, ← Nat.add_mul]; congr 2; omega⟩
  have hFn : s.h (s.nl + K * s.st) = none := hnone K
  have hsub : ∀ x ob, x ≠ s.nl + K * s.st → (s.gave l K (.cells cs' sz false)).h x = some ob → s'.h x = some ob := by
    intro x ob hx hob
    rw [AS.gave_h _ _ _ rfl, if_neg hx] at hob
    split at hob
    · cases hob
    · rename_i hxl; exact hkeep x ob hxl hob
  have hsld : ∀ x ob, (s.gave l K (.cells cs' sz false)).cur.get x = some ob → ob.live = true → ob.ro = true → s.cur.get x = some ob := by
    intro x ob hob h1 h2
    simp only [AS.gave, Tr.get_set] at hob
    split at hob
    · obtain rfl := Option.some.inj hob; cases h2
    · split at hob
      · obtain rfl := Option.some.inj hob; cases h1
      · exact hob
  have hF : (s.gave l K (.cells cs' sz false)).h (s.nl + K * s.st) = some (.cells cs' sz false) := by rw [AS.gave_h _ _ _ rfl, if_pos rfl]
  rcases hend' with ⟨rfl, hn, cs2, hL, hl2, hcs'⟩ | ⟨L, rfl, hsL, hL, hlen⟩
  · obtain ⟨j, hj, hOj, _⟩ := hr'.obj s.nl _ hL
    rw [hγ'] at hj; obtain rfl := Option.some.inj hj
    obtain ⟨c2, e2, fz2, hb2, hc2, hf2, hg2, hf02⟩ := hOj
    obtain ⟨hgs2, _⟩ := hg2 hsz
    simp only at hb2 hc2 hgs2
    have hmul : n * sz ≤ (cap + i.x) * sz := Nat.mul_le_mul_right _ hn
    have hmul2 : (cap + i.x) * sz = cap * sz + i.x * sz := Nat.add_mul _ _ _
    have hmul3 : (cap + i.x - n) * sz = (cap + i.x) * sz - n * sz := Nat.mul_sub_right_distrib _ _ _
    have hlen' : cs'.length = n * sz := by rw [← hcs', List.length_take, List.length_drop]; omega
    have hO2 : ORel γ' w' ⟨i.b, i.d + o, cap + i.x - n⟩ (.cells cs' sz false) := by
      refine ⟨c2, e2, fz2, hb2, fun k v hk => ?_, hf2, fun _ => ⟨by simp only; omega, fun k h1 h2 => ?_⟩, hf02⟩
      · rw [← hcs', List.getElem?_take, List.getElem?_drop] at hk
        split at hk
        · obtain ⟨h1, cv, h2, h3⟩ := hc2 _ v hk
          exact ⟨h1, cv, by rw [← h2]; simp only; congr 1; omega, h3⟩
        · cases hk
      · simp only at h1
        obtain ⟨h3, cv, h4, h5⟩ := hc2 (k - i.d) _ (List.getElem?_eq_getElem (show k - i.d < cs2.length by omega))
        exact ⟨_, cv, h3, by rw [← h4]; congr 1; omega, h5⟩
    have hdrop : s.nl = s.nl + K * s.st ∨ (s.gave l K (.cells cs' sz false)).h s.nl = none := by
      by_cases hq : s.nl = s.nl + K * s.st
      · exact .inl hq
      · right
        rw [AS.gave_h _ _ _ rfl, if_neg hq]
        split
        · rfl
        · have := hnone 0; simpa using this
    obtain ⟨g1, g2⟩ := forgetL (s'' := s.gave l K (.cells cs' sz false)) hd' hr' (F := s.nl + K * s.st) (L := s.nl) hsub hF hL rfl rfl hdrop hγ' (i2 := ⟨i.b, i.d + o, cap + i.x - n⟩) rfl hO2 hFnl rfl rfl rfl hsld
    simp only [VRel, if_true] at hv
    obtain ⟨i3, hi3, rfl⟩ := hv
    rw [hγ'] at hi3; obtain rfl := Option.some.inj hi3
    refine ⟨_, _, _, _, rfl, ?_, g2, g1, rfl, rfl⟩
    simp only [VRel]
    refine ⟨_, updG_same _ _ _, ?_⟩
    simp only [Bool.false_eq_true, if_false, Nat.add_zero]
    rw [show n + (cap + i.x - n) = cap + i.x by omega]
  · obtain ⟨j, hj, hOj, _⟩ := hr'.obj L _ hL
    have hdrop : L = s.nl + K * s.st ∨ (s.gave l K (.cells cs' sz false)).h L = none := by
      by_cases hq : L = s.nl + K * s.st
      · exact .inl hq
      · right
        rw [AS.gave_h _ _ _ rfl, if_neg hq]
        split
        · rfl
        · exact hsL
    obtain ⟨g1, g2⟩ := forgetL (s'' := s.gave l K (.cells cs' sz false)) hd' hr' (F := s.nl + K * s.st) (L := L) hsub hF hL rfl rfl hdrop hj (i2 := j) rfl hOj hFnl rfl rfl rfl hsld
    simp only [VRel, Bool.false_eq_true, if_false] at hv
    obtain ⟨i3, hi3, rfl⟩ := hv
    rw [hj] at hi3; obtain rfl := Option.some.inj hi3
    refine ⟨_, _, _, _, rfl, ?_, g2, g1, rfl, rfl⟩
    simp only [VRel]
    exact ⟨_, updG_same _ _ _, by simp⟩

end Go.Am
