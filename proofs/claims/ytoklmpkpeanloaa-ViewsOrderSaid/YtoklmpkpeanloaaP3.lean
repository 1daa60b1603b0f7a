/-
  A part of the proof: an abstract machine over the model, and contracts of functions of this program over it.
-/
import Derived.Lib.Overlaps
import Derived.OpenShut
import Derived.Deep.Slices
import Derived.Carry
import Derived.RangeFuncSeq
import Derived.RangeFuncCalls
import Derived.TacticsIn
import GoSem.Extern.MapsClone
import Derived.Test.YtoklmpkpeanloaaP2
set_option linter.unusedVariables false
set_option linter.unusedSimpArgs false
set_option linter.unusedSectionVars false
section
namespace Go.Am
theorem ACalls.extern {P : Program} {g : FuncId} {fn : Func} {e : Array Value → Sem Value} (hf : P.funcs[g]? = some fn) (hname : (fn.name == "runtime.NumGoroutine") = false) (hb : fn.body.isNone = true) (hn : Extern.findNext fn = none) (he : Extern.find fn = some e)
  {args : List AV} {s : AS} {R : AV → AS → Prop} (h : ∀ (B : Nat) (γ : Gam) (cargs : Array Value) (w : World), VRels γ args cargs.toList → Rel B γ s w →
   ∃ γ' v cv s' w', (e cargs).run P w = .ok cv w' ∧ VRel γ' v cv ∧ Did B γ s w γ' s' w' ∧ Rel B γ' s' w' ∧ R v s') : ACalls P g args s R := by
 intro B γ cargs w h1 h2
 obtain ⟨γ', v, cv, s', w', hr, hv, hd, hr', hR⟩ := h B γ cargs w h1 h2
 refine .inr ⟨cv, w', ?_, γ', v, cv, s', rfl, hv, hd, hr', hR⟩
 rw [run_callFunc_extern hf hname hb hn he, hr]
 rfl
theorem acalls_overlaps {P : Program} {T : TT} (hT : TT.Ok P T) {g : FuncId} {fn : Func} {t tR elem : TypeId} {size : Nat} (hf : P.funcs[g]? = some fn) (hname : (fn.name == "runtime.NumGoroutine") = false) (hb : fn.body.isNone = true) (hn : Extern.findNext fn = none)
  (he : Extern.find fn = some (Extern.SlicesOverlaps.overlaps #[t, t] #[tR])) (hu : T.und t = some (.slice elem)) (hs : T.siz elem = some size)
  {s : AS} {la oa na ca lb ob nb cb : Nat} {ea eb : Bool} {csa csb : List AV} {ga gb : Nat} {rb : Bool} (ha : s.h la = some (.cells csa ga false)) (hg : ga ≠ 1) (hb' : s.h lb = some (.cells csb gb rb)) (hnb : csb ≠ []) (hne : la ≠ lb) :
  ACalls P g [.slc (some (la, oa)) na ca ea, .slc (some (lb, ob)) nb cb eb] s fun v s' => v = .bool false ∧ s' = s := by
 refine ACalls.extern hf hname hb hn he ?_
 intro B γ cargs w hargs hr
 obtain ⟨c1, r1, e1, h1, hargs⟩ := VRels.cons_iff.1 hargs
 obtain ⟨c2, r2, rfl, h2, hargs⟩ := VRels.cons_iff.1 hargs
 obtain rfl := VRels.nil_iff.1 hargs
 simp only [VRel] at h1 h2
 obtain ⟨ia, hia, rfl⟩ := h1
 obtain ⟨ib, hib, rfl⟩ := h2
 have hca : cargs = #[.slice (some ⟨ia.b, ia.d + oa, none⟩) na (if ea then ca else ca + ia.x), .slice (some ⟨ib.b, ib.d + ob, none⟩) nb (if eb then cb else cb + ib.x)] := by
  apply Array.ext'; rw [e1]
 subst hca
 obtain ⟨ja, hja, hOa, _⟩ := hr.obj la _ ha
 rw [hia] at hja; obtain rfl := Option.some.inj hja
 obtain ⟨jb, hjb, hOb, _⟩ := hr.obj lb _ hb'
 rw [hib] at hjb; obtain rfl := Option.some.inj hjb
 have hblk : ia.b ≠ ib.b := fun e => hne (hr.inj la lb _ _ ia ib ha hb' rfl hia hib e)
 obtain ⟨cA, eA, fzA, hA, _, _, _, hfz⟩ := hOa
 obtain ⟨cB, eB, fzB, hB, hBc, _⟩ := hOb
 obtain rfl := hfz rfl hg
 have hkB : cB.size ≠ 0 := by
  cases csb with
  | nil => exact absurd rfl hnb
  | cons x xs =>
   obtain ⟨_, cv, hcv, _⟩ := hBc 0 x rfl
   intro h0
   rw [Array.getElem?_eq_none (by omega)] at hcv
   cases hcv
 refine ⟨γ, .bool false, .bool false, s, w, ?_, by simp [VRel], Did.refl, hr, rfl, rfl⟩
 exact Lib.run_overlaps_apart w t tR elem (hT.und t _ hu) size (run_sizeOf hT hs) _ _ _ _ _ _ hblk eA eB cA.size cB.size (by simp [World.shape?, hA]) (by simp [World.shape?, hB]) hkB (by simp [World.frozen?, hA]) (by simp [World.frozen?, hA])
theorem forgetL {B : Nat} {γ γ' : Gam} {s s' s'' : AS} {w w' : World} (hd : Did B γ s w γ' s' w') (hr : Rel B γ' s' w') {F L : Nat} {O O' : AO} {i i2 : CI}
  (hsub : ∀ k o, k ≠ F → s''.h k = some o → s'.h k = some o) (hF : s''.h F = some O) (hL : s'.h L = some O') (hro : O.ro = false) (hro' : O'.ro = false) (hdrop : L = F ∨ s''.h L = none) (hi : γ' L = some i) (hib : i2.b = i.b) (hO : ORel γ' w' i2 O)
  (hnl : ∃ k, F = s'.nl + k * s.st) (hst : s''.st = s.st) (hnl2 : s''.nl = F + s.st) (hlay : s''.lay = s.lay) (hsld : ∀ l o, s''.cur.get l = some o → o.live = true → o.ro = true → s.cur.get l = some o) :
  Rel B (updG γ' F i2) s'' w' ∧ Did B γ s w (updG γ' F i2) s'' w' := by
 obtain ⟨k, hk⟩ := hnl
 have hst' := hd.st
 have hFn : γ' F = none := by rw [hk, ← hst']; exact hr.fin k
 have hle : Gam.le γ' (updG γ' F i2) := Gam.le_upd hFn
 have hst1 : 1 ≤ s.st := by rw [← hst']; exact hr.stp
 have hFs : ∃ k, F = s.nl + k * s.st := by
  obtain ⟨k', hk'⟩ := hd.nl
  exact ⟨k' + k, by rw [hk, hk', Nat.add_mul, Nat.add_assoc]⟩
 have gk : ∀ x j, x ≠ F → updG γ' F i2 x = some j → γ' x = some j := by
  intro x j hx h
  simpa [updG, hx] using h
 refine ⟨⟨fun x p hp => ?_, fun x y p q a b hp hq hpr ha hb hab => ?_, fun j => ?_, by rw [hst]; exact hst1, hr.base⟩,
  ⟨Gam.le_trans hd.le hle, hd.frm, hd.siz, fun x p a hp hpr ha => ?_, ?_, hst, hlay, fun x h1 h2 => ?_, hsld, hd.env⟩⟩
 ·by_cases hx : x = F
  ·subst hx
   rw [hF] at hp; obtain rfl := Option.some.inj hp
   refine ⟨i2, updG_same _ _ _, hO.mono hle, fun _ => ?_⟩
   obtain ⟨j, hj, _, hB⟩ := hr.obj L O' hL
   rw [hi] at hj; obtain rfl := Option.some.inj hj
   rw [hib]; exact hB hro'
  ·obtain ⟨j, hj, hOj, hB⟩ := hr.obj x p (hsub x p hx hp)
   exact ⟨j, hle _ _ hj, hOj.mono hle, hB⟩
 ·by_cases hx : x = F <;> by_cases hy : y = F
  ·rw [hx, hy]
  ·exfalso
   subst hx
   rw [updG_same] at ha; obtain rfl := Option.some.inj ha
   have hb' := gk y b hy hb
   have := hr.inj L y O' q i b hL (hsub y q hy hq) hro' hi hb' (by rw [← hib]; exact hab)
   subst this
   rcases hdrop with h | h
   ·exact hy h
   ·rw [h] at hq; cases hq
  ·exfalso
   subst hy
   rw [updG_same] at hb; obtain rfl := Option.some.inj hb
   have ha' := gk x a hx ha
   have := hr.inj x L p O' a i (hsub x p hx hp) hL hpr ha' hi (by rw [← hib]; exact hab)
   subst this
   rcases hdrop with h | h
   ·exact hx h
   ·rw [h] at hp; cases hp
  ·exact hr.inj x y p q a b (hsub x p hx hp) (hsub y q hy hq) hpr (gk x a hx ha) (gk y b hy hb) hab
 ·rw [hnl2, hst]
  have e : F + s.st + j * s.st = s'.nl + (k + (j + 1)) * s.st := by rw [hk, Nat.add_mul, Nat.add_mul, Nat.one_mul]; omega
  simp only [updG]
  rw [if_neg (by omega), e, ← hst']
  exact hr.fin _
 ·by_cases hx : x = F
  ·subst hx
   rw [updG_same] at ha; obtain rfl := Option.some.inj ha
   rw [hib]
   exact hd.new L O' i hL hro' hi
  ·exact hd.new x p a (hsub x p hx hp) hpr (gk x a hx ha)
 ·obtain ⟨k', hk'⟩ := hFs
  exact ⟨k' + 1, by rw [hnl2, hk', Nat.add_mul, Nat.one_mul, Nat.add_assoc]⟩
 ·by_cases hx : x = F
  ·rw [hx]; exact hFs
  ·exact hd.dom x h1 (by simpa [updG, hx] using h2)
def AS.gave (s : AS) (l K : Nat) (o : AO) : AS := { s with cur := (s.cur.set l .dead).set (s.nl + K * s.st) o, nl := s.nl + K * s.st + s.st }
theorem AS.gave_h (s : AS) (l K : Nat) {o : AO} (ho : o.live = true) (x : Nat) : (s.gave l K o).h x = if x = s.nl + K * s.st then some o else if x = l then none else s.h x := by
 have h1 : (s.gave l K o).h x = ((s.kill l).put (s.nl + K * s.st) o).h x := rfl
 rw [h1, AS.put_h _ _ ho, AS.kill_h]
theorem ACalls.reveal {P : Program} {g : FuncId} {l o len cap n K sz : Nat} {cs cs' : List AV} {post : List AV} {s : AS} (hl : s.h l = some (.cells cs sz false)) (hsz : sz ≠ 0) (hend : o + cap * sz = cs.length)
    (h : ∀ x js, js.length = x * sz → js.all AV.one = true → (∀ k, s.h (s.nl + k * s.st) = none) → ACalls P g (.slc (some (s.nl, o)) len (cap + x) true :: post) ((s.kill l).new (.cells (cs ++ js) sz false)) fun v s' =>
      (∃ k, k ≤ K ∧ s'.nl = s.nl + k * s.st) ∧ (∀ k ob, k ≠ l → s.h k = some ob → s'.h k = some ob) ∧
      ((v = .slc (some (s.nl, o)) n (cap + x) true ∧ n ≤ cap + x ∧ ∃ cs2, s'.h s.nl = some (.cells cs2 sz false) ∧ cs2.length = cs.length + x * sz ∧ (cs2.drop o).take (n * sz) = cs') ∨
       (∃ L, v = .slc (some (L, 0)) n n false ∧ s.h L = none ∧ s'.h L = some (.cells cs' sz false) ∧ cs'.length = n * sz))) :
    ACalls P g (.slc (some (l, o)) len cap false :: post) s fun v s' => v = .slc (some (s.nl + K * s.st, 0)) n n false ∧ s' = s.gave l K (.cells cs' sz false) := by
  intro B γ cargs w hargs hr
  obtain ⟨i, hi, hO, hB⟩ := hr.obj l _ hl
  obtain ⟨c, e, fz, hb, hc, hf, hg, hf0⟩ := hO
  obtain ⟨hgs, hgt⟩ := hg hsz
  have hjs : ∀ j : Fin (i.x * sz), ∃ v, v.one = true ∧ ∃ cv, c[i.d + cs.length + j.1]? = some cv ∧ VRel γ v cv := by
    intro j
    obtain ⟨v, cv, h1, h2, h3⟩ := hgt (i.d + cs.length + j.1) (by omega) (by have := j.2; omega)
    exact ⟨v, h1, cv, h2, h3⟩
  let js : List AV := List.ofFn fun j => Classical.choose (hjs j)
  have hjl : js.length = i.x * sz := by simp [js]
  have hjg : ∀ (k : Nat) v, js[k]? = some v → v.one = true ∧ ∃ cv, c[i.d + cs.length + k]? = some cv ∧ VRel γ v cv := by
    intro k v hk
    have hkl : k < i.x * sz := by
      rcases Nat.lt_or_ge k (i.x * sz) with h | h
      · exact h
      · rw [List.getElem?_eq_none (by omega)] at hk; cases hk
    have : js[k]? = some (Classical.choose (hjs ⟨k, hkl⟩)) := by simp [js, List.getElem?_ofFn, hkl]
    rw [this] at hk; obtain rfl := Option.some.inj hk
    exact Classical.choose_spec (hjs ⟨k, hkl⟩)
  have hj1 : js.all AV.one = true := by
    rw [List.all_eq_true]
    intro v hv
    obtain ⟨k, hk⟩ := List.mem_iff_getElem?.1 hv
    exact (hjg k v hk).1
  have hle : Gam.le γ (updG γ s.nl ⟨i.b, i.d, 0⟩) := Gam.le_upd hr.fin0
  have hO' : ORel (updG γ s.nl ⟨i.b, i.d, 0⟩) w ⟨i.b, i.d, 0⟩ (.cells (cs ++ js) sz false) := by
    refine ⟨c, e, fz, hb, fun k v hk => ?_, hf, fun _ => ⟨by simp only [List.length_append, hjl]; omega, fun k h1 h2 => ?_⟩, hf0⟩
    · rw [List.getElem?_append] at hk
      split at hk
      · obtain ⟨h1, cv, h2, h3⟩ := hc k v hk
        exact ⟨h1, cv, h2, h3.mono hle⟩
      · obtain ⟨h1, cv, h2, h3⟩ := hjg _ v hk
        exact ⟨h1, cv, by rw [← h2]; simp only; congr 1; omega, h3.mono hle⟩
    · simp only [List.length_append, hjl] at h1
      omega
  have hw0 : w.heap = w.heap.setIfInBounds i.b (.cells c e fz) := by
    apply Array.ext_getElem?
    intro k
    rw [Array.getElem?_setIfInBounds]
    have hb' := ORel.lt (γ := γ) (o := .cells cs sz false) ⟨c, e, fz, hb, hc, hf, hg, hf0⟩
    by_cases hk : i.b = k
    · subst hk; rw [if_pos rfl, if_pos hb', hb]
    · rw [if_neg hk]
  obtain ⟨hr1, hd1⟩ := hr.take (w' := w) hl rfl rfl hi (i' := ⟨i.b, i.d, 0⟩) (o' := .cells (cs ++ js) sz false) rfl hw0 hO'
  obtain ⟨c1, r1, e1, h1, hargs'⟩ := VRels.cons_iff.1 hargs
  simp only [VRel, Bool.false_eq_true, if_false] at h1
  obtain ⟨i', hi', rfl⟩ := h1
  rw [hi] at hi'; obtain rfl := Option.some.inj hi'
  have hnone : ∀ k, s.h (s.nl + k * s.st) = none := by
    intro k
    cases hq : s.h (s.nl + k * s.st) with
    | none => rfl
    | some p =>
      obtain ⟨j, hj, _⟩ := hr.obj _ p hq
      rw [hr.fin k] at hj; cases hj
  have hargs2 : VRels (updG γ s.nl ⟨i.b, i.d, 0⟩) (.slc (some (s.nl, o)) len (cap + i.x) true :: post) cargs.toList := by
    rw [e1]
    exact VRels.cons (by simp only [VRel]; exact ⟨_, updG_same _ _ _, by simp⟩) (hargs'.mono hle)
  refine (h i.x js hjl hj1 hnone B _ cargs w hargs2 hr1).mono ?_
  rintro e w' ⟨γ', v, cv, s', rfl, hv, hd, hr', ⟨k, hkK, hnl⟩, hkeep, hend'⟩
  have hd' := hd1.trans hd
  have hγ' : γ' s.nl = some ⟨i.b, i.d, 0⟩ := hd.le _ _ (updG_same _ _ _)
  have hFnl : ∃ k, s.nl + K * s.st = s'.nl + k * s.st := ⟨K - k, by rw [hnl, Nat.add_assoc, ← Nat.add_mul]; congr 2; omega⟩
  have hFn : s.h (s.nl + K * s.st) = none := hnone K
  have hsub : ∀ x ob, x ≠ s.nl + K * s.st → (s.gave l K (.cells cs' sz false)).h x = some ob → s'.h x = some ob := by
    intro x ob hx hob
    rw [AS.gave_h _ _ _ rfl, if_neg hx] at hob
    split at hob
    · cases hob
    · rename_i hxl; exact hkeep x ob hxl hob
  have hsld : ∀ x ob, (s.gave l K (.cells cs' sz false)).cur.get x = some ob → ob.live = true → ob.ro = true → s.cur.get x = some ob := by
    intro x ob hob h1 h2
    simp only [AS.gave, Tr.get_set] at hob
    split at hob
    · obtain rfl := Option.some.inj hob; cases h2
    · split at hob
      · obtain rfl := Option.some.inj hob; cases h1
      · exact hob
  have hF : (s.gave l K (.cells cs' sz false)).h (s.nl + K * s.st) = some (.cells cs' sz false) := by rw [AS.gave_h _ _ _ rfl, if_pos rfl]
  rcases hend' with ⟨rfl, hn, cs2, hL, hl2, hcs'⟩ | ⟨L, rfl, hsL, hL, hlen⟩
  · obtain ⟨j, hj, hOj, _⟩ := hr'.obj s.nl _ hL
    rw [hγ'] at hj; obtain rfl := Option.some.inj hj
    obtain ⟨c2, e2, fz2, hb2, hc2, hf2, hg2, hf02⟩ := hOj
    obtain ⟨hgs2, _⟩ := hg2 hsz
    simp only at hb2 hc2 hgs2
    have hmul : n * sz ≤ (cap + i.x) * sz := Nat.mul_le_mul_right _ hn
    have hmul2 : (cap + i.x) * sz = cap * sz + i.x * sz := Nat.add_mul _ _ _
    have hmul3 : (cap + i.x - n) * sz = (cap + i.x) * sz - n * sz := Nat.mul_sub_right_distrib _ _ _
    have hlen' : cs'.length = n * sz := by rw [← hcs', List.length_take, List.length_drop]; omega
    have hO2 : ORel γ' w' ⟨i.b, i.d + o, cap + i.x - n⟩ (.cells cs' sz false) := by
      refine ⟨c2, e2, fz2, hb2, fun k v hk => ?_, hf2, fun _ => ⟨by simp only; omega, fun k h1 h2 => ?_⟩, hf02⟩
      · rw [← hcs', List.getElem?_take, List.getElem?_drop] at hk
        split at hk
        · obtain ⟨h1, cv, h2, h3⟩ := hc2 _ v hk
          exact ⟨h1, cv, by rw [← h2]; simp only; congr 1; omega, h3⟩
        · cases hk
      · simp only at h1
        obtain ⟨h3, cv, h4, h5⟩ := hc2 (k - i.d) _ (List.getElem?_eq_getElem (show k - i.d < cs2.length by omega))
        exact ⟨_, cv, h3, by rw [← h4]; congr 1; omega, h5⟩
    have hdrop : s.nl = s.nl + K * s.st ∨ (s.gave l K (.cells cs' sz false)).h s.nl = none := by
      by_cases hq : s.nl = s.nl + K * s.st
      · exact .inl hq
      · right
        rw [AS.gave_h _ _ _ rfl, if_neg hq]
        split
        · rfl
        · have := hnone 0; simpa using this
    obtain ⟨g1, g2⟩ := forgetL (s'' := s.gave l K (.cells cs' sz false)) hd' hr' (F := s.nl + K * s.st) (L := s.nl) hsub hF hL rfl rfl hdrop hγ' (i2 := ⟨i.b, i.d + o, cap + i.x - n⟩) rfl hO2 hFnl rfl rfl rfl hsld
    simp only [VRel, if_true] at hv
    obtain ⟨i3, hi3, rfl⟩ := hv
    rw [hγ'] at hi3; obtain rfl := Option.some.inj hi3
    refine ⟨_, _, _, _, rfl, ?_, g2, g1, rfl, rfl⟩
    simp only [VRel]
    refine ⟨_, updG_same _ _ _, ?_⟩
    simp only [Bool.false_eq_true, if_false, Nat.add_zero]
    rw [show n + (cap + i.x - n) = cap + i.x by omega]
  · obtain ⟨j, hj, hOj, _⟩ := hr'.obj L _ hL
    have hdrop : L = s.nl + K * s.st ∨ (s.gave l K (.cells cs' sz false)).h L = none := by
      by_cases hq : L = s.nl + K * s.st
      · exact .inl hq
      · right
        rw [AS.gave_h _ _ _ rfl, if_neg hq]
        split
        · rfl
        · exact hsL
    obtain ⟨g1, g2⟩ := forgetL (s'' := s.gave l K (.cells cs' sz false)) hd' hr' (F := s.nl + K * s.st) (L := L) hsub hF hL rfl rfl hdrop hj (i2 := j) rfl hOj hFnl rfl rfl rfl hsld
    simp only [VRel, Bool.false_eq_true, if_false] at hv
    obtain ⟨i3, hi3, rfl⟩ := hv
    rw [hj] at hi3; obtain rfl := Option.some.inj hi3
    refine ⟨_, _, _, _, rfl, ?_, g2, g1, rfl, rfl⟩
    simp only [VRel]
    exact ⟨_, updG_same _ _ _, by simp⟩
end Go.Am
end

section
namespace Go.Am
open Go.ChangeShapes Go.WideShapes Go.Deep
/-! ### a table from a list -/
def Tr.ofL {α : Type} (F : Nat → α) : List Nat → Tr α
 | [] => .E
 | x :: xs => (Tr.ofL F xs).set x (F x)
theorem Tr.get_ofL {α : Type} (F : Nat → α) : ∀ (l : List Nat) (x : Nat), (Tr.ofL F l).get x = if x ∈ l then some (F x) else none
 | [], x => by simp [Tr.ofL, Tr.get]
 | y :: ys, x => by
  simp only [Tr.ofL, Tr.get_set, Tr.get_ofL F ys x, List.mem_cons]
  by_cases h : x = y
  ·subst h; simp
  ·simp [h]
def blockSize : Obj → Nat
 | .cells c _ _ => c.size
 | _ => 0
def maxL : List Nat → Nat
 | [] => 0
 | x :: xs => max x (maxL xs)
theorem le_maxL {l : List Nat} {x : Nat} (h : x ∈ l) : x ≤ maxL l := by
 induction l with
 | nil => cases h
 | cons y ys ih =>
  simp only [maxL]
  rcases List.mem_cons.1 h with rfl | h
  ·omega
  ·have := ih h; omega
def MW (w : World) : Nat := maxL (w.heap.toList.map blockSize) + 1
theorem lt_MW {w : World} {b : Nat} {c : Array Value} {e : TypeId} {fz : Nat × Nat} (h : w.heap[b]? = some (.cells c e fz)) : c.size < MW w := by
 have : c.size ∈ w.heap.toList.map blockSize := by
  rw [List.mem_map]
  refine ⟨.cells c e fz, ?_, rfl⟩
  rw [List.mem_iff_getElem?]
  exact ⟨b, by simpa using h⟩
 have := le_maxL this
 unfold MW; omega
mutual
def absV (n M : Nat) : Value → AV
 | .bool b => .bool b
 | .int k x => .int k x
 | .string s => .str s.data.toList
 | .pointer none => .ptr none
 | .pointer (some ⟨b, o, none⟩) => if b < n ∧ o < M then .ptr (some (b * M + o, 0)) else .bad
 | .slice none x y => .slc none x y true
 | .slice (some ⟨b, o, none⟩) x y => if b < n ∧ 0 < M then (if o < M then .slc (some (b * M + o, 0)) x y true else .slc (some (b * M, o)) x y true) else if x = 0 then .emp else .bad
 | .slice (some ⟨_, _, some _⟩) x _ => if x = 0 then .emp else .bad
 | .map none => .map none
 | .agg ⟨l⟩ => .agg (absVs n M l)
 | .nilFunc => .nilFunc
 | .nilIface => .nilIface
 | _ => .bad
def absVs (n M : Nat) : List Value → List AV
 | [] => []
 | v :: vs => absV n M v :: absVs n M vs
end
theorem absVs_map (n M : Nat) : ∀ l, absVs n M l = l.map (absV n M)
 | [] => rfl
 | v :: vs => by simp [absVs, absVs_map n M vs]
def gW (n M : Nat) : Gam := fun x => if x < n * M then some ⟨x / M, x % M, 0⟩ else none
theorem lab_div {b o M : Nat} (h : o < M) : (b * M + o) / M = b ∧ (b * M + o) % M = o := by
 rw [Nat.mul_comm]
 constructor
 ·rw [Nat.mul_add_div (by omega), Nat.div_eq_of_lt h, Nat.add_zero]
 ·rw [Nat.mul_add_mod, Nat.mod_eq_of_lt h]
theorem lab_lt {b o n M : Nat} (hb : b < n) (h : o < M) : b * M + o < n * M := by
 have : (b + 1) * M ≤ n * M := Nat.mul_le_mul_right _ hb
 rw [Nat.add_mul, Nat.one_mul] at this
 omega
theorem gW_at {b o n M : Nat} (hb : b < n) (h : o < M) : gW n M (b * M + o) = some ⟨b, o, 0⟩ := by
 simp only [gW, if_pos (lab_lt hb h), (lab_div h).1, (lab_div h).2]
mutual
theorem absV_rel (n M : Nat) : ∀ v, VRel (gW n M) (absV n M v) v
 | .bool b => by simp [absV, VRel]
 | .int k x => by simp [absV, VRel]
 | .string s => by simp [absV, VRel]
 | .pointer none => by simp [absV, VRel]
 | .pointer (some ⟨b, o, none⟩) => by
  simp only [absV]
  split
  ·rename_i h; simp only [VRel]; exact ⟨_, gW_at h.1 h.2, rfl⟩
  ·simp [VRel]
 | .pointer (some ⟨b, o, some _⟩) => by simp [absV, VRel]
 | .slice none x y => by simp [absV, VRel]
 | .slice (some ⟨b, o, none⟩) x y => by
  simp only [absV]
  split
  ·rename_i h
   split
   ·rename_i h2; simp only [VRel]; exact ⟨_, gW_at h.1 h2, by simp⟩
   ·simp only [VRel]; exact ⟨_, gW_at (o := 0) h.1 h.2, by simp⟩
  ·split
   ·rename_i h; subst h; simp only [VRel]; exact ⟨_, _, rfl⟩
   ·simp [VRel]
 | .slice (some ⟨b, o, some _⟩) x y => by
  simp only [absV]
  split
  ·rename_i h; subst h; simp only [VRel]; exact ⟨_, _, rfl⟩
  ·simp [VRel]
 | .map none => by simp [absV, VRel]
 | .map (some _) => by simp [absV, VRel]
 | .agg ⟨l⟩ => by simp only [absV, VRel]; exact ⟨⟨l⟩, rfl, absVs_rel n M l⟩
 | .nilFunc => by simp [absV, VRel]
 | .nilIface => by simp [absV, VRel]
 | .func _ _ _ => by simp [absV, VRel]
 | .iface _ _ => by simp [absV, VRel]
 | .tuple _ => by simp [absV, VRel]
 | .float _ _ => by simp [absV, VRel]
 | .complex _ _ _ => by simp [absV, VRel]
 | .chan _ => by simp [absV, VRel]
theorem absVs_rel (n M : Nat) : ∀ l, VRels (gW n M) (absVs n M l) l
 | [] => by simp [absVs, VRels]
 | v :: vs => by simp only [absVs]; exact VRels.cons (absV_rel n M v) (absVs_rel n M vs)
end
def win (w : World) (c : Array Value) (o : Nat) : List AV := ((c.toList.drop o).map (absV w.heap.size (MW w))).takeWhile AV.one
def objW (w : World) (x : Nat) : AO := match w.heap[x / MW w]? with
 | some (.cells c _ _) => .cells (win w c (x % MW w)) 0 true
 | _ => .dead
def sW (w : World) : AS := { lay := [Tr.ofL (objW w) (List.range (w.heap.size * MW w))], cur := .E, nl := w.heap.size * MW w, st := 1 }
theorem sW_h {w : World} {x : Nat} {o : AO} (h : (sW w).h x = some o) : x < w.heap.size * MW w ∧ ∃ c e fz, w.heap[x / MW w]? = some (.cells c e fz) ∧ o = .cells (win w c (x % MW w)) 0 true := by
 simp only [AS.h, sW, Tr.get, layGet, Tr.get_ofL, List.mem_range] at h
 by_cases hx : x < w.heap.size * MW w
 ·refine ⟨hx, ?_⟩
  rw [if_pos hx] at h
  simp only [objW] at h
  cases hb : w.heap[x / MW w]? with
  | none => rw [hb] at h; cases h
  | some ob =>
   rw [hb] at h
   cases ob with
   | cells c e fz =>
    simp only [AO.shut, Option.some.injEq] at h
    exact ⟨c, e, fz, rfl, h.symm⟩
   | _ => cases h
 ·rw [if_neg hx] at h; cases h
theorem sW_at {w : World} {b o : Nat} {c : Array Value} {e : TypeId} {fz : Nat × Nat} (hb : w.heap[b]? = some (.cells c e fz)) (ho : o ≤ c.size) : At (sW w) (b * MW w + o) (win w c o) := by
 have hM := lt_MW hb
 have hbl : b < w.heap.size := by
  rcases Nat.lt_or_ge b w.heap.size with h | h
  ·exact h
  ·rw [Array.getElem?_eq_none h] at hb; cases hb
 have hl := lab_lt hbl (show o < MW w by omega)
 refine ⟨0, true, ?_⟩
 simp only [AS.h, sW, Tr.get, layGet, Tr.get_ofL, List.mem_range, if_pos hl, objW, (lab_div (show o < MW w by omega)).1, (lab_div (show o < MW w by omega)).2, hb, AO.shut]
theorem takeWhile_get {p : AV → Bool} : ∀ (l : List AV) (k : Nat) (v : AV), (l.takeWhile p)[k]? = some v → p v = true ∧ l[k]? = some v
 | [], k, v, h => by simp at h
 | a :: l, k, v, h => by
  rw [List.takeWhile_cons] at h
  split at h
  ·rename_i ha
   cases k with
   | zero => simp at h; subst h; exact ⟨ha, rfl⟩
   | succ k => simp at h; simpa using takeWhile_get l k v h
  ·simp at h
theorem takeWhile_take {p : AV → Bool} : ∀ (l : List AV) (N : Nat), (∀ v ∈ l.take N, p v = true) → (l.takeWhile p).take N = l.take N
 | l, 0, _ => by simp
 | [], N + 1, _ => by simp
 | a :: l, N + 1, h => by
  have ha : p a = true := h a (by simp)
  rw [List.takeWhile_cons, if_pos ha, List.take_succ_cons, List.take_succ_cons, takeWhile_take l N fun v hv => h v (by simp [hv])]
theorem chunks (l : List AV) (sz : Nat) : ∀ n, l.take (n * sz) = ((List.range n).map fun i => (l.drop (i * sz)).take sz).flatten
 | 0 => by simp
 | n + 1 => by
  rw [Nat.add_mul, Nat.one_mul, List.take_add, chunks l sz n, List.range_succ, List.map_append, List.flatten_append]
  simp
theorem rel_sW (w : World) : Rel w.heap.size (gW w.heap.size (MW w)) (sW w) w := by
 refine ⟨fun x o h => ?_, fun x y o o' i i' h h' hro => ?_, fun j => ?_, Nat.le_refl 1, Nat.le_refl _⟩
 ·obtain ⟨hx, c, e, fz, hb, rfl⟩ := sW_h h
  refine ⟨⟨x / MW w, x % MW w, 0⟩, by simp only [gW, if_pos hx], ⟨c, e, fz, hb, fun k v hk => ?_, (fun h => by cases h), (fun h => absurd rfl h), (fun h => by cases h)⟩, (fun h => by cases h)⟩
  obtain ⟨h1, h2⟩ := takeWhile_get _ _ _ hk
  refine ⟨h1, ?_⟩
  rw [List.getElem?_map, List.getElem?_drop, Option.map_eq_some_iff] at h2
  obtain ⟨cv, h3, rfl⟩ := h2
  exact ⟨cv, by simpa using h3, absV_rel _ _ _⟩
 ·obtain ⟨_, c, e, fz, _, rfl⟩ := sW_h h
  cases hro
 ·simp only [gW, sW, Nat.mul_one]
  rw [if_neg (by omega)]
/-! ### data of flat types -/
inductive LK where
 | int (k : IntKind)
 | bool
 | str
def leafOk : LK → AV → Prop
 | .int k, v => ∃ n, v = .int k n ∧ k.min ≤ n ∧ n ≤ k.max
 | .bool, v => ∃ b, v = .bool b
 | .str, v => ∃ b, v = .str b ∧ b.length ≤ maxLen
def cellsOk : List LK → List AV → Prop
 | [], [] => True
 | k :: ks, v :: vs => leafOk k v ∧ cellsOk ks vs
 | _, _ => False
theorem leafOk.one {k : LK} {v : AV} (h : leafOk k v) : v.one = true := by
 cases k
 ·obtain ⟨n, rfl, _⟩ := h; rfl
 ·obtain ⟨n, rfl⟩ := h; rfl
 ·obtain ⟨n, rfl, _⟩ := h; rfl
theorem cellsOk.one : ∀ {ks : List LK} {vs : List AV}, cellsOk ks vs → ∀ v ∈ vs, v.one = true
 | [], [], _, v, hv => by cases hv
 | [], _ :: _, h, _, _ => h.elim
 | _ :: _, [], h, _, _ => h.elim
 | k :: ks, u :: vs, h, v, hv => by
  rcases List.mem_cons.1 hv with rfl | hv
  ·exact h.1.one
  ·exact cellsOk.one h.2 v hv
theorem cellsOk.append : ∀ {ks ks' : List LK} {vs vs' : List AV}, cellsOk ks vs → cellsOk ks' vs' → cellsOk (ks ++ ks') (vs ++ vs')
 | [], _, [], _, _, h' => by simpa using h'
 | [], _, _ :: _, _, h, _ => h.elim
 | _ :: _, _, [], _, h, _ => h.elim
 | k :: ks, _, v :: vs, _, h, h' => ⟨h.1, cellsOk.append h.2 h'⟩
def flatF (P : Program) (rec : TypeId → Option (List LK)) : List Field → Nat → Option (List LK)
 | [], _ => some []
 | f :: fs, o => (rec f.type).bind fun ks => if f.offset = o ∧ P.cellsOf f.type = ks.length then (flatF P rec fs (o + ks.length)).map (ks ++ ·) else none
def flatT (P : Program) : Nat → TypeId → Option (List LK)
 | 0, _ => none
 | d + 1, t => match P.underlying t with
  | some .bool => some [.bool]
  | some (.int k) => some [.int k]
  | some .string => some [.str]
  | some (.struct fs) => (flatF P (flatT P d) fs.toList 0).bind fun ks => if P.cellsOf t = ks.length then some ks else none
  | some (.array n e) => (flatT P d e).bind fun ks => if P.cellsOf e = ks.length ∧ P.cellsOf t = n * ks.length then some (List.replicate n ks).flatten else none
  | _ => none
section
variable {H : Type} {enc : TypeId × Value → H} {P : Program} {w : World} {base : Nat} {spare : Nat → Bool} {held : Bool}
theorem flat_open : ∀ (d : Nat) (t : TypeId) (ks : List LK) (fuel : Nat) (cs : List Value) (x : DataW H × List MemPlace) (n M : Nat), flatT P d t = some ks → DataW.trod enc P w base spare held fuel t cs = some x → cellsOk ks (cs.map (absV n M)) := by
 intro d
 induction d with
 | zero => intro t ks fuel cs x n M h; simp [flatT] at h
 | succ d ih =>
  intro t ks fuel cs x n M h ht
  unfold flatT at h
  split at h
  ·rename_i hu
   obtain rfl := Option.some.inj h
   obtain ⟨b, rfl, _⟩ := DataW.trod_bool hu ht
   exact ⟨⟨b, by simp [absV]⟩, trivial⟩
  ·rename_i k hu
   obtain rfl := Option.some.inj h
   obtain ⟨b, rfl, _, hwf⟩ := DataW.trod_int hu ht
   simp only [Lit.wf, Bool.and_eq_true, decide_eq_true_eq] at hwf
   exact ⟨⟨b, by simp [absV], hwf⟩, trivial⟩
  ·rename_i hu
   obtain rfl := Option.some.inj h
   obtain ⟨b, rfl, _, hl⟩ := DataW.trod_string hu ht
   exact ⟨⟨b.data.toList, by simp [absV], by simpa using hl⟩, trivial⟩
  ·rename_i fs hu
   obtain ⟨xs, m, rfl, _, hlen, hxs, hf⟩ := DataW.trod_struct hu ht
   simp only [Option.bind_eq_some_iff] at h
   obtain ⟨ks', hks, h⟩ := h
   split at h
   ·rename_i hsz
    obtain rfl := Option.some.inj h
    have key : ∀ (l : List Field) (o : Nat) (ks : List LK), flatF P (flatT P d) l o = some ks → (∀ f ∈ l, ∃ y, DataW.trod enc P w base spare held m f.type ((cs.drop f.offset).take (P.cellsOf f.type)) = some y) → o + ks.length ≤ cs.length → cellsOk ks (((cs.drop o).take ks.length).map (absV n M)) := by
     intro l
     induction l with
     | nil => intro o ks h _ _; simp only [flatF] at h; obtain rfl := Option.some.inj h; simp [cellsOk]
     | cons f l ihl =>
      intro o ks h hall hle
      simp only [flatF, Option.bind_eq_some_iff] at h
      obtain ⟨k1, hk1, h⟩ := h
      split at h
      ·rename_i hc
       obtain ⟨hc1, hc2⟩ := hc
       simp only [Option.map_eq_some_iff] at h
       obtain ⟨k2, hk2, rfl⟩ := h
       obtain ⟨y, hy⟩ := hall f (by simp)
       have g1 := ih _ _ _ _ _ n M hk1 hy
       rw [hc1, hc2] at g1
       rw [List.length_append] at hle
       have g2 := ihl (o + k1.length) k2 hk2 (fun f hf => hall f (by simp [hf])) (by omega)
       have := g1.append g2
       rw [List.length_append, List.take_add, List.map_append, List.drop_drop]
       exact this
      ·cases h
    have hall : ∀ f ∈ fs.toList, ∃ y, DataW.trod enc P w base spare held m f.type ((cs.drop f.offset).take (P.cellsOf f.type)) = some y := by
     intro f hfm
     obtain ⟨i, hi⟩ := List.mem_iff_getElem?.1 hfm
     have hi' : fs[i]? = some f := by simpa using hi
     have hil : i < xs.length := by
      rw [hxs]
      rcases Nat.lt_or_ge i fs.size with h | h
      ·exact h
      ·rw [Array.getElem?_eq_none h] at hi'; cases hi'
     exact ⟨_, (hf i f hi').trans (List.getElem?_eq_getElem hil)⟩
    have := key fs.toList 0 ks' hks hall (by rw [hlen, hsz]; omega)
    rw [List.drop_zero, List.take_of_length_le (by rw [hlen, hsz]; exact Nat.le_refl _)] at this
    exact this
   ·cases h
  ·rename_i len e hu
   obtain ⟨xs, m, rfl, _, hlen, hxs, hf⟩ := DataW.trod_array hu ht
   simp only [Option.bind_eq_some_iff] at h
   obtain ⟨k1, hk1, h⟩ := h
   split at h
   ·rename_i hc
    obtain ⟨hc1, hc2⟩ := hc
    obtain rfl := Option.some.inj h
    have key : ∀ (j i : Nat), i + j = len → cellsOk (List.replicate j k1).flatten (((cs.drop (i * k1.length)).take (j * k1.length)).map (absV n M)) := by
     intro j
     induction j with
     | zero => intro i _; simp [cellsOk]
     | succ j ihj =>
      intro i hij
      have hy := hf i (by omega)
      rw [List.getElem?_eq_getElem (by omega)] at hy
      have g1 := ih _ _ _ _ _ n M hk1 hy
      rw [hc1] at g1
      have g2 := ihj (i + 1) (by omega)
      have := g1.append g2
      rw [List.replicate_succ, List.flatten_cons]
      have e1 : (j + 1) * k1.length = k1.length + j * k1.length := by rw [Nat.add_mul, Nat.one_mul, Nat.add_comm]
      rw [e1, List.take_add, List.map_append, List.drop_drop]
      have e2 : i * k1.length + k1.length = (i + 1) * k1.length := by rw [Nat.add_mul, Nat.one_mul]
      rw [e2]
      exact this
    have := key len 0 (by omega)
    rw [Nat.zero_mul, List.drop_zero, List.take_of_length_le (by rw [hlen, hc2]; exact Nat.le_refl _)] at this
    exact this
   ·cases h
  ·cases h
theorem slice_arg {t e : TypeId} {d : Nat} {ks : List LK} (hu : P.underlying t = some (.slice e)) (hk : flatT P d e = some ks) (hsz : P.cellsOf e = ks.length) (hpos : 0 < ks.length) {v : Value} {y : DataW H} {ps : List MemPlace}
  (hv : Value.okWide P w .any base t v) (h : DataW.Trod enc P w 0 (fun _ => true) true t v y ps) :
  ∃ C : List (List AV), SlAt (sW w) (absV w.heap.size (MW w) v) ks.length C.flatten C.length ∧ (∀ c ∈ C, cellsOk ks c) ∧ C.length ≤ maxLen := by
 obtain ⟨fuel, h⟩ := h
 rcases open_slice hu h with ⟨hcs, _⟩ | ⟨a, len, cap, m, n, D, Pl, hcs, hb, hl, hm, hmm, _, hx⟩
 ·have hve : v = .slice none 0 0 := by
   cases v with
   | agg l => exfalso; unfold Value.okWide at hv; rw [hu] at hv; simp only [Cell.okWide, hu, Cell.ok] at hv
   | _ => first | (simp [Value.cells] at hcs; done) | simpa [Value.cells] using hcs
  subst hve
  exact ⟨[], by simp only [absV, List.flatten_nil, List.length_nil]; exact SlAt.nil, by simp, by simp⟩
 ·have hve : v = .slice (some a) len cap := by
   cases v with
   | agg l => exfalso; unfold Value.okWide at hv; rw [hu] at hv; simp only [Cell.okWide, hu, Cell.ok] at hv
   | _ => first | (simp [Value.cells] at hcs; done) | simpa [Value.cells] using hcs
  subst hve
  simp only [if_true] at hmm
  subst hmm
  have hval : w.has P .any base a e m := by
   unfold Value.okWide at hv; rw [hu] at hv
   simp only [Cell.okWide, hu, Cell.ok] at hv
   exact hv.2.2
  obtain ⟨_, hspot, row, cells, hshape, _⟩ := hval
  obtain ⟨b, o, sp⟩ := a
  simp only at hspot
  subst hspot
  obtain ⟨c, e', fz, hblk⟩ : ∃ c e' fz, w.heap[b]? = some (.cells c e' fz) := by
   unfold World.shape? at hshape
   split at hshape
   ·rename_i c e' fz hblk; exact ⟨c, e', fz, hblk⟩
   ·cases hshape
  have hbl : b < w.heap.size := by
   rcases Nat.lt_or_ge b w.heap.size with h | h
   ·exact h
   ·rw [Array.getElem?_eq_none h] at hblk; cases hblk
  have hMW := lt_MW hblk
  have hel : ∀ i, i < m → ∃ ci, ci = ((c.toList.drop (o + i * ks.length)).take ks.length) ∧ ci.length = ks.length ∧ cellsOk ks (ci.map (absV w.heap.size (MW w))) := by
   intro i hi
   obtain ⟨cs', h1, h2⟩ := hx i hi
   rw [hsz] at h1
   obtain ⟨_, hlen, hcell⟩ := World.cells?_some h1
   have hcs' : cs' = (c.toList.drop (o + i * ks.length)).take ks.length := by
    apply List.ext_getElem?
    intro j
    rw [List.getElem?_take, List.getElem?_drop]
    split
    ·rename_i hj
     rw [← hcell j hj]
     simp only [World.cell?]
     have hblk2 : (((⟨b, o, none⟩ : Addr).add (i * ks.length)).add j).block = b ∧ (((⟨b, o, none⟩ : Addr).add (i * ks.length)).add j).off = o + i * ks.length + j ∧ (((⟨b, o, none⟩ : Addr).add (i * ks.length)).add j).spot = none := by
      unfold Addr.add
      by_cases h0 : i * ks.length = 0 <;> by_cases h1 : j = 0 <;> simp [h0, h1]
     rw [hblk2.1, hblk2.2.1, hblk2.2.2, hblk]
     simp
    ·rw [List.getElem?_eq_none (by omega)]
   exact ⟨cs', hcs', hlen, flat_open d e ks n cs' _ _ _ hk h2⟩
  refine ⟨(List.range len).map fun i => ((c.toList.drop (o + i * ks.length)).take ks.length).map (absV w.heap.size (MW w)), ?_, ?_, ?_⟩
  ·rw [List.length_map, List.length_range]
   by_cases h0 : len = 0
   ·subst h0
    simp only [List.range_zero, List.map_nil, List.flatten_nil]
    simp only [absV]
    rw [if_pos ⟨hbl, by omega⟩]
    split <;> exact SlAt.nil
   ·have ho : o < c.size := by
     obtain ⟨ci, h1, h2, _⟩ := hel 0 (by omega)
     have := congrArg List.length h1
     rw [h2, List.length_take, List.length_drop, Nat.zero_mul, Nat.add_zero, show c.toList.length = c.size from Array.length_toList] at this
     omega
    simp only [absV]
    rw [if_pos ⟨hbl, by omega⟩, if_pos (by omega)]
    have hC : ((List.range len).map fun i => ((c.toList.drop (o + i * ks.length)).take ks.length).map (absV w.heap.size (MW w))).flatten = ((c.toList.drop o).map (absV w.heap.size (MW w))).take (len * ks.length) := by
     rw [chunks]
     congr 1
     apply List.map_congr_left
     intro i _
     rw [List.map_take, ← List.map_drop, List.drop_drop]
    have hone : ∀ v ∈ ((c.toList.drop o).map (absV w.heap.size (MW w))).take (len * ks.length), v.one = true := by
     intro v hv
     rw [← hC] at hv
     obtain ⟨cc, hcc, hvc⟩ := List.mem_flatten.1 hv
     obtain ⟨i, hi, rfl⟩ := List.mem_map.1 hcc
     obtain ⟨ci, h1, _, h3⟩ := hel i (by have := List.mem_range.1 hi; omega)
     rw [h1] at h3
     exact h3.one v hvc
    refine SlAt.mk (sW_at hblk (by omega)) ?_ ?_ hl
    ·rw [hC, List.length_take, List.length_map, List.length_drop, show c.toList.length = c.size from Array.length_toList]
     obtain ⟨ci, h1, h2, _⟩ := hel (len - 1) (by omega)
     have := congrArg List.length h1
     rw [h2, List.length_take, List.length_drop, show c.toList.length = c.size from Array.length_toList] at this
     have e : (len - 1) * ks.length + ks.length = len * ks.length := by
      rw [← Nat.succ_mul]; congr 1; omega
     omega
    ·rw [List.drop_zero]
     unfold win
     rw [takeWhile_take _ _ hone, hC]
  ·intro cc hcc
   obtain ⟨i, hi, rfl⟩ := List.mem_map.1 hcc
   obtain ⟨ci, h1, _, h3⟩ := hel i (by have := List.mem_range.1 hi; omega)
   rw [h1] at h3
   exact h3
  ·rw [List.length_map, List.length_range]; omega
end
end Go.Am
end

section
namespace Go.Am
open Go.ChangeShapes Go.WideShapes Go.ChangeAt Go.RowKit
theorem below_of_open {P : Program} {g : FuncId} {b : Bool} {cargs : Array Value} {W : World} (hg : callable P g = true) (h : ACalls P g (cargs.toList.map (absV W.heap.size (MW W))) (sW W) fun v s' => v = .bool b) : Calls P g cargs W fun e W' => e = .returned (.bool b) ∧ Below W.heap.size W W' := by
 have hargs : VRels (gW W.heap.size (MW W)) (cargs.toList.map (absV W.heap.size (MW W))) cargs.toList := by
  rw [← absVs_map]; exact absVs_rel _ _ _
 have hl : Calls P g cargs W (fun e w' => ∃ γ' v cv s', e = .returned cv ∧ VRel γ' v cv ∧ Did W.heap.size (gW W.heap.size (MW W)) (sW W) W γ' s' w' ∧ Rel W.heap.size γ' s' w' ∧ v = .bool b) := by
  rcases h W.heap.size _ cargs W hargs (rel_sW W) with ⟨_, h1⟩ | ⟨cv, w', h1, _⟩
  ·exact h1
  ·rw [run_callFunc hg] at h1; cases h1
 refine hl.mono ?_
 rintro e w' ⟨γ', v, cv, s', rfl, hv, hd, hr, rfl⟩
 simp only [VRel] at hv
 subst hv
 exact ⟨rfl, hd.below fun l o h => by obtain ⟨_, c, e, fz, _, rfl⟩ := sW_h h; rfl⟩
theorem below_trodAll {H : Type} {enc : TypeId × Value → H} {P : Program} {W W' : World} (hl : laidOutB P = true) (hb : Below W.heap.size W W') : ∀ (ts : List TypeId) (vs : List Value) (ds : List (DataW H)) (ps : List MemPlace),
  (ts.all fun t => P.readableRec t && decide (t < P.types.size)) = true → DataW.TrodAll enc P W 0 (fun _ => true) true ts vs ds ps → (∀ x ∈ ps, x.block < W.heap.size) →
  DataW.TrodAll enc P W' 0 (fun b => decide (b < W.heap.size)) true ts vs ds ps
 | [], vs, ds, ps, _, h, _ => by
  obtain ⟨rfl, rfl, rfl⟩ := trodAll_nil h
  exact h
 | t :: ts, vs, ds, ps, hr, h, hlt => by
  simp only [List.all_cons, Bool.and_eq_true, decide_eq_true_eq] at hr
  obtain ⟨v, vs1, d, ds1, a, b, rfl, rfl, rfl, h1, h2⟩ := trodAll_cons h
  exact ⟨a, b, Below.trod hl hr.1.1 hr.1.2 h1 hb (fun x hx => hlt x (by simp [hx])), below_trodAll hl hb ts vs1 ds1 b hr.2 h2 (fun x hx => hlt x (by simp [hx])), rfl⟩
theorem trodAll_at {H : Type} {enc : TypeId × Value → H} {P : Program} {W : World} {base : Nat} {spare : Nat → Bool} {held : Bool} : ∀ {ts : List TypeId} {vs : List Value} {ds : List (DataW H)} {ps : List MemPlace}, DataW.TrodAll enc P W base spare held ts vs ds ps →
  ∀ (i : Nat) t, ts[i]? = some t → ∃ v d p, vs[i]? = some v ∧ ds[i]? = some d ∧ DataW.Trod enc P W base spare held t v d p
 | [], _, _, _, _, i, t, hi => by simp at hi
 | t :: ts, vs, ds, ps, h, i, t', hi => by
  obtain ⟨v, vs1, d, ds1, a, b, rfl, rfl, rfl, h1, h2⟩ := trodAll_cons h
  cases i with
  | zero => simp at hi; subst hi; exact ⟨v, d, a, rfl, rfl, h1⟩
  | succ i => simp at hi; obtain ⟨v', d', p', e1, e2, e3⟩ := trodAll_at h2 i t' hi; exact ⟨v', d', p', by simpa using e1, by simpa using e2, e3⟩
theorem trodAll_len {H : Type} {enc : TypeId × Value → H} {P : Program} {W : World} {base : Nat} {spare : Nat → Bool} {held : Bool} : ∀ {ts : List TypeId} {vs : List Value} {ds : List (DataW H)} {ps : List MemPlace}, DataW.TrodAll enc P W base spare held ts vs ds ps → vs.length = ts.length ∧ ds.length = ts.length
 | [], _, _, _, h => by obtain ⟨rfl, rfl, rfl⟩ := trodAll_nil h; exact ⟨rfl, rfl⟩
 | t :: ts, vs, ds, ps, h => by
  obtain ⟨v, vs1, d, ds1, a, b, rfl, rfl, rfl, h1, h2⟩ := trodAll_cons h
  have := trodAll_len h2
  simp [this.1, this.2]
theorem cells_dec {α : Type} {f : α → List AV} {Q : α → Prop} : ∀ (C : List (List AV)), (∀ c ∈ C, ∃ x, c = f x ∧ Q x) → ∃ l : List α, C.flatten = l.flatMap f ∧ C.length = l.length ∧ ∀ x ∈ l, Q x
 | [], _ => ⟨[], by simp⟩
 | c :: C, h => by
  obtain ⟨x, rfl, hx⟩ := h c (by simp)
  obtain ⟨l, h1, h2, h3⟩ := cells_dec C fun c hc => h c (by simp [hc])
  exact ⟨x :: l, by simp [h1], by simp [h2], by simpa [hx] using h3⟩
theorem cellsOk.cons {k : LK} {ks : List LK} {c : List AV} (h : cellsOk (k :: ks) c) : ∃ v vs, c = v :: vs ∧ leafOk k v ∧ cellsOk ks vs := by
 cases c with
 | nil => exact h.elim
 | cons v vs => exact ⟨v, vs, rfl, h.1, h.2⟩
theorem cellsOk.nil {c : List AV} (h : cellsOk [] c) : c = [] := by
 cases c with
 | nil => rfl
 | cons v vs => exact h.elim
end Go.Am
end

section
namespace Go.Minster2
open Go.Minster
structure Key where
 t : List UInt8
 d : List UInt8
 deriving DecidableEq
structure Itm where
 dot : Dot
 key : Key
 gone : Bool
 deriving DecidableEq
def Itm.zero : Itm := ⟨⟨0, 0⟩, ⟨[], []⟩, false⟩
def Itm.cmp (a b : Itm) : Int := a.dot.cmp b.dot
def Itm.lt (a b : Itm) : Bool := a.dot.lt b.dot
def Itm.le (x y : Itm) : Prop := y.lt x = false
theorem Itm.cmp_lt {a b : Itm} : a.cmp b < 0 ↔ a.lt b = true := Dot.cmp_lt
theorem Itm.le_trans {a b c : Itm} (h : a.le b) (h' : b.le c) : a.le c := Dot.le_trans h h'
theorem Itm.le_refl (a : Itm) : a.le a := Dot.le_refl a.dot
theorem Itm.lt_le {a b : Itm} (h : a.lt b = true) : a.le b := Dot.lt_le h
end Go.Minster2
end

section
namespace Go.Minster.SI
open Go.Minster2
def el (l : List Itm) (i : Nat) : Itm := l.getD i Itm.zero
theorem el_get {l : List Itm} {i : Nat} (h : i < l.length) : l[i]? = some (el l i) := by
 rw [el, List.getD_eq_getElem?_getD, List.getElem?_eq_getElem h]; rfl
theorem el_set {l : List Itm} {i k : Nat} {x : Itm} (h : i < l.length) : el (l.set i x) k = if k = i then x else el l k := by
 simp only [el, List.getD_eq_getElem?_getD, List.getElem?_set]
 by_cases hk : i = k
 ·subst hk; simp [h]
 ·rw [if_neg hk, if_neg (fun e => hk e.symm)]
def swp (l : List Itm) (i j : Nat) : List Itm := (l.set i (el l j)).set j (el l i)
theorem swp_len (l : List Itm) (i j : Nat) : (swp l i j).length = l.length := by simp [swp]
theorem el_swp {l : List Itm} {i j : Nat} (hi : i < l.length) (hj : j < l.length) (k : Nat) : el (swp l i j) k = if k = j then el l i else if k = i then el l j else el l k := by
 unfold swp
 rw [el_set (by simpa using hj), el_set hi]
inductive Sw (a b : Nat) : List Itm → List Itm → Prop
 | refl (l : List Itm) : Sw a b l l
 | step {l l' : List Itm} {i j : Nat} (h : Sw a b l l') (hi : a ≤ i ∧ i < b) (hj : a ≤ j ∧ j < b) (hb : b ≤ l'.length) : Sw a b l (swp l' i j)
def Srt (l : List Itm) (a b : Nat) : Prop := ∀ i j, a ≤ i → i < j → j < b → (el l i).le (el l j)
theorem ins_step {l : List Itm} {a i j : Nat} (hl : i < l.length) (hj : a < j) (hji : j ≤ i) (hlt : (el l j).lt (el l (j - 1)) = true)
  (h : ∀ p q, a ≤ p → p < q → q ≤ i → q ≠ j → (el l p).le (el l q)) : ∀ p q, a ≤ p → p < q → q ≤ i → q ≠ j - 1 → (el (swp l j (j - 1)) p).le (el (swp l j (j - 1)) q) := by
 intro p q hp hpq hq hne
 rw [el_swp (by omega) (by omega), el_swp (by omega) (by omega), if_neg hne]
 by_cases hqj : q = j
 ·rw [if_pos hqj]
  by_cases hp1 : p = j - 1
  ·rw [if_pos hp1]; exact Itm.lt_le hlt
  ·rw [if_neg hp1, if_neg (by omega)]; exact h p (j - 1) hp (by omega) (by omega) (by omega)
 ·rw [if_neg hqj]
  by_cases hp1 : p = j - 1
  ·rw [if_pos hp1]; exact h j q (by omega) (by omega) hq hqj
  ·rw [if_neg hp1]
   by_cases hpj : p = j
   ·rw [if_pos hpj]; exact h (j - 1) q (by omega) (by omega) hq hqj
   ·rw [if_neg hpj]; exact h p q hp hpq hq hqj
theorem ins_end {l : List Itm} {a i j : Nat} (hj : a ≤ j) (hji : j ≤ i) (hle : j = a ∨ (el l (j - 1)).le (el l j))
  (h : ∀ p q, a ≤ p → p < q → q ≤ i → q ≠ j → (el l p).le (el l q)) : Srt l a (i + 1) := by
 intro p q hp hpq hq
 by_cases hqj : q = j
 ·subst hqj
  rcases hle with rfl | hle
  ·omega
  ·by_cases hp1 : p = q - 1
   ·rw [hp1]; exact hle
   ·exact Itm.le_trans (h p (q - 1) hp (by omega) (by omega) (by omega)) hle
 ·exact h p q hp hpq (by omega) hqj
end Go.Minster.SI
end

section
namespace Go.Minster2
open Go.Minster Go.Am
theorem bytesLt_irrefl : ∀ a : List UInt8, bytesLt a a = false
 | [] => rfl
 | a :: x => by simp [bytesLt, bytesLt_irrefl x]
theorem bytesLt_trans : ∀ {a b c : List UInt8}, bytesLt a b = true → bytesLt b c = true → bytesLt a c = true
 | _, [], _, h, _ => by cases ‹List UInt8› <;> simp [bytesLt] at h
 | _, _ :: _, [], _, h => by simp [bytesLt] at h
 | [], _ :: _, _ :: _, _, _ => rfl
 | a :: x, b :: y, c :: z, h, h' => by
  simp only [bytesLt, Bool.or_eq_true, Bool.and_eq_true, decide_eq_true_eq, beq_iff_eq] at h h' ⊢
  rcases h with h | ⟨rfl, h⟩
  ·rcases h' with h' | ⟨rfl, h'⟩
   ·exact .inl (UInt8.lt_trans h h')
   ·exact .inl h
  ·rcases h' with h' | ⟨rfl, h'⟩
   ·exact .inl h'
   ·exact .inr ⟨rfl, bytesLt_trans h h'⟩
theorem bytesLt_total : ∀ a b : List UInt8, bytesLt a b = true ∨ a = b ∨ bytesLt b a = true
 | [], [] => .inr (.inl rfl)
 | [], _ :: _ => .inl rfl
 | _ :: _, [] => .inr (.inr rfl)
 | a :: x, b :: y => by
  simp only [bytesLt, Bool.or_eq_true, Bool.and_eq_true, decide_eq_true_eq, beq_iff_eq, List.cons.injEq]
  rcases bytesLt_total x y with h | h | h
  ·rcases Nat.lt_trichotomy a.toNat b.toNat with g | g | g
   ·exact .inl (.inl g)
   ·exact .inl (.inr ⟨UInt8.toNat_inj.1 g, h⟩)
   ·exact .inr (.inr (.inl g))
  ·rcases Nat.lt_trichotomy a.toNat b.toNat with g | g | g
   ·exact .inl (.inl g)
   ·exact .inr (.inl ⟨UInt8.toNat_inj.1 g, h⟩)
   ·exact .inr (.inr (.inl g))
  ·rcases Nat.lt_trichotomy a.toNat b.toNat with g | g | g
   ·exact .inl (.inl g)
   ·exact .inr (.inr (.inr ⟨(UInt8.toNat_inj.1 g).symm, h⟩))
   ·exact .inr (.inr (.inl g))
def cmpS (a b : List UInt8) : Int := if bytesLt a b then -1 else if a = b then 0 else 1
theorem cmpS_zero {a b : List UInt8} : cmpS a b = 0 ↔ a = b := by
 unfold cmpS
 constructor
 ·intro h
  split at h
  ·cases h
  ·split at h
   ·assumption
   ·cases h
 ·rintro rfl; simp [bytesLt_irrefl]
theorem cmpS_neg {a b : List UInt8} : cmpS a b < 0 ↔ bytesLt a b = true := by
 unfold cmpS
 split
 ·rename_i h; simp [h]
 ·rename_i h
  split <;> simp [h]
def Key.cmp (a b : Key) : Int := if cmpS a.t b.t ≠ 0 then cmpS a.t b.t else cmpS a.d b.d
def Key.lt (a b : Key) : Bool := bytesLt a.t b.t || (decide (a.t = b.t) && bytesLt a.d b.d)
def Key.le (x y : Key) : Prop := y.lt x = false
theorem Key.cmp_lt {a b : Key} : a.cmp b < 0 ↔ a.lt b = true := by
 unfold Key.cmp Key.lt
 by_cases h : a.t = b.t
 ·have : cmpS a.t b.t = 0 := cmpS_zero.2 h
  rw [if_neg (by simp [this]), cmpS_neg]
  simp [h, bytesLt_irrefl]
 ·have : cmpS a.t b.t ≠ 0 := fun e => h (cmpS_zero.1 e)
  rw [if_pos this, cmpS_neg]
  simp [h]
theorem Key.lt_trans {a b c : Key} (h : a.lt b = true) (h' : b.lt c = true) : a.lt c = true := by
 simp only [Key.lt, Bool.or_eq_true, Bool.and_eq_true, decide_eq_true_eq] at *
 rcases h with h | ⟨e, h⟩
 ·rcases h' with h' | ⟨e', h'⟩
  ·exact .inl (bytesLt_trans h h')
  ·exact .inl (e' ▸ h)
 ·rcases h' with h' | ⟨e', h'⟩
  ·exact .inl (e ▸ h')
  ·exact .inr ⟨e.trans e', bytesLt_trans h h'⟩
theorem Key.lt_irrefl (a : Key) : a.lt a = false := by simp [Key.lt, bytesLt_irrefl]
theorem Key.lt_total (a b : Key) : a.lt b = true ∨ a = b ∨ b.lt a = true := by
 cases a; cases b
 rename_i t d t' d'
 simp only [Key.lt, Bool.or_eq_true, Bool.and_eq_true, decide_eq_true_eq, Key.mk.injEq]
 rcases bytesLt_total t t' with h | h | h
 ·exact .inl (.inl h)
 ·rcases bytesLt_total d d' with g | g | g
  ·exact .inl (.inr ⟨h, g⟩)
  ·exact .inr (.inl ⟨h, g⟩)
  ·exact .inr (.inr (.inr ⟨h.symm, g⟩))
 ·exact .inr (.inr (.inl h))
theorem Key.le_refl (a : Key) : a.le a := Key.lt_irrefl a
theorem Key.lt_le {a b : Key} (h : a.lt b = true) : a.le b := by
 unfold Key.le
 cases hq : b.lt a with
 | false => rfl
 | true => have := Key.lt_trans h hq; rw [Key.lt_irrefl] at this; cases this
theorem Key.le_trans {a b c : Key} (h : a.le b) (h' : b.le c) : a.le c := by
 unfold Key.le
 cases hq : c.lt a with
 | false => rfl
 | true =>
  rcases Key.lt_total b c with g | rfl | g
  ·have := Key.lt_trans g hq
   rw [show b.lt a = false from h] at this; cases this
  ·rw [show b.lt a = false from h] at hq; cases hq
  ·rw [show c.lt b = false from h'] at g; cases g
def Key.zero : Key := ⟨[], []⟩
end Go.Minster2
end

section
namespace Go.Minster.SK
open Go.Minster2
def el (l : List Key) (i : Nat) : Key := l.getD i Key.zero
theorem el_get {l : List Key} {i : Nat} (h : i < l.length) : l[i]? = some (el l i) := by
 rw [el, List.getD_eq_getElem?_getD, List.getElem?_eq_getElem h]; rfl
theorem el_set {l : List Key} {i k : Nat} {x : Key} (h : i < l.length) : el (l.set i x) k = if k = i then x else el l k := by
 simp only [el, List.getD_eq_getElem?_getD, List.getElem?_set]
 by_cases hk : i = k
 ·subst hk; simp [h]
 ·rw [if_neg hk, if_neg (fun e => hk e.symm)]
def swp (l : List Key) (i j : Nat) : List Key := (l.set i (el l j)).set j (el l i)
theorem swp_len (l : List Key) (i j : Nat) : (swp l i j).length = l.length := by simp [swp]
theorem el_swp {l : List Key} {i j : Nat} (hi : i < l.length) (hj : j < l.length) (k : Nat) : el (swp l i j) k = if k = j then el l i else if k = i then el l j else el l k := by
 unfold swp
 rw [el_set (by simpa using hj), el_set hi]
inductive Sw (a b : Nat) : List Key → List Key → Prop
 | refl (l : List Key) : Sw a b l l
 | step {l l' : List Key} {i j : Nat} (h : Sw a b l l') (hi : a ≤ i ∧ i < b) (hj : a ≤ j ∧ j < b) (hb : b ≤ l'.length) : Sw a b l (swp l' i j)
def Srt (l : List Key) (a b : Nat) : Prop := ∀ i j, a ≤ i → i < j → j < b → (el l i).le (el l j)
theorem ins_step {l : List Key} {a i j : Nat} (hl : i < l.length) (hj : a < j) (hji : j ≤ i) (hlt : (el l j).lt (el l (j - 1)) = true)
  (h : ∀ p q, a ≤ p → p < q → q ≤ i → q ≠ j → (el l p).le (el l q)) : ∀ p q, a ≤ p → p < q → q ≤ i → q ≠ j - 1 → (el (swp l j (j - 1)) p).le (el (swp l j (j - 1)) q) := by
 intro p q hp hpq hq hne
 rw [el_swp (by omega) (by omega), el_swp (by omega) (by omega), if_neg hne]
 by_cases hqj : q = j
 ·rw [if_pos hqj]
  by_cases hp1 : p = j - 1
  ·rw [if_pos hp1]; exact Key.lt_le hlt
  ·rw [if_neg hp1, if_neg (by omega)]; exact h p (j - 1) hp (by omega) (by omega) (by omega)
 ·rw [if_neg hqj]
  by_cases hp1 : p = j - 1
  ·rw [if_pos hp1]; exact h j q (by omega) (by omega) hq hqj
  ·rw [if_neg hp1]
   by_cases hpj : p = j
   ·rw [if_pos hpj]; exact h (j - 1) q (by omega) (by omega) hq hqj
   ·rw [if_neg hpj]; exact h p q hp hpq hq hqj
theorem ins_end {l : List Key} {a i j : Nat} (hj : a ≤ j) (hji : j ≤ i) (hle : j = a ∨ (el l (j - 1)).le (el l j))
  (h : ∀ p q, a ≤ p → p < q → q ≤ i → q ≠ j → (el l p).le (el l q)) : Srt l a (i + 1) := by
 intro p q hp hpq hq
 by_cases hqj : q = j
 ·subst hqj
  rcases hle with rfl | hle
  ·omega
  ·by_cases hp1 : p = q - 1
   ·rw [hp1]; exact hle
   ·exact Key.le_trans (h p (q - 1) hp (by omega) (by omega) (by omega)) hle
 ·exact h p q hp hpq (by omega) hqj
end Go.Minster.SK
end

section
namespace Go.Am
structure MpTy {K : Type} [DecidableEq K] (T : TT) (t kt et : TypeId) (kf : K → AV) (z : AV) : Prop where
 u : T.und t = some (.map kt et)
 eq : ∀ a b, aeq T 100 kt (kf a) (kf b) = some (decide (a = b))
 ok : ∀ a, akeyOk T 100 kt (kf a) = true
 bits : ∀ a, abits 100 (kf a) (kf a) = true
 z : T.zer et = some z
def mget {K V : Type} [DecidableEq K] (es : List (K × V × Nat)) (k : K) : Option V := (es.find? fun e => decide (e.1 = k)).map fun e => e.2.1
def ents {K V : Type} (kf : K → AV) (vf : V → AV) (es : List (K × V × Nat)) : List (AV × AV × Nat) := es.map fun e => (kf e.1, vf e.2.1, e.2.2)
structure MpAt {K V : Type} (kf : K → AV) (vf : V → AV) (s : AS) (m : Nat) (es : List (K × V × Nat)) (c : Nat) (ro : Bool) : Prop where
 obj : s.h m = some (.map (ents kf vf es) c ro)
 st : es.Pairwise fun a b => a.2.2 < b.2.2
 lt : ∀ e ∈ es, e.2.2 < c
 nd : es.Pairwise fun a b => a.1 ≠ b.1
section
variable {K V : Type} [DecidableEq K] {kf : K → AV} {vf : V → AV}
theorem mget_nil (k : K) : mget ([] : List (K × V × Nat)) k = none := rfl
theorem mget_cons (e : K × V × Nat) (es : List (K × V × Nat)) (k : K) : mget (e :: es) k = if e.1 = k then some e.2.1 else mget es k := by
 unfold mget
 rw [List.find?_cons]
 by_cases h : e.1 = k
 ·simp [h]
 ·simp [h]
theorem mget_append (es fs : List (K × V × Nat)) (k : K) : mget (es ++ fs) k = (mget es k).or (mget fs k) := by
 induction es with
 | nil => simp [mget_nil]
 | cons e es ih =>
  rw [List.cons_append, mget_cons, mget_cons, ih]
  split <;> simp
theorem mget_some {es : List (K × V × Nat)} {k : K} {v : V} (h : mget es k = some v) : ∃ (j n : Nat), es[j]? = some (k, v, n) := by
 induction es with
 | nil => cases h
 | cons e es ih =>
  rw [mget_cons] at h
  split at h
  ·rename_i hk
   obtain ⟨k', v', n⟩ := e
   simp only at hk h
   subst hk
   obtain rfl := Option.some.inj h
   exact ⟨0, n, rfl⟩
  ·obtain ⟨j, n, hj⟩ := ih h
   exact ⟨j + 1, n, by simpa using hj⟩
theorem mget_mem {es : List (K × V × Nat)} (nd : es.Pairwise fun a b => a.1 ≠ b.1) {e : K × V × Nat} (h : e ∈ es) : mget es e.1 = some e.2.1 := by
 induction es with
 | nil => cases h
 | cons x es ih =>
  obtain ⟨n1, n2⟩ := List.pairwise_cons.1 nd
  rw [mget_cons]
  rcases List.mem_cons.1 h with rfl | h
  ·rw [if_pos rfl]
  ·rw [if_neg (n1 e h), ih n2 h]
theorem mget_none {es : List (K × V × Nat)} {k : K} : mget es k = none ↔ ∀ e ∈ es, e.1 ≠ k := by
 induction es with
 | nil => simp [mget_nil]
 | cons e es ih =>
  rw [mget_cons]
  by_cases h : e.1 = k
  ·rw [if_pos h]
   constructor
   ·intro h; cases h
   ·intro h'; exact absurd h (h' e (by simp))
  ·rw [if_neg h, ih]
   simp [h]
theorem mget_set {k : K} {v v0 : V} {n : Nat} : ∀ (es : List (K × V × Nat)) (j : Nat), es[j]? = some (k, v0, n) → (∀ j', j' < j → ∀ e, es[j']? = some e → e.1 ≠ k) → j < es.length → ∀ k', mget (es.set j (k, v, n)) k' = if k' = k then some v else mget es k'
 | [], j, _, _, hl, _ => by simp at hl
 | x :: es, 0, hj, _, _, k' => by
  simp only [List.getElem?_cons_zero, Option.some.injEq] at hj
  subst hj
  rw [List.set_cons_zero, mget_cons, mget_cons]
  by_cases e : k = k'
  ·subst e; simp
  ·simp only [if_neg e, if_neg (fun h : k' = k => e h.symm)]
 | x :: es, j + 1, hj, hb, hl, k' => by
  have hx : x.1 ≠ k := hb 0 (by omega) x rfl
  rw [List.set_cons_succ, mget_cons, mget_cons, mget_set es j (by simpa using hj) (fun j' hj' e he => hb (j' + 1) (by omega) e (by simpa using he)) (by simpa using hl) k']
  by_cases e : x.1 = k'
  ·rw [if_pos e, if_pos e, if_neg (fun h => hx (e.trans h))]
  ·rw [if_neg e, if_neg e]
variable {T : TT} {t kt et : TypeId} {z : AV} (ht : MpTy T t kt et kf z)
include ht
theorem afind_mp (k : K) : ∀ (es : List (K × V × Nat)) (i : Nat), (mget es k = none → afind T kt (kf k) (ents kf vf es) i = some none) ∧ ∀ v, mget es k = some v → ∃ j n, es[j]? = some (k, v, n) ∧ (∀ j', j' < j → ∀ e, es[j']? = some e → e.1 ≠ k) ∧ afind T kt (kf k) (ents kf vf es) i = some (some (i + j, vf v))
 | [], i => ⟨fun _ => rfl, fun v h => by cases h⟩
 | e :: es, i => by
  obtain ⟨h1, h2⟩ := afind_mp k es (i + 1)
  simp only [ents, List.map_cons, afind, ht.eq]
  rw [mget_cons]
  by_cases hk : e.1 = k
  ·rw [if_pos hk]
   refine ⟨(fun h => by cases h), fun v h => ?_⟩
   obtain rfl := Option.some.inj h
   refine ⟨0, e.2.2, by rw [← hk]; rfl, fun j' hj => by omega, ?_⟩
   rw [decide_eq_true hk.symm]; rfl
  ·rw [if_neg hk]
   have hd : decide (k = e.1) = false := decide_eq_false (fun h => hk h.symm)
   rw [hd]
   refine ⟨h1, fun v h => ?_⟩
   obtain ⟨j, n, a, b, c⟩ := h2 v h
   refine ⟨j + 1, n, by simpa using a, fun j' hj e' he' => ?_, by rw [show i + (j + 1) = i + 1 + j by omega]; exact c⟩
   cases j' with
   | zero => simp only [List.getElem?_cons_zero, Option.some.injEq] at he'; subst he'; exact hk
   | succ j' => exact b j' (by omega) e' (by simpa using he')
theorem MpAt.find {s : AS} {m : Nat} {es : List (K × V × Nat)} {c : Nat} {ro : Bool} (h : MpAt kf vf s m es c ro) (k : K) (ok : Bool) :
  alookup T t (.map (some m)) (kf k) ok s = some (if ok then .tup [((mget es k).map vf).getD z, .bool (mget es k).isSome] else ((mget es k).map vf).getD z) := by
 obtain ⟨h1, h2⟩ := afind_mp (vf := vf) ht k es 0
 simp only [alookup, ht.u, ht.ok, if_true, h.obj, Option.bind_some]
 cases hq : mget es k with
 | none =>
  rw [h1 hq]
  simp only [Option.bind_some, ht.z, Option.map_some, Option.map_none, Option.getD_none, Option.isSome_none]
 | some v =>
  obtain ⟨j, n, _, _, hf⟩ := h2 v hq
  rw [hf]
  simp only [Option.bind_some, Option.map_some, Option.getD_some, Option.isSome_some]
theorem ents_set (es : List (K × V × Nat)) (j : Nat) (e : K × V × Nat) : (ents kf vf es).set j (kf e.1, vf e.2.1, e.2.2) = ents kf vf (es.set j e) := by
 simp [ents, List.map_set]
theorem MpAt.upd {s : AS} (hw : WFs s) {m : Nat} {es : List (K × V × Nat)} {c : Nat} (h : MpAt kf vf s m es c false) (k : K) (v : V) {Q : AS → Prop}
  (hq : ∀ s' es' c', MpAt kf vf s' m es' c' false → (∀ k', mget es' k' = if k' = k then some v else mget es k') → WFs s' → Mut [m] s s' → Q s') : StQ (amapUpdate T t (.map (some m)) (kf k) (vf v) s) Q := by
 obtain ⟨h1, h2⟩ := afind_mp (vf := vf) ht k es 0
 cases hg : mget es k with
 | none =>
  have hno := mget_none.1 hg
  have hP := hw.put (o := .map (ents kf vf es ++ [(kf k, vf v, c)]) (c + 1) false) h.obj rfl
  refine ⟨_, ?_, hq _ (es ++ [(k, v, c)]) (c + 1) ⟨?_, ?_, ?_, ?_⟩ (fun k' => ?_) hP.wf hP.mut⟩
  ·simp only [amapUpdate, ht.u, h.obj, ht.ok, if_true, h1 hg, Option.bind_some]
  ·rw [hP.at]; simp [ents]
  ·refine List.pairwise_append.2 ⟨h.st, List.pairwise_singleton _ _, fun a ha b hb => ?_⟩
   obtain rfl := List.mem_singleton.1 hb
   exact h.lt a ha
  ·intro e he
   rcases List.mem_append.1 he with he | he
   ·have := h.lt e he; omega
   ·obtain rfl := List.mem_singleton.1 he; show c < c + 1; omega
  ·refine List.pairwise_append.2 ⟨h.nd, List.pairwise_singleton _ _, fun a ha b hb => ?_⟩
   obtain rfl := List.mem_singleton.1 hb
   exact hno a ha
  ·rw [mget_append, mget_cons, mget_nil]
   by_cases e : k = k'
   ·subst e; rw [if_pos rfl, if_pos rfl, hg]; rfl
   ·rw [if_neg e, if_neg (fun h => e h.symm)]; cases mget es k' <;> rfl
 | some v0 =>
  obtain ⟨j, n, hj, hb, hf⟩ := h2 v0 hg
  rw [Nat.zero_add] at hf
  have hjl : j < es.length := by
   rcases Nat.lt_or_ge j es.length with h | h
   ·exact h
   ·rw [List.getElem?_eq_none h] at hj; cases hj
  have hge : (ents kf vf es)[j]? = some (kf k, vf v0, n) := by simp [ents, hj]
  have hP := hw.put (o := .map (ents kf vf (es.set j (k, v, n))) c false) h.obj rfl
  have hkeys : (es.set j (k, v, n)).map (fun e => (e.1, e.2.2)) = es.map fun e => (e.1, e.2.2) := by
   apply List.ext_getElem?
   intro i
   simp only [List.getElem?_map, List.getElem?_set]
   split
   ·rename_i e; subst e; rw [hj]; first | rfl | (rw [if_pos hjl]; rfl)
   ·rfl
  have hpw : ∀ (R : K × Nat → K × Nat → Prop), (es.Pairwise fun a b => R (a.1, a.2.2) (b.1, b.2.2)) → ((es.set j (k, v, n)).Pairwise fun a b => R (a.1, a.2.2) (b.1, b.2.2)) := by
   intro R hp
   have := (List.pairwise_map (f := fun e : K × V × Nat => (e.1, e.2.2)) (R := R)).2 hp
   rw [← hkeys] at this
   exact List.pairwise_map.1 this
  refine ⟨_, ?_, hq _ (es.set j (k, v, n)) c ⟨hP.at, hpw (fun a b => a.2 < b.2) h.st, ?_, hpw (fun a b => a.1 ≠ b.1) h.nd⟩ (fun k' => ?_) hP.wf hP.mut⟩
  ·simp only [amapUpdate, ht.u, h.obj, ht.ok, if_true, hf, Option.bind_some, hge, ht.bits, if_true]
   rw [← ents_set ht es j (k, v, n)]
  ·intro e he
   obtain ⟨i, hi⟩ := List.mem_iff_getElem?.1 he
   rw [List.getElem?_set] at hi
   by_cases hji : j = i
   ·rw [if_pos hji] at hi
    first
     | (obtain rfl := Option.some.inj hi; exact h.lt (k, v0, n) (List.mem_of_getElem? hj))
     | (rw [if_pos hjl] at hi; obtain rfl := Option.some.inj hi; exact h.lt (k, v0, n) (List.mem_of_getElem? hj))
   ·rw [if_neg hji] at hi
    exact h.lt e (List.mem_of_getElem? hi)
  ·exact mget_set es j hj hb hjl k'
theorem MpAt.lenB {s : AS} {m : Nat} {es : List (K × V × Nat)} {c : Nat} {ro : Bool} (h : MpAt kf vf s m es c ro) : alenB T t (.map (some m)) s = some (.int .i64 (es.length : Nat)) := by
 simp [alenB, ht.u, h.obj, ents]
end
section
variable {K V : Type} {kf : K → AV} {vf : V → AV}
theorem MpAt.mut {s s' : AS} {m : Nat} {es : List (K × V × Nat)} {c : Nat} {ro : Bool} {L : List Nat} (h : MpAt kf vf s m es c ro) (e : Mut L s s') (hm : m ∉ L) : MpAt kf vf s' m es c ro := ⟨e.1 _ _ hm h.obj, h.st, h.lt, h.nd⟩
theorem MpAt.ext {s s' : AS} {m : Nat} {es : List (K × V × Nat)} {c : Nat} {ro : Bool} (h : MpAt kf vf s m es c ro) (e : Ext s s') : MpAt kf vf s' m es c ro := h.mut (L := []) e.mut (by simp)
theorem MpAt.new {s : AS} {m : Nat} (h : s.h m = some (.map [] 0 false)) : MpAt kf vf s m ([] : List (K × V × Nat)) 0 false := ⟨h, List.Pairwise.nil, by simp, List.Pairwise.nil⟩
/-! ### ranges -/
structure Iter (s : AS) (it m : Nat) (es : List (K × V × Nat)) (c : Nat) (done : List (K × V × Nat)) : Prop where
 «at» : s.h it = some (.mapIt (some m) c (done.map fun e => e.2.2) c false)
 sub : ∀ e ∈ done, e ∈ es
 nd : done.Nodup
theorem Iter.mut {s s' : AS} {it m : Nat} {es done : List (K × V × Nat)} {c : Nat} {L : List Nat} (h : Iter s it m es c done) (e : Mut L s s') (hi : it ∉ L) : Iter s' it m es c done := ⟨e.1 _ _ hi h.at, h.sub, h.nd⟩
theorem Iter.ext {s s' : AS} {it m : Nat} {es done : List (K × V × Nat)} {c : Nat} (h : Iter s it m es c done) (e : Ext s s') : Iter s' it m es c done := h.mut (L := []) e.mut (by simp)
theorem stamp_inj {es : List (K × V × Nat)} (st : es.Pairwise fun a b => a.2.2 < b.2.2) {a b : K × V × Nat} (ha : a ∈ es) (hb : b ∈ es) (h : a.2.2 = b.2.2) : a = b := by
 induction es with
 | nil => cases ha
 | cons x es ih =>
  obtain ⟨s1, s2⟩ := List.pairwise_cons.1 st
  rcases List.mem_cons.1 ha with ea | ha <;> rcases List.mem_cons.1 hb with eb | hb
  ·rw [ea, eb]
  ·have := s1 b hb; rw [ea] at h; omega
  ·have := s1 a ha; rw [eb] at h; omega
  ·exact ih s2 ha hb
open Classical in
theorem nodup_len {α : Type} : ∀ {d es : List α}, d.Nodup → (∀ e ∈ d, e ∈ es) → d.length ≤ es.length
 | [], es, _, _ => Nat.zero_le _
 | x :: d, es, h, hs => by
  obtain ⟨n1, n2⟩ := List.nodup_cons.1 h
  have hx := hs x (by simp)
  have := nodup_len (d := d) (es := es.erase x) n2 fun e he => (List.mem_erase_of_ne (fun h => n1 (by rw [← h]; exact he))).2 (hs e (by simp [he]))
  have hp : 0 < es.length := List.length_pos_of_mem hx
  rw [List.length_erase_of_mem hx] at this
  simp only [List.length_cons]; omega
theorem Iter.lt {s : AS} {it m : Nat} {es done : List (K × V × Nat)} {c : Nat} (h : Iter s it m es c done) {e : K × V × Nat} (he : e ∈ es) (hn : e ∉ done) : done.length < es.length := by
 have := nodup_len (d := e :: done) (es := es) (List.nodup_cons.2 ⟨hn, h.nd⟩) fun x hx => by
  rcases List.mem_cons.1 hx with rfl | hx
  ·exact he
  ·exact h.sub x hx
 simp only [List.length_cons] at this; omega
theorem MpAt.range {T : TT} {t kt et : TypeId} (hu : T.und t = some (.map kt et)) {s : AS} (hw : WFs s) {m : Nat} {es : List (K × V × Nat)} {c : Nat} {ro : Bool} (h : MpAt kf vf s m es c ro) {Q : AV → AS → Prop}
  (hq : ∀ it s', Iter s' it m es c ([] : List (K × V × Nat)) → Fresh s s' it (.mapIt (some m) c [] c false) → Q (.ptr (some (it, 0))) s') : Bd2 (arange T t (.map (some m)) s) Q := by
 have F := hw.new (o := .mapIt (some m) c [] c false) rfl
 refine ⟨_, _, ?_, hq s.nl _ ⟨F.at, by simp, List.nodup_nil⟩ F⟩
 simp only [arange, hu, h.obj]
theorem Iter.next {s : AS} (hw : WFs s) {it m : Nat} {es done : List (K × V × Nat)} {c : Nat} {ro : Bool} (h : MpAt kf vf s m es c ro) (hi : Iter s it m es c done) {A : Prop} {B : AV → AV → AS → Prop}
  (hA : (∀ e ∈ es, e ∈ done) → A) (hB : ∀ e s', e ∈ es → e ∉ done → Iter s' it m es c (done ++ [e]) → WFs s' → Mut [it] s s' → B (kf e.1) (vf e.2.1) s') : NextP (acandM (.ptr (some (it, 0))) s) A B := by
 have hcond : ¬ (done.map (fun e => e.2.2) ≠ [] ∧ ents kf vf es ≠ [] ∧ ((ents kf vf es).all fun e => decide (c ≤ e.2.2)) = true) := by
  rintro ⟨_, h2, h3⟩
  cases es with
  | nil => exact h2 rfl
  | cons e es =>
   have := h.lt e (by simp)
   simp [ents] at h3
   omega
 refine ⟨_, _, (by simp only [acandM, hi.at, h.obj]; rw [if_neg hcond]), ?_, ?_⟩
 ·intro he
  refine hA fun e hes => ?_
  have hlt := h.lt e hes
  simp only [List.isEmpty_iff, List.filter_eq_nil_iff] at he
  have := he (kf e.1, vf e.2.1, e.2.2)
  simp only [List.mem_filter, ents, List.mem_map] at this
  have hc : (done.map fun e => e.2.2).contains e.2.2 = true := by
   cases hq : (done.map fun e => e.2.2).contains e.2.2 with
   | true => rfl
   | false => exact absurd (decide_eq_true hlt) (this ⟨⟨e, hes, rfl⟩, by rw [hq]; rfl⟩)
  simp only [List.contains_iff_mem, List.mem_map] at hc
  obtain ⟨e', he', hst⟩ := hc
  rw [← stamp_inj h.st (hi.sub e' he') hes hst]
  exact he'
 ·intro k v s' hm
  obtain ⟨x, hx, he⟩ := List.mem_map.1 hm
  have hx2 : x ∈ (ents kf vf es).filter fun e => !(done.map fun e => e.2.2).contains e.2.2 := by
   rcases List.mem_append.1 hx with hx | hx
   ·exact (List.mem_filter.1 hx).1
   ·exact (List.mem_filter.1 hx).1
  obtain ⟨hxm, hxn⟩ := List.mem_filter.1 hx2
  simp only [ents, List.mem_map] at hxm
  obtain ⟨e, hes, rfl⟩ := hxm
  simp only [Prod.mk.injEq] at he
  obtain ⟨rfl, rfl, rfl⟩ := he
  have hn : e ∉ done := by
   intro hd
   have : (done.map fun e => e.2.2).contains e.2.2 = true := by
    simp only [List.contains_iff_mem, List.mem_map]; exact ⟨e, hd, rfl⟩
   rw [this] at hxn; cases hxn
  have hP := hw.put (o := .mapIt (some m) c (done.map (fun e => e.2.2) ++ [e.2.2]) c false) hi.at rfl
  refine hB e _ hes hn ⟨by rw [hP.at]; simp, fun x hx => ?_, ?_⟩ hP.wf hP.mut
  ·rcases List.mem_append.1 hx with hx | hx
   ·exact hi.sub x hx
   ·obtain rfl := List.mem_singleton.1 hx; exact hes
  ·refine List.nodup_append.2 ⟨hi.nd, by simp, fun a ha b hb => ?_⟩
   obtain rfl := List.mem_singleton.1 hb
   rintro rfl
   exact hn ha
theorem Iter.entry {s : AS} {it m : Nat} {es done : List (K × V × Nat)} {c : Nat} {ro : Bool} {e : K × V × Nat} (h : MpAt kf vf s m es c ro) (hi : Iter s it m es c (done ++ [e])) {Q : AV → AV → Prop} (hq : Q (kf e.1) (vf e.2.1)) : RdE (aentry (.ptr (some (it, 0))) s) Q := by
 refine ⟨_, _, ?_, hq⟩
 have hes := hi.sub e (by simp)
 simp only [aentry, hi.at, h.obj, if_true]
 have hl : (List.map (fun e : K × V × Nat => e.2.2) (done ++ [e])).getLast? = some e.2.2 := by simp
 rw [hl]
 simp only [Option.bind_some]
 have hf : (ents kf vf es).find? (fun x => x.2.2 == e.2.2) = some (kf e.1, vf e.2.1, e.2.2) := by
  have : ∀ (l : List (K × V × Nat)), (∀ x ∈ l, x.2.2 = e.2.2 → x = e) → e ∈ l → (ents kf vf l).find? (fun x => x.2.2 == e.2.2) = some (kf e.1, vf e.2.1, e.2.2) := by
   intro l
   induction l with
   | nil => intro _ h; cases h
   | cons x l ih =>
    intro h1 h2
    simp only [ents, List.map_cons, List.find?_cons]
    cases hq : (x.2.2 == e.2.2) with
    | true =>
     have := h1 x (by simp) (by simpa using hq)
     rw [this]
    | false =>
     rcases List.mem_cons.1 h2 with rfl | h2
     ·simp at hq
     ·exact ih (fun y hy => h1 y (by simp [hy])) h2
  exact this es (fun x hx hst => stamp_inj h.st hx hes hst) hes
 rw [hf]
 rfl
end
end Go.Am
end

section
namespace Go.Am
open Go.RowKit
def sideObj : Obj → Bool
 | .loop _ => true
 | .deferred _ => true
 | _ => false
theorem ORel.not_side {γ : Gam} {w : World} {i : CI} {o : AO} {ob : Obj} (h : ORel γ w i o) (hb : w.heap[i.b]? = some ob) : sideObj ob = false := by
 cases o with
 | cells cs g ro => obtain ⟨c, e, fz, h1, _⟩ := h; rw [h1] at hb; cases hb; rfl
 | map es clock ro => obtain ⟨c, h1, _⟩ := h; rw [h1] at hb; cases hb; rfl
 | mapIt m since seen stepped ro =>
  cases m with
  | none => obtain ⟨_, h1⟩ := h; rw [h1] at hb; cases hb; rfl
  | some m => obtain ⟨_, j, _, h1⟩ := h; rw [h1] at hb; cases hb; rfl
 | strIt s pos ro => obtain ⟨_, h1⟩ := h; rw [h1] at hb; cases hb; rfl
 | dead => exact h.elim
section
variable {B : Nat} {γ γ' : Gam} {s s' : AS} {w w' : World}
theorem Rel.side (h : Rel B γ s w) (hs : w.heap.size ≤ w'.heap.size) (hb : ∀ (b : Nat) (ob : Obj), w.heap[b]? = some ob → sideObj ob = false → w'.heap[b]? = some ob) : Rel B γ s w' := by
 refine ⟨fun l o hl => ?_, h.inj, h.fin, h.stp, Nat.le_trans h.base hs⟩
 obtain ⟨i, a, b, c⟩ := h.obj l o hl
 refine ⟨i, a, b.congr ?_, c⟩
 have hlt := b.lt
 rw [hb i.b _ (Array.getElem?_eq_getElem hlt) (b.not_side (Array.getElem?_eq_getElem hlt)), Array.getElem?_eq_getElem hlt]
theorem Rel.side_ne (h : Rel B γ s w) {b : Nat} {ob : Obj} (hl : w.heap[b]? = some ob) (hs : sideObj ob = true) : ∀ l o i, s.h l = some o → γ l = some i → i.b ≠ b := by
 rintro l o i h1 h2 rfl
 obtain ⟨i', a, b, c⟩ := h.obj l o h1
 rw [h2] at a
 obtain rfl := Option.some.inj a
 have := b.not_side hl
 rw [hs] at this; cases this
theorem Did.keeps (d : Did B γ s w γ' s' w') (h : Rel B γ s w) {b : Nat} {ob : Obj} (hl : w.heap[b]? = some ob) (hs : sideObj ob = true) : w'.heap[b]? = some ob := by
 rw [d.frm b (Array.getElem?_eq_some_iff.1 hl).1 fun l o i h1 _ h2 => h.side_ne hl hs l o i h1 h2]; exact hl
theorem Did.swap {w1 w2 : World} (d : Did B γ s w1 γ' s' w2) (h1 : w.heap.size ≤ w1.heap.size) (h2 : w2.heap.size ≤ w'.heap.size) (hf : ∀ b, b < w.heap.size → (∀ l o i, s.h l = some o → o.ro = false → γ l = some i → i.b ≠ b) → w'.heap[b]? = w.heap[b]?) (he : Env w w') : Did B γ s w γ' s' w' :=
 ⟨d.le, hf, by have := d.siz; omega, fun l o i a b c => (d.new l o i a b c).imp (fun h => by omega) id, d.nl, d.st, d.lay, d.dom, d.sld, he⟩
end
/-! ### frames with marks -/
def FX (γ : Gam) (n : Nat) (f : Fr) (ds : List Deferred) (a : Act) : Prop := a.defers = ds ∧ FRel γ n f { a with defers := [] }
theorem FX.mono {γ γ' : Gam} {n : Nat} {f : Fr} {ds : List Deferred} {a : Act} (h : FX γ n f ds a) (hle : Gam.le γ γ') : FX γ' n f ds a := ⟨h.1, h.2.mono hle⟩
theorem FX.eval {γ : Gam} {n : Nat} {f : Fr} {ds : List Deferred} {a : Act} (h : FX γ n f ds a) (x : Operand) : VRel γ (aev f x) (a.eval x) := by
 have := h.2.eval x
 cases x <;> exact this
theorem FX.put {γ : Gam} {n : Nat} {f : Fr} {ds : List Deferred} {a : Act} (h : FX γ n f ds a) {d : Option Nat} {v : AV} {c : Value} (hd : dstOk n d = true) (hv : VRel γ v c) : FX γ n (updO f d v) ds (a.put d c) := by
 refine ⟨?_, ?_⟩
 ·cases d <;> exact h.1
 ·have := h.2.put hd hv
  cases d <;> exact this
abbrev Fz (rd : Option Nat) : Fence := { Fence.wide with round := rd }
def PostX (B : Nat) (γ : Gam) (s : AS) (w : World) (n : Nat) (ds : List Deferred) (Q : Exit → Fr → AS → Prop) : Exit → Act → World → Prop := fun e a' w' =>
 ∃ γ' f' s', FX γ' n f' ds a' ∧ Did B γ s w γ' s' w' ∧ Rel B γ' s' w' ∧ Q e f' s'
theorem PostX.trans {B : Nat} {γ γ' : Gam} {s s' : AS} {w w' : World} {n : Nat} {ds : List Deferred} {Q : Exit → Fr → AS → Prop} (hd : Did B γ s w γ' s' w') {e : Exit} {a : Act} {w'' : World} (h : PostX B γ' s' w' n ds Q e a w'') : PostX B γ s w n ds Q e a w'' := by
 obtain ⟨γ2, f2, s2, h1, h2, h3, h4⟩ := h
 exact ⟨γ2, f2, s2, h1, hd.trans h2, h3, h4⟩
def Kept (Iv : Gam → World → Prop) : Prop := ∀ B γ s w γ' s' w', Rel B γ s w → Iv γ w → Did B γ s w γ' s' w' → Iv γ' w'
theorem Kept.true : Kept fun _ _ => True := fun _ _ _ _ _ _ _ _ _ _ => trivial
def AWpX (Iv : Gam → World → Prop) (rd : Option Nat) (ds : List Deferred) (P : Program) (n : Nat) (c : Code) (f : Fr) (s : AS) (Q : Exit → Fr → AS → Prop) : Prop :=
 ∀ (B : Nat) (γ : Gam) (a : Act) (w : World), FX γ n f ds a → Rel B γ s w → Iv γ w → c.wpIn (Fz rd) 0 P (PostX B γ s w n ds Q) a w
def YOk (Iv : Gam → World → Prop) (P : Program) (l : Nat) (args : List AV) (s : AS) (R : AV → AS → Prop) : Prop :=
 ∀ (B : Nat) (γ : Gam) (cargs : Array Value) (w : World), VRels γ args cargs.toList → Rel B γ s w → Iv γ w →
  YieldAt Fence.wide 0 P l cargs w fun e w' => ∃ γ' v cv s', e = .returned cv ∧ VRel γ' v cv ∧ Did B γ s w γ' s' w' ∧ Rel B γ' s' w' ∧ R v s'
def ICalls (Iv : Gam → World → Prop) (P : Program) (g : FuncId) (args : List AV) (s : AS) (R : AV → AS → Prop) : Prop :=
 ∀ (B : Nat) (γ : Gam) (cargs : Array Value) (w : World), VRels γ args cargs.toList → Rel B γ s w → Iv γ w →
  Calls P g cargs w fun e w' => ∃ γ' v cv s', e = .returned cv ∧ VRel γ' v cv ∧ Did B γ s w γ' s' w' ∧ Rel B γ' s' w' ∧ R v s'
theorem wpIn_loop_ghost {F : Fence} {k : Nat} {P : Program} {Q : Exit → Act → World → Prop} {a : Act} {w : World} {c : Code} (I : Nat → Act → World → Prop) (n₀ : Nat) (h₀ : I n₀ a w)
  (round : ∀ n a w, I n a w → c.wpIn F k P (Exit.then (fun a' w' => ∃ n', n' < n ∧ I n' a' w') Q) a w) : (Code.loop c).wpIn F k P Q a w := by
 refine wpIn_loop (fun a w => ∃ n, I n a w) (fun a w => leastOf (fun n => I n a w)) ⟨n₀, h₀⟩ ?_
 intro a w hI
 refine Go.wpIn_mono (round _ a w (leastOf_spec hI).1) ?_
 intro e a' w' hq
 cases e with
 | normal =>
  obtain ⟨n', hlt, hI'⟩ := hq
  exact show (∃ n, I n a' w') ∧ leastOf (fun n => I n a' w') < leastOf (fun n => I n a w) from ⟨⟨n', hI'⟩, Nat.lt_of_le_of_lt ((leastOf_spec ⟨n', hI'⟩).2 n' hI') hlt⟩
 | exit id => exact hq
 | goto l => exact hq
 | ret => exact hq
 | panic ch => exact hq
 | outgrown => exact hq
section
variable {Iv : Gam → World → Prop} {rd : Option Nat} {ds : List Deferred} {P : Program} {n : Nat} {f : Fr} {s : AS} {Q : Exit → Fr → AS → Prop}
theorem AWpX.skip (h : Q .normal f s) : AWpX Iv rd ds P n .skip f s Q := fun B γ a w hf hr _ => wpIn_skip ⟨γ, f, s, hf, Did.refl, hr, h⟩
theorem AWpX.exit {id : Nat} (h : Q (.exit id) f s) : AWpX Iv rd ds P n (.exit id) f s Q := fun B γ a w hf hr _ => wpIn_exit ⟨γ, f, s, hf, Did.refl, hr, h⟩
theorem AWpX.ret (h : Q .ret f s) : AWpX Iv rd ds P n .ret f s Q := fun B γ a w hf hr _ => wpIn_ret ⟨γ, f, s, hf, Did.refl, hr, h⟩
theorem AWpX.seq (hI : Kept Iv) {x y : Code} (h : AWpX Iv rd ds P n x f s (XThen (fun f s => AWpX Iv rd ds P n y f s Q) Q)) : AWpX Iv rd ds P n (.seq x y) f s Q := by
 intro B γ a w hf hr hi
 refine wpIn_seq (Go.wpIn_mono (h B γ a w hf hr hi) ?_)
 rintro e a' w' ⟨γ', f', s', h1, h2, h3, h4⟩
 cases e with
 | normal => exact Go.wpIn_mono (h4 B γ' a' w' h1 h3 (hI _ _ _ _ _ _ _ hr hi h2)) fun e a w hh => PostX.trans h2 hh
 | _ => exact ⟨γ', f', s', h1, h2, h3, h4⟩
theorem AWpX.cond {c : Operand} {x y : Code} {t : Bool} (hc : aev f c = .bool t) (h : AWpX Iv rd ds P n (if t then x else y) f s Q) : AWpX Iv rd ds P n (.cond c x y) f s Q := by
 intro B γ a w hf hr hi
 have hv := hf.eval c
 rw [hc] at hv
 simp only [VRel] at hv
 exact wpIn_cond hv (h B γ a w hf hr hi)
theorem AWpX.block {id : Nat} {c : Code} (h : AWpX Iv rd ds P n c f s (XBlock id Q)) : AWpX Iv rd ds P n (.block id c) f s Q := by
 intro B γ a w hf hr hi
 refine wpIn_block (Go.wpIn_mono (h B γ a w hf hr hi) ?_)
 rintro e a' w' ⟨γ', f', s', h1, h2, h3, h4⟩
 cases e with
 | exit id' =>
  simp only [XBlock] at h4
  simp only [Exit.inBlock]
  split
  ·rename_i hid; rw [if_pos hid] at h4; exact ⟨γ', f', s', h1, h2, h3, h4⟩
  ·rename_i hid; rw [if_neg hid] at h4; exact ⟨γ', f', s', h1, h2, h3, h4⟩
 | _ => exact ⟨γ', f', s', h1, h2, h3, h4⟩
theorem AWpX.loop (hI : Kept Iv) {c : Code} (I : Nat → Fr → AS → Prop) (m : Nat) (h₀ : I m f s)
  (round : ∀ m f s, I m f s → AWpX Iv rd ds P n c f s (XThen (fun f' s' => ∃ m', m' < m ∧ I m' f' s') Q)) : AWpX Iv rd ds P n (.loop c) f s Q := by
 intro B γ a w hf hr hi
 refine wpIn_loop_ghost (fun m a' w' => ∃ γ' f' s', FX γ' n f' ds a' ∧ Did B γ s w γ' s' w' ∧ Rel B γ' s' w' ∧ I m f' s') m ⟨γ, f, s, hf, Did.refl, hr, h₀⟩ ?_
 rintro m a' w' ⟨γ', f', s', h1, h2, h3, h4⟩
 refine Go.wpIn_mono (round m f' s' h4 B γ' a' w' h1 h3 (hI _ _ _ _ _ _ _ hr hi h2)) ?_
 rintro e a2 w2 ⟨γ2, f2, s2, g1, g2, g3, g4⟩
 cases e with
 | normal => obtain ⟨m', hm, hI⟩ := g4; exact ⟨m', hm, γ2, f2, s2, g1, h2.trans g2, g3, hI⟩
 | _ => exact ⟨γ2, f2, s2, g1, h2.trans g2, g3, g4⟩
end
/-! ### operations -/
def isDefer : Op → Bool
 | .defer _ => true
 | _ => false
theorem semAt_exec {o : Oper} (h : isDefer o.op = false) (rd : Option Nat) (ρ : Operand → Value) : o.semAt rd ρ = execOp ρ o := by
 cases rd with
 | none => rfl
 | some l => exact Oper.semAt_some l ρ o fun c e => by rw [e] at h; cases h
def ayield (f : Fr) : Op → Option (Nat × List AV)
 | .call c => match c.callee with
  | .value x => match aev f x with
   | .yld l => some (l, c.args.toList.map (aev f))
   | _ => none
  | _ => none
 | _ => none
theorem ayield_run {γ : Gam} {n : Nat} {f : Fr} {ds : List Deferred} {a : Act} (h : FX γ n f ds a) {o : Oper} {l : Nat} {args : List AV} (hc : ayield f o.op = some (l, args)) {P : Program} (w : World) :
  ∃ cargs : Array Value, VRels γ args cargs.toList ∧ (execOp a.eval o).run P w = (Instr.yield l cargs).run P w := by
 obtain ⟨dst, op, type, pos, after, guard⟩ := o
 simp only at hc
 unfold ayield at hc
 split at hc
 ·rename_i c
  split at hc
  ·rename_i x hx
   split at hc
   ·rename_i l' hv
    obtain ⟨rfl, rfl⟩ : _ ∧ _ := by simpa using hc
    have he := h.eval x
    rw [hv] at he
    simp only [VRel] at he
    refine ⟨c.args.map a.eval, ?_, ?_⟩
    ·rw [Array.toList_map]
     exact vrels_of h.eval c.args.toList
    ·simp only [execOp, resolve, hx, he, Deferred.ofValue, Sem.run_bind, Sem.run_pure, Result.andThen_ok, invoke]
     simp
   ·cases hc
  ·cases hc
 ·cases hc
theorem vcOp_soundX {P : Program} {T : TT} (hT : TT.Ok P T) {n : Nat} {o : Oper} {f : Fr} {s : AS} {K : Fr → AS → Prop} (h : vcOp P T n o f s K) (hnd : isDefer o.op = false) {B : Nat} {γ : Gam} {rd : Option Nat} {ds : List Deferred} {a : Act} {w : World} (hf : FX γ n f ds a) (hr : Rel B γ s w)
  {next : Act → World → Prop} {Q : Exit → Act → World → Prop} (hn : ∀ γ' f' s' a' w', FX γ' n f' ds a' → Did B γ s w γ' s' w' → Rel B γ' s' w' → K f' s' → next a' w') : o.wpIn (Fz rd) 0 P a w next Q := by
 obtain ⟨hd, h⟩ := h
 refine ⟨fun _ _ => trivial, ?_⟩
 rw [semAt_exec hnd]
 rcases h with h | ⟨l, hl, h⟩
 rotate_left
 ·obtain ⟨p, hp, γ', w', cv, hrun, hv, hdid, hr'⟩ := acand_sim (P := P) hr hf.eval hl
  rw [hrun]
  exact hn γ' _ p.2 _ w' ((hf.mono hdid.le).put hd hv) hdid hr' (h p hp)
 split at h
 ·rename_i g args hc
  obtain ⟨cargs, hargs, hrun⟩ := acallee_run hf.2 hc (P := P) w
  have hrun' : (execOp a.eval o).run P w = (callFunc g cargs).run P w := by
   have : ({ a with defers := [] } : Act).eval = a.eval := by funext x; cases x <;> rfl
   rw [← this]; exact hrun
  rw [hrun']
  rcases h B γ cargs w hargs hr with ⟨h1, h2⟩ | ⟨cv, w', h1, γ', v, cv', s', e, hv, hdid, hr', hk⟩
  ·rw [h1]
   refine ⟨fun h => (by cases h), ?_⟩
   have hcall := callsIn_wide (n := 0) |>.2 h2
   refine (show CallsIn (Fz rd) 0 P g cargs w _ from hcall).mono ?_
   rintro e w' ⟨γ', v, cv, s', rfl, hv, hdid, hr', hk⟩
   exact hn γ' _ s' _ w' ((hf.mono hdid.le).put hd hv) hdid hr' hk
  ·rw [h1]
   injection e with e
   subst e
   exact hn γ' _ s' _ w' ((hf.mono hdid.le).put hd hv) hdid hr' hk
 ·obtain ⟨v, s', hop, hk⟩ := h
  obtain ⟨γ', w', nx, cv, hrun, hnx, hv, hdid, hr'⟩ := aop_sim hT hr hf.eval hop
  rw [hrun]
  rcases hnx with rfl | ⟨rfl, rfl⟩
  ·exact hn γ' _ s' _ w' ((hf.mono hdid.le).put hd hv) hdid hr' hk
  ·exact hn γ' _ s' _ w' ((hf.mono hdid.le).put hd hv) hdid hr' hk
def vcRaw (P : Program) (n : Nat) (o : Oper) (f : Fr) (K : Fr → Prop) : Prop :=
 dstOk n o.dst = true ∧ ∃ v, (∀ (γ : Gam) (ρ : Operand → Value) (w : World), (∀ x, VRel γ (aev f x) (ρ x)) → ∃ cv, (execOp ρ o).run P w = .ok (.value cv) w ∧ VRel γ v cv) ∧ K (updO f o.dst v)
def vcOpsX (Iv : Gam → World → Prop) (P : Program) (T : TT) (n : Nat) (ops : Array Oper) : List Oper → Fr → AS → (Fr → AS → Prop) → Prop
 | [], f, s, K => K f s
 | o :: rest, f, s, K => match awanted ops f o with
  | some true => match ayield f o.op with
   | some (l, args) => dstOk n o.dst = true ∧ YOk Iv P l args s fun v s' => vcOpsX Iv P T n ops rest (updO f o.dst v) s' K
   | none => isDefer o.op = false ∧ (vcOp P T n o f s (fun f' s' => vcOpsX Iv P T n ops rest f' s' K) ∨ vcRaw P n o f fun f' => vcOpsX Iv P T n ops rest f' s K)
  | some false => dstOk n o.dst = true ∧ vcOpsX Iv P T n ops rest (updO f o.dst .undef) s K
  | none => False
theorem vcOpsX_sound {Iv : Gam → World → Prop} (hI : Kept Iv) {P : Program} {T : TT} (hT : TT.Ok P T) {n : Nat} {ops : Array Oper} {Q : Exit → Fr → AS → Prop} {B : Nat} {rd : Option Nat} {ds : List Deferred} {γ0 : Gam} {s0 : AS} {w0 : World} : ∀ (l : List Nat) (os : List Oper) (f : Fr) (s : AS) (γ : Gam) (a : Act) (w : World),
  l.map (ops[·]?) = os.map some → vcOpsX Iv P T n ops os f s (fun f s => Q .normal f s) → FX γ n f ds a → Rel B γ s w → Iv γ w → Did B γ0 s0 w0 γ s w → wpOpsIn (Fz rd) 0 P ops (PostX B γ0 s0 w0 n ds Q) l a w
 | [], os, f, s, γ, a, w, hl, h, hf, hr, hi, hd => by
  cases os with
  | nil => exact ⟨γ, f, s, hf, hd, hr, h⟩
  | cons _ _ => simp at hl
 | i :: l, os, f, s, γ, a, w, hl, h, hf, hr, hi, hd => by
  cases os with
  | nil => simp at hl
  | cons o os =>
   simp only [List.map_cons, List.cons.injEq] at hl
   simp only [wpOpsIn, hl.1]
   simp only [vcOpsX] at h
   split at h
   ·rename_i hw
    rw [awanted_run hf.2 hw, if_pos rfl]
    split at h
    ·rename_i k args hc
     obtain ⟨cargs, hargs, hrun⟩ := ayield_run hf hc (P := P) w
     obtain ⟨fn, tmps, assign, body, hy, hR⟩ := h.2 B γ cargs w hargs hr hi
     have hnd : isDefer o.op = false := by
      cases ho : o.op <;> first | rfl | (rw [ho] at hc; cases hc)
     refine ⟨fun _ _ => trivial, ?_⟩
     rw [semAt_exec hnd, hrun, hy]
     refine ⟨fun h => (by cases h), (show RoundIn (Fz rd) 0 P k fn tmps assign body w _ from hR).mono ?_⟩
     rintro e w' ⟨γ', v, cv, s', rfl, hv, hdid, hr', hk⟩
     exact vcOpsX_sound hI hT l os _ s' γ' _ w' hl.2 hk ((hf.mono hdid.le).put h.1 hv) hr' (hI _ _ _ _ _ _ _ hr hi hdid) (hd.trans hdid)
    ·rcases h.2 with h2 | ⟨hdd, v, hrun, hk⟩
     ·exact vcOp_soundX hT h2 h.1 hf hr fun γ' f' s' a' w' h1 h2 h3 h4 => vcOpsX_sound hI hT l os f' s' γ' a' w' hl.2 h4 h1 h3 (hI _ _ _ _ _ _ _ hr hi h2) (hd.trans h2)
     ·obtain ⟨cv, hr2, hv⟩ := hrun γ a.eval w hf.eval
      refine ⟨fun _ _ => trivial, ?_⟩
      rw [semAt_exec h.1, hr2]
      exact vcOpsX_sound hI hT l os _ s γ _ w hl.2 hk (hf.put hdd hv) hr hi hd
   ·rename_i hw
    rw [awanted_run hf.2 hw, if_neg (by simp)]
    exact ⟨fun _ _ => trivial, vcOpsX_sound hI hT l os _ s γ _ w hl.2 h.2 (hf.put h.1 (vundef γ)) hr hi hd⟩
   ·exact h.elim
theorem AWpX.region {Iv : Gam → World → Prop} (hI : Kept Iv) {P : Program} {T : TT} (hT : TT.Ok P T) {rd : Option Nat} {ds : List Deferred} {n : Nat} {id : Nat} {ops : Array Oper} {f : Fr} {s : AS} {Q : Exit → Fr → AS → Prop} (h : vcOpsX Iv P T n ops ops.toList f s fun f s => Q .normal f s) :
  AWpX Iv rd ds P n (.region id ops false) f s Q := by
 intro B γ a w hf hr hi
 refine wpIn_region (vcOpsX_sound hI hT (List.range ops.size) ops.toList f s γ a w ?_ h hf hr hi Did.refl)
 apply List.ext_getElem?
 intro i
 simp only [List.getElem?_map]
 by_cases hi : i < ops.size
 ·simp [hi]
 ·have : ops.toList[i]? = none := List.getElem?_eq_none (by simpa using hi)
  rw [this, List.getElem?_eq_none (by simpa using hi)]; rfl
/-! ### the record, rounds -/
def RecI (l D : Nat) (r : Loop) (n : Nat) (f0 : Fr) (γ : Gam) (w : World) : Prop :=
 w.heap[l]? = some (.loop r) ∧ w.heap[D]? = some (.deferred (some [])) ∧ FRel γ n f0 { tmps := r.tmps, defers := [] }
theorem RecI.kept {l D : Nat} {r : Loop} {n : Nat} {f0 : Fr} : Kept (RecI l D r n f0) :=
 fun _ _ _ _ _ _ _ hr hi d => ⟨d.keeps hr hi.1 rfl, d.keeps hr hi.2.1 rfl, hi.2.2.mono d.le⟩
theorem YOk.round {P : Program} {l D : Nat} {r : Loop} {n p : Nat} {f0 : Fr} {s : AS} {v : AV} {R : AV → AS → Prop} (hst : r.state = .ready) (hpe : r.pending = none) (hps : r.params = #[p]) (hp : p < n)
  (h : AWpX (fun _ _ => True) (some l) [] P n r.assign (upd f0 p v) s fun e f' s' => e = .normal ∧ AWpX (fun _ _ => True) (some l) [] P n r.body f' s' fun e _ s'' => e = .normal ∧ R (.bool true) s'') :
  YOk (RecI l D r n f0) P l [v] s R := by
 intro B γ cargs w hargs hr hi
 obtain ⟨hl, hk, hf0⟩ := hi
 obtain ⟨c, cs, hc, hv, hcs⟩ := VRels.cons_iff.1 hargs
 obtain rfl := VRels.nil_iff.1 hcs
 obtain rfl : cargs = #[c] := by
  cases cargs with
  | mk l => simp only at hc; rw [hc]
 refine ⟨r.fn, _, r.assign, r.body, run_yield hl (by rw [hps]; rfl), roundIn_of_wpIn trivial ?_⟩
 have ha : FX γ n (upd f0 p v) [] { tmps := (r.params.zip #[c]).foldl (fun tmps (t, a) => tmps.setIfInBounds t a) r.tmps, defers := [] } := by
  refine ⟨rfl, ?_⟩
  have := hf0.put (d := some p) (v := v) (c := c) (by simpa [dstOk] using hp) hv
  have e : (r.params.zip #[c]).foldl (fun tmps (t, a) => tmps.setIfInBounds t a) r.tmps = r.tmps.setIfInBounds p c := by rw [hps, ← Array.foldl_toList, Array.toList_zip]; rfl
  simp only [e]
  exact this
 refine Go.wpIn_mono (h B γ _ w ha hr trivial) ?_
 rintro e a1 w1 ⟨γ1, f1, s1, h1, d1, r1, rfl, hb⟩
 have hl1 := d1.keeps hr hl rfl
 refine ⟨_, run_beginRound hl1 hst, ?_⟩
 have hlt1 := (Array.getElem?_eq_some_iff.1 hl1).1
 have r2 : Rel B γ1 s1 (w1.putObj l (.loop { r with state := .busy })) := r1.side (by simp) fun b ob hob hs => by
  rw [World.putObj_heap_other]; exact hob
  rintro rfl; rw [hl1] at hob; cases hob; cases hs
 have hl2 : (w1.putObj l (.loop { r with state := .busy })).heap[l]? = some (.loop { r with state := .busy }) := World.putObj_heap_same hlt1
 refine Go.wpIn_mono (hb B γ1 a1 _ h1 r2 trivial) ?_
 rintro e a3 w3 ⟨γ3, f3, s3, h3, d3, r3, rfl, hR⟩
 have hl3 := d3.keeps r2 hl2 rfl
 have hlt3 := (Array.getElem?_eq_some_iff.1 hl3).1
 have hback : ({ ({ r with state := .busy } : Loop) with state := if (none : Option Code).isNone then .ready else .done, pending := none } : Loop) = r := by
  cases r; simp only at hst hpe; subst hst; subst hpe; rfl
 have hrun := run_endRound (P := P) none hl3
 rw [hback] at hrun
 refine ⟨_, _, hrun, γ3, .bool true, _, s3, rfl, rfl, d1.trans (d3.swap (by simp) (by simp) (fun b hb hnb => ?_) ?_), r3.side (by simp) fun b ob hob hs => ?_, hR⟩
 ·by_cases e : b = l
  ·subst e; rw [World.putObj_heap_same hlt3, hl1]
  ·rw [World.putObj_heap_other e, d3.frm b (by simpa using hb) hnb, World.putObj_heap_other e]
 ·exact d3.env
 ·rw [World.putObj_heap_other]; exact hob
  rintro rfl; rw [hl3] at hob; cases hob; cases hs
theorem wpIn_rangeFunc_am {P : Program} {n p : Nat} {g : Operand} {assign body : Code} {f : Fr} {s : AS} {ds : List Deferred} {K : AS → Prop} {gf : FuncId} {cap : List AV} (hg : aev f g = .func gf cap) (hc : callable P gf = true)
  (hit : ∀ (l D : Nat) (r : Loop), r.state = .ready → r.pending = none → r.params = #[p] → r.assign = assign → r.body = body → ICalls (RecI l D r n f) P gf (.yld l :: cap) s fun _ s' => K s')
  {B : Nat} {γ : Gam} {a : Act} {w : World} (hf : FX γ n f ds a) (hr : Rel B γ s w) :
  (Code.rangeFunc g #[p] assign body).wpIn Fence.wide 0 P (fun e a' w' => ∃ D γ' s', e = .normal ∧ w.heap.size ≤ D ∧ w'.heap[D]? = some (.deferred (some [])) ∧ FX γ' n f ({ target := .collected D, args := #[] } :: ds) a' ∧ Did B γ s w γ' s' w' ∧ Rel B γ' s' w' ∧ K s') a w := by
 have he := hf.eval g
 rw [hg] at he
 simp only [VRel] at he
 obtain ⟨cc, hcc, hcap⟩ := he
 refine wpIn_rangeFunc ?_
 intro fn _
 obtain ⟨r, hre⟩ : ∃ r : Loop, r = { state := .ready, pending := none, fn, tmps := a.tmps, params := #[p], assign, body, defers := w.heap.size } := ⟨_, rfl⟩
 obtain ⟨W1, hW1⟩ : ∃ W1, (w.alloc (.deferred (some []))).alloc (.loop r) = W1 := ⟨_, rfl⟩
 have hL1 : W1.heap[w.heap.size + 1]? = some (.loop r) := by
  rw [← hW1]; have := World.alloc_heap_new (w.alloc (.deferred (some []))) (.loop r); rwa [World.size_alloc] at this
 have hK1 : W1.heap[w.heap.size]? = some (.deferred (some [])) := by
  rw [← hW1]; exact (Below.heap_alloc _ _ _ (by simp)).trans (World.alloc_heap_new w _)
 have hsz : W1.heap.size = w.heap.size + 2 := by rw [← hW1]; simp
 have hold : ∀ b, b < w.heap.size → W1.heap[b]? = w.heap[b]? := fun b hb => by
  rw [← hW1, Below.heap_alloc _ _ _ (by simp; omega), Below.heap_alloc _ _ _ hb]
 have hr1 : Rel B γ s W1 := hr.side (by omega) fun b ob hob _ => (hold b (Array.getElem?_eq_some_iff.1 hob).1).trans hob
 refine ⟨w.heap.size + 1, [{ target := .collected w.heap.size, args := #[] }], W1, { target := .fn (.func gf) cc, args := #[.func (.yield (w.heap.size + 1)) #[] #[]] }, W1, gf,
  #[.func (.yield (w.heap.size + 1)) #[] #[]] ++ cc, W1, ?_, ?_, fun _ _ => trivial, ?_, fun h => (by cases h), ?_⟩
 ·rw [← hW1, hre]; exact run_enterLoop_outer _ _ _ _ _
 ·simp only [resolve, hcc]
  simp [go_sem]
 ·simp [invoke, go_sem, run_callFunc hc]
 ·refine callsIn_wide.2 ((hit (w.heap.size + 1) w.heap.size r (by rw [hre]) (by rw [hre]) (by rw [hre]) (by rw [hre]) (by rw [hre]) B γ _ W1 ?_ hr1 ⟨hL1, hK1, by rw [hre]; exact hf.2⟩).mono ?_)
  ·rw [Array.toList_append]
   exact VRels.cons (by simp [VRel]) hcap
  ·rintro e w3 ⟨γ', v, cv, s', rfl, hv, d, r3, hk⟩
   have hl3 := d.keeps hr1 hL1 rfl
   have hk3 := d.keeps hr1 hK1 rfl
   have hend := run_endLoop (P := P) hl3 (by rw [hre]; simp)
   refine ⟨none, _, by rw [hend, hre], w.heap.size, γ', s', rfl, Nat.le_refl _, (World.putObj_heap_other (by omega)).trans hk3, ⟨by rw [← hf.1]; rfl, hf.2.mono d.le⟩, d.swap (by omega) (by simp) (fun b hb hnb => ?_) ?_, r3.side (by simp) fun b ob hob hs => ?_, hk⟩
   ·rw [World.putObj_heap_other (by omega), d.frm b (by omega) hnb, hold b hb]
   ·have := d.env
    rw [← hW1] at this
    exact this
   ·rw [World.putObj_heap_other]; exact hob
    rintro rfl; rw [hl3] at hob; cases hob; cases hs
theorem ICalls.body {Iv : Gam → World → Prop} {P : Program} {T : TT} (hT : TT.Ok P T) {g : FuncId} {fn : Func} {c : Code} {args : List AV} {s : AS} {R : AV → AS → Prop} {n : Nat} {rs : List ResultVar} (hf : P.funcs[g]? = some fn) (hb : fn.body = some c)
  (hn : args.length + (fn.ntmps - args.length) = n) (hrs : fn.results.toList = rs) (h : AWpX Iv none [] P n c (ainit args) s (XRet T rs R)) : ICalls Iv P g args s R := by
 subst hn hrs
 intro B γ cargs w hargs hr hi
 refine callsIn_wide (n := 0) |>.1 (callsIn_of_wp hf hb trivial ?_)
 have hlen := hargs.length
 simp only [Array.length_toList] at hlen
 have hfr : FRel γ (args.length + (fn.ntmps - args.length)) (ainit args) { tmps := cargs ++ Array.replicate (fn.ntmps - cargs.size) undef, defers := [] } := by
  refine ⟨by simp [hlen], rfl, fun t => ?_⟩
  simp only [ainit, Array.getD_eq_getD_getElem?, List.getD_eq_getElem?_getD]
  by_cases ht : t < args.length
  ·obtain ⟨cv, hcv, hrel⟩ := hargs.get (List.getElem?_eq_getElem ht)
   rw [Array.getElem?_append_left (by omega)]
   rw [Array.getElem?_toList] at hcv
   rw [hcv, List.getElem?_eq_getElem ht]
   exact hrel
  ·rw [List.getElem?_eq_none (by omega)]
   have : ((cargs ++ Array.replicate (fn.ntmps - cargs.size) undef)[t]?).getD undef = undef := by
    rw [Array.getElem?_append_right (by omega)]
    by_cases hq : t - cargs.size < fn.ntmps - cargs.size
    ·simp [hq]
    ·rw [Array.getElem?_eq_none (by simp; omega)]; rfl
   rw [this]
   exact vundef γ
 refine Go.wpIn_mono (h B γ _ w ⟨rfl, hfr⟩ hr hi) ?_
 rintro e a' w' ⟨γ', f', s', h1, h2, h3, h4⟩
 cases e with
 | normal =>
  obtain ⟨v, hv, hR⟩ := h4
  obtain ⟨cv, hrun, hrel⟩ := ares_run hT h1.2 h3 hv
  exact ⟨h1.1, cv, hrun, γ', v, cv, s', rfl, hrel, h2, h3, hR⟩
 | ret =>
  obtain ⟨v, hv, hR⟩ := h4
  obtain ⟨cv, hrun, hrel⟩ := ares_run hT h1.2 h3 hv
  exact ⟨h1.1, cv, hrun, γ', v, cv, s', rfl, hrel, h2, h3, hR⟩
 | exit id => exact h4.elim
 | goto l => exact h4.elim
 | panic ch => exact h4.elim
 | outgrown => exact h4.elim
end Go.Am
end

section
namespace Go.Am
section
variable {Iv : Gam → World → Prop} {P : Program} {T : TT} {n : Nat} {ops rest : Array Oper} {o : Oper} {os : List Oper} {f : Fr} {s : AS} {K : Fr → AS → Prop}
theorem awanted_gn (hg : o.guard = none) : awanted ops f o = some true := by simp [awanted, hg]
theorem vcOpsX.aop {v : AV} {s' : AS} (hg : o.guard = none) (hy : ayield f o.op = none) (hnd : isDefer o.op = false) (hc : acallee f o.op = none) (hd : dstOk n o.dst = true) (h : aop T o.op (aev f) s = some (v, s')) (k : vcOpsX Iv P T n ops os (updO f o.dst v) s' K) : vcOpsX Iv P T n ops (o :: os) f s K := by
 simp only [vcOpsX, awanted_gn hg, hy]
 refine ⟨hnd, .inl ⟨hd, .inl ?_⟩⟩
 rw [hc]
 exact ⟨v, s', h, k⟩
theorem vcOpsX.next {it : Operand} (hg : o.guard = none) (hop : o.op = .next it false) (hd : dstOk n o.dst = true) (h : NextM (acandM (aev f it) s) s fun v s' => vcOpsX Iv P T n ops os (updO f o.dst v) s' K) : vcOpsX Iv P T n ops (o :: os) f s K := by
 have hy : ayield f o.op = none := by rw [hop]; rfl
 simp only [vcOpsX, awanted_gn hg, hy]
 obtain ⟨l, h1, h2⟩ := NextM_get h
 exact ⟨by rw [hop]; rfl, .inl ⟨hd, .inr ⟨l, by rw [hop]; exact h1, h2⟩⟩⟩
theorem vcOpsX.call {g : FuncId} {args : List AV} (hg : o.guard = none) (hy : ayield f o.op = none) (hnd : isDefer o.op = false) (hc : acallee f o.op = some (g, args)) (hd : dstOk n o.dst = true) (h : ACalls P g args s fun v s' => vcOpsX Iv P T n ops os (updO f o.dst v) s' K) : vcOpsX Iv P T n ops (o :: os) f s K := by
 simp only [vcOpsX, awanted_gn hg, hy]
 refine ⟨hnd, .inl ⟨hd, .inl ?_⟩⟩
 rw [hc]
 exact h
theorem vcOpsX.raw {v : AV} (hg : o.guard = none) (hy : ayield f o.op = none) (hnd : isDefer o.op = false) (hd : dstOk n o.dst = true) (h : ∀ (γ : Gam) (ρ : Operand → Value) (w : World), (∀ x, VRel γ (aev f x) (ρ x)) → ∃ cv, (execOp ρ o).run P w = .ok (.value cv) w ∧ VRel γ v cv) (k : vcOpsX Iv P T n ops os (updO f o.dst v) s K) : vcOpsX Iv P T n ops (o :: os) f s K := by
 simp only [vcOpsX, awanted_gn hg, hy]
 exact ⟨hnd, .inr ⟨hd, v, h, k⟩⟩
theorem vcOpsX.yield {l : Nat} {args : List AV} (hg : o.guard = none) (hy : ayield f o.op = some (l, args)) (hd : dstOk n o.dst = true) (h : YOk Iv P l args s fun v s' => vcOpsX Iv P T n ops os (updO f o.dst v) s' K) : vcOpsX Iv P T n ops (o :: os) f s K := by
 simp only [vcOpsX, awanted_gn hg, hy]
 exact ⟨hd, h⟩
theorem YOk.mono {l : Nat} {args : List AV} {R R' : AV → AS → Prop} (h : YOk Iv P l args s R) (hr : ∀ v s', R v s' → R' v s') : YOk Iv P l args s R' := by
 intro B γ cargs w h1 h2 h3
 obtain ⟨fn, tmps, assign, body, hy, hR⟩ := h B γ cargs w h1 h2 h3
 refine ⟨fn, tmps, assign, body, hy, hR.mono ?_⟩
 rintro e w' ⟨γ', v, cv, s', a, b, c, d, e⟩
 exact ⟨γ', v, cv, s', a, b, c, d, hr _ _ e⟩
theorem ICalls.pre {g : FuncId} {args : List AV} {R : AV → AS → Prop} (h : WFs s → ICalls Iv P g args s R) : ICalls Iv P g args s R :=
 fun B γ cargs w h1 h2 h3 => h h2.wfs B γ cargs w h1 h2 h3
end
structure StTy (T : TT) (t n : Nat) : Prop where
 agg : T.agg t = some true
 siz : T.siz t = some n
 zer : ∃ z zc, T.zer t = some z ∧ acells z = some zc ∧ zc.length = n
section
variable {Iv : Gam → World → Prop} {P : Program} {T : TT} {n : Nat} {ops : Array Oper} {os : List Oper} {f : Fr} {s : AS} {K : Fr → AS → Prop}
theorem acells_agg1 {l : List AV} (h : l.all AV.one = true) : acells (.agg l) = some l := by simp [acells, AV.cells, h]
theorem vcOpsX.put {o1 o2 : Oper} {t k d : Nat} {y : Operand} {g : List AV} (hs : StTy T t k) (hw : WFs s) (g1 : o1.guard = none) (e1 : o1.op = .alloc t) (d1 : o1.dst = some d) (hd : d < n) (g2 : o2.guard = none) (e2 : o2.op = .store t (.tmp d) y) (d2 : o2.dst = none)
  (hy : ∀ v, aev (upd f d v) y = .agg g) (hg : g.length = k) (h1 : g.all AV.one = true) (h : ∀ l s', Fresh s s' l (.cells g 0 false) → vcOpsX Iv P T n ops os (upd f d (.ptr (some (l, 0)))) s' K) : vcOpsX Iv P T n ops (o1 :: o2 :: os) f s K := by
 obtain ⟨z, zc, hz, hzc, hzl⟩ := hs.zer
 refine vcOpsX.aop (v := .ptr (some (s.nl, 0))) (s' := s.new (.cells zc 0 false)) g1 (by rw [e1]; rfl) (by rw [e1]; rfl) (by rw [e1]; rfl) (by rw [d1]; simpa [dstOk] using hd) (by rw [e1]; simp only [Am.aop, hz, Option.bind_some, hzc, Option.map_some]) ?_
 obtain ⟨⟨_, hlen⟩, s2, hs2, hk⟩ := NewSt (zc := zc) (g := g) (n := k) (K := fun l s' => vcOpsX Iv P T n ops os (upd f d (.ptr (some (l, 0)))) s' K) hw hg hzl h1 h
 rw [d1]
 refine vcOpsX.aop (v := .undef) (s' := s2) g2 (by rw [e2]; rfl) (by rw [e2]; rfl) (by rw [e2]; rfl) (by rw [d2]; rfl) ?_ ?_
 ·rw [e2]
  have hp : aev (upd f d (.ptr (some (s.nl, 0)))) (.tmp d) = .ptr (some (s.nl, 0)) := upd_same _ _ _
  simp only [Am.aop, updO, hp, hy, ast, acells_agg1 h1, Option.bind_some, hs.siz]
  rw [if_pos (by rw [hg])]
  rw [hs2]; rfl
 ·rw [d2]; exact hk
theorem vcOpsX.ld {o : Oper} {t k d l off : Nat} {x : Operand} {g : List AV} (hs : StTy T t k) (g1 : o.guard = none) (e1 : o.op = .load t x) (d1 : o.dst = some d) (hd : d < n) (hx : aev f x = .ptr (some (l, off))) (hr : rdc s l off k = some g) (h : vcOpsX Iv P T n ops os (upd f d (.agg g)) s K) : vcOpsX Iv P T n ops (o :: os) f s K := by
 refine vcOpsX.aop (v := .agg g) (s' := s) g1 (by rw [e1]; rfl) (by rw [e1]; rfl) (by rw [e1]; rfl) (by rw [d1]; simpa [dstOk] using hd) ?_ (by rw [d1]; exact h)
 rw [e1]
 simp only [Am.aop, hx, ald_agg hs.agg hs.siz, hr, Option.map_some]
end
def keysCode (tm tk tf tb : TypeId) : Code :=
 (Go.Code.seq (Go.Code.region 0 #[{ dst := some 4, op := Go.Op.load tm (Go.Operand.tmp 1), type := tm, pos := "iter.go:27", after := #[], guard := none }, { dst := some 5, op := Go.Op.range tm (Go.Operand.tmp 4), type := 0, pos := "iter.go:27", after := #[{ on := 0, ground := Go.Ground.data }], guard := none }] false) (Go.Code.block 0 (Go.Code.loop (Go.Code.seq (Go.Code.region 1 #[{ dst := some 6, op := Go.Op.next (Go.Operand.tmp 5) false, type := 0, pos := "iter.go:27", after := #[], guard := none }, { dst := some 7, op := Go.Op.extract (Go.Operand.tmp 6) 0, type := tb, pos := "iter.go:27", after := #[{ on := 0, ground := Go.Ground.data }], guard := none }] false) (Go.Code.seq (Go.Code.cond (Go.Operand.tmp 7) Go.Code.skip (Go.Code.exit 0)) (Go.Code.block 1 (Go.Code.seq (Go.Code.region 2 #[{ dst := some 8, op := Go.Op.entry (Go.Operand.tmp 5), type := 0, pos := "iter.go:27", after := #[], guard := none }, { dst := some 9, op := Go.Op.extract (Go.Operand.tmp 8) 0, type := tk, pos := "iter.go:27", after := #[{ on := 0, ground := Go.Ground.data }], guard := none }, { dst := some 3, op := Go.Op.alloc tk, type := 0, pos := "iter.go:27", after := #[], guard := none }, { dst := none, op := Go.Op.store tk (Go.Operand.tmp 3) (Go.Operand.tmp 9), type := 0, pos := "iter.go:27", after := #[{ on := 2, ground := Go.Ground.data }, { on := 1, ground := Go.Ground.data }, { on := 0, ground := Go.Ground.phase }, { on := 1, ground := Go.Ground.phase }, { on := 2, ground := Go.Ground.phase }], guard := none }] false) (Go.Code.seq (Go.Code.region 3 #[{ dst := some 10, op := Go.Op.move (Go.Operand.tmp 0), type := tf, pos := "iter.go:28", after := #[], guard := none }, { dst := some 11, op := Go.Op.load tk (Go.Operand.tmp 3), type := tk, pos := "iter.go:28", after := #[], guard := none }, { dst := some 12, op := Go.Op.call { callee := Go.Callee.value (Go.Operand.tmp 10), args := #[Go.Operand.tmp 11], argTypes := #[tk] }, type := tb, pos := "iter.go:28", after := #[{ on := 0, ground := Go.Ground.data }, { on := 1, ground := Go.Ground.data }], guard := none }, { dst := some 13, op := Go.Op.unOp Go.UnOp.not tb (Go.Operand.tmp 12), type := tb, pos := "iter.go:28", after := #[{ on := 2, ground := Go.Ground.data }], guard := none }] false) (Go.Code.cond (Go.Operand.tmp 13) Go.Code.ret Go.Code.skip)))))))))
theorem keys_calls {Iv : Gam → World → Prop} (hI : Kept Iv) {P : Program} {T : TT} (hT : TT.Ok P T) {g : FuncId} {fn : Func} {tm tk tf tb n : TypeId} (hf : P.funcs[g]? = some fn) (hb : fn.body = some (keysCode tm tk tf tb)) (hn : fn.ntmps = 14) (hrs : fn.results = #[])
  {kt et : TypeId} (hagg : T.agg tm = some false) (hu : T.und tm = some (.map kt et)) (hk : StTy T tk n)
  {K V : Type} [DecidableEq K] {kc : K → List AV} {vf : V → AV} (hkc : ∀ k, (kc k).length = n ∧ (kc k).all AV.one = true) {s : AS} {l lb m : Nat} {es : List (K × V × Nat)} {c : Nat} {ro : Bool} (hbx : At s lb [.map (some m)]) (hm : MpAt (fun k => .agg (kc k)) vf s m es c ro)
  {J : Nat → List (K × V × Nat) → AS → Prop}
  (h0 : ∀ it s', Iter s' it m es c ([] : List (K × V × Nat)) → Fresh s s' it (.mapIt (some m) c [] c false) → J it [] s')
  (hJ : ∀ it done s', J it done s' → WFs s' ∧ MpAt (fun k => .agg (kc k)) vf s' m es c ro ∧ Iter s' it m es c done)
  (hnx : ∀ it done s1 s2 s3 e, J it done s1 → e ∈ es → e ∉ done → Iter s2 it m es c (done ++ [e]) → Mut [it] s1 s2 → Ext s2 s3 → WFs s3 → YOk Iv P l [.agg (kc e.1)] s3 fun v s4 => v = .bool true ∧ J it (done ++ [e]) s4) :
  ICalls Iv P g [.yld l, .ptr (some (lb, 0))] s fun _ s' => ∃ it done, (∀ e ∈ es, e ∈ done) ∧ J it done s' := by
 refine ICalls.pre fun hw => ICalls.body (n := 14) (rs := []) hT hf hb (by simp [hn]) (by rw [hrs]) ?_
 unfold keysCode
 refine AWpX.seq hI (AWpX.region hI hT ?_)
 refine vcOpsX.aop (v := .map (some m)) (s' := s) rfl rfl rfl rfl rfl ?_ ?_
 ·show (ald T tm s (.ptr (some (lb, 0)))).map (·, s) = _
  rw [ald_scalar hagg, hbx.rd1]; rfl
 have F := hw.new (o := .mapIt (some m) c [] c false) rfl
 refine vcOpsX.aop (v := .ptr (some (s.nl, 0))) (s' := s.new (.mapIt (some m) c [] c false)) rfl rfl rfl rfl rfl ?_ ?_
 ·have e : aev (updO (ainit [.yld l, .ptr (some (lb, 0))]) (some 4) (.map (some m))) (.tmp 4) = .map (some m) := rfl
  simp only [Am.aop, e, hu, hm.obj]
 show AWpX _ _ _ _ _ _ _ _ _
 have j0 := h0 s.nl _ ⟨F.at, by simp, List.nodup_nil⟩ F
 generalize s.new (.mapIt (some m) c [] c false) = s0 at j0
 generalize s.nl = it at j0
 refine AWpX.block (AWpX.loop hI (fun mm f s' => f 0 = .yld l ∧ f 5 = .ptr (some (it, 0)) ∧ ∃ done, mm = es.length - done.length ∧ J it done s') es.length ⟨rfl, rfl, [], rfl, j0⟩ ?_)
 rintro mm f s1 ⟨f0, f5, done, rfl, j⟩
 obtain ⟨w1, M1, I1⟩ := hJ it done s1 j
 refine AWpX.seq hI (AWpX.region hI hT (vcOpsX.next rfl rfl rfl ?_))
 show NextM (acandM (f 5) s1) s1 _
 rw [f5]
 refine Iter.next w1 M1 I1 (fun hall => ?_) (fun e s2 he hne I2 w2 m2 => ?_)
 ·refine vcOpsX.aop (v := .bool false) (s' := s1) rfl rfl rfl rfl rfl rfl ?_
  show AWpX _ _ _ _ _ _ _ _ _
  refine AWpX.seq hI (AWpX.cond (t := false) rfl (AWpX.exit ?_))
  simp only [XThen, XBlock, if_true]
  exact ⟨.tup [], rfl, it, done, hall, j⟩
 have hlt := I1.lt he hne
 have M2 := M1.mut m2 (by
  simp only [List.mem_singleton]
  rintro rfl
  have := I1.at
  rw [M1.obj] at this; cases this)
 refine vcOpsX.aop (v := .bool true) (s' := s2) rfl rfl rfl rfl rfl rfl ?_
 show AWpX _ _ _ _ _ _ _ _ _
 refine AWpX.seq hI (AWpX.cond (t := true) rfl (AWpX.skip ?_))
 show AWpX _ _ _ _ _ _ _ _ _
 refine AWpX.block (AWpX.seq hI (AWpX.region hI hT ?_))
 obtain ⟨k', v', hent, hkv⟩ := Iter.entry (Q := fun a b => a = .agg (kc e.1)) M2 I2 rfl
 subst hkv
 refine vcOpsX.aop (v := .tup [.agg (kc e.1), v']) (s' := s2) rfl rfl rfl rfl rfl ?_ ?_
 ·show (aentry (f 5) s2).map (·, s2) = _
  rw [f5, hent]; rfl
 refine vcOpsX.aop (v := .agg (kc e.1)) (s' := s2) rfl rfl rfl rfl rfl rfl ?_
 refine vcOpsX.put hk w2 rfl rfl rfl (by decide) rfl rfl rfl (g := kc e.1) (fun v => rfl) (hkc _).1 (hkc _).2 fun lk s3 F3 => ?_
 show AWpX _ _ _ _ _ _ _ _ _
 refine AWpX.seq hI (AWpX.region hI hT ?_)
 refine vcOpsX.aop (v := .yld l) (s' := s3) rfl rfl rfl rfl rfl ?_ ?_
 ·show some (f 0, s3) = _
  rw [f0]
 refine vcOpsX.ld (g := kc e.1) (l := lk) (off := 0) hk rfl rfl rfl (by decide) rfl ?_ ?_
 ·have o3 : At s3 lk (kc e.1) := ⟨_, _, F3.at⟩
  rw [o3.rdc (by rw [(hkc _).1]; omega), List.drop_zero, List.take_of_length_le (by rw [(hkc _).1]; exact Nat.le_refl _)]
 refine vcOpsX.yield (l := l) (args := [.agg (kc e.1)]) rfl rfl rfl ((hnx it done s1 s2 s3 e j he hne I2 m2 F3.ext F3.wf).mono ?_)
 rintro v s4 ⟨rfl, j4⟩
 refine vcOpsX.aop (v := .bool false) (s' := s4) rfl rfl rfl rfl rfl rfl ?_
 show AWpX _ _ _ _ _ _ _ _ _
 refine AWpX.cond (t := false) rfl (AWpX.skip ?_)
 exact ⟨es.length - (done.length + 1), by omega, f0, f5, done ++ [e], by simp, j4⟩
end Go.Am
end

section
namespace Go.Am
open Go.RowKit
def apAssign (te : TypeId) : Code := (Go.Code.region 2 #[{ dst := some 5, op := Go.Op.alloc te, type := 0, pos := "iter.go:51", after := #[], guard := none }, { dst := none, op := Go.Op.store te (Go.Operand.tmp 5) (Go.Operand.tmp 7), type := 0, pos := "iter.go:51", after := #[{ on := 0, ground := Go.Ground.data }, { on := 0, ground := Go.Ground.phase }], guard := none }] false)
def apBody (ts te : TypeId) : Code := (Go.Code.block 1 (Go.Code.region 3 #[{ dst := some 8, op := Go.Op.load ts (Go.Operand.tmp 2), type := ts, pos := "iter.go:52", after := #[], guard := none }, { dst := some 9, op := Go.Op.load te (Go.Operand.tmp 5), type := te, pos := "iter.go:52", after := #[], guard := none }, { dst := some 10, op := Go.Op.buildSlice ts 1 #[(0, Go.Operand.tmp 9)], type := ts, pos := "iter.go:52", after := #[{ on := 1, ground := Go.Ground.data }], guard := none }, { dst := some 11, op := Go.Op.call { callee := Go.Callee.builtin Go.Builtin.append, args := #[Go.Operand.tmp 8, Go.Operand.tmp 10], argTypes := #[ts, ts] }, type := ts, pos := "iter.go:52", after := #[{ on := 0, ground := Go.Ground.data }, { on := 2, ground := Go.Ground.data }], guard := none }, { dst := none, op := Go.Op.store ts (Go.Operand.tmp 2) (Go.Operand.tmp 11), type := 0, pos := "iter.go:52", after := #[{ on := 3, ground := Go.Ground.data }, { on := 3, ground := Go.Ground.chain }, { on := 0, ground := Go.Ground.phase }, { on := 1, ground := Go.Ground.phase }, { on := 2, ground := Go.Ground.phase }, { on := 3, ground := Go.Ground.phase }], guard := none }] false))
def apSeqCode (ts te tq : TypeId) : Code :=
 (Go.Code.seq (Go.Code.region 0 #[{ dst := some 2, op := Go.Op.box ts (Go.Operand.tmp 0), type := 0, pos := "iter.go:50", after := #[], guard := none }, { dst := some 4, op := Go.Op.assign (Go.Operand.const (Go.Value.slice none 0 0)), type := ts, pos := "iter.go:50", after := #[], guard := none }] false) (Go.Code.seq (Go.Code.seq (Go.Code.region 1 #[{ dst := some 6, op := Go.Op.move (Go.Operand.tmp 1), type := tq, pos := "iter.go:51", after := #[], guard := none }] false) (Go.Code.block 0 (Go.Code.rangeFunc (Go.Operand.tmp 6) #[7] (apAssign te) (apBody ts te)))) (Go.Code.seq (Go.Code.region 4 #[{ dst := some 12, op := Go.Op.load ts (Go.Operand.tmp 2), type := ts, pos := "iter.go:54", after := #[], guard := none }, { dst := some 4, op := Go.Op.assign (Go.Operand.tmp 12), type := ts, pos := "iter.go:54", after := #[{ on := 0, ground := Go.Ground.data }, { on := 0, ground := Go.Ground.phase }], guard := none }] false) Go.Code.ret)))
def ItRun {K V : Type} (P : Program) (kf : K → AV) (vf : V → AV) (m : Nat) (es : List (K × V × Nat)) (c : Nat) (ro : Bool) (el : K × V × Nat → List AV) (gf : FuncId) (cap : List AV) (s : AS) : Prop :=
 ∀ (Iv : Gam → World → Prop) (hI : Kept Iv) (l : Nat) (J : Nat → List (K × V × Nat) → AS → Prop),
  (∀ it s', Iter s' it m es c ([] : List (K × V × Nat)) → Fresh s s' it (.mapIt (some m) c [] c false) → J it [] s') →
  (∀ it done s', J it done s' → WFs s' ∧ MpAt kf vf s' m es c ro ∧ Iter s' it m es c done) →
  (∀ it done s1 s2 s3 e, J it done s1 → e ∈ es → e ∉ done → Iter s2 it m es c (done ++ [e]) → Mut [it] s1 s2 → Ext s2 s3 → WFs s3 → YOk Iv P l [.agg (el e)] s3 fun v s4 => v = .bool true ∧ J it (done ++ [e]) s4) →
  ICalls Iv P gf (.yld l :: cap) s fun _ s' => ∃ it done, (∀ e ∈ es, e ∈ done) ∧ J it done s'
structure STy (T : TT) (t : TypeId) : Prop where
 agg : T.agg t = some false
 siz : T.siz t = some 1
theorem FX.init {γ : Gam} {args : List AV} {cargs : Array Value} (hargs : VRels γ args cargs.toList) {k n : Nat} (hn : args.length + (k - args.length) = n) : FX γ n (ainit args) [] { tmps := cargs ++ Array.replicate (k - cargs.size) undef, defers := [] } := by
 subst hn
 have hlen := hargs.length
 simp only [Array.length_toList] at hlen
 refine ⟨rfl, by simp [hlen], rfl, fun t => ?_⟩
 simp only [ainit, Array.getD_eq_getD_getElem?, List.getD_eq_getElem?_getD]
 by_cases ht : t < args.length
 ·obtain ⟨cv, hcv, hrel⟩ := hargs.get (List.getElem?_eq_getElem ht)
  rw [Array.getElem?_append_left (by omega)]
  rw [Array.getElem?_toList] at hcv
  rw [hcv, List.getElem?_eq_getElem ht]
  exact hrel
 ·rw [List.getElem?_eq_none (by omega)]
  have : ((cargs ++ Array.replicate (k - cargs.size) undef)[t]?).getD undef = undef := by
   rw [Array.getElem?_append_right (by omega)]
   by_cases hq : t - cargs.size < k - cargs.size
   ·simp [hq]
   ·rw [Array.getElem?_eq_none (by simp; omega)]; rfl
  rw [this]
  exact vundef γ
theorem appendSeq_calls {P : Program} {T : TT} (hT : TT.Ok P T) {g : FuncId} {fn : Func} {ts te tq n by_ : TypeId} (hf : P.funcs[g]? = some fn) (hc : callable P g = true) (hb : fn.body = some (apSeqCode ts te tq)) (hn : fn.ntmps = 13) (hrs : fn.results = #[.tmp 4])
  (hts : STy T ts) (hsl : SlTy T ts te n by_) (hte : StTy T te n) {K V : Type} {kf : K → AV} {vf : V → AV} {m : Nat} {es : List (K × V × Nat)} {c : Nat} {ro : Bool} {el : K × V × Nat → List AV} (hel : ∀ e, (el e).length = n) (hone : ∀ e, (el e).all AV.one = true)
  {gf : FuncId} {cap : List AV} (hgf : callable P gf = true) (hes : es.length ≤ 2 ^ 30) {s : AS} (hm : MpAt kf vf s m es c ro) (hrun : ∀ s1, Ext s s1 → WFs s1 → ItRun P kf vf m es c ro el gf cap s1) {a : Option (Nat × Nat)} :
  ACalls P g [.slc a 0 0 true, .func gf cap] s fun v s' => ∃ done : List (K × V × Nat), (∀ e ∈ es, e ∈ done) ∧ (∀ e ∈ done, e ∈ es) ∧ done.Nodup ∧ GroN el n [] s s' v done := by
 intro B γ cargs w hargs hr
 refine .inl ⟨run_callFunc hc _ w, callsIn_wide (n := 0) |>.1 (callsIn_of_wp_marks hf hb trivial ?_)⟩
 have hw := hr.wfs
 have fx0 : FX γ 13 (ainit [.slc a 0 0 true, .func gf cap]) [] { tmps := cargs ++ Array.replicate (fn.ntmps - cargs.size) undef, defers := [] } := FX.init hargs (by simp [hn])
 have KT := Kept.true
 unfold apSeqCode
 have h1 : AWpX (fun _ _ => True) none [] P 13 _ (ainit [.slc a 0 0 true, .func gf cap]) s fun e f' s' => e = .normal ∧ ∃ bx, f' 1 = .func gf cap ∧ f' 2 = .ptr (some (bx, 0)) ∧ Fresh s s' bx (.cells [.slc a 0 0 true] 0 false) :=
  AWpX.region (id := 0) KT hT (ops := #[{ dst := some 2, op := Go.Op.box ts (Go.Operand.tmp 0), type := 0, pos := "iter.go:50", after := #[], guard := none }, { dst := some 4, op := Go.Op.assign (Go.Operand.const (Go.Value.slice none 0 0)), type := ts, pos := "iter.go:50", after := #[], guard := none }])
   (vcOpsX.aop (v := .ptr (some (s.nl, 0))) (s' := s.new (.cells [.slc a 0 0 true] 0 false)) rfl rfl rfl rfl rfl rfl (vcOpsX.aop (v := .slc none 0 0 true) (s' := s.new (.cells [.slc a 0 0 true] 0 false)) rfl rfl rfl rfl rfl rfl ⟨rfl, s.nl, rfl, rfl, hw.new rfl⟩))
 refine wpIn_seq (Go.wpIn_mono (h1 B γ _ w fx0 hr trivial) ?_)
 rintro e a1 w1 ⟨γ1, f1, s1, fx1, d1, r1, rfl, bx, f11, f12, F1⟩
 have w1' := r1.wfs
 have h2 : AWpX (fun _ _ => True) none [] P 13 _ f1 s1 fun e f' s' => e = .normal ∧ s' = s1 ∧ f' 6 = .func gf cap ∧ f' 2 = .ptr (some (bx, 0)) :=
  AWpX.region (id := 1) KT hT (ops := #[{ dst := some 6, op := Go.Op.move (Go.Operand.tmp 1), type := tq, pos := "iter.go:51", after := #[], guard := none }])
   (vcOpsX.aop (v := .func gf cap) (s' := s1) rfl rfl rfl rfl rfl (by show some (f1 1, s1) = _; rw [f11]) ⟨rfl, rfl, rfl, f12⟩)
 refine wpIn_seq (wpIn_seq (Go.wpIn_mono (h2 B γ1 a1 w1 fx1 r1 trivial) ?_))
 rintro e a2 w2 ⟨γ2, f2, s2, fx2, d2, r2, rfl, rfl, f26, f22⟩
 have hbx0 : s.h bx = none := F1.no
 have Es2 : Ext s s2 := F1.ext
 have hm2 := hm.ext Es2
 let J : Nat → List (K × V × Nat) → AS → Prop := fun it done s' => WFs s' ∧ MpAt kf vf s' m es c ro ∧ Iter s' it m es c done ∧ s2.h it = none ∧ it ≠ bx ∧ ∃ sI v, Ext s2 sI ∧ sI.h it ≠ none ∧ sI.h bx ≠ none ∧ Own s' bx [v] ∧ GroN el n [bx, it] sI s' v done
 have hloop := wpIn_rangeFunc_am (n := 13) (p := 7) (assign := apAssign te) (body := apBody ts te) (K := fun s' => ∃ it done, (∀ e ∈ es, e ∈ done) ∧ J it done s') (g := .tmp 6) (f := f2) (ds := []) f26 hgf (fun l D r hst hpe hps has hbo => ?_) fx2 r2
 rotate_left
 ·refine hrun s2 Es2 w1' (RecI l D r 13 f2) RecI.kept l J (fun it s' I F => ?_) (fun it done s' j => ⟨j.1, j.2.1, j.2.2.1⟩) (fun it done q1 q2 q3 e j he hne I2 m2 e3 w3 => ?_)
  ·have hbi : it ≠ bx := by rintro rfl; have := F.no; rw [F1.at] at this; cases this
   exact ⟨F.wf, hm2.ext F.ext, I, F.no, hbi, s', _, F.ext, by rw [F.at]; simp, by rw [F.ext.1 _ _ F1.at]; simp, F1.own.ext F.ext, GroN.nil⟩
  ·obtain ⟨jw, jm, jI, jn, jb, sI, v, eI, hIt, hIb, jo, jg⟩ := j
   have hlt := jI.lt he hne
   have hmi : m ≠ it := by
    rintro rfl
    have := jI.at
    rw [jm.obj] at this; cases this
   have hmb : m ≠ bx := by
    rintro rfl
    have := jo.at
    obtain ⟨g1, g2, h1⟩ := this
    rw [jm.obj] at h1; cases h1
   have M3 := (jm.mut m2 (by simpa using hmi)).ext e3
   have I3 := I2.ext e3
   have o3 := (jo.mut m2 (by simpa using jb.symm)).ext e3
   have hM : ∀ x ∈ [bx, it], sI.h x ≠ none := by
    intro x hx
    simp only [List.mem_cons, List.not_mem_nil, or_false] at hx
    rcases hx with rfl | rfl
    ·exact hIb
    ·exact hIt
   have g3 : GroN el n [bx, it] sI q3 v done := (jg.wr hM (m2.mono (by simp))).step e3
   refine YOk.round (p := 7) hst hpe hps (by decide) ?_
   rw [has, hbo]
   refine AWpX.region KT hT (vcOpsX.put hte w3 rfl rfl rfl (by decide) rfl rfl rfl (g := el e) (fun v => rfl) (hel e) (hone e) fun lv q4 F4 => ⟨rfl, ?_⟩)
   refine AWpX.block (AWpX.region KT hT ?_)
   have o4 := o3.ext F4.ext
   have g4 := g3.step F4.ext
   refine vcOpsX.aop (v := v) (s' := q4) rfl rfl rfl rfl rfl ?_ ?_
   ·show (ald T ts q4 (upd (upd f2 7 (.agg (el e))) 5 (.ptr (some (lv, 0))) 2)).map (·, q4) = _
    rw [show upd (upd f2 7 (.agg (el e))) 5 (.ptr (some (lv, 0))) 2 = .ptr (some (bx, 0)) from f22, ald_scalar hts.agg, o4.at.rd1]; rfl
   refine vcOpsX.ld (g := el e) (l := lv) (off := 0) hte rfl rfl rfl (by decide) rfl ?_ ?_
   ·have a4 : At q4 lv (el e) := ⟨_, _, F4.at⟩
    rw [a4.rdc (by rw [hel]; omega), List.drop_zero, List.take_of_length_le (by rw [hel]; exact Nat.le_refl _)]
   have hM4 : ∀ x ∈ [bx, it], q4.h x ≠ none := by
    intro x hx
    simp only [List.mem_cons, List.not_mem_nil, or_false] at hx
    rcases hx with rfl | rfl
    ·rw [o4]; simp
    ·rw [(I3.ext F4.ext).at]; simp
   obtain ⟨gc, hgc, v', q5, happ, G5, w5, m5⟩ := GroN.append1 hsl hel hone F4.wf g4 hM4 e (by omega) (K := fun v' s' => GroN el n [bx, it] sI s' v' (done ++ [e]) ∧ WFs s' ∧ Mut (labOf v) q4 s') (fun v' s' a b c => ⟨a, b, c⟩)
   refine vcOpsX.aop (v := .slc (some (q4.nl, 0)) 1 1 true) (s' := q4.new (.cells gc 0 false)) rfl rfl rfl rfl rfl ?_ ?_
   ·show abuildSlice T ts 1 [(0, .agg (el e))] q4 = _
    exact absl_eq hgc
   refine vcOpsX.aop (v := v') (s' := q5) rfl rfl rfl rfl rfl happ ?_
   have hlab : ∀ x, q4.h x ≠ none → sI.h x ≠ none → x ∉ labOf v := fun x _ h2 hx => h2 (g4.new x hx)
   have o5 := o4.mut m5 (fun hx => hIb (g4.new _ hx))
   have hv1 : v'.one = true := G5.isSlc.2
   have P5 : Put q5 (q5.put bx (.cells [v'] 0 false)) bx (.cells [v'] 0 false) := w5.put o5 rfl
   refine vcOpsX.aop (v := .undef) (s' := q5.put bx (.cells [v'] 0 false)) rfl rfl rfl rfl rfl ?_ ?_
   ·show (ast T ts q5 (upd (upd f2 7 (.agg (el e))) 5 (.ptr (some (lv, 0))) 2) v').map (fun x => (AV.undef, x)) = _
    rw [show upd (upd f2 7 (.agg (el e))) 5 (.ptr (some (lv, 0))) 2 = .ptr (some (bx, 0)) from f22]
    have hac : acells v' = some [v'] := by cases v' <;> first | rfl | cases hv1
    simp only [ast, hac, Option.bind_some, hts.siz, List.length_singleton, if_true, awr, show q5.h bx = some (.cells [v] 0 false) from o5]
    rfl
   have hIm : sI.h m ≠ none := by rw [(hm2.ext eI).obj]; simp
   have hmv : m ∉ labOf v := fun hx => hIm (g4.new _ hx)
   have hiv : it ∉ labOf v := fun hx => hIt (g4.new _ hx)
   refine ⟨rfl, rfl, P5.wf, ((M3.ext F4.ext).mut m5 hmv).mut P5.mut (by simpa using hmb), ((I3.ext F4.ext).mut m5 hiv).mut P5.mut (by simpa using jb), jn, jb, sI, v', eI, hIt, hIb, P5.at, G5.wr hM (P5.mut.mono (by simp))⟩
 refine wpIn_block (Go.wpIn_mono hloop ?_)
 rintro e a3 w3 ⟨D, γ3, s3, rfl, hD, hK3, fx3, d3, r3, it, done, hall, jw, jm, jI, jn, jb, sI, v, eI, hIt, hIb, jo, jg⟩
 have h4 : AWpX (fun _ _ => True) none [{ target := .collected D, args := #[] }] P 13 _ f2 s3 fun e f' s' => e = .normal ∧ s' = s3 ∧ f' 4 = v :=
  AWpX.region (id := 4) KT hT (ops := #[{ dst := some 12, op := Go.Op.load ts (Go.Operand.tmp 2), type := ts, pos := "iter.go:54", after := #[], guard := none }, { dst := some 4, op := Go.Op.assign (Go.Operand.tmp 12), type := ts, pos := "iter.go:54", after := #[{ on := 0, ground := Go.Ground.data }, { on := 0, ground := Go.Ground.phase }], guard := none }])
   (vcOpsX.aop (v := v) (s' := s3) rfl rfl rfl rfl rfl (by show (ald T ts s3 (f2 2)).map (·, s3) = _; rw [f22, ald_scalar hts.agg, jo.at.rd1]; rfl) (vcOpsX.aop (v := v) (s' := s3) rfl rfl rfl rfl rfl rfl ⟨rfl, rfl, rfl⟩))
 refine wpIn_seq (Go.wpIn_mono (h4 B γ3 a3 w3 fx3 r3 trivial) ?_)
 rintro e a4 w4 ⟨γ4, f4, s4, fx4, d4, r4, rfl, rfl, f44⟩
 refine wpIn_ret ?_
 show LeavesInM _ _ _ _ a4.tmps _ a4.defers .returning w4
 rw [fx4.1]
 have hK4 := d4.keeps r3 hK3 rfl
 have hlt4 := (Array.getElem?_eq_some_iff.1 hK4).1
 refine ⟨by simp, .inl ⟨D, _, rfl, run_takeDeferred hK4, ?_⟩⟩
 have r5 : Rel B γ4 s4 (w4.putObj D (.deferred none)) := r4.side (by simp) fun b ob hob hs => by
  rw [World.putObj_heap_other]; exact hob
  rintro rfl; rw [hK4] at hob; cases hob; cases hs
 obtain ⟨cv, hrun, hv⟩ := ares_run hT fx4.2 r5 (fn := fn) (v := v) (by rw [hrs]; simp [ares, ares.resL, f44])
 have hsz := d1.siz
 have hsz2 := d2.siz
 refine ⟨cv, hrun, γ4, v, cv, s4, rfl, hv, (d1.trans (d2.trans (d3.trans d4))).swap (Nat.le_refl _) (by simp) (fun b hb hnb => ?_) ?_, r5, done, hall, jI.sub, jI.nd, jg.gro, ?_, fun la hla => ?_⟩
 ·rw [World.putObj_heap_other (by omega)]
  exact (d1.trans (d2.trans (d3.trans d4))).frm b hb hnb
 ·exact (d1.trans (d2.trans (d3.trans d4))).env
 ·refine ⟨fun x o _ hx => jg.chg.1 x o ?_ (eI.1 _ _ (Es2.1 _ _ hx)), Nat.le_trans (Nat.le_trans Es2.2 eI.2) jg.chg.2⟩
  simp only [List.mem_cons, List.not_mem_nil, or_false]
  rintro (rfl | rfl)
  ·rw [hbx0] at hx; cases hx
  ·have := Es2.none jn; rw [this] at hx; cases hx
 ·exact Es2.none (eI.none (jg.new la hla))
theorem keys_run {P : Program} {T : TT} (hT : TT.Ok P T) {g : FuncId} {fn : Func} {tm tk tf tb n : TypeId} (hf : P.funcs[g]? = some fn) (hb : fn.body = some (keysCode tm tk tf tb)) (hn : fn.ntmps = 14) (hrs : fn.results = #[])
  {kt et : TypeId} (hagg : T.agg tm = some false) (hu : T.und tm = some (.map kt et)) (hk : StTy T tk n)
  {K V : Type} [DecidableEq K] {kc : K → List AV} {vf : V → AV} (hkc : ∀ k, (kc k).length = n ∧ (kc k).all AV.one = true) {s : AS} {lb m : Nat} {es : List (K × V × Nat)} {c : Nat} {ro : Bool} (hbx : At s lb [.map (some m)]) (hm : MpAt (fun k => .agg (kc k)) vf s m es c ro) :
  ItRun P (fun k => .agg (kc k)) vf m es c ro (fun e => kc e.1) g [.ptr (some (lb, 0))] s :=
 fun Iv hI l J h0 hJ hnx => keys_calls hI hT hf hb hn hrs hagg hu hk hkc hbx hm h0 hJ hnx
end Go.Am
end

section
namespace Go.Am
theorem run_clone {P : Program} {w : World} {t : TypeId} {b : Nat} {ces : Array MapEntry} {clock : Nat} (h : w.heap[b]? = some (.map ces clock)) : (Extern.MapsClone.clone #[.iface t (.map (some b))]).run P w = .ok (.iface t (.map (some w.heap.size))) { w with heap := w.heap.push (.map ces clock) } := by
 have e : Extern.MapsClone.clone #[.iface t (.map (some b))] = (getObj b >>= fun o => match o with
  | .map entries clock => (do pure (.iface t (.map (some (← newObj (.map entries clock))))) : Sem Value)
  | _ => stuck "maps.clone: a map expected") := rfl
 rw [e]
 simp only [Sem.run_bind, getObj, Sem.run, h, Result.andThen_ok]
 rfl
theorem acalls_clone {P : Program} {g : FuncId} {fn : Func} {t : TypeId} (hf : P.funcs[g]? = some fn) (hname : (fn.name == "runtime.NumGoroutine") = false) (hb : fn.body.isNone = true) (hn : Extern.findNext fn = none)
  (he : Extern.find fn = some Extern.MapsClone.clone) {s : AS} {m : Nat} {es : List (AV × AV × Nat)} {c : Nat} {ro : Bool} (hm : s.h m = some (.map es c ro)) :
  ACalls P g [.iface t (.map (some m))] s fun v s' => ∃ m', v = .iface t (.map (some m')) ∧ Fresh s s' m' (.map es c false) := by
 refine ACalls.extern hf hname hb hn he ?_
 intro B γ cargs w hargs hr
 have hw := hr.wfs
 obtain ⟨c1, r1, e1, h1, hargs⟩ := VRels.cons_iff.1 hargs
 obtain rfl := VRels.nil_iff.1 hargs
 simp only [VRel] at h1
 obtain ⟨cv, rfl, i, hi, rfl⟩ := h1
 have hca : cargs = #[.iface t (.map (some i.b))] := by apply Array.ext'; rw [e1]
 subst hca
 obtain ⟨j, hj, hO, _⟩ := hr.obj m _ hm
 rw [hi] at hj; obtain rfl := Option.some.inj hj
 obtain ⟨ces, hA, hE⟩ := hO
 have hle : Gam.le γ (updG γ s.nl { b := w.heap.size, d := 0, x := 0 }) := Gam.le_upd hr.fin0
 obtain ⟨hr', hd'⟩ := hr.alloc (o := .map es c false) (i := { b := w.heap.size, d := 0, x := 0 }) (obj := .map ces c) (w' := { w with heap := w.heap.push (.map ces c) }) rfl rfl rfl ⟨ces, by simp, hE.mono hle⟩
 refine ⟨_, .iface t (.map (some s.nl)), _, _, _, run_clone hA, ?_, hd', hr', s.nl, rfl, hw.new rfl⟩
 simp only [VRel]
 exact ⟨_, rfl, _, updG_same _ _ _, rfl⟩
theorem ACalls.of_I {P : Program} {g : FuncId} {args : List AV} {s : AS} {R : AV → AS → Prop} (hc : callable P g = true) (h : ICalls (fun _ _ => True) P g args s R) : ACalls P g args s R :=
 fun B γ cargs w h1 h2 => .inl ⟨run_callFunc hc _ w, h B γ cargs w h1 h2 trivial⟩
def cloneCode (tm ti tb cl : TypeId) : Code :=
 (Go.Code.seq (Go.Code.region 0 #[{ dst := some 2, op := Go.Op.assign (Go.Operand.const (Go.Value.map none)), type := tm, pos := "maps.go:50", after := #[], guard := none }] false) (Go.Code.seq (Go.Code.seq (Go.Code.region 1 #[{ dst := some 3, op := Go.Op.move (Go.Operand.tmp 0), type := tm, pos := "maps.go:52", after := #[], guard := none }, { dst := some 4, op := Go.Op.binOp Go.BinOp.eql tm (Go.Operand.tmp 3) (Go.Operand.const (Go.Value.map none)) tm, type := tb, pos := "maps.go:52", after := #[{ on := 0, ground := Go.Ground.data }], guard := none }] false) (Go.Code.cond (Go.Operand.tmp 4) (Go.Code.seq (Go.Code.region 2 #[{ dst := some 2, op := Go.Op.assign (Go.Operand.const (Go.Value.map none)), type := tm, pos := "maps.go:53", after := #[], guard := none }] false) Go.Code.ret) Go.Code.skip)) (Go.Code.seq (Go.Code.region 3 #[{ dst := some 5, op := Go.Op.move (Go.Operand.tmp 0), type := tm, pos := "maps.go:55", after := #[], guard := none }, { dst := some 6, op := Go.Op.makeInterface tm (Go.Operand.tmp 5), type := ti, pos := "maps.go:55", after := #[{ on := 0, ground := Go.Ground.data }], guard := none }, { dst := some 7, op := Go.Op.call { callee := Go.Callee.value (Go.Operand.func cl), args := #[Go.Operand.tmp 6], argTypes := #[ti] }, type := ti, pos := "maps.go:55", after := #[{ on := 1, ground := Go.Ground.data }], guard := none }, { dst := some 8, op := Go.Op.typeAssert (Go.Operand.tmp 7) ti tm false, type := tm, pos := "maps.go:55", after := #[{ on := 2, ground := Go.Ground.data }], guard := none }, { dst := some 2, op := Go.Op.assign (Go.Operand.tmp 8), type := tm, pos := "maps.go:55", after := #[{ on := 3, ground := Go.Ground.data }, { on := 2, ground := Go.Ground.chain }, { on := 0, ground := Go.Ground.phase }, { on := 1, ground := Go.Ground.phase }, { on := 2, ground := Go.Ground.phase }, { on := 3, ground := Go.Ground.phase }], guard := none }] false) Go.Code.ret)))
theorem run_tassert {P : Program} {T : TT} (hT : TT.Ok P T) {tm ti kt et : TypeId} (hu : T.und tm = some (.map kt et)) (cv : Value) (w : World) : (Instr.typeAssert (.iface tm cv) ti tm false).run P w = .ok cv w := by
 simp only [Instr.typeAssert, Sem.run_bind, run_underlying hT hu, Result.andThen_ok, if_true]
 rfl
theorem clone_calls {P : Program} {T : TT} (hT : TT.Ok P T) {g cl : FuncId} {fn fc : Func} {tm ti tb kt et : TypeId} (hf : P.funcs[g]? = some fn) (hc : callable P g = true) (hb : fn.body = some (cloneCode tm ti tb cl)) (hn : fn.ntmps = 9) (hrs : fn.results = #[.tmp 2])
  (hu : T.und tm = some (.map kt et)) (hfc : P.funcs[cl]? = some fc) (hname : (fc.name == "runtime.NumGoroutine") = false) (hbc : fc.body.isNone = true) (hnc : Extern.findNext fc = none) (hec : Extern.find fc = some Extern.MapsClone.clone)
  {s : AS} {m : Nat} {es : List (AV × AV × Nat)} {c : Nat} {ro : Bool} (hm : s.h m = some (.map es c ro)) :
  ACalls P g [.map (some m)] s fun v s' => ∃ m', v = .map (some m') ∧ Fresh s s' m' (.map es c false) := by
 have KT := Kept.true
 refine ACalls.of_I hc (ICalls.body (n := 9) (rs := [.tmp 2]) hT hf hb (by simp [hn]) (by rw [hrs]) ?_)
 unfold cloneCode
 refine AWpX.seq KT (AWpX.region KT hT (vcOpsX.aop (v := .map none) (s' := s) rfl rfl rfl rfl rfl rfl ?_))
 show AWpX _ _ _ _ _ _ _ _ _
 refine AWpX.seq KT (AWpX.seq KT (AWpX.region KT hT (vcOpsX.aop (v := .map (some m)) (s' := s) rfl rfl rfl rfl rfl rfl (vcOpsX.aop (v := .bool false) (s' := s) rfl rfl rfl rfl rfl ?_ ?_))))
 ·show (if agd T tm (Go.Operand.tmp 3) (Go.Operand.const (Go.Value.map none)) (.map (some m)) (.map none) = true then (abin T .eql tm (.map (some m)) (.map none)).map (·, s) else none) = _
  have h1 : agd T tm (Go.Operand.tmp 3) (Go.Operand.const (Go.Value.map none)) (.map (some m)) (.map none) = true := rfl
  rw [if_pos h1]
  simp [abin, aeq, hu]
 show AWpX _ _ _ _ _ _ _ _ _
 refine AWpX.cond (t := false) rfl (AWpX.skip ?_)
 show AWpX _ _ _ _ _ _ _ _ _
 refine AWpX.seq KT (AWpX.region KT hT ?_)
 refine vcOpsX.aop (v := .map (some m)) (s' := s) rfl rfl rfl rfl rfl rfl ?_
 refine vcOpsX.aop (v := .iface tm (.map (some m))) (s' := s) rfl rfl rfl rfl rfl ?_ ?_
 ·simp only [Am.aop, hu]
  rfl
 refine vcOpsX.call (g := cl) (args := [.iface tm (.map (some m))]) rfl rfl rfl rfl rfl ((acalls_clone hfc hname hbc hnc hec hm).mono ?_)
 rintro v s' ⟨m', rfl, F⟩
 refine vcOpsX.raw (v := .map (some m')) rfl rfl rfl rfl (fun γ ρ w hρ => ?_) ?_
 ·have h7 := hρ (.tmp 7)
  have e7 : aev (updO (updO (updO (updO (updO (updO (ainit [.map (some m)]) (some 2) (.map none)) (some 3) (.map (some m))) (some 4) (.bool false)) (some 5) (.map (some m))) (some 6) (.iface tm (.map (some m)))) (some 7) (.iface tm (.map (some m')))) (.tmp 7) = .iface tm (.map (some m')) := rfl
  replace h7 : VRel γ (.iface tm (.map (some m'))) (ρ (.tmp 7)) := h7
  simp only [VRel] at h7
  obtain ⟨cv, hcv, i, hi, rfl⟩ := h7
  refine ⟨.map (some i.b), ?_, by simp only [VRel]; exact ⟨i, hi, rfl⟩⟩
  have := run_tassert hT (ti := ti) hu (.map (some i.b)) w
  simp only [execOp, hcv, Sem.run_bind, this, Result.andThen_ok]
  rfl
 refine vcOpsX.aop (v := .map (some m')) (s' := s') rfl rfl rfl rfl rfl rfl ?_
 show AWpX _ _ _ _ _ _ _ _ _
 exact AWpX.ret ⟨_, rfl, m', rfl, F⟩
end Go.Am
end

section
namespace Go.Am
section
variable {K V : Type} [DecidableEq K] {kf : K → AV} {vf : V → AV}
theorem mget_erase : ∀ (es : List (K × V × Nat)) (j : Nat) (e : K × V × Nat), es.Pairwise (fun a b => a.1 ≠ b.1) → es[j]? = some e → ∀ k', mget (es.eraseIdx j) k' = if k' = e.1 then none else mget es k'
 | [], j, e, _, h, _ => by simp at h
 | x :: es, 0, e, hp, h, k' => by
  simp only [List.getElem?_cons_zero, Option.some.injEq] at h
  subst h
  obtain ⟨p1, p2⟩ := List.pairwise_cons.1 hp
  rw [List.eraseIdx_cons_zero, mget_cons]
  by_cases hk : k' = x.1
  ·rw [if_pos hk, mget_none]
   intro e he h
   exact p1 e he (by rw [h, hk])
  ·rw [if_neg hk, if_neg (fun h => hk h.symm)]
 | x :: es, j + 1, e, hp, h, k' => by
  obtain ⟨p1, p2⟩ := List.pairwise_cons.1 hp
  have h' : es[j]? = some e := by simpa using h
  rw [List.eraseIdx_cons_succ, mget_cons, mget_cons, mget_erase es j e p2 h' k']
  by_cases hx : x.1 = k'
  ·rw [if_pos hx, if_pos hx, if_neg]
   intro hk
   exact p1 e (List.mem_of_getElem? h') (by rw [hx, hk])
  ·rw [if_neg hx, if_neg hx]
theorem ents_erase : ∀ (es : List (K × V × Nat)) (j : Nat), ents kf vf (es.eraseIdx j) = (ents kf vf es).eraseIdx j
 | [], j => by simp [ents]
 | x :: es, 0 => rfl
 | x :: es, j + 1 => by
  have := ents_erase es j
  simp only [List.eraseIdx_cons_succ, ents, List.map_cons] at this ⊢
  rw [this]
variable {T : TT} {t kt et : TypeId} {z : AV} (ht : MpTy (K := K) T t kt et kf z)
include ht
theorem MpAt.del {s : AS} (hw : WFs s) {m : Nat} {es : List (K × V × Nat)} {c : Nat} (h : MpAt kf vf s m es c false) (k : K) {v : V} (hk : mget es k = some v) {Q : AS → Prop}
  (hq : ∀ s' es', MpAt kf vf s' m es' c false → (∀ k', mget es' k' = if k' = k then none else mget es k') → es'.length + 1 = es.length → WFs s' → Mut [m] s s' → Q s') : StQ (adelete T t (.map (some m)) (kf k) s) Q := by
 obtain ⟨_, h2⟩ := afind_mp (vf := vf) ht k es 0
 obtain ⟨j, n, hj, _, hfind⟩ := h2 v hk
 have P : Put s (s.put m (.map ((ents kf vf es).eraseIdx j) c false)) m (.map ((ents kf vf es).eraseIdx j) c false) := hw.put h.obj rfl
 refine ⟨_, ?_, hq _ (es.eraseIdx j) ⟨by rw [P.at, ents_erase], h.st.sublist (List.eraseIdx_sublist es j), fun e he => h.lt e (List.mem_of_mem_eraseIdx he), h.nd.sublist (List.eraseIdx_sublist es j)⟩ (fun k' => ?_) ?_ P.wf P.mut⟩
 ·simp only [adelete, ht.u, ht.ok, if_true, h.obj, hfind, Option.map_some, Nat.zero_add]
 ·rw [mget_erase es j _ h.nd hj k']
 ·have hlt : j < es.length := by
   rcases Nat.lt_or_ge j es.length with h | h
   ·exact h
   ·rw [List.getElem?_eq_none h] at hj; cases hj
  rw [List.length_eraseIdx, if_pos hlt]; omega
end
section
variable {K V : Type} [DecidableEq K]
theorem keys_iff {es : List (K × V × Nat)} (k : K) : k ∈ es.map (fun e => e.1) ↔ (mget es k).isSome = true := by
 cases hq : mget es k with
 | none =>
  have := mget_none.1 hq
  simp only [List.mem_map, Option.isSome_none, Bool.false_eq_true, iff_false]
  rintro ⟨e, he, h⟩
  exact this e he h
 | some v =>
  obtain ⟨j, n, hj⟩ := mget_some hq
  simp only [Option.isSome_some, iff_true]
  exact List.mem_map.2 ⟨_, List.mem_of_getElem? hj, rfl⟩
theorem upd_len {es es' : List (K × V × Nat)} (h : es.Pairwise fun a b => a.1 ≠ b.1) (h' : es'.Pairwise fun a b => a.1 ≠ b.1) {k : K} {v : V} (hg : ∀ k', mget es' k' = if k' = k then some v else mget es k') :
  es'.length = if (mget es k).isSome then es.length else es.length + 1 := by
 have n1 : (es.map fun e => e.1).Nodup := List.pairwise_map.2 h
 have n2 : (es'.map fun e => e.1).Nodup := List.pairwise_map.2 h'
 have hin : ∀ k', k' ∈ es'.map (fun e => e.1) ↔ k' = k ∨ k' ∈ es.map (fun e => e.1) := by
  intro k'
  rw [keys_iff, keys_iff, hg]
  by_cases e : k' = k
  ·simp [e]
  ·simp [e]
 cases hq : (mget es k).isSome with
 | true =>
  have hk : k ∈ es.map (fun e => e.1) := (keys_iff k).2 hq
  have hp : (es'.map fun e => e.1).Perm (es.map fun e => e.1) := (List.perm_ext_iff_of_nodup n2 n1).2 fun k' => by
   rw [hin]
   constructor
   ·rintro (rfl | h)
    ·exact hk
    ·exact h
   ·exact .inr
  have := hp.length_eq
  simpa using this
 | false =>
  have hk : k ∉ es.map (fun e => e.1) := fun h => by rw [keys_iff, hq] at h; cases h
  have hp : (es'.map fun e => e.1).Perm (k :: es.map fun e => e.1) := (List.perm_ext_iff_of_nodup n2 (List.nodup_cons.2 ⟨hk, n1⟩)).2 fun k' => by
   rw [hin, List.mem_cons]
  have := hp.length_eq
  simpa using this
end
end Go.Am
end

section
namespace Go.Minster.SK
open Go.Minster2
end Go.Minster.SK
end

section
namespace Go.Am
section
variable {T : TT} {t el : TypeId} {sz : Nat} (hu : T.und t = some (.slice el)) (hs : T.siz el = some sz)
include hu hs
end
section
variable {T : TT} {t el : TypeId} {sz : Nat} (hu : T.und t = some (.slice el)) (hs : T.siz el = some sz)
include hu hs
end
end Go.Am
end

section
namespace Go.Am
open Go.ChangeShapes Go.WideShapes Go.Deep
section
variable {H : Type} {enc : TypeId × Value → H} {P : Program} {w : World}
/-! ### data that hold slices -/
end
end Go.Am
end

section
namespace Go.Am
open Go.ChangeShapes Go.WideShapes Go.Deep
open Go.ChangeShapes Go.WideShapes Go.ChangeAt Go.RowKit
def light {H : Type} (P : Program) (t : TypeId) (d : DataW H) : Prop := ∀ n ∈ d.weights P t, n ≤ reachBytes
section
variable {H : Type} {enc : TypeId × Value → H} {P : Program} {w : World}
theorem light_each : ∀ {ts : List TypeId} {ds : List (DataW H)}, (∀ n ∈ DataW.weightsEach P ts ds, n ≤ reachBytes) → ∀ (i : Nat) t d, ts[i]? = some t → ds[i]? = some d → light P t d
 | [], _, _, i, t, d, h1, _ => by simp at h1
 | t0 :: ts, [], _, i, t, d, _, h2 => by simp at h2
 | t0 :: ts, d0 :: ds, h, i, t, d, h1, h2 => by
  simp only [DataW.weightsEach, List.mem_append] at h
  cases i with
  | zero =>
   simp only [List.getElem?_cons_zero, Option.some.injEq] at h1 h2
   subst h1; subst h2
   exact fun n hn => h n (.inl hn)
  | succ i =>
   simp only [List.getElem?_cons_succ] at h1 h2
   exact light_each (fun n hn => h n (.inr hn)) i t d h1 h2
end
theorem law_open3 {H : Type} {enc : TypeId × Value → H} {C : Checked} {os : Os} {f : FuncId} {fn : Func} {s : ChangeSpec} {fresh : Bool} {rt : TypeId} (own : ownKnob C.prog.godebug = none) (started : os.Started) (noInit : C.prog.inits.idxOf? f = none) (hfn : C.prog.funcs[f]? = some fn)
  (witness : ∃ (w : World) (tape : Tape) (i : Input), w.os = os ∧ (w.forCall tape i).Shaped C.prog ∧ i.vars = [] ∧ Input.okWide C.prog (w.forCall tape i) .any w.heap.size f i ∧
   s.pre6 enc C.prog fn [] false (w.forCall tape i).memory i.args ∧ ({} : Assume).holds C.prog (lone (Frame.enter C.prog f i.args .normal) [] (w.forCall tape i)))
  (hg : callable C.prog f = true) (hv : s.vars = []) (hrt : fn.resultTypes = #[rt]) (hru : C.prog.underlying rt = some .bool) (hl : laidOutB C.prog = true) (hr : (fn.params.toList.all fun t => C.prog.readableRec t && decide (t < C.prog.types.size)) = true)
  (hsp : ∀ ds : List (DataW H), ds.length = fn.params.toList.length → s.fn H ds = { results := [.lit (.bool true)], args := ds })
  (hrun : ∀ (W : World) (base : Nat) (args : List Value), args.length = fn.params.toList.length → (∀ (j : Nat) t v, fn.params.toList[j]? = some t → args[j]? = some v → Value.okWide C.prog W .any base t v ∧ ∃ (d : DataW H) (p : List MemPlace), DataW.Trod enc C.prog W 0 (fun _ => true) true t v d p ∧ light C.prog t d) →
   ACalls C.prog f (args.map (absV W.heap.size (MW W))) (sW W) fun v s' => v = .bool true) :
  ReturnsInHanded {} C os f .any (s.pre6 enc C.prog fn [] false) (s.post enc C.prog fn false fresh false false) := by
 refine returnsInHanded_of_calls own started noInit witness ?_
 intro w tape i _ _ _ hok hpre hholds
 obtain ⟨_, _, _, fn', hfn', _, _, _, _, hval⟩ := hok
 have e : fn' = fn := Option.some.inj (hfn'.symm.trans hfn)
 subst e
 obtain ⟨⟨ds, gs, before, hw, hc⟩, hz⟩ := hpre
 have hwt := hz.weights hw
 have hW := DataW.Whole.of_heap (w' := w.forCall tape i) (by rfl) hw
 have hW' := hW
 obtain ⟨p, q, hA, hV, rfl, hfz, hnd⟩ := hW
 have hV2 := hV
 rw [hv] at hV2
 obtain ⟨rfl, rfl⟩ := trodVars_none hV2
 obtain ⟨hl1, hl2⟩ := trodAll_len hA
 simp only [List.all_eq_true, decide_eq_true_eq] at hwt
 have hrun' := hrun (w.forCall tape i) w.heap.size i.args.toList hl1 fun j t v hj hvj => by
  obtain ⟨v', d, p', h1, hd, h2⟩ := trodAll_at hA j t hj
  rw [hvj] at h1; obtain rfl := Option.some.inj h1
  refine ⟨hval j t v (by simpa using hj) (by simpa using hvj), d, p', h2, light_each hwt j t d ?_ ?_⟩
  ·rw [List.getElem?_append_left, hj]
   rcases Nat.lt_or_ge j fn'.params.toList.length with h | h
   ·exact h
   ·rw [List.getElem?_eq_none h] at hj; cases hj
  ·rw [List.append_nil]; exact hd
 refine (below_of_open hg hrun').mono fun e W' ⟨he, hb⟩ => ?_
 subst he
 refine ChangeSpec.post_blind (post_law (pa := p) (rt := rt) hW' hv hb hrt hru ?_ ?_)
 ·rw [List.append_nil]; exact hsp ds hl2
 ·exact below_trodAll hl hb _ _ _ _ hr hA fun x hx => hW'.lt x (by simp [hx])
end Go.Am
end
