/-
  A part of the proof: an abstract machine over the model, and contracts of functions of this program over it.
-/
import Derived.Lib.Overlaps
import Derived.OpenShut
import Derived.Deep.Slices
import Derived.Carry
import Derived.Test.YtbfchlimonimkaaP2
section
set_option linter.unusedSimpArgs false
set_option linter.unusedVariables false
namespace Go.Minster

/-- a part in the making: the pivot at x, less ahead of i, not less behind j -/
structure Prt (L G : Dot → Dot → Prop) (l : List Dot) (x y i j : Nat) : Prop where
  xi : x < i
  ij : i ≤ j + 1
  jy : j < y
  lt : ∀ k, x < k → k < i → L (el l k) (el l x)
  ge : ∀ k, j < k → k < y → G (el l k) (el l x)
theorem Prt.left {L G : Dot → Dot → Prop} {l : List Dot} {x y i j : Nat} (h : Prt L G l x y i j) (hij : i ≤ j) (hl : L (el l i) (el l x)) : Prt L G l x y (i + 1) j :=
  ⟨by have := h.xi; omega, by omega, h.jy, fun k h1 h2 => by
    by_cases e : k = i
    · rw [e]; exact hl
    · exact h.lt k h1 (by omega), h.ge⟩
theorem Prt.right {L G : Dot → Dot → Prop} {l : List Dot} {x y i j : Nat} (h : Prt L G l x y i j) (hij : i ≤ j) (hl : G (el l j) (el l x)) : Prt L G l x y i (j - 1) :=
  ⟨h.xi, by have := h.xi; omega, by have := h.jy; omega, h.lt, fun k h1 h2 => by
    by_cases e : k = j
    · rw [e]; exact hl
    · exact h.ge k (by omega) h2⟩
theorem Prt.swap {L G : Dot → Dot → Prop} {l : List Dot} {x y i j : Nat} (h : Prt L G l x y i j) (hy : y ≤ l.length) (hij : i < j) (hl : L (el l j) (el l x)) (hg : G (el l i) (el l x)) : Prt L G (swp l i j) x y (i + 1) (j - 1) := by
  have h1 := h.xi
  have h2 := h.jy
  have E := fun q => el_swp (l := l) (i := i) (j := j) (by omega) (by omega) q
  have ex : el (swp l i j) x = el l x := by rw [E, if_neg (by omega), if_neg (by omega)]
  refine ⟨by omega, by omega, by omega, fun k h3 h4 => ?_, fun k h3 h4 => ?_⟩
  · rw [ex, E, if_neg (by omega)]
    split
    · exact hl
    · exact h.lt k h3 (by omega)
  · rw [ex, E]
    split
    · exact hg
    · rw [if_neg (by omega)]; exact h.ge k (by omega) h4
/-- less; not less -/
def Lt (a p : Dot) : Prop := a.lt p = true
def Ge (a p : Dot) : Prop := p.le a
/-- parted at m -/
structure Parted (l : List Dot) (x y m : Nat) : Prop where
  xm : x ≤ m
  my : m < y
  lt : ∀ k, x ≤ k → k < m → (el l k).le (el l m)
  ge : ∀ k, m < k → k < y → (el l m).le (el l k)
theorem Prt.fin {l : List Dot} {x y i j : Nat} (h : Prt Lt Ge l x y i j) (hy : y ≤ l.length) (hij : j < i) : Parted (swp l j x) x y j := by
  have h1 := h.xi
  have h2 := h.jy
  have h3 := h.ij
  have E := fun q => el_swp (l := l) (i := j) (j := x) (by omega) (by omega) q
  have ej : el (swp l j x) j = el l x := by
    rw [E]
    split
    · rename_i e; rw [e]
    · rw [if_pos rfl]
  refine ⟨by omega, h2, fun k h4 h5 => ?_, fun k h4 h5 => ?_⟩
  · rw [ej, E]
    by_cases hk : k = x
    · rw [if_pos hk]; exact Dot.lt_le (h.lt j (by omega) (by omega))
    · rw [if_neg hk, if_neg (by omega)]; exact Dot.lt_le (h.lt k (by omega) (by omega))
  · rw [ej, E, if_neg (by omega), if_neg (by omega)]; exact h.ge k h4 h5
theorem Prt.start {L G : Dot → Dot → Prop} {l : List Dot} {x y : Nat} (h : x < y) : Prt L G l x y (x + 1) (y - 1) := ⟨by omega, by omega, by omega, fun k h1 h2 => by omega, fun k h1 h2 => by omega⟩
/-- not greater; greater -/
def Le' (a p : Dot) : Prop := a.le p
def Gt' (a p : Dot) : Prop := p.lt a = true

/-- what is sorted outside [a, b), and stands right around it -/
def Around (l : List Dot) (a0 b0 a b : Nat) : Prop := ∀ p q, a0 ≤ p → p < q → q < b0 → (p < a ∨ b ≤ q) → (el l p).le (el l q)
theorem Around.sw {l l' : List Dot} {a0 b0 a b : Nat} (ha : a0 ≤ a) (hb : b ≤ b0) (h : Around l a0 b0 a b) (hs : Sw a b l l') : Around l' a0 b0 a b := by
  intro p q h1 h2 h3 h4
  have P : (p < a ∨ b ≤ p) ∨ (a ≤ p ∧ p < b) := by omega
  have Q : (q < a ∨ b ≤ q) ∨ (a ≤ q ∧ q < b) := by omega
  rcases P with hp | hp <;> rcases Q with hq | hq
  · rw [hs.out hp, hs.out hq]; exact h p q h1 h2 h3 h4
  · obtain ⟨j, hj, e⟩ := hs.mem hq
    rw [hs.out hp, e]; exact h p j h1 (by omega) (by omega) (by omega)
  · obtain ⟨j, hj, e⟩ := hs.mem hp
    rw [hs.out hq, e]; exact h j q (by omega) (by omega) h3 (by omega)
  · omega
theorem Around.srt {l : List Dot} {a0 b0 a b : Nat} (h : Around l a0 b0 a b) (hs : Srt l a b) : Srt l a0 b0 := by
  intro p q h1 h2 h3
  by_cases h4 : p < a ∨ b ≤ q
  · exact h p q h1 h2 h3 h4
  · exact hs p q (by omega) h2 (by omega)
theorem Around.start (l : List Dot) (a b : Nat) : Around l a b a b := fun p q _ _ _ _ => by omega
/-- behind a partition, one side sorted: the other side is left -/
theorem Around.right {l l' : List Dot} {a0 b0 a b m : Nat} (ha : a0 ≤ a) (hb : b ≤ b0) (h : Around l a0 b0 a b) (hp : Parted l a b m) (hs : Sw a m l l') (hso : Srt l' a m) : Around l' a0 b0 (m + 1) b := by
  have h1 := hp.xm
  have h2 := hp.my
  intro p q g1 g2 g3 g4
  -- where p and q came from
  have src : ∀ k, ∃ j, el l' k = el l j ∧ ((a ≤ k ∧ k < m ∧ a ≤ j ∧ j < m) ∨ (j = k ∧ (k < a ∨ m ≤ k))) := by
    intro k
    by_cases hk : a ≤ k ∧ k < m
    · obtain ⟨j, hj, e⟩ := hs.mem hk; exact ⟨j, e, .inl ⟨hk.1, hk.2, hj.1, hj.2⟩⟩
    · exact ⟨k, hs.out (by omega), .inr ⟨rfl, by omega⟩⟩
  by_cases hin : a ≤ p ∧ q < b
  · -- both within
    by_cases hq : q < m
    · exact hso p q hin.1 g2 hq
    · obtain ⟨j, e, hj⟩ := src p
      rw [e, hs.out (k := q) (by omega)]
      have hpm : p ≤ m := by omega
      have le1 : (el l j).le (el l m) := by
        by_cases hjm : j = m
        · rw [hjm]; exact Dot.le_refl _
        · exact hp.lt j (by omega) (by omega)
      by_cases hqm : q = m
      · rw [hqm]; exact le1
      · exact Dot.le_trans le1 (hp.ge q (by omega) hin.2)
  · obtain ⟨j, e, hj⟩ := src p
    obtain ⟨k, e', hk⟩ := src q
    rw [e, e']
    exact h j k (by omega) (by omega) (by omega) (by omega)
theorem Around.left {l l' : List Dot} {a0 b0 a b m : Nat} (ha : a0 ≤ a) (hb : b ≤ b0) (h : Around l a0 b0 a b) (hp : Parted l a b m) (hs : Sw (m + 1) b l l') (hso : Srt l' (m + 1) b) : Around l' a0 b0 a m := by
  have h1 := hp.xm
  have h2 := hp.my
  intro p q g1 g2 g3 g4
  have src : ∀ k, ∃ j, el l' k = el l j ∧ ((m < k ∧ k < b ∧ m < j ∧ j < b) ∨ (j = k ∧ (k ≤ m ∨ b ≤ k))) := by
    intro k
    by_cases hk : m + 1 ≤ k ∧ k < b
    · obtain ⟨j, hj, e⟩ := hs.mem hk; exact ⟨j, e, .inl ⟨by omega, hk.2, by omega, hj.2⟩⟩
    · exact ⟨k, hs.out (by omega), .inr ⟨rfl, by omega⟩⟩
  by_cases hin : a ≤ p ∧ q < b
  · by_cases hp' : m < p
    · exact hso p q (by omega) g2 hin.2
    · obtain ⟨k, e, hk⟩ := src q
      rw [e, hs.out (k := p) (by omega)]
      have le1 : (el l m).le (el l k) := by
        by_cases hkm : k = m
        · rw [hkm]; exact Dot.le_refl _
        · exact hp.ge k (by omega) (by omega)
      by_cases hpm : p = m
      · rw [hpm]; exact le1
      · exact Dot.le_trans (hp.lt p hin.1 (by omega)) le1
  · obtain ⟨j, e, hj⟩ := src p
    obtain ⟨k, e', hk⟩ := src q
    rw [e, e']
    exact h j k (by omega) (by omega) (by omega) (by omega)
/-- equal ones ahead -/
theorem Around.equal {l : List Dot} {a0 b0 a b i j : Nat} (h : Around l a0 b0 a b) (ha : a0 ≤ a) (hb : b ≤ b0) (hp : Prt Le' Gt' l a b i j) (hij : j < i) (hmin : ∀ k, a ≤ k → k < b → (el l a).le (el l k)) : Around l a0 b0 i b := by
  have h1 := hp.xi
  have h2 := hp.ij
  have h3 := hp.jy
  intro p q g1 g2 g3 g4
  by_cases hin : a ≤ p ∧ q < b
  · have hle : (el l p).le (el l a) := by
      by_cases e : p = a
      · rw [e]; exact Dot.le_refl _
      · exact hp.lt p (by omega) (by omega)
    exact Dot.le_trans hle (hmin q (by omega) hin.2)
  · exact h p q g1 g2 g3 (by omega)
end Go.Minster
end

section
set_option linter.unusedSimpArgs false
set_option linter.unusedVariables false
namespace Go.Minster

/-- equal neighbours dropped -/
def dd : List Dot → List Dot
  | [] => []
  | [x] => [x]
  | x :: y :: l => if x = y then dd (y :: l) else x :: dd (y :: l)
theorem dd_mem : ∀ (l : List Dot) (d : Dot), d ∈ dd l ↔ d ∈ l
  | [], d => Iff.rfl
  | [x], d => Iff.rfl
  | x :: y :: l, d => by
    have ih := dd_mem (y :: l) d
    unfold dd
    split
    · rename_i e
      subst e
      rw [ih]; simp
    · simp only [List.mem_cons] at ih ⊢
      rw [ih]
theorem dd_rising : ∀ (l : List Dot), (l.Pairwise fun a b => a.le b) → Rising (dd l)
  | [], _ => List.Pairwise.nil
  | [x], _ => List.pairwise_singleton _ _
  | x :: y :: l, h => by
    obtain ⟨h1, h2⟩ := List.pairwise_cons.1 h
    have ih := dd_rising (y :: l) h2
    unfold dd
    split
    · exact ih
    · rename_i hne
      refine List.pairwise_cons.2 ⟨fun d hd => ?_, ih⟩
      rw [dd_mem] at hd
      have hxy := h1 y (by simp)
      have hlt : x.lt y = true := by
        rcases Dot.lt_tri x y with h | h | h
        · exact h
        · exact absurd h hne
        · rw [Dot.le] at hxy; rw [hxy] at h; cases h
      rcases List.mem_cons.1 hd with rfl | hd
      · exact hlt
      · have hyd := (List.pairwise_cons.1 h2).1 d hd
        rw [Dot.le_iff] at hyd
        rw [Dot.lt_iff] at hlt ⊢
        omega
theorem srt_pair {l : List Dot} (h : Srt l 0 l.length) : l.Pairwise fun a b => a.le b := by
  rw [List.pairwise_iff_getElem]
  intro i j hi hj hij
  have e1 : l[i] = el l i := by have := el_get hi; rw [List.getElem?_eq_getElem hi] at this; exact Option.some.inj this
  have e2 : l[j] = el l j := by have := el_get hj; rw [List.getElem?_eq_getElem hj] at this; exact Option.some.inj this
  rw [e1, e2]
  exact h i j (by omega) hij hj
theorem dd_snoc : ∀ (l : List Dot) (x y : Dot), dd (l ++ [x] ++ [y]) = if x = y then dd (l ++ [x]) else dd (l ++ [x]) ++ [y]
  | [], x, y => by
    show dd [x, y] = _
    unfold dd
    split
    · rename_i e; subst e; simp [dd]
    · simp [dd]
  | [z], x, y => by
    have ih := dd_snoc [] x y
    simp only [List.nil_append, List.cons_append] at ih ⊢
    rw [show dd [z, x, y] = if z = x then dd [x, y] else z :: dd [x, y] by rfl, show dd [z, x] = if z = x then dd [x] else z :: dd [x] by rfl, ih]
    split <;> split <;> simp
  | z :: w :: l, x, y => by
    have ih := dd_snoc (w :: l) x y
    simp only [List.cons_append] at ih ⊢
    rw [show dd (z :: w :: (l ++ [x] ++ [y])) = if z = w then dd (w :: (l ++ [x] ++ [y])) else z :: dd (w :: (l ++ [x] ++ [y])) by rfl, show dd (z :: w :: (l ++ [x])) = if z = w then dd (w :: (l ++ [x])) else z :: dd (w :: (l ++ [x])) by rfl, ih]
    split <;> split <;> simp
end Go.Minster
end

section
set_option linter.unusedSectionVars false
set_option linter.unusedSimpArgs false
set_option linter.unusedVariables false
namespace Go.Am

theorem ACalls.extern {P : Program} {g : FuncId} {fn : Func} {e : Array Value → Sem Value} (hf : P.funcs[g]? = some fn) (hname : (fn.name == "runtime.NumGoroutine") = false) (hb : fn.body.isNone = true) (hn : Extern.findNext fn = none) (he : Extern.find fn = some e)
    {args : List AV} {s : AS} {R : AV → AS → Prop} (h : ∀ (B : Nat) (γ : Gam) (cargs : Array Value) (w : World), VRels γ args cargs.toList → Rel B γ s w →
      ∃ γ' v cv s' w', (e cargs).run P w = .ok cv w' ∧ VRel γ' v cv ∧ Did B γ s w γ' s' w' ∧ Rel B γ' s' w' ∧ R v s') : ACalls P g args s R := by
  intro B γ cargs w h1 h2
  obtain ⟨γ', v, cv, s', w', hr, hv, hd, hr', hR⟩ := h B γ cargs w h1 h2
  refine .inr ⟨cv, w', ?_, γ', v, cv, s', rfl, hv, hd, hr', hR⟩
  rw [run_callFunc_extern hf hname hb hn he, hr]
  rfl

/-- slices.overlaps, at two blocks -/
theorem acalls_overlaps {P : Program} {T : TT} (hT : TT.Ok P T) {g : FuncId} {fn : Func} {t tR elem : TypeId} {size : Nat} (hf : P.funcs[g]? = some fn) (hname : (fn.name == "runtime.NumGoroutine") = false) (hb : fn.body.isNone = true) (hn : Extern.findNext fn = none)
    (he : Extern.find fn = some (Extern.SlicesOverlaps.overlaps #[t, t] #[tR])) (hu : T.und t = some (.slice elem)) (hs : T.siz elem = some size)
    {s : AS} {la oa na ca lb ob nb cb : Nat} {ea eb : Bool} {csa csb : List AV} {ga gb : Nat} {rb : Bool} (ha : s.h la = some (.cells csa ga false)) (hg : ga ≠ 1) (hb' : s.h lb = some (.cells csb gb rb)) (hnb : csb ≠ []) (hne : la ≠ lb) :
    ACalls P g [.slc (some (la, oa)) na ca ea, .slc (some (lb, ob)) nb cb eb] s fun v s' => v = .bool false ∧ s' = s := by
  refine ACalls.extern hf hname hb hn he ?_
  intro B γ cargs w hargs hr
  obtain ⟨c1, r1, e1, h1, hargs⟩ := VRels.cons_iff.1 hargs
  obtain ⟨c2, r2, rfl, h2, hargs⟩ := VRels.cons_iff.1 hargs
  obtain rfl := VRels.nil_iff.1 hargs
  simp only [VRel] at h1 h2
  obtain ⟨ia, hia, rfl⟩ := h1
  obtain ⟨ib, hib, rfl⟩ := h2
  have hca : cargs = #[.slice (some ⟨ia.b, ia.d + oa, none⟩) na (if ea then ca else ca + ia.x), .slice (some ⟨ib.b, ib.d + ob, none⟩) nb (if eb then cb else cb + ib.x)] := by
    apply Array.ext'; rw [e1]
  subst hca
  obtain ⟨ja, hja, hOa, _⟩ := hr.obj la _ ha
  rw [hia] at hja; obtain rfl := Option.some.inj hja
  obtain ⟨jb, hjb, hOb, _⟩ := hr.obj lb _ hb'
  rw [hib] at hjb; obtain rfl := Option.some.inj hjb
  have hblk : ia.b ≠ ib.b := fun e => hne (hr.inj la lb _ _ ia ib ha hb' rfl hia hib e)
  obtain ⟨cA, eA, fzA, hA, _, _, _, hfz⟩ := hOa
  obtain ⟨cB, eB, fzB, hB, hBc, _⟩ := hOb
  obtain rfl := hfz rfl hg
  have hkB : cB.size ≠ 0 := by
    cases csb with
    | nil => exact absurd rfl hnb
    | cons x xs =>
      obtain ⟨_, cv, hcv, _⟩ := hBc 0 x rfl
      intro h0
      rw [Array.getElem?_eq_none (by omega)] at hcv
      cases hcv
  refine ⟨γ, .bool false, .bool false, s, w, ?_, by simp [VRel], Did.refl, hr, rfl, rfl⟩
  exact Lib.run_overlaps_apart w t tR elem (hT.und t _ hu) size (run_sizeOf hT hs) _ _ _ _ _ _ hblk eA eB cA.size cB.size (by simp [World.shape?, hA]) (by simp [World.shape?, hB]) hkB (by simp [World.frozen?, hA]) (by simp [World.frozen?, hA])

/-- what is not needed is forgotten; one object gets another name -/
theorem forgetL {B : Nat} {γ γ' : Gam} {s s' s'' : AS} {w w' : World} (hd : Did B γ s w γ' s' w') (hr : Rel B γ' s' w') {F L : Nat} {O O' : AO} {i i2 : CI}
    (hsub : ∀ k o, k ≠ F → s''.h k = some o → s'.h k = some o) (hF : s''.h F = some O) (hL : s'.h L = some O') (hro : O.ro = false) (hro' : O'.ro = false) (hdrop : L = F ∨ s''.h L = none) (hi : γ' L = some i) (hib : i2.b = i.b) (hO : ORel γ' w' i2 O)
    (hnl : ∃ k, F = s'.nl + k * s.st) (hst : s''.st = s.st) (hnl2 : s''.nl = F + s.st) (hlay : s''.lay = s.lay) (hsld : ∀ l o, s''.cur.get l = some o → o.live = true → o.ro = true → s.cur.get l = some o) :
    Rel B (updG γ' F i2) s'' w' ∧ Did B γ s w (updG γ' F i2) s'' w' := by
  obtain ⟨k, hk⟩ := hnl
  have hst' := hd.st
  have hFn : γ' F = none := by rw [hk, ← hst']; exact hr.fin k
  have hle : Gam.le γ' (updG γ' F i2) := Gam.le_upd hFn
  have hst1 : 1 ≤ s.st := by rw [← hst']; exact hr.stp
  have hFs : ∃ k, F = s.nl + k * s.st := by
    obtain ⟨k', hk'⟩ := hd.nl
    exact ⟨k' + k, by rw [hk, hk', Nat.add_mul, Nat.add_assoc]⟩
  have gk : ∀ x j, x ≠ F → updG γ' F i2 x = some j → γ' x = some j := by
    intro x j hx h
    simpa [updG, hx] using h
  refine ⟨⟨fun x p hp => ?_, fun x y p q a b hp hq hpr ha hb hab => ?_, fun j => ?_, by rw [hst]; exact hst1, hr.base⟩,
    ⟨Gam.le_trans hd.le hle, hd.frm, hd.siz, fun x p a hp hpr ha => ?_, ?_, hst, hlay, fun x h1 h2 => ?_, hsld, hd.env⟩⟩
  · by_cases hx : x = F
    · subst hx
      rw [hF] at hp; obtain rfl := Option.some.inj hp
      refine ⟨i2, updG_same _ _ _, hO.mono hle, fun _ => ?_⟩
      obtain ⟨j, hj, _, hB⟩ := hr.obj L O' hL
      rw [hi] at hj; obtain rfl := Option.some.inj hj
      rw [hib]; exact hB hro'
    · obtain ⟨j, hj, hOj, hB⟩ := hr.obj x p (hsub x p hx hp)
      exact ⟨j, hle _ _ hj, hOj.mono hle, hB⟩
  · by_cases hx : x = F <;> by_cases hy : y = F
    · rw [hx, hy]
    · exfalso
      subst hx
      rw [updG_same] at ha; obtain rfl := Option.some.inj ha
      have hb' := gk y b hy hb
      have := hr.inj L y O' q i b hL (hsub y q hy hq) hro' hi hb' (by rw [← hib]; exact hab)
      subst this
      rcases hdrop with h | h
      · exact hy h
      · rw [h] at hq; cases hq
    · exfalso
      subst hy
      rw [updG_same] at hb; obtain rfl := Option.some.inj hb
      have ha' := gk x a hx ha
      have := hr.inj x L p O' a i (hsub x p hx hp) hL hpr ha' hi (by rw [← hib]; exact hab)
      subst this
      rcases hdrop with h | h
      · exact hx h
      · rw [h] at hp; cases hp
    · exact hr.inj x y p q a b (hsub x p hx hp) (hsub y q hy hq) hpr (gk x a hx ha) (gk y b hy hb) hab
  · rw [hnl2, hst]
    have e : F + s.st + j * s.st = s'.nl + (k + (j + 1)) * s.st := by rw [hk, Nat.add_mul, Nat.add_mul, Nat.one_mul]; omega
    simp only [updG]
    rw [if_neg (by omega), e, ← hst']
    exact hr.fin _
  · by_cases hx : x = F
    · subst hx
      rw [updG_same] at ha; obtain rfl := Option.some.inj ha
      rw [hib]
      exact hd.new L O' i hL hro' hi
    · exact hd.new x p a (hsub x p hx hp) hpr (gk x a hx ha)
  · obtain ⟨k', hk'⟩ := hFs
    exact ⟨k' + 1, by rw [hnl2, hk', Nat.add_mul, Nat.one_mul, Nat.add_assoc]⟩
  · by_cases hx : x = F
    · rw [hx]; exact hFs
    · exact hd.dom x h1 (by simpa [updG, hx] using h2)

/-- the state behind a call that gives one row of cells -/
def AS.gave (s : AS) (l K : Nat) (o : AO) : AS := { s with cur := (s.cur.set l .dead).set (s.nl + K * s.st) o, nl := s.nl + K * s.st + s.st }

theorem AS.gave_h (s : AS) (l K : Nat) {o : AO} (ho : o.live = true) (x : Nat) : (s.gave l K o).h x = if x = s.nl + K * s.st then some o else if x = l then none else s.h x := by
  have h1 : (s.gave l K o).h x = ((s.kill l).put (s.nl + K * s.st) o).h x := rfl
  rw [h1, AS.put_h _ _ ho, AS.kill_h]

/-- A slice whose room is not known: its room is laid open for the call, and shut behind it. -/
theorem ACalls.reveal {P : Program} {g : FuncId} {l o len cap n K sz : Nat} {cs cs' : List AV} {post : List AV} {s : AS} (hl : s.h l = some (.cells cs sz false)) (hsz : sz ≠ 0) (hend : o + cap * sz = cs.length)
    (h : ∀ x js, js.length = x * sz → js.all AV.one = true → (∀ k, s.h (s.nl + k * s.st) = none) → ACalls P g (.slc (some (s.nl, o)) len (cap + x) true :: post) ((s.kill l).new (.cells (cs ++ js) sz false)) fun v s' =>
      (∃ k, k ≤ K ∧ s'.nl = s.nl + k * s.st) ∧ (∀ k ob, k ≠ l → s.h k = some ob → s'.h k = some ob) ∧
      ((v = .slc (some (s.nl, o)) n (cap + x) true ∧ n ≤ cap + x ∧ ∃ cs2, s'.h s.nl = some (.cells cs2 sz false) ∧ cs2.length = cs.length + x * sz ∧ (cs2.drop o).take (n * sz) = cs') ∨
       (∃ L, v = .slc (some (L, 0)) n n false ∧ s.h L = none ∧ s'.h L = some (.cells cs' sz false) ∧ cs'.length = n * sz))) :
    ACalls P g (.slc (some (l, o)) len cap false :: post) s fun v s' => v = .slc (some (s.nl + K * s.st, 0)) n n false ∧ s' = s.gave l K (.cells cs' sz false) := by
  intro B γ cargs w hargs hr
  obtain ⟨i, hi, hO, hB⟩ := hr.obj l _ hl
  obtain ⟨c, e, fz, hb, hc, hf, hg, hf0⟩ := hO
  obtain ⟨hgs, hgt⟩ := hg hsz
  -- what the room holds
  have hjs : ∀ j : Fin (i.x * sz), ∃ v, v.one = true ∧ ∃ cv, c[i.d + cs.length + j.1]? = some cv ∧ VRel γ v cv := by
    intro j
    obtain ⟨v, cv, h1, h2, h3⟩ := hgt (i.d + cs.length + j.1) (by omega) (by have := j.2; omega)
    exact ⟨v, h1, cv, h2, h3⟩
  let js : List AV := List.ofFn fun j => Classical.choose (hjs j)
  have hjl : js.length = i.x * sz := by simp [js]
  have hjg : ∀ (k : Nat) v, js[k]? = some v → v.one = true ∧ ∃ cv, c[i.d + cs.length + k]? = some cv ∧ VRel γ v cv := by
    intro k v hk
    have hkl : k < i.x * sz := by
      rcases Nat.lt_or_ge k (i.x * sz) with h | h
      · exact h
      · rw [List.getElem?_eq_none (by omega)] at hk; cases hk
    have : js[k]? = some (Classical.choose (hjs ⟨k, hkl⟩)) := by simp [js, List.getElem?_ofFn, hkl]
    rw [this] at hk; obtain rfl := Option.some.inj hk
    exact Classical.choose_spec (hjs ⟨k, hkl⟩)
  have hj1 : js.all AV.one = true := by
    rw [List.all_eq_true]
    intro v hv
    obtain ⟨k, hk⟩ := List.mem_iff_getElem?.1 hv
    exact (hjg k v hk).1
  -- its new name
  have hle : Gam.le γ (updG γ s.nl ⟨i.b, i.d, 0⟩) := Gam.le_upd hr.fin0
  have hO' : ORel (updG γ s.nl ⟨i.b, i.d, 0⟩) w ⟨i.b, i.d, 0⟩ (.cells (cs ++ js) sz false) := by
    refine ⟨c, e, fz, hb, fun k v hk => ?_, hf, fun _ => ⟨by simp only [List.length_append, hjl]; omega, fun k h1 h2 => ?_⟩, hf0⟩
    · rw [List.getElem?_append] at hk
      split at hk
      · obtain ⟨h1, cv, h2, h3⟩ := hc k v hk
        exact ⟨h1, cv, h2, h3.mono hle⟩
      · obtain ⟨h1, cv, h2, h3⟩ := hjg _ v hk
        exact ⟨h1, cv, by rw [← h2]; simp only; congr 1; omega, h3.mono hle⟩
    · simp only [List.length_append, hjl] at h1
      omega
  have hw0 : w.heap = w.heap.setIfInBounds i.b (.cells c e fz) := by
    apply Array.ext_getElem?
    intro k
    rw [Array.getElem?_setIfInBounds]
    have hb' := ORel.lt (γ := γ) (o := .cells cs sz false) ⟨c, e, fz, hb, hc, hf, hg, hf0⟩
    by_cases hk : i.b = k
    · subst hk; rw [if_pos rfl, if_pos hb', hb]
    · rw [if_neg hk]
  obtain ⟨hr1, hd1⟩ := hr.take (w' := w) hl rfl rfl hi (i' := ⟨i.b, i.d, 0⟩) (o' := .cells (cs ++ js) sz false) rfl hw0 hO'
  obtain ⟨c1, r1, e1, h1, hargs'⟩ := VRels.cons_iff.1 hargs
  simp only [VRel, Bool.false_eq_true, if_false] at h1
  obtain ⟨i', hi', rfl⟩ := h1
  rw [hi] at hi'; obtain rfl := Option.some.inj hi'
  have hnone : ∀ k, s.h (s.nl + k * s.st) = none := by
    intro k
    cases hq : s.h (s.nl + k * s.st) with
    | none => rfl
    | some p =>
      obtain ⟨j, hj, _⟩ := hr.obj _ p hq
      rw [hr.fin k] at hj; cases hj
  have hargs2 : VRels (updG γ s.nl ⟨i.b, i.d, 0⟩) (.slc (some (s.nl, o)) len (cap + i.x) true :: post) cargs.toList := by
    rw [e1]
    exact VRels.cons (by simp only [VRel]; exact ⟨_, updG_same _ _ _, by simp⟩) (hargs'.mono hle)
  refine (h i.x js hjl hj1 hnone B _ cargs w hargs2 hr1).mono ?_
  rintro e w' ⟨γ', v, cv, s', rfl, hv, hd, hr', ⟨k, hkK, hnl⟩, hkeep, hend'⟩
  have hd' := hd1.trans hd
  have hγ' : γ' s.nl = some ⟨i.b, i.d, 0⟩ := hd.le _ _ (updG_same _ _ _)
  have hFnl : ∃ k, s.nl + K * s.st = s'.nl + k * s.st := ⟨K - k, by rw [hnl, Nat.add_assoc, ← Nat.add_mul]; congr 2; omega⟩
  have hFn : s.h (s.nl + K * s.st) = none := hnone K
  have hsub : ∀ x ob, x ≠ s.nl + K * s.st → (s.gave l K (.cells cs' sz false)).h x = some ob → s'.h x = some ob := by
    intro x ob hx hob
    rw [AS.gave_h _ _ _ rfl, if_neg hx] at hob
    split at hob
    · cases hob
    · rename_i hxl; exact hkeep x ob hxl hob
  have hsld : ∀ x ob, (s.gave l K (.cells cs' sz false)).cur.get x = some ob → ob.live = true → ob.ro = true → s.cur.get x = some ob := by
    intro x ob hob h1 h2
    simp only [AS.gave, Tr.get_set] at hob
    split at hob
    · obtain rfl := Option.some.inj hob; cases h2
    · split at hob
      · obtain rfl := Option.some.inj hob; cases h1
      · exact hob
  have hF : (s.gave l K (.cells cs' sz false)).h (s.nl + K * s.st) = some (.cells cs' sz false) := by rw [AS.gave_h _ _ _ rfl, if_pos rfl]
  rcases hend' with ⟨rfl, hn, cs2, hL, hl2, hcs'⟩ | ⟨L, rfl, hsL, hL, hlen⟩
  · obtain ⟨j, hj, hOj, _⟩ := hr'.obj s.nl _ hL
    rw [hγ'] at hj; obtain rfl := Option.some.inj hj
    obtain ⟨c2, e2, fz2, hb2, hc2, hf2, hg2, hf02⟩ := hOj
    obtain ⟨hgs2, _⟩ := hg2 hsz
    simp only at hb2 hc2 hgs2
    have hmul : n * sz ≤ (cap + i.x) * sz := Nat.mul_le_mul_right _ hn
    have hmul2 : (cap + i.x) * sz = cap * sz + i.x * sz := Nat.add_mul _ _ _
    have hmul3 : (cap + i.x - n) * sz = (cap + i.x) * sz - n * sz := Nat.mul_sub_right_distrib _ _ _
    have hlen' : cs'.length = n * sz := by rw [← hcs', List.length_take, List.length_drop]; omega
    have hO2 : ORel γ' w' ⟨i.b, i.d + o, cap + i.x - n⟩ (.cells cs' sz false) := by
      refine ⟨c2, e2, fz2, hb2, fun k v hk => ?_, hf2, fun _ => ⟨by simp only; omega, fun k h1 h2 => ?_⟩, hf02⟩
      · rw [← hcs', List.getElem?_take, List.getElem?_drop] at hk
        split at hk
        · obtain ⟨h1, cv, h2, h3⟩ := hc2 _ v hk
          exact ⟨h1, cv, by rw [← h2]; simp only; congr 1; omega, h3⟩
        · cases hk
      · simp only at h1
        obtain ⟨h3, cv, h4, h5⟩ := hc2 (k - i.d) _ (List.getElem?_eq_getElem (show k - i.d < cs2.length by omega))
        exact ⟨_, cv, h3, by rw [← h4]; congr 1; omega, h5⟩
    have hdrop : s.nl = s.nl + K * s.st ∨ (s.gave l K (.cells cs' sz false)).h s.nl = none := by
      by_cases hq : s.nl = s.nl + K * s.st
      · exact .inl hq
      · right
        rw [AS.gave_h _ _ _ rfl, if_neg hq]
        split
        · rfl
        · have := hnone 0; simpa using this
    obtain ⟨g1, g2⟩ := forgetL (s'' := s.gave l K (.cells cs' sz false)) hd' hr' (F := s.nl + K * s.st) (L := s.nl) hsub hF hL rfl rfl hdrop hγ' (i2 := ⟨i.b, i.d + o, cap + i.x - n⟩) rfl hO2 hFnl rfl rfl rfl hsld
    simp only [VRel, if_true] at hv
    obtain ⟨i3, hi3, rfl⟩ := hv
    rw [hγ'] at hi3; obtain rfl := Option.some.inj hi3
    refine ⟨_, _, _, _, rfl, ?_, g2, g1, rfl, rfl⟩
    simp only [VRel]
    refine ⟨_, updG_same _ _ _, ?_⟩
    simp only [Bool.false_eq_true, if_false, Nat.add_zero]
    rw [show n + (cap + i.x - n) = cap + i.x by omega]
  · obtain ⟨j, hj, hOj, _⟩ := hr'.obj L _ hL
    have hdrop : L = s.nl + K * s.st ∨ (s.gave l K (.cells cs' sz false)).h L = none := by
      by_cases hq : L = s.nl + K * s.st
      · exact .inl hq
      · right
        rw [AS.gave_h _ _ _ rfl, if_neg hq]
        split
        · rfl
        · exact hsL
    obtain ⟨g1, g2⟩ := forgetL (s'' := s.gave l K (.cells cs' sz false)) hd' hr' (F := s.nl + K * s.st) (L := L) hsub hF hL rfl rfl hdrop hj (i2 := j) rfl hOj hFnl rfl rfl rfl hsld
    simp only [VRel, Bool.false_eq_true, if_false] at hv
    obtain ⟨i3, hi3, rfl⟩ := hv
    rw [hj] at hi3; obtain rfl := Option.some.inj hi3
    refine ⟨_, _, _, _, rfl, ?_, g2, g1, rfl, rfl⟩
    simp only [VRel]
    exact ⟨_, updG_same _ _ _, by simp⟩

end Go.Am
end

section
set_option linter.unusedSectionVars false
set_option linter.unusedSimpArgs false
set_option linter.unusedVariables false
namespace Go.Am
open Go.ChangeShapes Go.WideShapes Go.Deep

/-! ### a table from a list -/
def Tr.ofL {α : Type} (F : Nat → α) : List Nat → Tr α
  | [] => .E
  | x :: xs => (Tr.ofL F xs).set x (F x)
theorem Tr.get_ofL {α : Type} (F : Nat → α) : ∀ (l : List Nat) (x : Nat), (Tr.ofL F l).get x = if x ∈ l then some (F x) else none
  | [], x => by simp [Tr.ofL, Tr.get]
  | y :: ys, x => by
    simp only [Tr.ofL, Tr.get_set, Tr.get_ofL F ys x, List.mem_cons]
    by_cases h : x = y
    · subst h; simp
    · simp [h]

def blockSize : Obj → Nat
  | .cells c _ _ => c.size
  | _ => 0
def maxL : List Nat → Nat
  | [] => 0
  | x :: xs => max x (maxL xs)
theorem le_maxL {l : List Nat} {x : Nat} (h : x ∈ l) : x ≤ maxL l := by
  induction l with
  | nil => cases h
  | cons y ys ih =>
    simp only [maxL]
    rcases List.mem_cons.1 h with rfl | h
    · omega
    · have := ih h; omega
def MW (w : World) : Nat := maxL (w.heap.toList.map blockSize) + 1
theorem lt_MW {w : World} {b : Nat} {c : Array Value} {e : TypeId} {fz : Nat × Nat} (h : w.heap[b]? = some (.cells c e fz)) : c.size < MW w := by
  have : c.size ∈ w.heap.toList.map blockSize := by
    rw [List.mem_map]
    refine ⟨.cells c e fz, ?_, rfl⟩
    rw [List.mem_iff_getElem?]
    exact ⟨b, by simpa using h⟩
  have := le_maxL this
  unfold MW; omega

mutual
def absV (n M : Nat) : Value → AV
  | .bool b => .bool b
  | .int k x => .int k x
  | .string s => .str s.data.toList
  | .pointer none => .ptr none
  | .pointer (some ⟨b, o, none⟩) => if b < n ∧ o < M then .ptr (some (b * M + o, 0)) else .bad
  | .slice none x y => .slc none x y true
  | .slice (some ⟨b, o, none⟩) x y => if b < n ∧ 0 < M then (if o < M then .slc (some (b * M + o, 0)) x y true else .slc (some (b * M, o)) x y true) else if x = 0 then .emp else .bad
  | .slice (some ⟨_, _, some _⟩) x _ => if x = 0 then .emp else .bad
  | .map none => .map none
  | .agg ⟨l⟩ => .agg (absVs n M l)
  | .nilFunc => .nilFunc
  | .nilIface => .nilIface
  | _ => .bad
def absVs (n M : Nat) : List Value → List AV
  | [] => []
  | v :: vs => absV n M v :: absVs n M vs
end
theorem absVs_map (n M : Nat) : ∀ l, absVs n M l = l.map (absV n M)
  | [] => rfl
  | v :: vs => by simp [absVs, absVs_map n M vs]

def gW (n M : Nat) : Gam := fun x => if x < n * M then some ⟨x / M, x % M, 0⟩ else none
theorem lab_div {b o M : Nat} (h : o < M) : (b * M + o) / M = b ∧ (b * M + o) % M = o := by
  rw [Nat.mul_comm]
  constructor
  · rw [Nat.mul_add_div (by omega), Nat.div_eq_of_lt h, Nat.add_zero]
  · rw [Nat.mul_add_mod, Nat.mod_eq_of_lt h]
theorem lab_lt {b o n M : Nat} (hb : b < n) (h : o < M) : b * M + o < n * M := by
  have : (b + 1) * M ≤ n * M := Nat.mul_le_mul_right _ hb
  rw [Nat.add_mul, Nat.one_mul] at this
  omega
theorem gW_at {b o n M : Nat} (hb : b < n) (h : o < M) : gW n M (b * M + o) = some ⟨b, o, 0⟩ := by
  simp only [gW, if_pos (lab_lt hb h), (lab_div h).1, (lab_div h).2]

mutual
theorem absV_rel (n M : Nat) : ∀ v, VRel (gW n M) (absV n M v) v
  | .bool b => by simp [absV, VRel]
  | .int k x => by simp [absV, VRel]
  | .string s => by simp [absV, VRel]
  | .pointer none => by simp [absV, VRel]
  | .pointer (some ⟨b, o, none⟩) => by
    simp only [absV]
    split
    · rename_i h; simp only [VRel]; exact ⟨_, gW_at h.1 h.2, rfl⟩
    · simp [VRel]
  | .pointer (some ⟨b, o, some _⟩) => by simp [absV, VRel]
  | .slice none x y => by simp [absV, VRel]
  | .slice (some ⟨b, o, none⟩) x y => by
    simp only [absV]
    split
    · rename_i h
      split
      · rename_i h2; simp only [VRel]; exact ⟨_, gW_at h.1 h2, by simp⟩
      · simp only [VRel]; exact ⟨_, gW_at (o := 0) h.1 h.2, by simp⟩
    · split
      · rename_i h; subst h; simp only [VRel]; exact ⟨_, _, rfl⟩
      · simp [VRel]
  | .slice (some ⟨b, o, some _⟩) x y => by
    simp only [absV]
    split
    · rename_i h; subst h; simp only [VRel]; exact ⟨_, _, rfl⟩
    · simp [VRel]
  | .map none => by simp [absV, VRel]
  | .map (some _) => by simp [absV, VRel]
  | .agg ⟨l⟩ => by simp only [absV, VRel]; exact ⟨⟨l⟩, rfl, absVs_rel n M l⟩
  | .nilFunc => by simp [absV, VRel]
  | .nilIface => by simp [absV, VRel]
  | .func _ _ _ => by simp [absV, VRel]
  | .iface _ _ => by simp [absV, VRel]
  | .tuple _ => by simp [absV, VRel]
  | .float _ _ => by simp [absV, VRel]
  | .complex _ _ _ => by simp [absV, VRel]
  | .chan _ => by simp [absV, VRel]
theorem absVs_rel (n M : Nat) : ∀ l, VRels (gW n M) (absVs n M l) l
  | [] => by simp [absVs, VRels]
  | v :: vs => by simp only [absVs]; exact VRels.cons (absV_rel n M v) (absVs_rel n M vs)
end

/-- what lies from a place on, as far as it can be told -/
def win (w : World) (c : Array Value) (o : Nat) : List AV := ((c.toList.drop o).map (absV w.heap.size (MW w))).takeWhile AV.one
def objW (w : World) (x : Nat) : AO := match w.heap[x / MW w]? with
  | some (.cells c _ _) => .cells (win w c (x % MW w)) 0 true
  | _ => .dead
def sW (w : World) : AS := { lay := [Tr.ofL (objW w) (List.range (w.heap.size * MW w))], cur := .E, nl := w.heap.size * MW w, st := 1 }

theorem sW_h {w : World} {x : Nat} {o : AO} (h : (sW w).h x = some o) : x < w.heap.size * MW w ∧ ∃ c e fz, w.heap[x / MW w]? = some (.cells c e fz) ∧ o = .cells (win w c (x % MW w)) 0 true := by
  simp only [AS.h, sW, Tr.get, layGet, Tr.get_ofL, List.mem_range] at h
  by_cases hx : x < w.heap.size * MW w
  · refine ⟨hx, ?_⟩
    rw [if_pos hx] at h
    simp only [objW] at h
    cases hb : w.heap[x / MW w]? with
    | none => rw [hb] at h; cases h
    | some ob =>
      rw [hb] at h
      cases ob with
      | cells c e fz =>
        simp only [AO.shut, Option.some.injEq] at h
        exact ⟨c, e, fz, rfl, h.symm⟩
      | _ => cases h
  · rw [if_neg hx] at h; cases h
theorem sW_at {w : World} {b o : Nat} {c : Array Value} {e : TypeId} {fz : Nat × Nat} (hb : w.heap[b]? = some (.cells c e fz)) (ho : o ≤ c.size) : At (sW w) (b * MW w + o) (win w c o) := by
  have hM := lt_MW hb
  have hbl : b < w.heap.size := by
    rcases Nat.lt_or_ge b w.heap.size with h | h
    · exact h
    · rw [Array.getElem?_eq_none h] at hb; cases hb
  have hl := lab_lt hbl (show o < MW w by omega)
  refine ⟨0, true, ?_⟩
  simp only [AS.h, sW, Tr.get, layGet, Tr.get_ofL, List.mem_range, if_pos hl, objW, (lab_div (show o < MW w by omega)).1, (lab_div (show o < MW w by omega)).2, hb, AO.shut]

theorem takeWhile_get {p : AV → Bool} : ∀ (l : List AV) (k : Nat) (v : AV), (l.takeWhile p)[k]? = some v → p v = true ∧ l[k]? = some v
  | [], k, v, h => by simp at h
  | a :: l, k, v, h => by
    rw [List.takeWhile_cons] at h
    split at h
    · rename_i ha
      cases k with
      | zero => simp at h; subst h; exact ⟨ha, rfl⟩
      | succ k => simp at h; simpa using takeWhile_get l k v h
    · simp at h

theorem takeWhile_take {p : AV → Bool} : ∀ (l : List AV) (N : Nat), (∀ v ∈ l.take N, p v = true) → (l.takeWhile p).take N = l.take N
  | l, 0, _ => by simp
  | [], N + 1, _ => by simp
  | a :: l, N + 1, h => by
    have ha : p a = true := h a (by simp)
    rw [List.takeWhile_cons, if_pos ha, List.take_succ_cons, List.take_succ_cons, takeWhile_take l N fun v hv => h v (by simp [hv])]
theorem chunks (l : List AV) (sz : Nat) : ∀ n, l.take (n * sz) = ((List.range n).map fun i => (l.drop (i * sz)).take sz).flatten
  | 0 => by simp
  | n + 1 => by
    rw [Nat.add_mul, Nat.one_mul, List.take_add, chunks l sz n, List.range_succ, List.map_append, List.flatten_append]
    simp

theorem rel_sW (w : World) : Rel w.heap.size (gW w.heap.size (MW w)) (sW w) w := by
  refine ⟨fun x o h => ?_, fun x y o o' i i' h h' hro => ?_, fun j => ?_, Nat.le_refl 1, Nat.le_refl _⟩
  · obtain ⟨hx, c, e, fz, hb, rfl⟩ := sW_h h
    refine ⟨⟨x / MW w, x % MW w, 0⟩, by simp only [gW, if_pos hx], ⟨c, e, fz, hb, fun k v hk => ?_, (fun h => by cases h), (fun h => absurd rfl h), (fun h => by cases h)⟩, (fun h => by cases h)⟩
    obtain ⟨h1, h2⟩ := takeWhile_get _ _ _ hk
    refine ⟨h1, ?_⟩
    rw [List.getElem?_map, List.getElem?_drop, Option.map_eq_some_iff] at h2
    obtain ⟨cv, h3, rfl⟩ := h2
    exact ⟨cv, by simpa using h3, absV_rel _ _ _⟩
  · obtain ⟨_, c, e, fz, _, rfl⟩ := sW_h h
    cases hro
  · simp only [gW, sW, Nat.mul_one]
    rw [if_neg (by omega)]

/-! ### data of flat types -/
inductive LK where
  | int (k : IntKind)
  | bool
  | str
def leafOk : LK → AV → Prop
  | .int k, v => ∃ n, v = .int k n ∧ k.min ≤ n ∧ n ≤ k.max
  | .bool, v => ∃ b, v = .bool b
  | .str, v => ∃ b, v = .str b ∧ b.length ≤ maxLen
def cellsOk : List LK → List AV → Prop
  | [], [] => True
  | k :: ks, v :: vs => leafOk k v ∧ cellsOk ks vs
  | _, _ => False
theorem leafOk.one {k : LK} {v : AV} (h : leafOk k v) : v.one = true := by
  cases k
  · obtain ⟨n, rfl, _⟩ := h; rfl
  · obtain ⟨n, rfl⟩ := h; rfl
  · obtain ⟨n, rfl, _⟩ := h; rfl
theorem cellsOk.len : ∀ {ks : List LK} {vs : List AV}, cellsOk ks vs → vs.length = ks.length
  | [], [], _ => rfl
  | [], _ :: _, h => h.elim
  | _ :: _, [], h => h.elim
  | k :: ks, v :: vs, h => by simp [cellsOk.len h.2]
theorem cellsOk.one : ∀ {ks : List LK} {vs : List AV}, cellsOk ks vs → ∀ v ∈ vs, v.one = true
  | [], [], _, v, hv => by cases hv
  | [], _ :: _, h, _, _ => h.elim
  | _ :: _, [], h, _, _ => h.elim
  | k :: ks, u :: vs, h, v, hv => by
    rcases List.mem_cons.1 hv with rfl | hv
    · exact h.1.one
    · exact cellsOk.one h.2 v hv
theorem cellsOk.append : ∀ {ks ks' : List LK} {vs vs' : List AV}, cellsOk ks vs → cellsOk ks' vs' → cellsOk (ks ++ ks') (vs ++ vs')
  | [], _, [], _, _, h' => by simpa using h'
  | [], _, _ :: _, _, h, _ => h.elim
  | _ :: _, _, [], _, h, _ => h.elim
  | k :: ks, _, v :: vs, _, h, h' => ⟨h.1, cellsOk.append h.2 h'⟩

def flatF (P : Program) (rec : TypeId → Option (List LK)) : List Field → Nat → Option (List LK)
  | [], _ => some []
  | f :: fs, o => (rec f.type).bind fun ks => if f.offset = o ∧ P.cellsOf f.type = ks.length then (flatF P rec fs (o + ks.length)).map (ks ++ ·) else none
/-- the kinds of a flat type's cells -/
def flatT (P : Program) : Nat → TypeId → Option (List LK)
  | 0, _ => none
  | d + 1, t => match P.underlying t with
    | some .bool => some [.bool]
    | some (.int k) => some [.int k]
    | some .string => some [.str]
    | some (.struct fs) => (flatF P (flatT P d) fs.toList 0).bind fun ks => if P.cellsOf t = ks.length then some ks else none
    | some (.array n e) => (flatT P d e).bind fun ks => if P.cellsOf e = ks.length ∧ P.cellsOf t = n * ks.length then some (List.replicate n ks).flatten else none
    | _ => none

section
variable {H : Type} {enc : TypeId × Value → H} {P : Program} {w : World} {base : Nat} {spare : Nat → Bool} {held : Bool}

theorem flat_open : ∀ (d : Nat) (t : TypeId) (ks : List LK) (fuel : Nat) (cs : List Value) (x : DataW H × List MemPlace) (n M : Nat), flatT P d t = some ks → DataW.trod enc P w base spare held fuel t cs = some x → cellsOk ks (cs.map (absV n M)) := by
  intro d
  induction d with
  | zero => intro t ks fuel cs x n M h; simp [flatT] at h
  | succ d ih =>
    intro t ks fuel cs x n M h ht
    unfold flatT at h
    split at h
    · rename_i hu
      obtain rfl := Option.some.inj h
      obtain ⟨b, rfl, _⟩ := DataW.trod_bool hu ht
      exact ⟨⟨b, by simp [absV]⟩, trivial⟩
    · rename_i k hu
      obtain rfl := Option.some.inj h
      obtain ⟨b, rfl, _, hwf⟩ := DataW.trod_int hu ht
      simp only [Lit.wf, Bool.and_eq_true, decide_eq_true_eq] at hwf
      exact ⟨⟨b, by simp [absV], hwf⟩, trivial⟩
    · rename_i hu
      obtain rfl := Option.some.inj h
      obtain ⟨b, rfl, _, hl⟩ := DataW.trod_string hu ht
      exact ⟨⟨b.data.toList, by simp [absV], by simpa using hl⟩, trivial⟩
    · rename_i fs hu
      obtain ⟨xs, m, rfl, _, hlen, hxs, hf⟩ := DataW.trod_struct hu ht
      simp only [Option.bind_eq_some_iff] at h
      obtain ⟨ks', hks, h⟩ := h
      split at h
      · rename_i hsz
        obtain rfl := Option.some.inj h
        have key : ∀ (l : List Field) (o : Nat) (ks : List LK), flatF P (flatT P d) l o = some ks → (∀ f ∈ l, ∃ y, DataW.trod enc P w base spare held m f.type ((cs.drop f.offset).take (P.cellsOf f.type)) = some y) → o + ks.length ≤ cs.length → cellsOk ks (((cs.drop o).take ks.length).map (absV n M)) := by
          intro l
          induction l with
          | nil => intro o ks h _ _; simp only [flatF] at h; obtain rfl := Option.some.inj h; simp [cellsOk]
          | cons f l ihl =>
            intro o ks h hall hle
            simp only [flatF, Option.bind_eq_some_iff] at h
            obtain ⟨k1, hk1, h⟩ := h
            split at h
            · rename_i hc
              obtain ⟨hc1, hc2⟩ := hc
              simp only [Option.map_eq_some_iff] at h
              obtain ⟨k2, hk2, rfl⟩ := h
              obtain ⟨y, hy⟩ := hall f (by simp)
              have g1 := ih _ _ _ _ _ n M hk1 hy
              rw [hc1, hc2] at g1
              rw [List.length_append] at hle
              have g2 := ihl (o + k1.length) k2 hk2 (fun f hf => hall f (by simp [hf])) (by omega)
              have := g1.append g2
              rw [List.length_append, List.take_add, List.map_append, List.drop_drop]
              exact this
            · cases h
        have hall : ∀ f ∈ fs.toList, ∃ y, DataW.trod enc P w base spare held m f.type ((cs.drop f.offset).take (P.cellsOf f.type)) = some y := by
          intro f hfm
          obtain ⟨i, hi⟩ := List.mem_iff_getElem?.1 hfm
          have hi' : fs[i]? = some f := by simpa using hi
          have hil : i < xs.length := by
            rw [hxs]
            rcases Nat.lt_or_ge i fs.size with h | h
            · exact h
            · rw [Array.getElem?_eq_none h] at hi'; cases hi'
          exact ⟨_, (hf i f hi').trans (List.getElem?_eq_getElem hil)⟩
        have := key fs.toList 0 ks' hks hall (by rw [hlen, hsz]; omega)
        rw [List.drop_zero, List.take_of_length_le (by rw [hlen, hsz]; exact Nat.le_refl _)] at this
        exact this
      · cases h
    · rename_i len e hu
      obtain ⟨xs, m, rfl, _, hlen, hxs, hf⟩ := DataW.trod_array hu ht
      simp only [Option.bind_eq_some_iff] at h
      obtain ⟨k1, hk1, h⟩ := h
      split at h
      · rename_i hc
        obtain ⟨hc1, hc2⟩ := hc
        obtain rfl := Option.some.inj h
        have key : ∀ (j i : Nat), i + j = len → cellsOk (List.replicate j k1).flatten (((cs.drop (i * k1.length)).take (j * k1.length)).map (absV n M)) := by
          intro j
          induction j with
          | zero => intro i _; simp [cellsOk]
          | succ j ihj =>
            intro i hij
            have hy := hf i (by omega)
            rw [List.getElem?_eq_getElem (by omega)] at hy
            have g1 := ih _ _ _ _ _ n M hk1 hy
            rw [hc1] at g1
            have g2 := ihj (i + 1) (by omega)
            have := g1.append g2
            rw [List.replicate_succ, List.flatten_cons]
            have e1 : (j + 1) * k1.length = k1.length + j * k1.length := by rw [Nat.add_mul, Nat.one_mul, Nat.add_comm]
            rw [e1, List.take_add, List.map_append, List.drop_drop]
            have e2 : i * k1.length + k1.length = (i + 1) * k1.length := by rw [Nat.add_mul, Nat.one_mul]
            rw [e2]
            exact this
        have := key len 0 (by omega)
        rw [Nat.zero_mul, List.drop_zero, List.take_of_length_le (by rw [hlen, hc2]; exact Nat.le_refl _)] at this
        exact this
      · cases h
    · cases h

/-- a slice of a flat type, among the arguments -/
theorem slice_arg {t e : TypeId} {d : Nat} {ks : List LK} (hu : P.underlying t = some (.slice e)) (hk : flatT P d e = some ks) (hsz : P.cellsOf e = ks.length) (hpos : 0 < ks.length) {v : Value} {y : DataW H} {ps : List MemPlace}
    (hv : Value.okWide P w .any base t v) (h : DataW.Trod enc P w 0 (fun _ => true) true t v y ps) :
    ∃ C : List (List AV), SlAt (sW w) (absV w.heap.size (MW w) v) ks.length C.flatten C.length ∧ (∀ c ∈ C, cellsOk ks c) ∧ C.length ≤ maxLen := by
  obtain ⟨fuel, h⟩ := h
  rcases open_slice hu h with ⟨hcs, _⟩ | ⟨a, len, cap, m, n, D, Pl, hcs, hb, hl, hm, hmm, _, hx⟩
  · have hve : v = .slice none 0 0 := by
      cases v with
      | agg l => exfalso; unfold Value.okWide at hv; rw [hu] at hv; simp only [Cell.okWide, hu, Cell.ok] at hv
      | _ => first | (simp [Value.cells] at hcs; done) | simpa [Value.cells] using hcs
    subst hve
    exact ⟨[], by simp only [absV, List.flatten_nil, List.length_nil]; exact SlAt.nil, by simp, by simp⟩
  · have hve : v = .slice (some a) len cap := by
      cases v with
      | agg l => exfalso; unfold Value.okWide at hv; rw [hu] at hv; simp only [Cell.okWide, hu, Cell.ok] at hv
      | _ => first | (simp [Value.cells] at hcs; done) | simpa [Value.cells] using hcs
    subst hve
    simp only [if_true] at hmm
    subst hmm
    have hval : w.has P .any base a e m := by
      unfold Value.okWide at hv; rw [hu] at hv
      simp only [Cell.okWide, hu, Cell.ok] at hv
      exact hv.2.2
    obtain ⟨_, hspot, row, cells, hshape, _⟩ := hval
    obtain ⟨b, o, sp⟩ := a
    simp only at hspot
    subst hspot
    -- its block
    obtain ⟨c, e', fz, hblk⟩ : ∃ c e' fz, w.heap[b]? = some (.cells c e' fz) := by
      unfold World.shape? at hshape
      split at hshape
      · rename_i c e' fz hblk; exact ⟨c, e', fz, hblk⟩
      · cases hshape
    have hbl : b < w.heap.size := by
      rcases Nat.lt_or_ge b w.heap.size with h | h
      · exact h
      · rw [Array.getElem?_eq_none h] at hblk; cases hblk
    have hMW := lt_MW hblk
    have hel : ∀ i, i < m → ∃ ci, ci = ((c.toList.drop (o + i * ks.length)).take ks.length) ∧ ci.length = ks.length ∧ cellsOk ks (ci.map (absV w.heap.size (MW w))) := by
      intro i hi
      obtain ⟨cs', h1, h2⟩ := hx i hi
      rw [hsz] at h1
      obtain ⟨_, hlen, hcell⟩ := World.cells?_some h1
      have hcs' : cs' = (c.toList.drop (o + i * ks.length)).take ks.length := by
        apply List.ext_getElem?
        intro j
        rw [List.getElem?_take, List.getElem?_drop]
        split
        · rename_i hj
          rw [← hcell j hj]
          simp only [World.cell?]
          have hblk2 : (((⟨b, o, none⟩ : Addr).add (i * ks.length)).add j).block = b ∧ (((⟨b, o, none⟩ : Addr).add (i * ks.length)).add j).off = o + i * ks.length + j ∧ (((⟨b, o, none⟩ : Addr).add (i * ks.length)).add j).spot = none := by
            unfold Addr.add
            by_cases h0 : i * ks.length = 0 <;> by_cases h1 : j = 0 <;> simp [h0, h1]
          rw [hblk2.1, hblk2.2.1, hblk2.2.2, hblk]
          simp
        · rw [List.getElem?_eq_none (by omega)]
      exact ⟨cs', hcs', hlen, flat_open d e ks n cs' _ _ _ hk h2⟩
    refine ⟨(List.range len).map fun i => ((c.toList.drop (o + i * ks.length)).take ks.length).map (absV w.heap.size (MW w)), ?_, ?_, ?_⟩
    · rw [List.length_map, List.length_range]
      by_cases h0 : len = 0
      · subst h0
        simp only [List.range_zero, List.map_nil, List.flatten_nil]
        simp only [absV]
        rw [if_pos ⟨hbl, by omega⟩]
        split <;> exact SlAt.nil
      · have ho : o < c.size := by
          obtain ⟨ci, h1, h2, _⟩ := hel 0 (by omega)
          have := congrArg List.length h1
          rw [h2, List.length_take, List.length_drop, Nat.zero_mul, Nat.add_zero, show c.toList.length = c.size from Array.length_toList] at this
          omega
        simp only [absV]
        rw [if_pos ⟨hbl, by omega⟩, if_pos (by omega)]
        have hC : ((List.range len).map fun i => ((c.toList.drop (o + i * ks.length)).take ks.length).map (absV w.heap.size (MW w))).flatten = ((c.toList.drop o).map (absV w.heap.size (MW w))).take (len * ks.length) := by
          rw [chunks]
          congr 1
          apply List.map_congr_left
          intro i _
          rw [List.map_take, ← List.map_drop, List.drop_drop]
        have hone : ∀ v ∈ ((c.toList.drop o).map (absV w.heap.size (MW w))).take (len * ks.length), v.one = true := by
          intro v hv
          rw [← hC] at hv
          obtain ⟨cc, hcc, hvc⟩ := List.mem_flatten.1 hv
          obtain ⟨i, hi, rfl⟩ := List.mem_map.1 hcc
          obtain ⟨ci, h1, _, h3⟩ := hel i (by have := List.mem_range.1 hi; omega)
          rw [h1] at h3
          exact h3.one v hvc
        refine SlAt.mk (sW_at hblk (by omega)) ?_ ?_ hl
        · rw [hC, List.length_take, List.length_map, List.length_drop, show c.toList.length = c.size from Array.length_toList]
          obtain ⟨ci, h1, h2, _⟩ := hel (len - 1) (by omega)
          have := congrArg List.length h1
          rw [h2, List.length_take, List.length_drop, show c.toList.length = c.size from Array.length_toList] at this
          have e : (len - 1) * ks.length + ks.length = len * ks.length := by
            rw [← Nat.succ_mul]; congr 1; omega
          omega
        · rw [List.drop_zero]
          unfold win
          rw [takeWhile_take _ _ hone, hC]
    · intro cc hcc
      obtain ⟨i, hi, rfl⟩ := List.mem_map.1 hcc
      obtain ⟨ci, h1, _, h3⟩ := hel i (by have := List.mem_range.1 hi; omega)
      rw [h1] at h3
      exact h3
    · rw [List.length_map, List.length_range]; omega
end
end Go.Am
end

section
set_option linter.unusedSectionVars false
set_option linter.unusedSimpArgs false
set_option linter.unusedVariables false
namespace Go.Am
open Go.ChangeShapes Go.WideShapes Go.ChangeAt Go.RowKit

theorem below_of_open {P : Program} {g : FuncId} {b : Bool} {cargs : Array Value} {W : World} (hg : callable P g = true) (h : ACalls P g (cargs.toList.map (absV W.heap.size (MW W))) (sW W) fun v s' => v = .bool b) : Calls P g cargs W fun e W' => e = .returned (.bool b) ∧ Below W.heap.size W W' := by
  have hargs : VRels (gW W.heap.size (MW W)) (cargs.toList.map (absV W.heap.size (MW W))) cargs.toList := by
    rw [← absVs_map]; exact absVs_rel _ _ _
  have hl : Calls P g cargs W (fun e w' => ∃ γ' v cv s', e = .returned cv ∧ VRel γ' v cv ∧ Did W.heap.size (gW W.heap.size (MW W)) (sW W) W γ' s' w' ∧ Rel W.heap.size γ' s' w' ∧ v = .bool b) := by
    rcases h W.heap.size _ cargs W hargs (rel_sW W) with ⟨_, h1⟩ | ⟨cv, w', h1, _⟩
    · exact h1
    · rw [run_callFunc hg] at h1; cases h1
  refine hl.mono ?_
  rintro e w' ⟨γ', v, cv, s', rfl, hv, hd, hr, rfl⟩
  simp only [VRel] at hv
  subst hv
  exact ⟨rfl, hd.below fun l o h => by obtain ⟨_, c, e, fz, _, rfl⟩ := sW_h h; rfl⟩

theorem below_trodAll {H : Type} {enc : TypeId × Value → H} {P : Program} {W W' : World} (hl : laidOutB P = true) (hb : Below W.heap.size W W') : ∀ (ts : List TypeId) (vs : List Value) (ds : List (DataW H)) (ps : List MemPlace),
    (ts.all fun t => P.readableRec t && decide (t < P.types.size)) = true → DataW.TrodAll enc P W 0 (fun _ => true) true ts vs ds ps → (∀ x ∈ ps, x.block < W.heap.size) →
    DataW.TrodAll enc P W' 0 (fun b => decide (b < W.heap.size)) true ts vs ds ps
  | [], vs, ds, ps, _, h, _ => by
    obtain ⟨rfl, rfl, rfl⟩ := trodAll_nil h
    exact h
  | t :: ts, vs, ds, ps, hr, h, hlt => by
    simp only [List.all_cons, Bool.and_eq_true, decide_eq_true_eq] at hr
    obtain ⟨v, vs1, d, ds1, a, b, rfl, rfl, rfl, h1, h2⟩ := trodAll_cons h
    exact ⟨a, b, Below.trod hl hr.1.1 hr.1.2 h1 hb (fun x hx => hlt x (by simp [hx])), below_trodAll hl hb ts vs1 ds1 b hr.2 h2 (fun x hx => hlt x (by simp [hx])), rfl⟩

/-- one argument among all -/
theorem trodAll_at {H : Type} {enc : TypeId × Value → H} {P : Program} {W : World} {base : Nat} {spare : Nat → Bool} {held : Bool} : ∀ {ts : List TypeId} {vs : List Value} {ds : List (DataW H)} {ps : List MemPlace}, DataW.TrodAll enc P W base spare held ts vs ds ps →
    ∀ (i : Nat) t, ts[i]? = some t → ∃ v d p, vs[i]? = some v ∧ ds[i]? = some d ∧ DataW.Trod enc P W base spare held t v d p
  | [], _, _, _, _, i, t, hi => by simp at hi
  | t :: ts, vs, ds, ps, h, i, t', hi => by
    obtain ⟨v, vs1, d, ds1, a, b, rfl, rfl, rfl, h1, h2⟩ := trodAll_cons h
    cases i with
    | zero => simp at hi; subst hi; exact ⟨v, d, a, rfl, rfl, h1⟩
    | succ i => simp at hi; obtain ⟨v', d', p', e1, e2, e3⟩ := trodAll_at h2 i t' hi; exact ⟨v', d', p', by simpa using e1, by simpa using e2, e3⟩
theorem trodAll_len {H : Type} {enc : TypeId × Value → H} {P : Program} {W : World} {base : Nat} {spare : Nat → Bool} {held : Bool} : ∀ {ts : List TypeId} {vs : List Value} {ds : List (DataW H)} {ps : List MemPlace}, DataW.TrodAll enc P W base spare held ts vs ds ps → vs.length = ts.length ∧ ds.length = ts.length
  | [], _, _, _, h => by obtain ⟨rfl, rfl, rfl⟩ := trodAll_nil h; exact ⟨rfl, rfl⟩
  | t :: ts, vs, ds, ps, h => by
    obtain ⟨v, vs1, d, ds1, a, b, rfl, rfl, rfl, h1, h2⟩ := trodAll_cons h
    have := trodAll_len h2
    simp [this.1, this.2]

/-- elements of a slice, as what they stand for -/
theorem cells_dec {α : Type} {f : α → List AV} {Q : α → Prop} : ∀ (C : List (List AV)), (∀ c ∈ C, ∃ x, c = f x ∧ Q x) → ∃ l : List α, C.flatten = l.flatMap f ∧ C.length = l.length ∧ ∀ x ∈ l, Q x
  | [], _ => ⟨[], by simp⟩
  | c :: C, h => by
    obtain ⟨x, rfl, hx⟩ := h c (by simp)
    obtain ⟨l, h1, h2, h3⟩ := cells_dec C fun c hc => h c (by simp [hc])
    exact ⟨x :: l, by simp [h1], by simp [h2], by simpa [hx] using h3⟩

theorem cellsOk.cons {k : LK} {ks : List LK} {c : List AV} (h : cellsOk (k :: ks) c) : ∃ v vs, c = v :: vs ∧ leafOk k v ∧ cellsOk ks vs := by
  cases c with
  | nil => exact h.elim
  | cons v vs => exact ⟨v, vs, rfl, h.1, h.2⟩
theorem cellsOk.nil {c : List AV} (h : cellsOk [] c) : c = [] := by
  cases c with
  | nil => rfl
  | cons v vs => exact h.elim

/-- A law of one truth, over its arguments. -/
theorem law_open {H : Type} {enc : TypeId × Value → H} {C : Checked} {os : Os} {f : FuncId} {fn : Func} {s : ChangeSpec} {fresh : Bool} {rt : TypeId} (own : ownKnob C.prog.godebug = none) (started : os.Started) (noInit : C.prog.inits.idxOf? f = none) (hfn : C.prog.funcs[f]? = some fn)
    (witness : ∃ (w : World) (tape : Tape) (i : Input), w.os = os ∧ (w.forCall tape i).Shaped C.prog ∧ i.vars = [] ∧ Input.okWide C.prog (w.forCall tape i) .any w.heap.size f i ∧
      s.pre6 enc C.prog fn [] false (w.forCall tape i).memory i.args ∧ ({} : Assume).holds C.prog (lone (Frame.enter C.prog f i.args .normal) [] (w.forCall tape i)))
    (hg : callable C.prog f = true) (hv : s.vars = []) (hrt : fn.resultTypes = #[rt]) (hru : C.prog.underlying rt = some .bool) (hl : laidOutB C.prog = true) (hr : (fn.params.toList.all fun t => C.prog.readableRec t && decide (t < C.prog.types.size)) = true)
    (hsp : ∀ ds : List (DataW H), ds.length = fn.params.toList.length → s.fn H ds = { results := [.lit (.bool true)], args := ds })
    (hrun : ∀ (W : World) (base : Nat) (args : List Value), args.length = fn.params.toList.length → (∀ (j : Nat) t v, fn.params.toList[j]? = some t → args[j]? = some v → Value.okWide C.prog W .any base t v ∧ ∃ (d : DataW H) (p : List MemPlace), DataW.Trod enc C.prog W 0 (fun _ => true) true t v d p) →
      ACalls C.prog f (args.map (absV W.heap.size (MW W))) (sW W) fun v s' => v = .bool true) :
    ReturnsInHanded {} C os f .any (s.pre6 enc C.prog fn [] false) (s.post enc C.prog fn false fresh false false) := by
  refine returnsInHanded_of_change own started noInit hfn witness ?_
  intro W base args ds gs before hval hW hcnd _
  have hW' := hW
  obtain ⟨p, q, hA, hV, rfl, hfz, hnd⟩ := hW
  rw [hv] at hV
  obtain ⟨rfl, rfl⟩ := trodVars_none hV
  obtain ⟨hl1, hl2⟩ := trodAll_len hA
  have hrun' := hrun W base args.toList hl1 fun j t v hj hvj => by
    obtain ⟨v', d, p', h1, _, h2⟩ := trodAll_at hA j t hj
    rw [hvj] at h1; obtain rfl := Option.some.inj h1
    exact ⟨hval j t v (by simpa using hj) (by simpa using hvj), d, p', h2⟩
  refine (below_of_open hg hrun').mono fun e W' ⟨he, hb⟩ => ?_
  subst he
  refine ⟨_, rfl, post_law (pa := p) (rt := rt) hW' hv hb hrt hru ?_ ?_⟩
  · rw [List.append_nil]; exact hsp ds hl2
  · exact below_trodAll hl hb _ _ _ _ hr hA fun x hx => hW'.lt x (by simp [hx])
end Go.Am
end

section
set_option linter.unusedSectionVars false
set_option linter.unusedSimpArgs false
set_option linter.unusedVariables false
namespace Go.Am

/-- what is known of a map type: its keys are told apart -/
structure MpTy {K : Type} [DecidableEq K] (T : TT) (t kt et : TypeId) (kf : K → AV) (z : AV) : Prop where
  u : T.und t = some (.map kt et)
  eq : ∀ a b, aeq T 100 kt (kf a) (kf b) = some (decide (a = b))
  ok : ∀ a, akeyOk T 100 kt (kf a) = true
  bits : ∀ a, abits 100 (kf a) (kf a) = true
  z : T.zer et = some z

/-- the value of a key -/
def mget {K V : Type} [DecidableEq K] (es : List (K × V × Nat)) (k : K) : Option V := (es.find? fun e => decide (e.1 = k)).map fun e => e.2.1
/-- the entries of a map in the abstract heap -/
def ents {K V : Type} (kf : K → AV) (vf : V → AV) (es : List (K × V × Nat)) : List (AV × AV × Nat) := es.map fun e => (kf e.1, vf e.2.1, e.2.2)

structure MpAt {K V : Type} (kf : K → AV) (vf : V → AV) (s : AS) (m : Nat) (es : List (K × V × Nat)) (c : Nat) (ro : Bool) : Prop where
  obj : s.h m = some (.map (ents kf vf es) c ro)
  st : es.Pairwise fun a b => a.2.2 < b.2.2
  lt : ∀ e ∈ es, e.2.2 < c
  nd : es.Pairwise fun a b => a.1 ≠ b.1

section
variable {K V : Type} [DecidableEq K] {kf : K → AV} {vf : V → AV}

theorem mget_nil (k : K) : mget ([] : List (K × V × Nat)) k = none := rfl
theorem mget_cons (e : K × V × Nat) (es : List (K × V × Nat)) (k : K) : mget (e :: es) k = if e.1 = k then some e.2.1 else mget es k := by
  unfold mget
  rw [List.find?_cons]
  by_cases h : e.1 = k
  · simp [h]
  · simp [h]
theorem mget_append (es fs : List (K × V × Nat)) (k : K) : mget (es ++ fs) k = (mget es k).or (mget fs k) := by
  induction es with
  | nil => simp [mget_nil]
  | cons e es ih =>
    rw [List.cons_append, mget_cons, mget_cons, ih]
    split <;> simp
theorem mget_some {es : List (K × V × Nat)} {k : K} {v : V} (h : mget es k = some v) : ∃ (j n : Nat), es[j]? = some (k, v, n) := by
  induction es with
  | nil => cases h
  | cons e es ih =>
    rw [mget_cons] at h
    split at h
    · rename_i hk
      obtain ⟨k', v', n⟩ := e
      simp only at hk h
      subst hk
      obtain rfl := Option.some.inj h
      exact ⟨0, n, rfl⟩
    · obtain ⟨j, n, hj⟩ := ih h
      exact ⟨j + 1, n, by simpa using hj⟩
theorem mget_mem {es : List (K × V × Nat)} (nd : es.Pairwise fun a b => a.1 ≠ b.1) {e : K × V × Nat} (h : e ∈ es) : mget es e.1 = some e.2.1 := by
  induction es with
  | nil => cases h
  | cons x es ih =>
    obtain ⟨n1, n2⟩ := List.pairwise_cons.1 nd
    rw [mget_cons]
    rcases List.mem_cons.1 h with rfl | h
    · rw [if_pos rfl]
    · rw [if_neg (n1 e h), ih n2 h]
theorem mget_none {es : List (K × V × Nat)} {k : K} : mget es k = none ↔ ∀ e ∈ es, e.1 ≠ k := by
  induction es with
  | nil => simp [mget_nil]
  | cons e es ih =>
    rw [mget_cons]
    by_cases h : e.1 = k
    · rw [if_pos h]
      constructor
      · intro h; cases h
      · intro h'; exact absurd h (h' e (by simp))
    · rw [if_neg h, ih]
      simp [h]

theorem mget_set {k : K} {v v0 : V} {n : Nat} : ∀ (es : List (K × V × Nat)) (j : Nat), es[j]? = some (k, v0, n) → (∀ j', j' < j → ∀ e, es[j']? = some e → e.1 ≠ k) → j < es.length → ∀ k', mget (es.set j (k, v, n)) k' = if k' = k then some v else mget es k'
  | [], j, _, _, hl, _ => by simp at hl
  | x :: es, 0, hj, _, _, k' => by
    simp only [List.getElem?_cons_zero, Option.some.injEq] at hj
    subst hj
    rw [List.set_cons_zero, mget_cons, mget_cons]
    by_cases e : k = k'
    · subst e; simp
    · simp only [if_neg e, if_neg (fun h : k' = k => e h.symm)]
  | x :: es, j + 1, hj, hb, hl, k' => by
    have hx : x.1 ≠ k := hb 0 (by omega) x rfl
    rw [List.set_cons_succ, mget_cons, mget_cons, mget_set es j (by simpa using hj) (fun j' hj' e he => hb (j' + 1) (by omega) e (by simpa using he)) (by simpa using hl) k']
    by_cases e : x.1 = k'
    · rw [if_pos e, if_pos e, if_neg (fun h => hx (e.trans h))]
    · rw [if_neg e, if_neg e]

variable {T : TT} {t kt et : TypeId} {z : AV} (ht : MpTy T t kt et kf z)
include ht
theorem afind_mp (k : K) : ∀ (es : List (K × V × Nat)) (i : Nat), (mget es k = none → afind T kt (kf k) (ents kf vf es) i = some none) ∧ ∀ v, mget es k = some v → ∃ j n, es[j]? = some (k, v, n) ∧ (∀ j', j' < j → ∀ e, es[j']? = some e → e.1 ≠ k) ∧ afind T kt (kf k) (ents kf vf es) i = some (some (i + j, vf v))
  | [], i => ⟨fun _ => rfl, fun v h => by cases h⟩
  | e :: es, i => by
    obtain ⟨h1, h2⟩ := afind_mp k es (i + 1)
    simp only [ents, List.map_cons, afind, ht.eq]
    rw [mget_cons]
    by_cases hk : e.1 = k
    · rw [if_pos hk]
      refine ⟨(fun h => by cases h), fun v h => ?_⟩
      obtain rfl := Option.some.inj h
      refine ⟨0, e.2.2, by rw [← hk]; rfl, fun j' hj => by omega, ?_⟩
      rw [decide_eq_true hk.symm]; rfl
    · rw [if_neg hk]
      have hd : decide (k = e.1) = false := decide_eq_false (fun h => hk h.symm)
      rw [hd]
      refine ⟨h1, fun v h => ?_⟩
      obtain ⟨j, n, a, b, c⟩ := h2 v h
      refine ⟨j + 1, n, by simpa using a, fun j' hj e' he' => ?_, by rw [show i + (j + 1) = i + 1 + j by omega]; exact c⟩
      cases j' with
      | zero => simp only [List.getElem?_cons_zero, Option.some.injEq] at he'; subst he'; exact hk
      | succ j' => exact b j' (by omega) e' (by simpa using he')

theorem MpAt.find {s : AS} {m : Nat} {es : List (K × V × Nat)} {c : Nat} {ro : Bool} (h : MpAt kf vf s m es c ro) (k : K) (ok : Bool) :
    alookup T t (.map (some m)) (kf k) ok s = some (if ok then .tup [((mget es k).map vf).getD z, .bool (mget es k).isSome] else ((mget es k).map vf).getD z) := by
  obtain ⟨h1, h2⟩ := afind_mp (vf := vf) ht k es 0
  simp only [alookup, ht.u, ht.ok, if_true, h.obj, Option.bind_some]
  cases hq : mget es k with
  | none =>
    rw [h1 hq]
    simp only [Option.bind_some, ht.z, Option.map_some, Option.map_none, Option.getD_none, Option.isSome_none]
  | some v =>
    obtain ⟨j, n, _, _, hf⟩ := h2 v hq
    rw [hf]
    simp only [Option.bind_some, Option.map_some, Option.getD_some, Option.isSome_some]
theorem ents_set (es : List (K × V × Nat)) (j : Nat) (e : K × V × Nat) : (ents kf vf es).set j (kf e.1, vf e.2.1, e.2.2) = ents kf vf (es.set j e) := by
  simp [ents, List.map_set]
/-- a key's value is set -/
theorem MpAt.upd {s : AS} (hw : WFs s) {m : Nat} {es : List (K × V × Nat)} {c : Nat} (h : MpAt kf vf s m es c false) (k : K) (v : V) {Q : AS → Prop}
    (hq : ∀ s' es' c', MpAt kf vf s' m es' c' false → (∀ k', mget es' k' = if k' = k then some v else mget es k') → WFs s' → Mut [m] s s' → Q s') : StQ (amapUpdate T t (.map (some m)) (kf k) (vf v) s) Q := by
  obtain ⟨h1, h2⟩ := afind_mp (vf := vf) ht k es 0
  cases hg : mget es k with
  | none =>
    have hno := mget_none.1 hg
    have hP := hw.put (o := .map (ents kf vf es ++ [(kf k, vf v, c)]) (c + 1) false) h.obj rfl
    refine ⟨_, ?_, hq _ (es ++ [(k, v, c)]) (c + 1) ⟨?_, ?_, ?_, ?_⟩ (fun k' => ?_) hP.wf hP.mut⟩
    · simp only [amapUpdate, ht.u, h.obj, ht.ok, if_true, h1 hg, Option.bind_some]
    · rw [hP.at]; simp [ents]
    · refine List.pairwise_append.2 ⟨h.st, List.pairwise_singleton _ _, fun a ha b hb => ?_⟩
      obtain rfl := List.mem_singleton.1 hb
      exact h.lt a ha
    · intro e he
      rcases List.mem_append.1 he with he | he
      · have := h.lt e he; omega
      · obtain rfl := List.mem_singleton.1 he; show c < c + 1; omega
    · refine List.pairwise_append.2 ⟨h.nd, List.pairwise_singleton _ _, fun a ha b hb => ?_⟩
      obtain rfl := List.mem_singleton.1 hb
      exact hno a ha
    · rw [mget_append, mget_cons, mget_nil]
      by_cases e : k = k'
      · subst e; rw [if_pos rfl, if_pos rfl, hg]; rfl
      · rw [if_neg e, if_neg (fun h => e h.symm)]; cases mget es k' <;> rfl
  | some v0 =>
    obtain ⟨j, n, hj, hb, hf⟩ := h2 v0 hg
    rw [Nat.zero_add] at hf
    have hjl : j < es.length := by
      rcases Nat.lt_or_ge j es.length with h | h
      · exact h
      · rw [List.getElem?_eq_none h] at hj; cases hj
    have hge : (ents kf vf es)[j]? = some (kf k, vf v0, n) := by simp [ents, hj]
    have hP := hw.put (o := .map (ents kf vf (es.set j (k, v, n))) c false) h.obj rfl
    have hkeys : (es.set j (k, v, n)).map (fun e => (e.1, e.2.2)) = es.map fun e => (e.1, e.2.2) := by
      apply List.ext_getElem?
      intro i
      simp only [List.getElem?_map, List.getElem?_set]
      split
      · rename_i e; subst e; rw [hj]; first | rfl | (rw [if_pos hjl]; rfl)
      · rfl
    have hpw : ∀ (R : K × Nat → K × Nat → Prop), (es.Pairwise fun a b => R (a.1, a.2.2) (b.1, b.2.2)) → ((es.set j (k, v, n)).Pairwise fun a b => R (a.1, a.2.2) (b.1, b.2.2)) := by
      intro R hp
      have := (List.pairwise_map (f := fun e : K × V × Nat => (e.1, e.2.2)) (R := R)).2 hp
      rw [← hkeys] at this
      exact List.pairwise_map.1 this
    refine ⟨_, ?_, hq _ (es.set j (k, v, n)) c ⟨hP.at, hpw (fun a b => a.2 < b.2) h.st, ?_, hpw (fun a b => a.1 ≠ b.1) h.nd⟩ (fun k' => ?_) hP.wf hP.mut⟩
    · simp only [amapUpdate, ht.u, h.obj, ht.ok, if_true, hf, Option.bind_some, hge, ht.bits, if_true]
      rw [← ents_set ht es j (k, v, n)]
    · intro e he
      obtain ⟨i, hi⟩ := List.mem_iff_getElem?.1 he
      rw [List.getElem?_set] at hi
      by_cases hji : j = i
      · rw [if_pos hji] at hi
        first
          | (obtain rfl := Option.some.inj hi; exact h.lt (k, v0, n) (List.mem_of_getElem? hj))
          | (rw [if_pos hjl] at hi; obtain rfl := Option.some.inj hi; exact h.lt (k, v0, n) (List.mem_of_getElem? hj))
      · rw [if_neg hji] at hi
        exact h.lt e (List.mem_of_getElem? hi)
    · exact mget_set es j hj hb hjl k'
theorem MpAt.lenB {s : AS} {m : Nat} {es : List (K × V × Nat)} {c : Nat} {ro : Bool} (h : MpAt kf vf s m es c ro) : alenB T t (.map (some m)) s = some (.int .i64 (es.length : Nat)) := by
  simp [alenB, ht.u, h.obj, ents]
end

section
variable {K V : Type} {kf : K → AV} {vf : V → AV}
theorem MpAt.mut {s s' : AS} {m : Nat} {es : List (K × V × Nat)} {c : Nat} {ro : Bool} {L : List Nat} (h : MpAt kf vf s m es c ro) (e : Mut L s s') (hm : m ∉ L) : MpAt kf vf s' m es c ro := ⟨e.1 _ _ hm h.obj, h.st, h.lt, h.nd⟩
theorem MpAt.ext {s s' : AS} {m : Nat} {es : List (K × V × Nat)} {c : Nat} {ro : Bool} (h : MpAt kf vf s m es c ro) (e : Ext s s') : MpAt kf vf s' m es c ro := h.mut (L := []) e.mut (by simp)
theorem MpAt.new {s : AS} {m : Nat} (h : s.h m = some (.map [] 0 false)) : MpAt kf vf s m ([] : List (K × V × Nat)) 0 false := ⟨h, List.Pairwise.nil, by simp, List.Pairwise.nil⟩

/-! ### ranges -/
/-- an iterator that has gone over some of a map's entries -/
structure Iter (s : AS) (it m : Nat) (es : List (K × V × Nat)) (c : Nat) (done : List (K × V × Nat)) : Prop where
  «at» : s.h it = some (.mapIt (some m) c (done.map fun e => e.2.2) c false)
  sub : ∀ e ∈ done, e ∈ es
  nd : done.Nodup
theorem Iter.mut {s s' : AS} {it m : Nat} {es done : List (K × V × Nat)} {c : Nat} {L : List Nat} (h : Iter s it m es c done) (e : Mut L s s') (hi : it ∉ L) : Iter s' it m es c done := ⟨e.1 _ _ hi h.at, h.sub, h.nd⟩
theorem Iter.ext {s s' : AS} {it m : Nat} {es done : List (K × V × Nat)} {c : Nat} (h : Iter s it m es c done) (e : Ext s s') : Iter s' it m es c done := h.mut (L := []) e.mut (by simp)

theorem stamp_inj {es : List (K × V × Nat)} (st : es.Pairwise fun a b => a.2.2 < b.2.2) {a b : K × V × Nat} (ha : a ∈ es) (hb : b ∈ es) (h : a.2.2 = b.2.2) : a = b := by
  induction es with
  | nil => cases ha
  | cons x es ih =>
    obtain ⟨s1, s2⟩ := List.pairwise_cons.1 st
    rcases List.mem_cons.1 ha with ea | ha <;> rcases List.mem_cons.1 hb with eb | hb
    · rw [ea, eb]
    · have := s1 b hb; rw [ea] at h; omega
    · have := s1 a ha; rw [eb] at h; omega
    · exact ih s2 ha hb
open Classical in
theorem nodup_len {α : Type} : ∀ {d es : List α}, d.Nodup → (∀ e ∈ d, e ∈ es) → d.length ≤ es.length
  | [], es, _, _ => Nat.zero_le _
  | x :: d, es, h, hs => by
    obtain ⟨n1, n2⟩ := List.nodup_cons.1 h
    have hx := hs x (by simp)
    have := nodup_len (d := d) (es := es.erase x) n2 fun e he => (List.mem_erase_of_ne (fun h => n1 (by rw [← h]; exact he))).2 (hs e (by simp [he]))
    have hp : 0 < es.length := List.length_pos_of_mem hx
    rw [List.length_erase_of_mem hx] at this
    simp only [List.length_cons]; omega
theorem Iter.lt {s : AS} {it m : Nat} {es done : List (K × V × Nat)} {c : Nat} (h : Iter s it m es c done) {e : K × V × Nat} (he : e ∈ es) (hn : e ∉ done) : done.length < es.length := by
  have := nodup_len (d := e :: done) (es := es) (List.nodup_cons.2 ⟨hn, h.nd⟩) fun x hx => by
    rcases List.mem_cons.1 hx with rfl | hx
    · exact he
    · exact h.sub x hx
  simp only [List.length_cons] at this; omega

/-- a range begins -/
theorem MpAt.range {T : TT} {t kt et : TypeId} (hu : T.und t = some (.map kt et)) {s : AS} (hw : WFs s) {m : Nat} {es : List (K × V × Nat)} {c : Nat} {ro : Bool} (h : MpAt kf vf s m es c ro) {Q : AV → AS → Prop}
    (hq : ∀ it s', Iter s' it m es c ([] : List (K × V × Nat)) → Fresh s s' it (.mapIt (some m) c [] c false) → Q (.ptr (some (it, 0))) s') : Bd2 (arange T t (.map (some m)) s) Q := by
  have F := hw.new (o := .mapIt (some m) c [] c false) rfl
  refine ⟨_, _, ?_, hq s.nl _ ⟨F.at, by simp, List.nodup_nil⟩ F⟩
  simp only [arange, hu, h.obj]
/-- its next step -/
theorem Iter.next {s : AS} (hw : WFs s) {it m : Nat} {es done : List (K × V × Nat)} {c : Nat} {ro : Bool} (h : MpAt kf vf s m es c ro) (hi : Iter s it m es c done) {A : Prop} {B : AV → AV → AS → Prop}
    (hA : (∀ e ∈ es, e ∈ done) → A) (hB : ∀ e s', e ∈ es → e ∉ done → Iter s' it m es c (done ++ [e]) → WFs s' → Mut [it] s s' → B (kf e.1) (vf e.2.1) s') : NextP (acandM (.ptr (some (it, 0))) s) A B := by
  have hcond : ¬ (done.map (fun e => e.2.2) ≠ [] ∧ ents kf vf es ≠ [] ∧ ((ents kf vf es).all fun e => decide (c ≤ e.2.2)) = true) := by
    rintro ⟨_, h2, h3⟩
    cases es with
    | nil => exact h2 rfl
    | cons e es =>
      have := h.lt e (by simp)
      simp [ents] at h3
      omega
  refine ⟨_, _, (by simp only [acandM, hi.at, h.obj]; rw [if_neg hcond]), ?_, ?_⟩
  · intro he
    refine hA fun e hes => ?_
    have hlt := h.lt e hes
    simp only [List.isEmpty_iff, List.filter_eq_nil_iff] at he
    have := he (kf e.1, vf e.2.1, e.2.2)
    simp only [List.mem_filter, ents, List.mem_map] at this
    have hc : (done.map fun e => e.2.2).contains e.2.2 = true := by
      cases hq : (done.map fun e => e.2.2).contains e.2.2 with
      | true => rfl
      | false => exact absurd (decide_eq_true hlt) (this ⟨⟨e, hes, rfl⟩, by rw [hq]; rfl⟩)
    simp only [List.contains_iff_mem, List.mem_map] at hc
    obtain ⟨e', he', hst⟩ := hc
    rw [← stamp_inj h.st (hi.sub e' he') hes hst]
    exact he'
  · intro k v s' hm
    obtain ⟨x, hx, he⟩ := List.mem_map.1 hm
    have hx2 : x ∈ (ents kf vf es).filter fun e => !(done.map fun e => e.2.2).contains e.2.2 := by
      rcases List.mem_append.1 hx with hx | hx
      · exact (List.mem_filter.1 hx).1
      · exact (List.mem_filter.1 hx).1
    obtain ⟨hxm, hxn⟩ := List.mem_filter.1 hx2
    simp only [ents, List.mem_map] at hxm
    obtain ⟨e, hes, rfl⟩ := hxm
    simp only [Prod.mk.injEq] at he
    obtain ⟨rfl, rfl, rfl⟩ := he
    have hn : e ∉ done := by
      intro hd
      have : (done.map fun e => e.2.2).contains e.2.2 = true := by
        simp only [List.contains_iff_mem, List.mem_map]; exact ⟨e, hd, rfl⟩
      rw [this] at hxn; cases hxn
    have hP := hw.put (o := .mapIt (some m) c (done.map (fun e => e.2.2) ++ [e.2.2]) c false) hi.at rfl
    refine hB e _ hes hn ⟨by rw [hP.at]; simp, fun x hx => ?_, ?_⟩ hP.wf hP.mut
    · rcases List.mem_append.1 hx with hx | hx
      · exact hi.sub x hx
      · obtain rfl := List.mem_singleton.1 hx; exact hes
    · refine List.nodup_append.2 ⟨hi.nd, by simp, fun a ha b hb => ?_⟩
      obtain rfl := List.mem_singleton.1 hb
      rintro rfl
      exact hn ha
/-- the key and the value of the step -/
theorem Iter.entry {s : AS} {it m : Nat} {es done : List (K × V × Nat)} {c : Nat} {ro : Bool} {e : K × V × Nat} (h : MpAt kf vf s m es c ro) (hi : Iter s it m es c (done ++ [e])) {Q : AV → AV → Prop} (hq : Q (kf e.1) (vf e.2.1)) : RdE (aentry (.ptr (some (it, 0))) s) Q := by
  refine ⟨_, _, ?_, hq⟩
  have hes := hi.sub e (by simp)
  simp only [aentry, hi.at, h.obj, if_true]
  have hl : (List.map (fun e : K × V × Nat => e.2.2) (done ++ [e])).getLast? = some e.2.2 := by simp
  rw [hl]
  simp only [Option.bind_some]
  have hf : (ents kf vf es).find? (fun x => x.2.2 == e.2.2) = some (kf e.1, vf e.2.1, e.2.2) := by
    have : ∀ (l : List (K × V × Nat)), (∀ x ∈ l, x.2.2 = e.2.2 → x = e) → e ∈ l → (ents kf vf l).find? (fun x => x.2.2 == e.2.2) = some (kf e.1, vf e.2.1, e.2.2) := by
      intro l
      induction l with
      | nil => intro _ h; cases h
      | cons x l ih =>
        intro h1 h2
        simp only [ents, List.map_cons, List.find?_cons]
        cases hq : (x.2.2 == e.2.2) with
        | true =>
          have := h1 x (by simp) (by simpa using hq)
          rw [this]
        | false =>
          rcases List.mem_cons.1 h2 with rfl | h2
          · simp at hq
          · exact ih (fun y hy => h1 y (by simp [hy])) h2
    exact this es (fun x hx hst => stamp_inj h.st hx hes hst) hes
  rw [hf]
  rfl
end
end Go.Am
end

section
set_option linter.unusedSectionVars false
set_option linter.unusedSimpArgs false
set_option linter.unusedVariables false
namespace Go.Am
open Go.ChangeShapes Go.WideShapes Go.Deep

section
variable {H : Type} {enc : TypeId × Value → H} {P : Program} {w : World}

/-- a slice among the cells: what its elements are -/
theorem slice_core {t e : TypeId} {sz : Nat} (hu : P.underlying t = some (.slice e)) (hsz : P.cellsOf e = sz) (hpos : 0 < sz) {Okp : List AV → Prop} (hopen : ∀ n cs y, DataW.trod enc P w 0 (fun _ => true) true n e cs = some y → cs.length = sz → Okp (cs.map (absV w.heap.size (MW w)))) (hone : ∀ l, Okp l → ∀ v ∈ l, v.one = true)
    {fuel : Nat} {v : Value} {y : DataW H × List MemPlace} (h : DataW.trod enc P w 0 (fun _ => true) true fuel t [v] = some y) :
    (absV w.heap.size (MW w) v).one = true ∧ ∃ C : List (List AV), SlAt (sW w) (absV w.heap.size (MW w) v) sz C.flatten C.length ∧ (∀ c ∈ C, Okp c) ∧ C.length ≤ maxLen := by
  rcases open_slice hu h with ⟨hcs, _⟩ | ⟨a, len, cap, m, n, D, Pl, hcs, hb, hl, hm, hmm, _, hx⟩
  · obtain rfl : v = .slice none 0 0 := by simpa using hcs
    exact ⟨by simp [absV, AV.one], [], by simp only [absV, List.flatten_nil, List.length_nil]; exact SlAt.nil, by simp, by simp⟩
  · obtain rfl : v = .slice (some a) len cap := by simpa using hcs
    simp only [if_true] at hmm
    subst hmm
    by_cases hm0 : m = 0
    · subst hm0
      obtain rfl : len = 0 := by omega
      obtain ⟨b, o, sp⟩ := a
      refine ⟨?_, [], ?_, by simp, by simp⟩
      · cases sp with
        | none =>
          simp only [absV]
          split
          · split <;> rfl
          · rfl
        | some _ => simp [absV, AV.one]
      · simp only [List.flatten_nil, List.length_nil]
        cases sp with
        | none =>
          simp only [absV]
          split
          · split <;> exact SlAt.nil
          · exact SlAt.emp
        | some _ => simp only [absV, if_true]; exact SlAt.emp
    -- its block
    obtain ⟨b, o, sp⟩ := a
    have hcell0 : ∃ c, w.cell? ((Addr.add ⟨b, o, sp⟩ (0 * sz)).add 0) = some c := by
      obtain ⟨cs', h1, _⟩ := hx 0 (by omega)
      rw [hsz] at h1
      obtain ⟨_, hlen, hcell⟩ := World.cells?_some h1
      rw [hcell 0 hpos]
      exact ⟨_, List.getElem?_eq_getElem (by omega)⟩
    obtain ⟨rfl, c, e', fz, hblk⟩ : sp = none ∧ ∃ c e' fz, w.heap[b]? = some (.cells c e' fz) := by
      obtain ⟨x, hx⟩ := hcell0
      have e0 : (Addr.add ⟨b, o, sp⟩ (0 * sz)).add 0 = ⟨b, o, sp⟩ := by unfold Addr.add; simp
      rw [e0] at hx
      unfold World.cell? at hx
      split at hx
      · rename_i c e' fz hblk
        cases sp with
        | none => exact ⟨rfl, c, e', fz, hblk⟩
        | some _ => simp at hx
      · cases hx
    have hbl : b < w.heap.size := by
      rcases Nat.lt_or_ge b w.heap.size with h | h
      · exact h
      · rw [Array.getElem?_eq_none h] at hblk; cases hblk
    have hMW := lt_MW hblk
    have hel : ∀ i, i < m → ∃ ci, ci = ((c.toList.drop (o + i * sz)).take sz) ∧ ci.length = sz ∧ Okp (ci.map (absV w.heap.size (MW w))) := by
      intro i hi
      obtain ⟨cs', h1, h2⟩ := hx i hi
      rw [hsz] at h1
      obtain ⟨_, hlen, hcell⟩ := World.cells?_some h1
      have hcs' : cs' = (c.toList.drop (o + i * sz)).take sz := by
        apply List.ext_getElem?
        intro j
        rw [List.getElem?_take, List.getElem?_drop]
        split
        · rename_i hj
          rw [← hcell j hj]
          simp only [World.cell?]
          have hblk2 : (((⟨b, o, none⟩ : Addr).add (i * sz)).add j).block = b ∧ (((⟨b, o, none⟩ : Addr).add (i * sz)).add j).off = o + i * sz + j ∧ (((⟨b, o, none⟩ : Addr).add (i * sz)).add j).spot = none := by
            unfold Addr.add
            by_cases h0 : i * sz = 0 <;> by_cases h1 : j = 0 <;> simp [h0, h1]
          rw [hblk2.1, hblk2.2.1, hblk2.2.2, hblk]
          simp
        · rw [List.getElem?_eq_none (by omega)]
      exact ⟨cs', hcs', hlen, hopen n cs' _ h2 hlen⟩
    have ho : o < c.size := by
      obtain ⟨ci, h1, h2, _⟩ := hel 0 (by omega)
      have := congrArg List.length h1
      rw [h2, List.length_take, List.length_drop, Nat.zero_mul, Nat.add_zero, show c.toList.length = c.size from Array.length_toList] at this
      omega
    have hv : absV w.heap.size (MW w) (.slice (some ⟨b, o, none⟩) len m) = .slc (some (b * MW w + o, 0)) len m true := by
      simp only [absV]
      rw [if_pos ⟨hbl, by omega⟩, if_pos (by omega)]
    rw [hv]
    refine ⟨rfl, (List.range len).map fun i => ((c.toList.drop (o + i * sz)).take sz).map (absV w.heap.size (MW w)), ?_, ?_, ?_⟩
    · rw [List.length_map, List.length_range]
      by_cases h0 : len = 0
      · subst h0
        simp only [List.range_zero, List.map_nil, List.flatten_nil]
        exact SlAt.nil
      · have hC : ((List.range len).map fun i => ((c.toList.drop (o + i * sz)).take sz).map (absV w.heap.size (MW w))).flatten = ((c.toList.drop o).map (absV w.heap.size (MW w))).take (len * sz) := by
          rw [chunks]
          congr 1
          apply List.map_congr_left
          intro i _
          rw [List.map_take, ← List.map_drop, List.drop_drop]
        have hone' : ∀ v ∈ ((c.toList.drop o).map (absV w.heap.size (MW w))).take (len * sz), v.one = true := by
          intro v hv
          rw [← hC] at hv
          obtain ⟨cc, hcc, hvc⟩ := List.mem_flatten.1 hv
          obtain ⟨i, hi, rfl⟩ := List.mem_map.1 hcc
          obtain ⟨ci, h1, _, h3⟩ := hel i (by have := List.mem_range.1 hi; omega)
          rw [h1] at h3
          exact hone _ h3 v hvc
        refine SlAt.mk (sW_at hblk (by omega)) ?_ ?_ hl
        · rw [hC, List.length_take, List.length_map, List.length_drop, show c.toList.length = c.size from Array.length_toList]
          obtain ⟨ci, h1, h2, _⟩ := hel (len - 1) (by omega)
          have := congrArg List.length h1
          rw [h2, List.length_take, List.length_drop, show c.toList.length = c.size from Array.length_toList] at this
          have e : (len - 1) * sz + sz = len * sz := by
            rw [← Nat.succ_mul]; congr 1; omega
          omega
        · rw [List.drop_zero]
          unfold win
          rw [takeWhile_take _ _ hone', hC]
    · intro cc hcc
      obtain ⟨i, hi, rfl⟩ := List.mem_map.1 hcc
      obtain ⟨ci, h1, _, h3⟩ := hel i (by have := List.mem_range.1 hi; omega)
      rw [h1] at h3
      exact h3
    · rw [List.length_map, List.length_range]; omega

/-! ### data that hold slices -/
inductive LK2 where
  | fl (k : LK)
  | sl (ks : List LK)
def leaf2 (w : World) : LK2 → AV → Prop
  | .fl k, v => leafOk k v
  | .sl ks, v => v.one = true ∧ ∃ C : List (List AV), SlAt (sW w) v ks.length C.flatten C.length ∧ (∀ c ∈ C, cellsOk ks c) ∧ C.length ≤ maxLen
def cells2 (w : World) : List LK2 → List AV → Prop
  | [], [] => True
  | k :: ks, v :: vs => leaf2 w k v ∧ cells2 w ks vs
  | _, _ => False
theorem leaf2.one {k : LK2} {v : AV} (h : leaf2 w k v) : v.one = true := by
  cases k
  · exact leafOk.one h
  · exact h.1
theorem cells2.len : ∀ {ks : List LK2} {vs : List AV}, cells2 w ks vs → vs.length = ks.length
  | [], [], _ => rfl
  | [], _ :: _, h => h.elim
  | _ :: _, [], h => h.elim
  | k :: ks, v :: vs, h => by simp [cells2.len h.2]
theorem cells2.one : ∀ {ks : List LK2} {vs : List AV}, cells2 w ks vs → ∀ v ∈ vs, v.one = true
  | [], [], _, v, hv => by cases hv
  | [], _ :: _, h, _, _ => h.elim
  | _ :: _, [], h, _, _ => h.elim
  | k :: ks, u :: vs, h, v, hv => by
    rcases List.mem_cons.1 hv with rfl | hv
    · exact h.1.one
    · exact cells2.one h.2 v hv
theorem cells2.append : ∀ {ks ks' : List LK2} {vs vs' : List AV}, cells2 w ks vs → cells2 w ks' vs' → cells2 w (ks ++ ks') (vs ++ vs')
  | [], _, [], _, _, h' => by simpa using h'
  | [], _, _ :: _, _, h, _ => h.elim
  | _ :: _, _, [], _, h, _ => h.elim
  | k :: ks, _, v :: vs, _, h, h' => ⟨h.1, cells2.append h.2 h'⟩
theorem cells2.cons {k : LK2} {ks : List LK2} {c : List AV} (h : cells2 w (k :: ks) c) : ∃ v vs, c = v :: vs ∧ leaf2 w k v ∧ cells2 w ks vs := by
  cases c with
  | nil => exact h.elim
  | cons v vs => exact ⟨v, vs, rfl, h.1, h.2⟩
theorem cells2.nil {c : List AV} (h : cells2 w [] c) : c = [] := by
  cases c with
  | nil => rfl
  | cons v vs => exact h.elim
theorem cells2.flat : ∀ {ks : List LK} {vs : List AV}, cells2 w (ks.map .fl) vs → cellsOk ks vs
  | [], [], _ => trivial
  | [], _ :: _, h => h.elim
  | _ :: _, [], h => h.elim
  | k :: ks, v :: vs, h => ⟨h.1, cells2.flat h.2⟩
theorem cells2.of_flat : ∀ {ks : List LK} {vs : List AV}, cellsOk ks vs → cells2 w (ks.map .fl) vs
  | [], [], _ => trivial
  | [], _ :: _, h => h.elim
  | _ :: _, [], h => h.elim
  | k :: ks, v :: vs, h => ⟨h.1, cells2.of_flat h.2⟩
theorem cells2.split {ks ks' : List LK2} : ∀ {vs : List AV}, cells2 w (ks ++ ks') vs → ∃ a b, vs = a ++ b ∧ cells2 w ks a ∧ cells2 w ks' b := by
  induction ks with
  | nil => intro vs h; exact ⟨[], vs, rfl, trivial, h⟩
  | cons k ks ih =>
    intro vs h
    obtain ⟨v, vs', rfl, h1, h2⟩ := cells2.cons h
    obtain ⟨a, b, rfl, h3, h4⟩ := ih h2
    exact ⟨v :: a, b, rfl, ⟨h1, h3⟩, h4⟩

def deepF (P : Program) (rec : TypeId → Option (List LK2)) : List Field → Nat → Option (List LK2)
  | [], _ => some []
  | f :: fs, o => (rec f.type).bind fun ks => if f.offset = o ∧ P.cellsOf f.type = ks.length then (deepF P rec fs (o + ks.length)).map (ks ++ ·) else none
/-- the kinds of the cells of a type: flat, or slices of flat types, or a struct of such -/
def deepT (P : Program) : Nat → TypeId → Option (List LK2)
  | 0, _ => none
  | d + 1, t => match flatT P (d + 1) t with
    | some ks => some (ks.map .fl)
    | none => match P.underlying t with
      | some (.slice e) => (flatT P d e).bind fun ks => if P.cellsOf e = ks.length ∧ 0 < ks.length ∧ P.cellsOf t = 1 then some [.sl ks] else none
      | some (.struct fs) => (deepF P (deepT P d) fs.toList 0).bind fun ks => if P.cellsOf t = ks.length then some ks else none
      | _ => none

theorem deep_open : ∀ (d : Nat) (t : TypeId) (ks : List LK2) (fuel : Nat) (cs : List Value) (x : DataW H × List MemPlace), deepT P d t = some ks → DataW.trod enc P w 0 (fun _ => true) true fuel t cs = some x → cs.length = P.cellsOf t → cells2 w ks (cs.map (absV w.heap.size (MW w))) := by
  intro d
  induction d with
  | zero => intro t ks fuel cs x h; simp [deepT] at h
  | succ d ih =>
    intro t ks fuel cs x h ht hcl
    unfold deepT at h
    split at h
    · rename_i ks' hk
      obtain rfl := Option.some.inj h
      exact cells2.of_flat (flat_open (d + 1) t ks' fuel cs x _ _ hk ht)
    · split at h
      · rename_i e hu
        simp only [Option.bind_eq_some_iff] at h
        obtain ⟨ks', hk, h⟩ := h
        split at h
        · rename_i hc
          obtain rfl := Option.some.inj h
          obtain ⟨c, rfl⟩ : ∃ c, cs = [c] := List.length_eq_one_iff.1 (by rw [hcl, hc.2.2])
          have := slice_core (Okp := cellsOk ks') hu hc.1 hc.2.1 (fun n cs y hy _ => flat_open d e ks' n cs y _ _ hk hy) (fun l hl => hl.one) ht
          exact ⟨this, trivial⟩
        · cases h
      · rename_i fs hu
        obtain ⟨xs, m, rfl, _, hlen, hxs, hf⟩ := DataW.trod_struct hu ht
        simp only [Option.bind_eq_some_iff] at h
        obtain ⟨ks', hks, h⟩ := h
        split at h
        · rename_i hsz
          obtain rfl := Option.some.inj h
          have key : ∀ (l : List Field) (o : Nat) (ks : List LK2), deepF P (deepT P d) l o = some ks → (∀ f ∈ l, ∃ y, DataW.trod enc P w 0 (fun _ => true) true m f.type ((cs.drop f.offset).take (P.cellsOf f.type)) = some y) → o + ks.length ≤ cs.length → cells2 w ks (((cs.drop o).take ks.length).map (absV w.heap.size (MW w))) := by
            intro l
            induction l with
            | nil => intro o ks h _ _; simp only [deepF] at h; obtain rfl := Option.some.inj h; simp [cells2]
            | cons f l ihl =>
              intro o ks h hall hle
              simp only [deepF, Option.bind_eq_some_iff] at h
              obtain ⟨k1, hk1, h⟩ := h
              split at h
              · rename_i hc
                obtain ⟨hc1, hc2⟩ := hc
                simp only [Option.map_eq_some_iff] at h
                obtain ⟨k2, hk2, rfl⟩ := h
                obtain ⟨y, hy⟩ := hall f (by simp)
                rw [List.length_append] at hle
                have g1 := ih _ _ _ _ _ hk1 hy (by rw [List.length_take, List.length_drop, hc1, hc2]; omega)
                rw [hc1, hc2] at g1
                have g2 := ihl (o + k1.length) k2 hk2 (fun f hf => hall f (by simp [hf])) (by omega)
                have := g1.append g2
                rw [List.length_append, List.take_add, List.map_append, List.drop_drop]
                exact this
              · cases h
          have hall : ∀ f ∈ fs.toList, ∃ y, DataW.trod enc P w 0 (fun _ => true) true m f.type ((cs.drop f.offset).take (P.cellsOf f.type)) = some y := by
            intro f hfm
            obtain ⟨i, hi⟩ := List.mem_iff_getElem?.1 hfm
            have hi' : fs[i]? = some f := by simpa using hi
            have hil : i < xs.length := by
              rw [hxs]
              rcases Nat.lt_or_ge i fs.size with h | h
              · exact h
              · rw [Array.getElem?_eq_none h] at hi'; cases hi'
            exact ⟨_, (hf i f hi').trans (List.getElem?_eq_getElem hil)⟩
          have := key fs.toList 0 ks' hks hall (by rw [hlen, hsz]; omega)
          rw [List.drop_zero, List.take_of_length_le (by rw [hlen, hsz]; exact Nat.le_refl _)] at this
          exact this
        · cases h
      · cases h

/-- a slice of such a type, among the arguments -/
theorem slice_arg2 {t e : TypeId} {d : Nat} {ks : List LK2} (hu : P.underlying t = some (.slice e)) (hk : deepT P d e = some ks) (hsz : P.cellsOf e = ks.length) (hpos : 0 < ks.length) {base : Nat} {v : Value} {y : DataW H} {ps : List MemPlace}
    (hv : Value.okWide P w .any base t v) (h : DataW.Trod enc P w 0 (fun _ => true) true t v y ps) :
    ∃ C : List (List AV), SlAt (sW w) (absV w.heap.size (MW w) v) ks.length C.flatten C.length ∧ (∀ c ∈ C, cells2 w ks c) ∧ C.length ≤ maxLen := by
  obtain ⟨fuel, h⟩ := h
  have hve : v.cells.toList = [v] := by
    cases v with
    | agg l => exfalso; unfold Value.okWide at hv; rw [hu] at hv; simp only [Cell.okWide, hu, Cell.ok] at hv
    | _ => rfl
  rw [hve] at h
  exact (slice_core (Okp := cells2 w ks) hu hsz hpos (fun n cs y hy hl => deep_open d e ks n cs y hk hy (by rw [hl, hsz])) (fun l hl => hl.one) h).2
end
end Go.Am
end
