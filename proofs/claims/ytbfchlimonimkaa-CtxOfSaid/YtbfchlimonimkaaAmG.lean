/-
  The abstract machine Am: slices that grow by append.
-/
import Derived.Test.YtbfchlimonimkaaAmS
set_option linter.unusedSectionVars false
set_option linter.unusedSimpArgs false
set_option linter.unusedVariables false
namespace Go.Am

theorem wrs_all0 {cs vs : List AV} (h : vs.length = cs.length) : wrs cs 0 vs = vs := by
  apply List.ext_getElem?
  intro k
  rw [wrs_get _ _ _ _ (by omega)]
  by_cases hk : k < vs.length
  · rw [if_pos (by omega), Nat.sub_zero]
  · rw [if_neg (by omega), List.getElem?_eq_none (by omega), List.getElem?_eq_none (by omega)]

/-- what is known of a slice type -/
structure SlTy (T : TT) (t el : TypeId) (sz by_ : Nat) : Prop where
  u : T.und t = some (.slice el)
  z : T.siz el = some sz
  b : T.byt el = some by_
  zr : ∃ z zc, T.zer el = some z ∧ acells z = some zc ∧ zc.length = sz
  pos : 0 < sz
  small : sz ≤ 1024 ∧ by_ ≤ 65536

/-- the label of a slice that may be given up -/
def labOf : AV → List Nat
  | .slc (some (la, _)) _ _ false => [la]
  | _ => []

/-- v is a slice that belongs to nobody else: it may be appended to -/
def Gro {α : Type} (f : α → List AV) (sz : Nat) (s : AS) (v : AV) (l : List α) : Prop :=
  (l = [] ∧ ∃ a, v = .slc a 0 0 true) ∨ ∃ la, v = .slc (some (la, 0)) l.length l.length false ∧ s.h la = some (.cells (l.flatMap f) sz false)

theorem Gro.nil {α : Type} {f : α → List AV} {sz : Nat} {s : AS} {a : Option (Nat × Nat)} : Gro f sz s (.slc a 0 0 true) ([] : List α) := .inl ⟨rfl, a, rfl⟩
theorem Gro.mut {α : Type} {f : α → List AV} {sz : Nat} {s s' : AS} {v : AV} {l : List α} {L : List Nat} (h : Gro f sz s v l) (e : Mut L s s') (hl : ∀ x ∈ labOf v, x ∉ L) : Gro f sz s' v l := by
  rcases h with h | ⟨la, rfl, h⟩
  · exact .inl h
  · exact .inr ⟨la, rfl, e.1 _ _ (hl la (by simp [labOf])) h⟩
theorem Gro.ext {α : Type} {f : α → List AV} {sz : Nat} {s s' : AS} {v : AV} {l : List α} (h : Gro f sz s v l) (e : Ext s s') : Gro f sz s' v l := h.mut (L := []) e.mut (by simp)
theorem Gro.sl {α : Type} {f : α → List AV} {sz : Nat} (hf : ∀ x, (f x).length = sz) {s : AS} {v : AV} {l : List α} (h : Gro f sz s v l) : Sl f sz s v l := by
  rcases h with ⟨rfl, a, rfl⟩ | ⟨la, rfl, h⟩
  · exact Sl.nil
  · exact SlAt.mk ⟨_, _, h⟩ (flat_len hf l) (by rw [List.drop_zero, List.take_of_length_le (by rw [flat_len hf]; exact Nat.le_refl _)])

section
variable {T : TT} {t el : TypeId} {sz by_ : Nat} (ht : SlTy T t el sz by_)
include ht

theorem absl_agg {c : List AV} (hc : c.length = sz) (h1 : c.all AV.one = true) : absl T t 1 [(0, .agg c)] = some c := by
  obtain ⟨z, zc, hz, hzc, hl⟩ := ht.zr
  have hp := ht.pos
  have hs := ht.small
  simp only [absl, ht.u, ht.z, hz, hzc, Option.bind_some]
  rw [if_pos ⟨hl, by omega⟩]
  have h2 : acells (.agg c) = some c := by simp [acells, AV.cells, h1]
  have hrl : (rep 1 zc).length = sz := by simp [rep, hl]
  simp only [afill, h2, Nat.zero_mul, Nat.zero_add, hc, hrl, true_and, Nat.le_refl, if_true]
  congr 1
  apply List.ext_getElem?
  intro k
  rw [wrs_get _ _ _ _ (by rw [hrl, hc]; omega)]
  by_cases hk : k < sz
  · rw [if_pos (by omega)]; simp
  · rw [if_neg (by omega), List.getElem?_eq_none (by omega), List.getElem?_eq_none (by omega)]
theorem absl_one {v : AV} (hsz : sz = 1) (hv : v.one = true) : absl T t 1 [(0, v)] = some [v] := by
  obtain ⟨z, zc, hz, hzc, hl⟩ := ht.zr
  simp only [absl, ht.u, ht.z, hz, hzc, Option.bind_some]
  subst hsz
  rw [if_pos ⟨hl, by omega⟩]
  have h2 : acells v = some [v] := by cases v <;> first | rfl | cases hv
  have hrl : (rep 1 zc).length = 1 := by simp [rep, hl]
  simp only [afill, h2, Nat.zero_mul, Nat.zero_add, List.length_cons, List.length_nil, hrl, true_and, Nat.le_refl, if_true]
  congr 1
  match hq : rep 1 zc with
  | [] => rw [hq] at hrl; simp at hrl
  | [x] => rfl
  | x :: y :: r => rw [hq] at hrl; simp at hrl
theorem absl_nil : absl T t 0 [] = some [] := by
  obtain ⟨z, zc, hz, hzc, hl⟩ := ht.zr
  simp only [absl, ht.u, ht.z, hz, hzc, Option.bind_some]
  rw [if_pos ⟨hl, by omega⟩]
  simp [afill, rep]

theorem SlAt.src {s : AS} {v : AV} {n : Nat} {cs : List AV} (h : SlAt s v sz cs n) : asrc sz n s v = some cs ∧ alen v = some n := by
  rcases h with ⟨rfl, rfl, rfl⟩ | ⟨a, c, e, rfl, hl, h3⟩
  · exact ⟨rfl, rfl⟩
  · obtain ⟨hl, _⟩ := hl
    refine ⟨?_, rfl⟩
    by_cases hn : n = 0
    · subst hn
      obtain rfl : cs = [] := List.length_eq_zero_iff.1 (by simpa using hl)
      rcases a with _ | ⟨l, o⟩
      · rfl
      · simp [asrc]
    · rcases h3 with h3 | ⟨la, o, C, rfl, hC, hcs⟩
      · exact absurd h3 hn
      · have hlen := congrArg List.length hcs
        rw [List.length_take, List.length_drop, hl] at hlen
        have hp := ht.pos
        have : 0 < n * sz := Nat.mul_pos (by omega) hp
        simp only [asrc, if_neg hn]
        rw [hC.rdc (by omega), hcs]

theorem aappend_core {base : Option (Nat × Nat)} {len cap n : Nat} {ex : Bool} {x : AV} {new : List AV} {s : AS} {xt : TypeId} (hxt : T.und xt = some (.slice el)) (hlen : alen x = some n) (hsrc : asrc sz n s x = some new) (hnew : new.length = n * sz) (hb : len + n ≤ 2 ^ 30) :
    aappend T t xt (.slc base len cap ex) x s = if len + n ≤ cap then
        (match base with
          | none => some (.slc none (len + n) cap ex, s)
          | some (l, o) =>
            if new = [] then some (.slc base (len + n) cap ex, s)
            else (awr s l (o + len * sz) new).map fun s' => (.slc base (len + n) cap ex, s'))
      else
        (asrc sz len s (.slc base len cap ex)).bind fun old =>
          if ex then some (.slc (some (s.nl, 0)) (len + n) (len + n) false, s.new (.cells (old ++ new) sz false))
          else match base with
            | none => none
            | some (l, o) =>
              match s.h l with
              | some (.cells cs g false) =>
                if g = sz ∧ sz ≠ 0 ∧ o + cap * sz = cs.length then
                  some (.slc (some (s.nl, 0)) (len + n) (len + n) false, (s.kill l).new (.cells (old ++ new) sz false))
                else none
              | _ => none := by
  obtain ⟨z, zc, hz, hzc, hl⟩ := ht.zr
  obtain ⟨hs1, hs2⟩ := ht.small
  have hnint : (match TypeDesc.slice el with | .int _ => true | _ => false) = false := rfl
  have hnn : ¬ (zc.length ≠ sz ∨ new.length ≠ n * sz ∨ 2 ^ 40 < len + n ∨ 2 * ((len + n + 256) * by_) > 2 ^ 48) := by
    have : (len + n + 256) * by_ ≤ (2 ^ 30 + 256) * 65536 := Nat.mul_le_mul (by omega) hs2
    rw [hl, hnew]; omega
  simp only [aappend, ht.u, hxt, hnint, Bool.false_eq_true, if_false, ht.z, ht.b, hz, hzc, Option.bind_some, hlen, hsrc]
  rw [if_neg hnn]
  rfl

/-- append -/
theorem Gro.append {α : Type} {f : α → List AV} (hf : ∀ x, (f x).length = sz) (hone : ∀ x, (f x).all AV.one = true) {s : AS} (hw : WFs s) {v x : AV} {l xs : List α} (h : Gro f sz s v l) (hx : Sl f sz s x xs) (hb : l.length + xs.length ≤ 2 ^ 30) {xt : TypeId} (hxt : T.und xt = some (.slice el)) :
    ∃ v' s', aappend T t xt v x s = some (v', s') ∧ Gro f sz s' v' (l ++ xs) ∧ Mut (labOf v) s s' ∧ WFs s' ∧ (∀ la ∈ labOf v', la ∈ labOf v ∨ s.h la = none) := by
  have hp := ht.pos
  obtain ⟨hsrc, hlen⟩ := SlAt.src ht hx
  have hfl := flat_len hf xs
  have hst := hw.1
  have h0iff : xs.flatMap f = [] ↔ xs = [] := by
    rw [← List.length_eq_zero_iff, hfl, ← List.length_eq_zero_iff]
    constructor
    · intro h; rcases Nat.mul_eq_zero.1 h with h | h <;> omega
    · intro h; rw [h, Nat.zero_mul]
  rcases h with ⟨rfl, a, rfl⟩ | ⟨la, rfl, hla⟩
  · rw [aappend_core ht hxt hlen hsrc hfl (by simpa using hb)]
    by_cases h0 : xs = []
    · subst h0
      refine ⟨.slc a 0 0 true, s, ?_, by simpa using Gro.nil, Mut.refl _ _, hw, fun la h => .inl h⟩
      rw [if_pos (by simp)]
      rcases a with _ | ⟨l, o⟩ <;> simp
    · have hpos : 0 < xs.length := List.length_pos_iff.2 h0
      have hF := hw.new (o := .cells (xs.flatMap f) sz false) rfl
      refine ⟨.slc (some (s.nl, 0)) xs.length xs.length false, s.new (.cells (xs.flatMap f) sz false), ?_, .inr ⟨s.nl, by simp, by simpa using hF.at⟩, hF.ext.mut, hF.wf, fun la h => ?_⟩
      · rw [if_neg (by omega)]
        have : asrc sz 0 s (.slc a 0 0 true) = some [] := by rcases a with _ | ⟨l, o⟩ <;> rfl
        rw [this]
        simp
      · simp only [labOf, List.mem_singleton] at h
        subst h; exact .inr hw.none
  · have hfl2 := flat_len hf l
    have hold : asrc sz l.length s (.slc (some (la, 0)) l.length l.length false) = some (l.flatMap f) := by
      by_cases hl0 : l.length = 0
      · rw [List.length_eq_zero_iff.1 hl0]; simp [asrc]
      · simp only [asrc, if_neg hl0]
        rw [rdc_of hla (by rw [hfl2]; omega), List.drop_zero, List.take_of_length_le (by rw [hfl2]; exact Nat.le_refl _)]
    rw [aappend_core ht hxt hlen hsrc hfl hb]
    by_cases h0 : xs = []
    · subst h0
      refine ⟨.slc (some (la, 0)) l.length l.length false, s, ?_, by rw [List.append_nil]; exact Or.inr ⟨la, rfl, hla⟩, Mut.refl _ _, hw, fun la h => .inl h⟩
      rw [if_pos (by simp)]
      simp
    · have hpos : 0 < xs.length := List.length_pos_iff.2 h0
      have hk : WFs (s.kill la) := by
        refine ⟨hst, fun k => ?_⟩
        rw [AS.kill_h, AS.kill_nl, AS.kill_st]
        split
        · rfl
        · exact hw.2 k
      have hF := hk.new (o := .cells (l.flatMap f ++ xs.flatMap f) sz false) rfl
      refine ⟨.slc (some (s.nl, 0)) (l.length + xs.length) (l.length + xs.length) false, (s.kill la).new (.cells (l.flatMap f ++ xs.flatMap f) sz false), ?_, .inr ⟨s.nl, by simp, by rw [List.flatMap_append]; exact hF.at⟩, ⟨fun y o hy ho => hF.ext.1 y o ?_, hF.ext.2⟩, hF.wf, fun la h => ?_⟩
      · rw [if_neg (by omega), hold]
        simp only [Option.bind_some, hla, Nat.zero_add, hfl2, Bool.false_eq_true, if_false]
        rw [if_pos ⟨trivial, by omega, trivial⟩]
      · rw [AS.kill_h, if_neg (by simpa [labOf] using hy)]; exact ho
      · simp only [labOf, List.mem_singleton] at h
        subst h; exact .inr hw.none
end

/-- a slice in the making: it grows in memory that is new since s0; objects of M alone are written -/
structure GroN {α : Type} (f : α → List AV) (sz : Nat) (M : List Nat) (s0 s : AS) (v : AV) (l : List α) : Prop where
  gro : Gro f sz s v l
  chg : Mut M s0 s
  new : ∀ la ∈ labOf v, s0.h la = none
theorem GroN.nil {α : Type} {f : α → List AV} {sz : Nat} {M : List Nat} {s : AS} {a : Option (Nat × Nat)} : GroN f sz M s s (.slc a 0 0 true) ([] : List α) := ⟨Gro.nil, Mut.refl _ _, by simp [labOf]⟩
theorem GroN.start {α : Type} {f : α → List AV} {sz : Nat} {M : List Nat} {s0 s : AS} {a : Option (Nat × Nat)} (h : Mut M s0 s) : GroN f sz M s0 s (.slc a 0 0 true) ([] : List α) := ⟨Gro.nil, h, by simp [labOf]⟩
theorem Ext.none {s s' : AS} (h : Ext s s') {l : Nat} (hl : s'.h l = none) : s.h l = none := by
  cases hq : s.h l with
  | none => rfl
  | some o => rw [h.1 l o hq] at hl; cases hl
/-- a new label was not there before -/
theorem Mut.fresh {M : List Nat} {s s' : AS} (h : Mut M s s') (hM : ∀ x ∈ M, s'.h x ≠ none) {l : Nat} (hl : s'.h l = none) : s.h l = none := by
  cases hq : s.h l with
  | none => rfl
  | some o =>
    by_cases hm : l ∈ M
    · exact absurd hl (hM l hm)
    · rw [h.1 l o hm hq] at hl; cases hl
section
variable {α : Type} {f : α → List AV} {sz : Nat} {M : List Nat} {s0 s s' : AS} {v : AV} {l : List α}
theorem GroN.step (h : GroN f sz M s0 s v l) (e : Ext s s') : GroN f sz M s0 s' v l := ⟨h.gro.ext e, h.chg.trans e.mut, h.new⟩
/-- an object of M is written -/
theorem GroN.wr (h : GroN f sz M s0 s v l) (hM : ∀ x ∈ M, s0.h x ≠ none) (e : Mut M s s') : GroN f sz M s0 s' v l :=
  ⟨h.gro.mut e fun x hx hm => hM x hm (h.new x hx), h.chg.trans e, h.new⟩
theorem GroN.isSlc (h : GroN f sz M s0 s v l) : v ≠ .emp ∧ v.one = true := by
  rcases h.gro with ⟨_, a, rfl⟩ | ⟨la, rfl, _⟩ <;> exact ⟨(fun e => by cases e), rfl⟩
theorem GroN.sl (hf : ∀ x, (f x).length = sz) (h : GroN f sz M s0 s v l) : Sl f sz s v l := h.gro.sl hf
end

section
variable {T : TT} {t el : TypeId} {sz by_ : Nat} (ht : SlTy T t el sz by_)
include ht
/-- append of a slice -/
theorem GroN.appendS {α : Type} {f : α → List AV} (hf : ∀ x, (f x).length = sz) (hone : ∀ x, (f x).all AV.one = true) {M : List Nat} {s0 s : AS} (hw : WFs s) {v x : AV} {l xs : List α} (h : GroN f sz M s0 s v l) (hM : ∀ x ∈ M, s.h x ≠ none) (hx : Sl f sz s x xs) (hb : l.length + xs.length ≤ 2 ^ 30) {xt : TypeId} (hxt : T.und xt = some (.slice el))
    {K : AV → AS → Prop} (hK : ∀ v' s', GroN f sz M s0 s' v' (l ++ xs) → WFs s' → Mut (labOf v) s s' → K v' s') : Bd2 (aappend T t xt v x s) K := by
  obtain ⟨v', s', h1, h2, h3, h4, h5⟩ := Gro.append ht hf hone hw h.gro hx hb hxt
  refine ⟨v', s', h1, hK v' s' ⟨h2, ⟨fun y o hyM ho => h3.1 y o (fun hm => ?_) (h.chg.1 y o hyM ho), Nat.le_trans h.chg.2 h3.2⟩, fun la hla => ?_⟩ h4 h3⟩
  · rw [h.new y hm] at ho; cases ho
  · rcases h5 la hla with h6 | h6
    · exact h.new la h6
    · exact h.chg.fresh hM h6
/-- append of one element, a struct -/
theorem GroN.append1 {α : Type} {f : α → List AV} (hf : ∀ x, (f x).length = sz) (hone : ∀ x, (f x).all AV.one = true) {M : List Nat} {s0 s : AS} (hw : WFs s) {v : AV} {l : List α} (h : GroN f sz M s0 s v l) (hM : ∀ x ∈ M, s.h x ≠ none) (x : α) (hb : l.length + 1 ≤ 2 ^ 30)
    {K : AV → AS → Prop} (hK : ∀ v' s', GroN f sz M s0 s' v' (l ++ [x]) → WFs s' → Mut (labOf v) s s' → K v' s') : RdL (absl T t 1 [(0, .agg (f x))]) fun g => NewQ (.cells g 0 false) s fun la s1 => Bd2 (aappend T t t v (.slc (some (la, 0)) 1 1 true) s1) K := by
  refine ⟨_, absl_agg ht (hf x) (hone x), NewQ.intro hw rfl fun la s1 F => ?_⟩
  have hM1 : ∀ x ∈ M, s1.h x ≠ none := fun x hx he => hM x hx (F.ext.none he)
  refine GroN.appendS ht hf hone F.wf (h.step F.ext) hM1 (xs := [x]) (SlAt.mk F.own.at (by simp [hf]) (by simp [List.take_of_length_le, hf])) (by simpa using hb) ht.u fun v' s' g w m => hK v' s' g w (F.ext.mut.trans m)
/-- append of one element of one cell -/
theorem GroN.append1s {α : Type} {f : α → AV} (hsz : sz = 1) (hone : ∀ x, (f x).one = true) {M : List Nat} {s0 s : AS} (hw : WFs s) {v : AV} {l : List α} (h : GroN (fun x => [f x]) sz M s0 s v l) (hM : ∀ x ∈ M, s.h x ≠ none) (x : α) (hb : l.length + 1 ≤ 2 ^ 30)
    {K : AV → AS → Prop} (hK : ∀ v' s', GroN (fun x => [f x]) sz M s0 s' v' (l ++ [x]) → WFs s' → Mut (labOf v) s s' → K v' s') : RdL (absl T t 1 [(0, f x)]) fun g => NewQ (.cells g 0 false) s fun la s1 => Bd2 (aappend T t t v (.slc (some (la, 0)) 1 1 true) s1) K := by
  refine ⟨_, absl_one ht hsz (hone x), NewQ.intro hw rfl fun la s1 F => ?_⟩
  have hM1 : ∀ x ∈ M, s1.h x ≠ none := fun x hx he => hM x hx (F.ext.none he)
  refine GroN.appendS ht (by simp [hsz]) (by simp [hone]) F.wf (h.step F.ext) hM1 (xs := [x]) (SlAt.mk F.own.at (by simp [hsz]) (by simp [hsz])) (by simpa using hb) ht.u fun v' s' g w m => hK v' s' g w (F.ext.mut.trans m)
end

theorem qstore_one {T : TT} {t : TypeId} {s : AS} {l off : Nat} {v : AV} {K : AS → Prop} (hv : v.one = true) (hs : T.siz t = some 1) (h : StQ (awr s l off [v]) K) : qstore T t s l off v K := by
  unfold qstore
  split
  · cases hv
  · cases hv
  · cases hv
  · rw [hs]; exact h
/-- a new variable that is set at once -/
theorem NewSt {zc g : List AV} {n : Nat} {s : AS} {K : Nat → AS → Prop} (hw : WFs s) (hg : g.length = n) (hz : zc.length = n) (h1 : g.all AV.one = true) (h : ∀ l s', Fresh s s' l (.cells g 0 false) → K l s') :
    NewQ (.cells zc 0 false) s fun l s1 => OkC (some n) g (StQ (awr s1 l 0 g) fun s2 => K l s2) := by
  refine NewQ.intro hw rfl fun l s1 F => ⟨⟨h1, by rw [hg]⟩, StQ.own F.wf F.own (by omega) fun s2 P => h l s2 ?_⟩
  have hat : s2.h l = some (.cells g 0 false) := by rw [P.at, wrs_all0 (by omega)]
  exact ⟨hat, ⟨fun x o ho => by rw [P.eq x (F.ne ho)]; exact F.ext.1 x o ho, by rw [P.nl]; exact F.ext.2⟩, P.wf, F.no, fun x hx => by rw [P.eq x hx, F.eq x hx], by rw [P.nl]; exact F.nl, by rw [P.st, F.st]⟩
end Go.Am
