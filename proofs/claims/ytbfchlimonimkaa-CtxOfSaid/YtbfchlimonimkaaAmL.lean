/-
  The abstract machine Am: laws for working with what a code asks.
-/
import Derived.Test.YtbfchlimonimkaaAmQ3
import Derived.Test.YtbfchlimonimkaaAmRow
set_option linter.unusedSectionVars false
set_option linter.unusedSimpArgs false
set_option linter.unusedVariables false
namespace Go.Am

/-! ### heaps -/
theorem WFs.none {s : AS} (h : WFs s) : s.h s.nl = none := by simpa using h.2 0

/-- all but some objects are as they were -/
def Mut (L : List Nat) (s s' : AS) : Prop := (∀ x o, x ∉ L → s.h x = some o → s'.h x = some o) ∧ s.nl ≤ s'.nl
theorem Mut.refl (L : List Nat) (s : AS) : Mut L s s := ⟨fun _ _ _ h => h, Nat.le_refl _⟩
theorem Mut.trans {L : List Nat} {a b c : AS} (h : Mut L a b) (h' : Mut L b c) : Mut L a c := ⟨fun x o hx e => h'.1 x o hx (h.1 x o hx e), Nat.le_trans h.2 h'.2⟩
theorem Ext.mut {L : List Nat} {s s' : AS} (h : Ext s s') : Mut L s s' := ⟨fun x o _ e => h.1 x o e, h.2⟩
theorem Mut.ext {s s' : AS} (h : Mut [] s s') : Ext s s' := ⟨fun x o e => h.1 x o (by simp) e, h.2⟩
theorem Mut.mono {L L' : List Nat} {s s' : AS} (h : Mut L s s') (hl : ∀ x ∈ L, x ∈ L') : Mut L' s s' := ⟨fun x o hx e => h.1 x o (fun m => hx (hl x m)) e, h.2⟩

/-- cells that can be read -/
def At (s : AS) (l : Nat) (cs : List AV) : Prop := ∃ g ro, s.h l = some (.cells cs g ro)
/-- cells that can be written -/
def Own (s : AS) (l : Nat) (cs : List AV) : Prop := s.h l = some (.cells cs 0 false)
theorem Own.at {s : AS} {l : Nat} {cs : List AV} (h : Own s l cs) : At s l cs := ⟨_, _, h⟩
theorem At.ext {s s' : AS} {l : Nat} {cs : List AV} (h : At s l cs) (e : Ext s s') : At s' l cs := by obtain ⟨g, ro, h⟩ := h; exact ⟨g, ro, e.1 _ _ h⟩
theorem At.mut {s s' : AS} {L : List Nat} {l : Nat} {cs : List AV} (h : At s l cs) (e : Mut L s s') (hl : l ∉ L) : At s' l cs := by obtain ⟨g, ro, h⟩ := h; exact ⟨g, ro, e.1 _ _ hl h⟩
theorem Own.ext {s s' : AS} {l : Nat} {cs : List AV} (h : Own s l cs) (e : Ext s s') : Own s' l cs := e.1 _ _ h
theorem Own.mut {s s' : AS} {L : List Nat} {l : Nat} {cs : List AV} (h : Own s l cs) (e : Mut L s s') (hl : l ∉ L) : Own s' l cs := e.1 _ _ hl h
theorem At.rd1 {s : AS} {l : Nat} {cs : List AV} (h : At s l cs) (o : Nat) : rd1 s l o = cs[o]? := by obtain ⟨g, ro, h⟩ := h; exact rd1_of h
theorem At.rdc {s : AS} {l : Nat} {cs : List AV} (h : At s l cs) {o n : Nat} (hn : o + n ≤ cs.length) : rdc s l o n = some ((cs.drop o).take n) := by obtain ⟨g, ro, h⟩ := h; exact rdc_of h hn
theorem At.inj {s : AS} {l : Nat} {cs cs' : List AV} (h : At s l cs) (h' : At s l cs') : cs = cs' := by
  obtain ⟨g, ro, h⟩ := h
  obtain ⟨g', ro', h'⟩ := h'
  rw [h] at h'
  simp only [Option.some.injEq, AO.cells.injEq] at h'
  exact h'.1

/-- s' is s with a new object -/
structure Fresh (s s' : AS) (l : Nat) (o : AO) : Prop where
  «at» : s'.h l = some o
  ext : Ext s s'
  wf : WFs s'
  no : s.h l = none
  eq : ∀ x, x ≠ l → s'.h x = s.h x
  nl : s.nl ≤ l ∧ l < s'.nl
  st : s'.st = s.st

theorem Fresh.ne {s s' : AS} {l : Nat} {o : AO} (h : Fresh s s' l o) {x : Nat} {o' : AO} (hx : s.h x = some o') : x ≠ l := by
  intro e; subst e; rw [h.no] at hx; cases hx
theorem Fresh.own {s s' : AS} {l : Nat} {cs : List AV} (h : Fresh s s' l (.cells cs 0 false)) : Own s' l cs := h.at

theorem WFs.new {s : AS} (h : WFs s) {o : AO} (ho : o.live = true) : Fresh s (s.new o) s.nl o := by
  have hst := h.1
  refine ⟨by rw [AS.new_h _ ho, if_pos rfl], ⟨fun x p hx => ?_, by rw [AS.new_nl]; omega⟩, ⟨hst, fun k => ?_⟩, h.none, fun x hx => by rw [AS.new_h _ ho, if_neg hx], ⟨Nat.le_refl _, by rw [AS.new_nl]; omega⟩, rfl⟩
  · rw [AS.new_h _ ho, if_neg]
    · exact hx
    · intro e; subst e; rw [h.none] at hx; cases hx
  · rw [AS.new_nl, AS.new_st, AS.new_h _ ho]
    have e1 : s.nl + s.st + k * s.st = s.nl + (k + 1) * s.st := by rw [Nat.add_mul, Nat.one_mul]; omega
    rw [if_neg (by omega), e1]
    exact h.2 (k + 1)

theorem NewQ.intro {o : AO} {s : AS} {K : Nat → AS → Prop} (hw : WFs s) (ho : o.live = true) (h : ∀ l s', Fresh s s' l o → K l s') : NewQ o s K := h _ _ (hw.new ho)

/-- s' is s with an object rewritten -/
structure Put (s s' : AS) (l : Nat) (o : AO) : Prop where
  «at» : s'.h l = some o
  wf : WFs s'
  eq : ∀ x, x ≠ l → s'.h x = s.h x
  nl : s'.nl = s.nl
  st : s'.st = s.st
theorem Put.mut {s s' : AS} {l : Nat} {o : AO} (h : Put s s' l o) : Mut [l] s s' := ⟨fun x p hx hp => by rw [h.eq x (by simpa using hx)]; exact hp, by rw [h.nl]; exact Nat.le_refl _⟩

theorem WFs.put {s : AS} (h : WFs s) {l : Nat} {o o' : AO} (hl : s.h l = some o') (ho : o.live = true) : Put s (s.put l o) l o := by
  refine ⟨by rw [AS.put_h _ _ ho, if_pos rfl], ⟨h.1, fun k => ?_⟩, fun x hx => by rw [AS.put_h _ _ ho, if_neg hx], rfl, rfl⟩
  rw [AS.put_nl, AS.put_st, AS.put_h _ _ ho, if_neg]
  · exact h.2 k
  · intro e; rw [← e, h.2 k] at hl; cases hl

theorem StQ.awr {s : AS} {l o g : Nat} {cs vs : List AV} {K : AS → Prop} (hw : WFs s) (hl : s.h l = some (.cells cs g false)) (hn : o + vs.length ≤ cs.length) (h : ∀ s', Put s s' l (.cells (wrs cs o vs) g false) → K s') : StQ (awr s l o vs) K := by
  refine ⟨s.put l (.cells (wrs cs o vs) g false), ?_, h _ (hw.put hl rfl)⟩
  simp only [Am.awr, hl, if_pos hn]
theorem StQ.own {s : AS} {l o : Nat} {cs vs : List AV} {K : AS → Prop} (hw : WFs s) (hl : Own s l cs) (hn : o + vs.length ≤ cs.length) (h : ∀ s', Put s s' l (.cells (wrs cs o vs) 0 false) → K s') : StQ (Am.awr s l o vs) K := StQ.awr hw hl hn h

/-! ### calls -/
def Nxt (s s' : AS) : Prop := (∃ k, s'.nl = s.nl + k * s.st) ∧ s'.st = s.st

section
variable {P : Program} {g : FuncId} {args : List AV} {s : AS} {R : AV → AS → Prop}
theorem ACalls.pre (h : WFs s → ACalls P g args s R) : ACalls P g args s R :=
  fun B γ ca w h1 h2 => h h2.wfs B γ ca w h1 h2
theorem ACalls.post (h : ACalls P g args s R) : ACalls P g args s fun v s' => R v s' ∧ WFs s' ∧ Nxt s s' :=
  fun B γ ca w h1 h2 => (h B γ ca w h1 h2).mono fun e w' ⟨γ', v, cv, s', a, b, c, d, e⟩ => ⟨γ', v, cv, s', a, b, c, d, e, d.wfs, c.nl, c.st⟩
theorem ACalls.use {R' : AV → AS → Prop} (h : ACalls P g args s R) (hr : ∀ v s', R v s' → WFs s' → R' v s') : ACalls P g args s R' :=
  h.post.mono fun v s' ⟨a, b, _⟩ => hr v s' a b
/-- a closed law, called anywhere -/
theorem ACalls.closed {b : Bool} (hg : callable P g = true) (h : ACalls P g [] s0 fun v s' => v = .bool b) : ACalls P g [] s fun v s' => v = .bool b ∧ s' = s := by
  intro B γ cargs w h1 h2
  have hc : cargs = #[] := by
    have := VRels.nil_iff.1 h1
    exact Array.ext' (by simpa using this)
  subst hc
  refine .inl ⟨run_callFunc hg _ _, ?_⟩
  refine (below_of_closed hg h w).mono ?_
  rintro e W' ⟨rfl, hb⟩
  have hsz : w.heap.size ≤ W'.heap.size := hb.size
  have hold : ∀ k, k < w.heap.size → W'.heap[k]? = w.heap[k]? := hb.block
  refine ⟨γ, .bool b, .bool b, s, rfl, by simp [VRel], ?_, ?_, rfl, rfl⟩
  · exact ⟨Gam.le_refl γ, fun k hk _ => hold k hk, hsz, fun l o i a b c => .inr ⟨l, o, i, a, b, c, rfl⟩, ⟨0, by simp⟩, rfl, rfl, fun _ a b => absurd a b, fun _ _ a _ _ => a, ⟨hb.os, hb.tape, hb.output⟩⟩
  · refine ⟨fun l o hl => ?_, h2.inj, h2.fin, h2.stp, Nat.le_trans h2.base hsz⟩
    obtain ⟨i, hi, hO, hB⟩ := h2.obj l o hl
    exact ⟨i, hi, hO.congr (hold _ hO.lt), hB⟩
end

/-! ### words -/
theorem RdI_some {k : IntKind} {n : Int} {K : Int → Prop} : RdI k (some (.int k n)) K ↔ K n := ⟨fun ⟨m, h, hk⟩ => by simp only [Option.some.injEq, AV.int.injEq] at h; rw [h.2]; exact hk, fun h => ⟨n, rfl, h⟩⟩
theorem RdB_some {b : Bool} {K : Bool → Prop} : RdB (some (.bool b)) K ↔ K b := ⟨fun ⟨m, h, hk⟩ => by simp only [Option.some.injEq, AV.bool.injEq] at h; rw [h]; exact hk, fun h => ⟨b, rfl, h⟩⟩
theorem RdS_some {b : List UInt8} {K : List UInt8 → Prop} : RdS (some (.str b)) K ↔ K b := ⟨fun ⟨m, h, hk⟩ => by simp only [Option.some.injEq, AV.str.injEq] at h; rw [h]; exact hk, fun h => ⟨b, rfl, h⟩⟩
theorem RdP_some {a : Option (Nat × Nat)} {K : Option (Nat × Nat) → Prop} : RdP (some (.ptr a)) K ↔ K a := ⟨fun ⟨m, h, hk⟩ => by simp only [Option.some.injEq, AV.ptr.injEq] at h; rw [h]; exact hk, fun h => ⟨a, rfl, h⟩⟩
theorem RdM_some {a : Option Nat} {K : Option Nat → Prop} : RdM (some (.map a)) K ↔ K a := ⟨fun ⟨m, h, hk⟩ => by simp only [Option.some.injEq, AV.map.injEq] at h; rw [h]; exact hk, fun h => ⟨a, rfl, h⟩⟩
theorem RdG_some {a : List AV} {K : List AV → Prop} : RdG (some (.agg a)) K ↔ K a := ⟨fun ⟨m, h, hk⟩ => by simp only [Option.some.injEq, AV.agg.injEq] at h; rw [h]; exact hk, fun h => ⟨a, rfl, h⟩⟩
theorem RdA_some {a : AV} {K : AV → Prop} : RdA (some a) K ↔ K a := ⟨fun ⟨m, h, hk⟩ => by simp only [Option.some.injEq] at h; rw [h]; exact hk, fun h => ⟨a, rfl, h⟩⟩
theorem RdL_some {a : List AV} {K : List AV → Prop} : RdL (some a) K ↔ K a := ⟨fun ⟨m, h, hk⟩ => by simp only [Option.some.injEq] at h; rw [h]; exact hk, fun h => ⟨a, rfl, h⟩⟩
theorem RdO_some {a : Bool} {K : Bool → Prop} : RdO (some a) K ↔ K a := ⟨fun ⟨m, h, hk⟩ => by simp only [Option.some.injEq] at h; rw [h]; exact hk, fun h => ⟨a, rfl, h⟩⟩
theorem StQ_some {a : AS} {K : AS → Prop} : StQ (some a) K ↔ K a := ⟨fun ⟨m, h, hk⟩ => by simp only [Option.some.injEq] at h; rw [h]; exact hk, fun h => ⟨a, rfl, h⟩⟩
theorem Bd2_some {a : AV} {s : AS} {K : AV → AS → Prop} : Bd2 (some (a, s)) K ↔ K a s := ⟨fun ⟨m, t, h, hk⟩ => by simp only [Option.some.injEq, Prod.mk.injEq] at h; rw [h.1, h.2]; exact hk, fun h => ⟨a, s, rfl, h⟩⟩
theorem IxQ_some {l i : Nat} {K : Nat → Nat → Prop} : IxQ (some (.ptr (some (l, i)))) K ↔ K l i := ⟨fun ⟨m, t, h, hk⟩ => by simp only [Option.some.injEq, AV.ptr.injEq, Prod.mk.injEq] at h; rw [h.1, h.2]; exact hk, fun h => ⟨l, i, rfl, h⟩⟩
theorem AsSome_some {l i : Nat} {K : Nat → Nat → Prop} : AsSome (some (l, i)) K ↔ K l i := Iff.rfl
theorem bsplit_true {X Y : Prop} : bsplit true X Y ↔ X := Iff.rfl
theorem bsplit_false {X Y : Prop} : bsplit false X Y ↔ Y := Iff.rfl
theorem bsplit_iff {b : Bool} {X Y : Prop} : bsplit b X Y ↔ (b = true → X) ∧ (b = false → Y) := by cases b <;> simp [bsplit]
theorem bsplit.mk {b : Bool} {X Y : Prop} (h1 : b = true → X) (h2 : b = false → Y) : bsplit b X Y := bsplit_iff.2 ⟨h1, h2⟩
theorem bsplit.dec {p : Prop} [Decidable p] {X Y : Prop} (h1 : p → X) (h2 : ¬ p → Y) : bsplit (decide p) X Y := bsplit_iff.2 ⟨fun h => h1 (by simpa using h), fun h => h2 (by simpa using h)⟩
theorem bsplit.yes {b : Bool} {X Y : Prop} (hb : b = true) (h : X) : bsplit b X Y := by subst hb; exact h
theorem bsplit.no {b : Bool} {X Y : Prop} (hb : b = false) (h : Y) : bsplit b X Y := by subst hb; exact h

@[congr] theorem RdI.congr {k : IntKind} {o o' : Option AV} {K : Int → Prop} (h : o = o') : RdI k o K = RdI k o' K := by rw [h]
@[congr] theorem RdB.congr {o o' : Option AV} {K : Bool → Prop} (h : o = o') : RdB o K = RdB o' K := by rw [h]
@[congr] theorem RdS.congr {o o' : Option AV} {K : List UInt8 → Prop} (h : o = o') : RdS o K = RdS o' K := by rw [h]
@[congr] theorem RdP.congr {o o' : Option AV} {K : Option (Nat × Nat) → Prop} (h : o = o') : RdP o K = RdP o' K := by rw [h]
@[congr] theorem RdM.congr {o o' : Option AV} {K : Option Nat → Prop} (h : o = o') : RdM o K = RdM o' K := by rw [h]
@[congr] theorem RdG.congr {o o' : Option AV} {K : List AV → Prop} (h : o = o') : RdG o K = RdG o' K := by rw [h]
@[congr] theorem RdA.congr {o o' : Option AV} {K : AV → Prop} (h : o = o') : RdA o K = RdA o' K := by rw [h]
@[congr] theorem RdL.congr {o o' : Option (List AV)} {K : List AV → Prop} (h : o = o') : RdL o K = RdL o' K := by rw [h]
@[congr] theorem RdO.congr {o o' : Option Bool} {K : Bool → Prop} (h : o = o') : RdO o K = RdO o' K := by rw [h]
@[congr] theorem StQ.congr {o o' : Option AS} {K : AS → Prop} (h : o = o') : StQ o K = StQ o' K := by rw [h]
@[congr] theorem Bd2.congr {o o' : Option (AV × AS)} {K : AV → AS → Prop} (h : o = o') : Bd2 o K = Bd2 o' K := by rw [h]
@[congr] theorem IxQ.congr {o o' : Option AV} {K : Nat → Nat → Prop} (h : o = o') : IxQ o K = IxQ o' K := by rw [h]
@[congr] theorem AsSome.congr {o o' : Option (Nat × Nat)} {K : Nat → Nat → Prop} (h : o = o') : AsSome o K = AsSome o' K := by rw [h]
@[congr] theorem bsplit.congr {b b' : Bool} {X Y : Prop} (h : b = b') : bsplit b X Y = bsplit b' X Y := by rw [h]
@[congr] theorem One1.congr {l l' : List AV} {X : Prop} (h : l = l') : One1 l X = One1 l' X := by rw [h]
@[congr] theorem OkC.congr {n : Option Nat} {l l' : List AV} {X : Prop} (h : l = l') : OkC n l X = OkC n l' X := by rw [h]
@[congr] theorem NewQ.congr {o o' : AO} {s : AS} {K : Nat → AS → Prop} (h : o = o') : NewQ o s K = NewQ o' s K := by rw [h]
@[congr] theorem ACalls.congr {P : Program} {g : FuncId} {a a' : List AV} {s : AS} {R : AV → AS → Prop} (h : a = a') : ACalls P g a s R = ACalls P g a' s R := by rw [h]
@[congr] theorem JoinQ.congr {A : (List AV → AS → Prop) → Prop} : JoinQ A = JoinQ A := rfl
@[congr] theorem LoopQ.congr {A : (Nat → List AV → AS → Prop) → Nat → Prop} : LoopQ A = LoopQ A := rfl
@[congr] theorem DrawQ.congr {A : (Nat → List AV → AV → AS → Prop) → (Nat → List AV → AV → Prop) → Prop} : DrawQ A = DrawQ A := rfl
@[congr] theorem LenOk.congr {n : Nat} {X : Prop} : LenOk n X = LenOk n X := rfl
@[congr] theorem NZ.congr {n n' : Int} {X : Prop} (h : n = n') : NZ n X = NZ n' X := by rw [h]
@[congr] theorem NN.congr {n n' : Int} {X : Prop} (h : n = n') : NN n X = NN n' X := by rw [h]

attribute [go_sem] RdI_some RdB_some RdS_some RdP_some RdM_some RdG_some RdA_some RdL_some RdO_some StQ_some Bd2_some IxQ_some AsSome_some bsplit_true bsplit_false
end Go.Am
