/-
  A part of the proof: an abstract machine over the model, and contracts of functions of this program over it.
-/
import Derived.Test.YtbfchlimonimkaaP5
section
set_option linter.unusedSimpArgs false
set_option linter.unusedVariables false
namespace Go.Proofs.Ytbfchlimonimkaa
open Go.Am Go.Minster

/-! ### maps of dots -/
abbrev dK (d : Dot) : AV := .agg (dotC d)
abbrev bV (b : Bool) : AV := .agg [.bool b]
abbrev iK (n : Int) : AV := .int .i64 n
abbrev pV (q : Nat) : AV := .ptr (some (q, 0))
theorem tri_ok_Dot : ∀ r c : Int, akeyOk T 100 Y_Dot (.agg [.int .i64 r, .int .u64 c]) = true := by
  intro r c; kernel_rfl
theorem mp_dots : MpTy (K := Dot) T Y_m_Dot_struct__is_bool__ Y_Dot Y_struct__is_bool__ dK (bV false) :=
  ⟨u_m_Dot_struct__is_bool__, fun a b => dot_eq a b, fun a => tri_ok_Dot a.r a.c, fun a => by simp [abits, bitsL, dotC], zr_struct__is_bool__⟩
theorem int_ok : ∀ n : Int, akeyOk T 100 Y_int (.int .i64 n) = true := by
  intro n; kernel_rfl
theorem aeq_i (a b : Int) : aeq T 100 Y_int (.int .i64 a) (.int .i64 b) = some (decide (a = b)) := by
  rw [aeqInt u_int]; congr 1
theorem mp_told : MpTy (K := Int) T Y_m_int_p_stable_view Y_int Y_p_stable_view iK (.ptr none) :=
  ⟨u_m_int_p_stable_view, aeq_i, int_ok, fun a => by simp [abits], zr_p_stable_view⟩
theorem mp_ints : MpTy (K := Int) T Y_m_int_int Y_int Y_int iK (.int .i64 0) :=
  ⟨u_m_int_int, aeq_i, int_ok, fun a => by simp [abits], zr_int⟩

/-- a map that holds just the dots of f -/
def DMap (s : AS) (l : Nat) (f : Dot → Bool) : Prop := ∃ es c, MpAt dK bV s l es c false ∧ ∀ d, mget es d = if f d then some true else none
theorem DMap.mut {s s' : AS} {l : Nat} {f : Dot → Bool} {L : List Nat} (h : DMap s l f) (e : Mut L s s') (hl : l ∉ L) : DMap s' l f := by
  obtain ⟨es, c, h1, h2⟩ := h; exact ⟨es, c, h1.mut e hl, h2⟩
theorem DMap.ext {s s' : AS} {l : Nat} {f : Dot → Bool} (h : DMap s l f) (e : Ext s s') : DMap s' l f := h.mut (L := []) e.mut (by simp)
theorem DMap.new {s : AS} {l : Nat} (h : s.h l = some (.map [] 0 false)) : DMap s l fun _ => false := ⟨[], 0, MpAt.new h, fun d => rfl⟩
theorem DMap.look {s : AS} {l : Nat} {f : Dot → Bool} (h : DMap s l f) (d : Dot) : alookup T Y_m_Dot_struct__is_bool__ (.map (some l)) (.agg (dotC d)) false s = some (.agg [.bool (f d)]) := by
  obtain ⟨es, c, h1, h2⟩ := h
  rw [show (AV.agg (dotC d)) = dK d from rfl, h1.find mp_dots d false, h2]
  cases f d <;> rfl
theorem DMap.upd {s : AS} (hw : WFs s) {l : Nat} {f : Dot → Bool} (h : DMap s l f) (d : Dot) {Q : AS → Prop} (hq : ∀ s', DMap s' l (fun x => f x || decide (x = d)) → WFs s' → Mut [l] s s' → Q s') :
    StQ (amapUpdate T Y_m_Dot_struct__is_bool__ (.map (some l)) (.agg (dotC d)) (.agg [.bool true]) s) Q := by
  obtain ⟨es, c, h1, h2⟩ := h
  refine MpAt.upd mp_dots hw h1 d true fun s' es' c' h1' h2' hw' m' => hq s' ⟨es', c', h1', fun x => ?_⟩ hw' m'
  rw [h2', h2]
  by_cases e : x = d
  · simp [e]
  · simp [e]
theorem DMap.congr {s : AS} {l : Nat} {f g : Dot → Bool} (h : DMap s l f) (e : ∀ d, f d = g d) : DMap s l g := by
  have : f = g := funext e
  rw [← this]; exact h
theorem DMap.there {s : AS} {l : Nat} {f : Dot → Bool} (h : DMap s l f) : s.h l ≠ none := by
  obtain ⟨es, c, h1, _⟩ := h; rw [h1.obj]; simp
theorem is_build : abuild T Y_struct__is_bool__ [(0, .bool true)] = some (.agg [.bool true]) := by kernel_rfl

/-! ### views -/
/-- what a region told: a context, and what is live in it -/
structure Vw where
  v : List Int
  ex : List Dot
  live : Dot → Bool
def Vw.has (x : Vw) (d : Dot) : Bool := hasD x.v x.ex d

/-- a context, all of whose memory is in F -/
structure CtxF (F : List Nat) (s : AS) (p : Nat) (v : List Int) (ex : List Dot) : Prop where
  len : v.length = 16
  lab : p ∈ F
  mem : ∃ w, Own s p (v.map (.int .u64) ++ [w, .bool true]) ∧ w.one = true ∧ Gro dotC 2 s w ex ∧ ∀ la ∈ labOf w, la ∈ F
theorem CtxF.at {F : List Nat} {s : AS} {p : Nat} {v : List Int} {ex : List Dot} (h : CtxF F s p v ex) : CtxAt s p v ex := by
  obtain ⟨h1, _, w, h2, h3, h4, h5⟩ := h
  exact ⟨h1, w, h2, h3, h4.sl dotC_len⟩
theorem CtxF.mut {F : List Nat} {s s' : AS} {L : List Nat} {p : Nat} {v : List Int} {ex : List Dot} (h : CtxF F s p v ex) (m : Mut L s s') (hL : ∀ x ∈ L, x ∉ F) : CtxF F s' p v ex := by
  obtain ⟨h1, h0, w, h2, h3, h4, h5⟩ := h
  exact ⟨h1, h0, w, h2.mut m (fun hx => hL p hx h0), h3, h4.mut m fun x hx hm => hL x hm (h5 x hx), h5⟩
theorem CtxF.sub {F F' : List Nat} {s : AS} {p : Nat} {v : List Int} {ex : List Dot} (h : CtxF F s p v ex) (hF : ∀ x ∈ F, x ∈ F') : CtxF F' s p v ex := by
  obtain ⟨h1, h0, w, h2, h3, h4, h5⟩ := h
  exact ⟨h1, hF _ h0, w, h2, h3, h4, fun x hx => hF x (h5 x hx)⟩
/-- a new context's memory -/
theorem CtxG.toF {s0 s : AS} {p : Nat} {v : List Int} {ex : List Dot} (h : CtxG s0 s p v ex) (hp : s0.h p = none) : ∃ F, CtxF F s p v ex ∧ ∀ x ∈ F, s0.h x = none := by
  obtain ⟨h1, w, h2, h3, h4, h5⟩ := h
  refine ⟨p :: labOf w, ⟨h1, by simp, w, h2, h3, h4, fun x hx => by simp [hx]⟩, fun x hx => ?_⟩
  rcases List.mem_cons.1 hx with rfl | hx
  · exact hp
  · exact h5 x hx

theorem CtxG.toF2 {s0 s : AS} {p : Nat} {v : List Int} {ex : List Dot} (h : CtxG s0 s p v ex) : ∃ F, CtxF F s p v ex ∧ (∀ x ∈ F, x = p ∨ s0.h x = none) ∧ ∀ x ∈ F, s.h x ≠ none := by
  obtain ⟨h1, w, h2, h3, h4, h5⟩ := h
  refine ⟨p :: labOf w, ⟨h1, by simp, w, h2, h3, h4, fun x hx => by simp [hx]⟩, fun x hx => ?_, fun x hx => ?_⟩
  · rcases List.mem_cons.1 hx with rfl | hx
    · exact .inl rfl
    · exact .inr (h5 x hx)
  · rcases List.mem_cons.1 hx with rfl | hx
    · rw [h2]; simp
    · rcases h4 with ⟨_, a, rfl⟩ | ⟨la, rfl, ho⟩
      · simp [labOf] at hx
      · obtain rfl : x = la := by simpa [labOf] using hx
        rw [ho]; simp

structure Vw.Ok (x : Vw) : Prop where
  ok : COk x.v x.ex
  gap : Gap x.v x.ex
  len : x.ex.length ≤ 4096
/-- a view in memory that is in F -/
structure VwF (F : List Nat) (s : AS) (q : Nat) (x : Vw) : Prop where
  ok : x.Ok
  mem : ∃ pc ml, s.h q = some (.cells [.ptr (some (pc, 0)), .map (some ml)] 0 false) ∧ q ∈ F ∧ CtxF F s pc x.v x.ex ∧ ml ∈ F ∧ DMap s ml x.live
theorem VwF.mut {F : List Nat} {s s' : AS} {L : List Nat} {q : Nat} {x : Vw} (h : VwF F s q x) (m : Mut L s s') (hL : ∀ x ∈ L, x ∉ F) : VwF F s' q x := by
  obtain ⟨h1, pc, ml, h2, h3, h4, h5, h6⟩ := h
  exact ⟨h1, pc, ml, m.1 _ _ (fun hx => hL q hx h3) h2, h3, h4.mut m hL, h5, h6.mut m fun hx => hL ml hx h5⟩
theorem VwF.sub {F F' : List Nat} {s : AS} {q : Nat} {x : Vw} (h : VwF F s q x) (hF : ∀ x ∈ F, x ∈ F') : VwF F' s q x := by
  obtain ⟨h1, pc, ml, h2, h3, h4, h5, h6⟩ := h
  exact ⟨h1, pc, ml, h2, hF _ h3, h4.sub hF, hF _ h5, h6⟩

/-! ### matrices -/
/-- a matrix in memory: its views are in F; the matrix itself and its map are not -/
structure MatF (F : List Nat) (s : AS) (p m : Nat) (n o : Int) (told : Int → Option Vw) (has : List Int) : Prop where
  len : has.length = 256
  obj : Own s p (.int .i64 n :: .int .i64 o :: .map (some m) :: has.map (.int .u64))
  map : ∃ es c, MpAt iK pV s m es c false ∧ ∀ r, match told r with
    | none => mget es r = none
    | some x => ∃ q, mget es r = some q ∧ VwF F s q x
  pF : p ∉ F
  mF : m ∉ F
  pm : p ≠ m
  rng : 1 ≤ n ∧ n ≤ 16 ∧ 1 ≤ o ∧ o ≤ n
section
variable {F : List Nat} {s s' : AS} {p m : Nat} {n o : Int} {told : Int → Option Vw} {has : List Int}
theorem MatF.mut {L : List Nat} (h : MatF F s p m n o told has) (e : Mut L s s') (hL : ∀ x ∈ L, x ∉ F) (hp : p ∉ L) (hm : m ∉ L) : MatF F s' p m n o told has := by
  obtain ⟨es, c, h1, h2⟩ := h.map
  refine ⟨h.len, h.obj.mut e hp, ⟨es, c, h1.mut e hm, fun r => ?_⟩, h.pF, h.mF, h.pm, h.rng⟩
  have := h2 r
  cases hq : told r with
  | none => rw [hq] at this; exact this
  | some x =>
    rw [hq] at this
    obtain ⟨q, a, b⟩ := this
    exact ⟨q, a, b.mut e hL⟩
theorem MatF.ext (h : MatF F s p m n o told has) (e : Ext s s') : MatF F s' p m n o told has := h.mut (L := []) e.mut (by simp) (by simp) (by simp)
theorem MatF.mthere (h : MatF F s p m n o told has) : s.h m ≠ none := by
  obtain ⟨es, c, h1, _⟩ := h.map; rw [h1.obj]; simp
theorem MatF.pthere (h : MatF F s p m n o told has) : s.h p ≠ none := by rw [h.obj]; simp
theorem MatF.r0 (h : MatF F s p m n o told has) (e : Ext s s') : rd1 s' p 0 = some (.int .i64 n) := by rw [(h.obj.ext e).at.rd1]; rfl
theorem MatF.r1 (h : MatF F s p m n o told has) (e : Ext s s') : rd1 s' p (0 + 1) = some (.int .i64 o) := by rw [(h.obj.ext e).at.rd1]; rfl
theorem MatF.r2 (h : MatF F s p m n o told has) (e : Ext s s') : rd1 s' p (0 + 2) = some (.map (some m)) := by rw [(h.obj.ext e).at.rd1]; rfl

theorem aeq_map_nil (m : Nat) : aeq T 100 Y_m_int_p_stable_view (.map (some m)) (.map none) = some false := by
  simp [aeq, u_m_int_p_stable_view]
theorem there_ok (h : MatF F s p m n o told has) : ACalls Try.prog F_stable_Matrix_there [.ptr (some (p, 0))] s fun r s' => r = .bool true ∧ s' = s := by
  refine q_stable_Matrix_there _ _ _ ⟨_, aeqPtrNil u_p_stable_Matrix _, bsplit.yes rfl ⟨_, h.r2 (Ext.refl _), _, aeq_map_nil m, rfl, rfl⟩⟩
theorem other_ok (h : MatF F s p m n o told has) (r : Int) : ACalls Try.prog F_stable_Matrix_other [.ptr (some (p, 0)), .int .i64 r] s fun v s' => v = .bool (decide (1 ≤ r ∧ r ≤ n ∧ r ≠ o)) ∧ s' = s := by
  refine q_stable_Matrix_other _ _ _ _ (bsplit.dec (fun h1 => ⟨n, h.r0 (Ext.refl _), bsplit.dec (fun h2 => ⟨o, h.r1 (Ext.refl _), ?_, rfl⟩) (fun h2 => ⟨?_, rfl⟩)⟩) (fun h1 => ⟨?_, rfl⟩))
  · congr 1
    have : r ≥ 1 := h1
    by_cases e : r = o
    · subst e; simp
    · rw [decide_eq_true (show 1 ≤ r ∧ r ≤ n ∧ r ≠ o from ⟨by omega, h2, e⟩)]
      simpa using e
  · have : ¬ (1 ≤ r ∧ r ≤ n ∧ r ≠ o) := by omega
    simp [this]
  · have : ¬ (1 ≤ r ∧ r ≤ n ∧ r ≠ o) := by omega
    simp [this]

def sn (x : Option Vw) (d : Dot) : Bool := match x with | some x => x.has d | none => false
def lvo (x : Option Vw) (d : Dot) : Bool := match x with | some x => x.live d | none => false
def lno (x : Option Vw) : Nat := match x with | some x => x.ex.length | none => 0
/-- has a region a dot gone? -/
def gn (x : Option Vw) (d : Dot) : Bool := sn x d && !lvo x d

/-- a region's view -/
theorem MatF.look (h : MatF F s p m n o told has) (r : Int) (e : Ext s s') : ∃ a : Option (Nat × Nat), alookup T Y_m_int_p_stable_view (.map (some m)) (.int .i64 r) false s' = some (.ptr a) ∧
    match told r with
    | none => a = none
    | some x => ∃ q, a = some (q, 0) ∧ VwF F s' q x := by
  obtain ⟨es, c, h1, h2⟩ := (h.ext e).map
  have hl := (h1.find mp_told r false)
  have := h2 r
  cases hq : told r with
  | none =>
    rw [hq] at this
    have this : mget es r = none := this
    exact ⟨none, by rw [show (AV.int .i64 r) = iK r from rfl, hl, this]; rfl, rfl⟩
  | some x =>
    rw [hq] at this
    obtain ⟨q, a, b⟩ := this
    exact ⟨some (q, 0), by rw [show (AV.int .i64 r) = iK r from rfl, hl, a]; rfl, q, rfl, b⟩

theorem Gone_ok (h : MatF F s p m n o told has) (r : Int) (d : Dot) : ACalls Try.prog F_stable_Matrix_Gone [.ptr (some (p, 0)), .int .i64 r, .agg (dotC d)] s fun v s' => v = .bool (gn (told r) d) ∧ Ext s s' := by
  refine ACalls.pre fun hw => q_stable_Matrix_Gone _ _ _ _ _ ⟨rfl, NewQ.intro hw rfl fun l1 s2 F1 => ?_⟩
  refine ACalls.use (there_ok (h.ext F1.ext)) ?_
  rintro v s4 ⟨rfl, rfl⟩ w4
  obtain ⟨a, hl, ha⟩ := h.look r F1.ext
  refine ⟨_, rfl, bsplit.no rfl ⟨_, h.r2 F1.ext, a, hl, _, aeqPtrNil u_p_stable_view _, ?_⟩⟩
  cases hq : told r with
  | none =>
    rw [hq] at ha
    have ha : a = none := ha
    subst ha
    exact bsplit.yes rfl ⟨rfl, F1.ext⟩
  | some x =>
    rw [hq] at ha
    obtain ⟨q, rfl, hv⟩ := ha
    obtain ⟨ok, pc, ml, hq2, hqF, hc, hmF, hm⟩ := hv
    have hqa : At s4 q [.ptr (some (pc, 0)), .map (some ml)] := ⟨_, _, hq2⟩
    have hd : rdc s4 l1 0 2 = some (dotC d) := F1.own.at.rdc (by simp [dotC])
    refine bsplit.no rfl ⟨fun _ _ _ _ => True, fun _ _ v => v = .bool (hasD x.v x.ex d), fun _ _ _ _ _ _ _ => trivial, _, h.r2 F1.ext, _, hl, _, by rw [hqa.rd1]; rfl, _, hd, fun s19 e19 w19 _ => ?_, ⟨_, rfl⟩, ?_⟩
    · refine (ctx_Has_ok (hc.at.ext e19) ok.ok.r (by have := ok.len; omega) d).mono ?_
      rintro v s' ⟨rfl, e⟩
      exact ⟨_, rfl, e, trivial, rfl⟩
    · rintro v rfl
      refine ⟨_, rfl, bsplit.mk (fun hh => ?_) (fun hh s37 e37 _ _ => ?_)⟩
      · refine ⟨_, h.r2 F1.ext, _, hl, _, by rw [hqa.rd1]; rfl, _, hd, fun s33 e33 w33 _ => ⟨_, (hm.ext e33).look d, _, rfl, ?_, F1.ext.trans e33⟩⟩
        simp [gn, sn, lvo, Vw.has, hh]
      · refine ⟨?_, F1.ext.trans e37⟩
        simp [gn, sn, lvo, Vw.has, hh]

theorem Stable_ok (h : MatF F s p m n o told has) (d : Dot) : ACalls Try.prog F_stable_Matrix_Stable [.ptr (some (p, 0)), .agg (dotC d)] s fun v s' => Ext s s' ∧ ∃ b, v = .bool b ∧ (b = true ↔ d.may = true ∧ ∀ r, 1 ≤ r → r ≤ n → r ≠ o → gn (told r) d = true) := by
  refine ACalls.pre fun hw => q_stable_Matrix_Stable _ _ _ _ ⟨rfl, NewQ.intro hw rfl fun l1 s2 F1 => ?_⟩
  refine ACalls.use (there_ok (h.ext F1.ext)) ?_
  rintro v s4 ⟨rfl, rfl⟩ w4
  refine ⟨_, rfl, bsplit.no rfl ⟨_, F1.own.at.rdc (by simp [dotC]), ?_⟩⟩
  refine ACalls.use (ctx_May_ok d _) ?_
  rintro v s8 ⟨rfl, e8⟩ w8
  have E8 := F1.ext.trans e8
  refine ⟨_, rfl, bsplit.mk (fun hm => ⟨E8, false, rfl, ?_⟩) (fun hm => ?_)⟩
  · have hm' : d.may = false := by simpa using hm
    simp [hm']
  have hmay : d.may = true := by simpa using hm
  have hrng := h.rng
  refine ⟨fun m' vs s' => ∃ i : Nat, vs = [.int .i64 ((i : Int) + 1)] ∧ (i : Int) ≤ n ∧ m' = n.toNat - i ∧ Ext s8 s' ∧ WFs s' ∧ ∀ r, 1 ≤ r → r ≤ (i : Int) → r ≠ o → gn (told r) d = true, n.toNat, ⟨0, rfl, by omega, rfl, Ext.refl _, w8, fun r h1 h2 => by omega⟩, ?_⟩
  rintro m' n13 s14 ⟨i, hi, hin, rfl, e14, w14, all⟩
  simp only [List.cons.injEq, AV.int.injEq, true_and, and_true] at hi
  subst hi
  have E14 := E8.trans e14
  refine ⟨n, h.r0 E14, bsplit.dec (fun hle => ⟨o, h.r1 E14, ?_⟩) (fun hgt => ?_)⟩
  · have cont : ∀ s', Ext s8 s' → WFs s' → ((i : Int) + 1 ≠ o → gn (told ((i : Int) + 1)) d = true) → ∃ m', m' < n.toNat - i ∧ ∃ j : Nat, [AV.int .i64 (IntKind.wrap .i64 ((i : Int) + 1 + 1))] = [.int .i64 ((j : Int) + 1)] ∧ (j : Int) ≤ n ∧ m' = n.toNat - j ∧ Ext s8 s' ∧ WFs s' ∧ ∀ r, 1 ≤ r → r ≤ (j : Int) → r ≠ o → gn (told r) d = true := by
      intro s' e w hg
      refine ⟨n.toNat - (i + 1), by omega, i + 1, by rw [wrap_i' (by omega)]; congr 2, by omega, rfl, e, w, fun r h1 h2 h3 => ?_⟩
      by_cases hr : r ≤ (i : Int)
      · exact all r h1 hr h3
      · obtain rfl : r = (i : Int) + 1 := by omega
        exact hg h3
    refine bsplit.mk (fun hne => ?_) (fun heq => ?_)
    · refine ⟨_, (F1.own.ext (e8.trans e14)).at.rdc (by simp [dotC]), ?_⟩
      refine ACalls.use (Gone_ok (h.ext E14) _ d) ?_
      rintro v s23 ⟨rfl, e23⟩ w23
      refine ⟨_, rfl, bsplit.mk (fun hg => ⟨E14.trans e23, false, rfl, ?_⟩) (fun hg => cont s23 (e14.trans e23) w23 fun _ => by simpa using hg)⟩
      have hg' : gn (told ((i : Int) + 1)) d = false := by simpa using hg
      constructor
      · intro h; cases h
      · rintro ⟨_, h2⟩
        have := h2 ((i : Int) + 1) (by omega) hle (by simpa using hne)
        rw [hg'] at this; cases this
    · exact cont s14 e14 w14 fun hne => absurd (by simpa using heq) hne
  · refine ⟨E14, true, rfl, ?_⟩
    simp only [true_iff]
    exact ⟨hmay, fun r h1 h2 h3 => all r h1 (by omega) h3⟩
end
end Go.Proofs.Ytbfchlimonimkaa
end

section
set_option linter.unusedSimpArgs false
set_option linter.unusedVariables false
namespace Go.Proofs.Ytbfchlimonimkaa
open Go.Am Go.Minster

def zeros256 : List Int := List.replicate 256 0
theorem zeros256_len : zeros256.length = 256 := List.length_replicate
set_option maxRecDepth 100000 in
theorem mat_build (n o : Int) (m : Nat) : abuild T Y_stable_Matrix [(0, .int .i64 n), (1, .int .i64 o), (2, .map (some m))] = some (.agg (.int .i64 n :: .int .i64 o :: .map (some m) :: zeros256.map (.int .u64))) := by
  rw [abuild_pl (pl := [(0, 1), (1, 1), (2, 1), (3, 256)]) (by kernel_rfl) zr_stable_Matrix rfl]
  rfl
theorem view_build (p : Option (Nat × Nat)) (m : Option Nat) : abuild T Y_stable_view [(0, .ptr p), (1, .map m)] = some (.agg [.ptr p, .map m]) := by
  rw [abuild_pl (pl := [(0, 1), (1, 1)]) (by kernel_rfl) zr_stable_view rfl]
  rfl

theorem New_ok (n o : Int) (s : AS) : ACalls Try.prog F_stable_New [.int .i64 n, .int .i64 o] s fun v s' => Ext s s' ∧ ((¬ (1 ≤ n ∧ n ≤ 16 ∧ 1 ≤ o ∧ o ≤ n) ∧ v = .tup [.ptr none, .int .i64 2]) ∨ ((1 ≤ n ∧ n ≤ 16 ∧ 1 ≤ o ∧ o ≤ n) ∧ ∃ p m, v = .tup [.ptr (some (p, 0)), .int .i64 0] ∧ s.h p = none ∧ s.h m = none ∧ MatF [] s' p m n o (fun _ => none) zeros256)) := by
  refine ACalls.pre fun hw => q_stable_New _ _ _ _ ⟨fun vs s' => s' = s ∧ ∃ t, vs = [.bool t] ∧ (t = true ↔ ¬ (1 ≤ n ∧ n ≤ 16 ∧ 1 ≤ o ∧ o ≤ n)), ?_, bsplit.dec (fun h => ⟨rfl, _, rfl, by simp; omega⟩) (fun h1 => bsplit.dec (fun h => ⟨rfl, _, rfl, by simp; omega⟩) (fun h2 => bsplit.dec (fun h => ⟨rfl, _, rfl, by simp; omega⟩) (fun h3 => ⟨rfl, _, rfl, by simp; omega⟩)))⟩
  rintro t s3 ⟨rfl, t', ht, hiff⟩
  simp only [List.cons.injEq, AV.bool.injEq, and_true] at ht
  subst ht
  refine bsplit.mk (fun ht => ⟨Ext.refl _, .inl ⟨hiff.1 ht, rfl⟩⟩) (fun hf => NewQ.intro hw rfl fun m s5 F5 => ?_)
  have hrng : 1 ≤ n ∧ n ≤ 16 ∧ 1 ≤ o ∧ o ≤ n := by
    apply Decidable.byContradiction
    intro h
    rw [hiff.2 h] at hf; cases hf
  refine ⟨_, mat_build n o m, by simp [One1], NewQ.intro F5.wf rfl fun p s8 F8 => ⟨F5.ext.trans F8.ext, .inr ⟨hrng, p, m, rfl, F5.ext.none F8.no, F5.no, ⟨zeros256_len, F8.own, ⟨[], 0, MpAt.new (F8.ext.1 _ _ F5.at), fun r => rfl⟩, by simp, by simp, ?_, hrng⟩⟩⟩⟩
  rintro rfl
  have := F8.no
  rw [F5.at] at this; cases this

theorem of14_ok {s : AS} {a : AV} {la : List Dot} (ha : Dots s a la) (hn : la.length ≤ 1000) : ACalls Try.prog F_law14iof [a] s fun r s' => ∃ p v ex, r = .ptr (some (p, 0)) ∧ s.h p = none ∧ COk v ex ∧ Gap v ex ∧ ex.length ≤ la.length ∧ Ext s s' ∧ CtxAt s' p v ex ∧ ∀ x, hasD v ex x = true ↔ x.may = true ∧ x ∈ la := by
  refine q_law14iof _ _ _ ?_
  refine ACalls.use (ctx_New_ok _) ?_
  rintro r s2 ⟨p, rfl, hp, hc, e2⟩ hw2
  refine ⟨_, rfl, fun m vs s' => ∃ (i : Nat) (v : List Int) (ex : List Dot), vs = [.int .i64 (i : Nat)] ∧ i ≤ la.length ∧ m = la.length - i ∧ COk v ex ∧ Gap v ex ∧ ex.length ≤ i ∧ Ext s s' ∧ WFs s' ∧ CtxAt s' p v ex ∧ ∀ x, hasD v ex x = true ↔ x.may = true ∧ x ∈ la.take i, la.length, ⟨0, _, _, rfl, by omega, rfl, COk.zero, (fun y hy => by cases hy), by simp, e2, hw2, hc, fun x => by simp [has_zero]⟩, ?_⟩
  rintro m n s13 ⟨i, v, ex, hi, h6, rfl, ok, gap, hlen, e13, w13, c13, has⟩
  simp only [List.cons.injEq, AV.int.injEq, true_and, and_true] at hi
  subst hi
  refine ⟨_, ha.lenB u_s_Dot _, bsplit.dec (fun hlt => ?_) (fun hge => ⟨p, v, ex, rfl, hp, ok, gap, by omega, e13, c13, fun x => by rw [has, List.take_of_length_le (by omega)]⟩)⟩
  obtain ⟨x, hx⟩ := get_lt (l := la) (i := i) (by omega)
  obtain ⟨lx, o, h8, h9⟩ := ha.ix (by decide) dotC_len u_s_Dot z_Dot hx
  refine ⟨lx, o, h8 _, _, (h9 _ e13).2, ?_⟩
  refine ACalls.use (ctx_Add_ok c13 ok.v ok.r ok.m (by omega) x) ?_
  rintro r s25 ⟨rfl, c25, m25⟩ hw25
  obtain ⟨ok', gap', hl', has'⟩ := addD_any ok gap (by omega) x
  refine ⟨_, _, rfl, la.length - (i + 1), by omega, i + 1, _, _, by rw [wadd1 (by omega)], by omega, rfl, ok', gap', by omega, Ext.wr e13 hp m25, hw25, c25, fun y => ?_⟩
  rw [has', has, mem_take_succ hx]
  constructor
  · rintro (⟨h1, h2⟩ | ⟨rfl, h⟩)
    · exact ⟨h1, .inl h2⟩
    · exact ⟨h, .inr rfl⟩
  · rintro ⟨h1, h2 | h2⟩
    · exact .inl ⟨h1, h2⟩
    · exact .inr ⟨h2, h2 ▸ h1⟩

theorem any_all {es done : List (Dot × Bool × Nat)} {f : Dot → Bool} (hall : ∀ e ∈ es, e ∈ done) (hsub : ∀ e ∈ done, e ∈ es) (hget : ∀ d, mget es d = if f d then some true else none) (d : Dot) : done.any (fun e => decide (e.1 = d)) = f d := by
  have h := hget d
  cases hf : f d with
  | true =>
    rw [hf] at h
    obtain ⟨j, n, hj⟩ := mget_some (show mget es d = some true from h)
    rw [List.any_eq_true]
    exact ⟨_, hall _ (List.mem_of_getElem? hj), by simp⟩
  | false =>
    rw [hf] at h
    have h0 := mget_none.1 (show mget es d = none from h)
    rw [List.any_eq_false]
    intro e he
    simpa using h0 e (hsub e he)

/-- may these live dots be told with a context? -/
def mayL (v : List Int) (ex : List Dot) (l : List Dot) : Prop := (∀ (i : Nat) x y, l[i]? = some x → l[i + 1]? = some y → x.lt y = true) ∧ ∀ d ∈ l, hasD v ex d = true
/-- what a region's view becomes -/
structure Told (old : Option Vw) (v : List Int) (ex : List Dot) (l : List Dot) (x : Vw) : Prop where
  ok : x.Ok
  has : ∀ d, x.has d = (sn old d || hasD v ex d)
  live : ∀ d, x.live d = ((lvo old d && (decide (d ∈ l) || !hasD v ex d)) || (decide (d ∈ l) && (lvo old d || !sn old d)))
  len : x.ex.length ≤ lno old + ex.length

theorem told_set {F F' : List Nat} {s : AS} {p m : Nat} {n o : Int} {told : Int → Option Vw} {has : List Int} (hw : WFs s) (h : MatF F s p m n o told has) (r : Int) {q : Nat} {x : Vw} (hF : ∀ y ∈ F, y ∈ F') (hx : VwF F' s q x) (hp : p ∉ F') (hm : m ∉ F') {Q : AS → Prop}
    (hq : ∀ s', MatF F' s' p m n o (fun r' => if r' = r then some x else told r') has → WFs s' → Mut [m] s s' → Q s') : StQ (amapUpdate T Y_m_int_p_stable_view (.map (some m)) (.int .i64 r) (.ptr (some (q, 0))) s) Q := by
  obtain ⟨es, c, h1, h2⟩ := h.map
  refine MpAt.upd mp_told hw h1 r q fun s' es' c' h1' h2' w' m' => hq s' ⟨h.len, h.obj.mut m' (by simpa using h.pm), ⟨es', c', h1', fun r' => ?_⟩, hp, hm, h.pm, h.rng⟩ w' m'
  have hmF : ∀ y ∈ [m], y ∉ F' := by
    intro y hy
    obtain rfl := List.mem_singleton.1 hy
    exact hm
  by_cases e : r' = r
  · rw [if_pos e]
    exact ⟨q, by rw [h2', if_pos e], hx.mut m' hmF⟩
  · rw [if_neg e]
    have := h2 r'
    cases hq : told r' with
    | none =>
      rw [hq] at this
      show mget es' r' = none
      rw [h2', if_neg e]; exact this
    | some y =>
      rw [hq] at this
      obtain ⟨q', a, b⟩ := this
      exact ⟨q', by rw [h2', if_neg e]; exact a, (b.sub hF).mut m' hmF⟩

theorem Know_ok {F : List Nat} {s : AS} {p m : Nat} {n o : Int} {told : Int → Option Vw} {has : List Int} (h : MatF F s p m n o told has) (r : Int) {pc : Nat} {cv : List Int} {ce : List Dot} (hc : CtxAt s pc cv ce) (okc : COk cv ce) (gapc : Gap cv ce) (lenc : ce.length ≤ 4096) {a : AV} {l : List Dot} (hl : Dots s a l) (hll : l.length ≤ 1000) (hroom : lno (told r) + ce.length ≤ 4096) :
    ACalls Try.prog F_stable_Matrix_Know [.ptr (some (p, 0)), .int .i64 r, .ptr (some (pc, 0)), a] s fun v s' => (¬ ((1 ≤ r ∧ r ≤ n ∧ r ≠ o) ∧ mayL cv ce l) ∧ v = .int .i64 2 ∧ Ext s s') ∨
      (((1 ≤ r ∧ r ≤ n ∧ r ≠ o) ∧ mayL cv ce l) ∧ v = .int .i64 0 ∧ ∃ F' x, (∀ y ∈ F, y ∈ F') ∧ (∀ y ∈ F', y ∈ F ∨ s.h y = none) ∧ Told (told r) cv ce l x ∧ MatF F' s' p m n o (fun r' => if r' = r then some x else told r') has ∧ Mut [m] s s') := by
  refine ACalls.pre fun hw => q_stable_Matrix_Know _ _ _ _ _ _ ?_
  refine ACalls.use (there_ok h) ?_
  rintro v s2 ⟨rfl, rfl⟩ _
  refine ⟨_, rfl, bsplit.no rfl ?_⟩
  refine ACalls.use (other_ok h r) ?_
  rintro v s5 ⟨rfl, rfl⟩ _
  refine ⟨_, rfl, bsplit.mk (fun hb => .inl ⟨fun hh => ?_, rfl, Ext.refl _⟩) (fun hb => ?_)⟩
  · rw [decide_eq_true hh.1] at hb; cases hb
  have hother : 1 ≤ r ∧ r ≤ n ∧ r ≠ o := by simpa using hb
  refine ACalls.use (ctx_Copy_ok hc (by omega)) ?_
  rintro v s8 ⟨q0, rfl, hq0, _, e8⟩ w8
  refine ⟨_, rfl, _, aeqPtrNil u_p_ctx_Ctx _, bsplit.no rfl (NewQ.intro w8 rfl fun nw s12 F12 => ?_)⟩
  have E12 := e8.trans F12.ext
  have hnw0 : s5.h nw = none := e8.none F12.no
  have hc12 := hc.ext E12
  have D12 : DMap s12 nw fun _ => false := DMap.new F12.at
  refine ⟨fun vs s' => mayL cv ce l ∧ DMap s' nw (fun d => decide (d ∈ l)) ∧ Ext s5 s' ∧ WFs s', ?_, _, hl.lenB u_s_Dot _, fun m' vs s' => ∃ i : Nat, vs = [.int .i64 (i : Nat)] ∧ i ≤ l.length ∧ m' = l.length - i ∧ DMap s' nw (fun d => decide (d ∈ l.take i)) ∧ Ext s5 s' ∧ WFs s' ∧ (∀ (k : Nat) x y, k + 1 < i → l[k]? = some x → l[k + 1]? = some y → x.lt y = true) ∧ ∀ d ∈ l.take i, hasD cv ce d = true, l.length, ⟨0, rfl, by omega, rfl, D12.congr fun d => by simp, E12, F12.wf, fun k x y hk => by omega, by simp⟩, ?_⟩
  rotate_left
  · -- the live dots, one by one
    rintro m' n' s136 ⟨i, hi, hil, rfl, D136, E136, w136, hris, hall⟩
    simp only [List.cons.injEq, AV.int.injEq, true_and, and_true] at hi
    subst hi
    refine bsplit.dec (fun hlt => ?_) (fun hge => ?_)
    · obtain ⟨x, hx⟩ := get_lt (l := l) (i := i) (by omega)
      obtain ⟨lx, ox, h8, h9⟩ := hl.ix (by decide) dotC_len u_s_Dot z_Dot hx
      refine ⟨lx, ox, h8 _, _, (h9 _ E136).2, NewSt w136 rfl rfl rfl fun l140 s142 F142 => ?_⟩
      have d142 : At s142 l140 (dotC x) := F142.own.at
      have E142 := E136.trans F142.ext
      have D142 := D136.ext F142.ext
      have hxin : x ∈ l := List.mem_of_getElem? hx
      refine ⟨fun vs s' => Ext s142 s' ∧ WFs s' ∧ hasD cv ce x = true ∧ ∀ y, 0 < i → l[i - 1]? = some y → y.lt x = true, ?_, ?_⟩
      · rintro s144 ⟨e144, w144, hh, hy⟩
        refine ⟨_, (d142.ext e144).rdc (by simp [dotC]), _, is_build, DMap.upd w144 (D142.ext e144) x fun s147 D147 w147 m147 => ⟨l.length - (i + 1), by omega, i + 1, by rw [wadd1 (by omega)], by omega, rfl, D147.congr fun d => ?_, Ext.wr (E142.trans e144) hnw0 m147, w147, fun k u v hk hu hv => ?_, fun d hd => ?_⟩⟩
        · rw [Bool.eq_iff_iff, Bool.or_eq_true, decide_eq_true_eq, decide_eq_true_eq, decide_eq_true_eq, mem_take_succ hx]
        · rcases Nat.lt_or_ge (k + 1) i with h | h
          · exact hris k u v h hu hv
          · obtain rfl : k + 1 = i := by omega
            rw [hx] at hv; obtain rfl := Option.some.inj hv
            exact hy u (by omega) (by simpa using hu)
        · rw [mem_take_succ hx] at hd
          rcases hd with hd | rfl
          · exact hall d hd
          · exact hh
      · have hbad : ∀ (P : Prop), (mayL cv ce l → P) → ¬ P → ∀ s', Ext s5 s' → (¬ ((1 ≤ r ∧ r ≤ n ∧ r ≠ o) ∧ mayL cv ce l) ∧ AV.int .i64 2 = .int .i64 2 ∧ Ext s5 s') := fun P h1 h2 s' e => ⟨fun hh => h2 (h1 hh.2), rfl, e⟩
        have chk : ∀ s', Ext s142 s' → WFs s' → (∀ y, 0 < i → l[i - 1]? = some y → y.lt x = true) → RdL (rdc s' l140 0 2) fun g => ACalls Try.prog F_ctx_Ctx_Has [.ptr (some (pc, 0)), .agg g] s' fun v s'' => ∃ b, v = .bool b ∧ bsplit (!b) ((¬ ((1 ≤ r ∧ r ≤ n ∧ r ≠ o) ∧ mayL cv ce l) ∧ AV.int .i64 2 = .int .i64 2 ∧ Ext s5 s'') ∨ (((1 ≤ r ∧ r ≤ n ∧ r ≠ o) ∧ mayL cv ce l) ∧ AV.int .i64 2 = .int .i64 0 ∧ ∃ F' x, (∀ y ∈ F, y ∈ F') ∧ (∀ y ∈ F', y ∈ F ∨ s5.h y = none) ∧ Told (told r) cv ce l x ∧ MatF F' s'' p m n o (fun r' => if r' = r then some x else told r') has ∧ Mut [m] s5 s'')) (Ext s142 s'' ∧ WFs s'' ∧ hasD cv ce x = true ∧ ∀ y, 0 < i → l[i - 1]? = some y → y.lt x = true) := by
          intro s' e' w' hy
          refine ⟨_, (d142.ext e').rdc (by simp [dotC]), ?_⟩
          refine ACalls.use (ctx_Has_ok (hc.ext (E142.trans e')) okc.r (by omega) x) ?_
          rintro v s'' ⟨rfl, e''⟩ w''
          refine ⟨_, rfl, bsplit.mk (fun hb => .inl (hbad (hasD cv ce x = true) (fun hh => hh.2 x hxin) (by simpa using hb) s'' ((E142.trans e').trans e''))) (fun hb => ⟨e'.trans e'', w'', by simpa using hb, hy⟩)⟩
        refine bsplit.dec (fun hpos => ?_) (fun hz => ?_)
        · obtain ⟨y, hy⟩ := get_lt (l := l) (i := i - 1) (by omega)
          obtain ⟨ly, oy, k8, k9⟩ := hl.ix (by decide) dotC_len u_s_Dot z_Dot hy
          rw [wsub1 (by omega) (by omega)]
          refine ⟨ly, oy, k8 _, _, (k9 _ E142).2, _, d142.rdc (by simp [dotC]), ?_⟩
          refine ACalls.use (ctx_Less_ok y x _) ?_
          rintro v s153 ⟨rfl, e153⟩ w153
          refine ⟨_, rfl, bsplit.mk (fun hb => .inl (hbad (y.lt x = true) (fun hh => hh.1 (i - 1) y x hy (by rw [show i - 1 + 1 = i by omega]; exact hx)) (by simpa using hb) s153 (E142.trans e153))) (fun hb => ?_)⟩
          exact chk s153 e153 w153 fun y' _ hy' => by rw [hy] at hy'; obtain rfl := Option.some.inj hy'; simpa using hb
        · exact chk s142 (Ext.refl _) F142.wf fun y h0 => by omega
    · obtain rfl : i = l.length := by omega
      rw [List.take_length] at hall
      refine ⟨⟨fun k x y hx hy => hris k x y ?_ hx hy, hall⟩, by rw [List.take_length] at D136; exact D136, E136, w136⟩
      rcases Nat.lt_or_ge (k + 1) l.length with h | h
      · exact h
      · rw [List.getElem?_eq_none h] at hy; cases hy
  rintro s14 ⟨hmay, D14, E14, w14⟩
  have h14 := h.ext E14
  have hc14 := hc.ext E14
  obtain ⟨av, hlk, hav⟩ := h.look r E14
  refine ⟨_, h.r2 E14, av, hlk, _, aeqPtrNil u_p_stable_view _, ?_⟩
  cases hold : told r with
  | none =>
    rw [hold] at hav
    have hav : av = none := hav
    subst hav
    refine bsplit.yes rfl ⟨fun k ks v s' => (k = 6 → ∃ q, v = .ptr (some (q, 0)) ∧ s14.h q = none ∧ CtxG s14 s' q cv ce) ∧ (k = 9 → ∃ z, v = .ptr (some (z, 0)) ∧ s14.h z = none ∧ ∃ g, ks = [.agg g] ∧ s'.h z = some (.cells g 0 false)), fun k ks v => (k = 6 → ∃ q, v = .ptr (some (q, 0))) ∧ (k = 9 → ∃ z, v = .ptr (some (z, 0))), ?_, _, h14.r2 (Ext.refl _), fun s23 e23 w23 _ => ?_, ⟨.ptr (some (0, 0)), (fun _ => ⟨0, rfl⟩), (fun h => by cases h)⟩, fun v27 hv27 => ?_⟩
    · rintro k ks v s' s'' e ⟨h1, h2⟩
      refine ⟨fun hk => ?_, fun hk => ?_⟩
      · obtain ⟨q, a, b, c⟩ := h1 hk; exact ⟨q, a, b, c.ext e⟩
      · obtain ⟨z, a, b, g, c, d⟩ := h2 hk; exact ⟨z, a, b, g, c, e.1 _ _ d⟩
    · refine (ctx_Copy_G (hc14.ext e23) (by omega)).mono ?_
      rintro v s25 ⟨q, rfl, hq, g25, e25⟩
      exact ⟨_, rfl, e25, ⟨(fun _ => ⟨q, rfl, e23.none hq, g25.back e23⟩), (fun h => by cases h)⟩, (fun _ => ⟨q, rfl⟩), (fun h => by cases h)⟩
    obtain ⟨q, rfl⟩ := hv27.1 rfl
    refine ⟨_, rfl, _, view_build _ _, fun s30 e30 w30 _ => ⟨rfl, NewQ.intro w30 rfl fun z s32 F32 => ⟨F32.ext, ⟨(fun h => by cases h), (fun _ => ⟨z, rfl, e30.none F32.no, _, rfl, F32.at⟩)⟩, (fun h => by cases h), (fun _ => ⟨z, rfl⟩)⟩⟩, ⟨.ptr (some (0, 0)), (fun h => by cases h), (fun _ => ⟨0, rfl⟩)⟩, fun v33 hv33 => ?_⟩
    obtain ⟨z, rfl⟩ := hv33.2 rfl
    refine ⟨_, rfl, fun s35 e35 w35 hS => ?_⟩
    obtain ⟨q', hq', hq0', g35⟩ := hS.1.1 rfl
    obtain ⟨z', hz', hz0, gc, hgc, hzo⟩ := hS.2.1.2 rfl
    simp only [AV.ptr.injEq, Option.some.injEq, Prod.mk.injEq, and_true] at hq' hz'
    subst hq'; subst hz'
    simp only [List.cons.injEq, AV.agg.injEq, and_true] at hgc
    subst hgc
    obtain ⟨Fc, hcF, hFn⟩ := g35.toF hq0'
    have E35 := E14.trans e35
    have hnew : ∀ y ∈ z :: nw :: Fc, s5.h y = none := by
      intro y hy
      rcases List.mem_cons.1 hy with rfl | hy
      · exact E14.none hz0
      · rcases List.mem_cons.1 hy with rfl | hy
        · exact hnw0
        · exact E14.none (hFn y hy)
    have hnotin : ∀ y, s5.h y ≠ none → y ∉ F → y ∉ z :: nw :: Fc ++ F := by
      intro y h1 h2 hy
      rcases List.mem_append.1 hy with hy | hy
      · exact h1 (hnew y hy)
      · exact h2 hy
    refine told_set w35 (h.ext E35) r (F' := z :: nw :: Fc ++ F) (x := ⟨cv, ce, fun d => decide (d ∈ l)⟩) (fun y hy => by simp [hy]) ⟨⟨okc, gapc, lenc⟩, q, nw, hzo, by simp, hcF.sub (fun y hy => by simp [hy]), by simp, D14.ext e35⟩ (hnotin p h.pthere h.pF) (hnotin m h.mthere h.mF) fun s37 M37 w37 m37 => .inr ⟨⟨hother, hmay⟩, rfl, _, _, (fun y hy => by simp [hy]), (fun y hy => ?_), ⟨⟨okc, gapc, lenc⟩, fun d => by simp [Vw.has, sn], fun d => by simp [lvo, sn], by simp [lno]⟩, M37, E35.mut.trans m37⟩
    rcases List.mem_append.1 hy with hy | hy
    · exact .inr (hnew y hy)
    · exact .inl hy
  | some x0 =>
    rw [hold] at hav hroom
    obtain ⟨q, rfl, hv⟩ := hav
    obtain ⟨okx, pc', ml, hq2, hqF, hc', hmF, hml⟩ := hv
    have hlx := okx.len
    have hqa : At s14 q [.ptr (some (pc', 0)), .map (some ml)] := ⟨_, _, hq2⟩
    have q0' : ∀ s', Ext s14 s' → rd1 s' q 0 = some (.ptr (some (pc', 0))) := fun s' e => by rw [(hqa.ext e).rd1]; rfl
    have q1' : ∀ s', Ext s14 s' → rd1 s' q (0 + 1) = some (.map (some ml)) := fun s' e => by rw [(hqa.ext e).rd1]; rfl
    refine bsplit.no rfl ⟨_, q0' _ (Ext.refl _), ?_⟩
    refine ACalls.use (ctx_Copy_G hc'.at (by omega)) ?_
    rintro v s42 ⟨q1, rfl, hq1, g42, e42⟩ w42
    refine ⟨_, rfl, ?_⟩
    refine ACalls.use (ctx_Join_ok2 g42.at (hc14.ext e42) okx.ok okc hlx lenc) ?_
    rintro v s45 ⟨jv, je, J, m45, hj⟩ w45
    have hjl := J.len
    have hroom' : x0.ex.length + ce.length ≤ 4096 := hroom
    obtain ⟨_, rfl, g45⟩ : je.length ≤ 4096 ∧ v = .int .i64 0 ∧ CtxG s42 s45 q1 jv je := by
      rcases hj with h | h
      · exact h
      · omega
    have e45 := Ext.wr e42 hq1 m45
    obtain ⟨Fc, hcF, hFn, hFt⟩ := g45.toF2
    have hFn' : ∀ y ∈ Fc, s14.h y = none := fun y hy => by
      rcases hFn y hy with rfl | h
      · exact hq1
      · exact e42.none h
    refine ⟨_, rfl, bsplit.no rfl (NewQ.intro w45 rfl fun bo s48 F48 => ?_)⟩
    have E48 := e45.trans F48.ext
    have hbo : s14.h bo = none := e45.none F48.no
    have hboF : bo ∉ Fc := fun hm => hFt bo hm F48.no
    obtain ⟨es, c, hA, hget⟩ := hml
    obtain ⟨es2, c2, hB, hget2⟩ := D14
    have hml : DMap s14 ml x0.live := ⟨es, c, hA, hget⟩
    have D14 : DMap s14 nw (fun d => decide (d ∈ l)) := ⟨es2, c2, hB, hget2⟩
    have hC48 : CtxF Fc s48 q1 jv je := hcF.mut (L := []) F48.ext.mut (by simp)
    -- what stays
    let St : AS → Prop := fun s' => Ext s14 s' ∧ WFs s' ∧ CtxF Fc s' q1 jv je ∧ ∀ y ∈ Fc, s'.h y ≠ none
    have St.mut : ∀ {s' s'' x}, St s' → WFs s'' → Mut [x] s' s'' → s14.h x = none → x ∉ Fc → St s'' := by
      intro s' s'' x ⟨a, b, c, d⟩ w m hx hF
      refine ⟨Ext.wr a hx m, w, c.mut m fun y hy => by obtain rfl := List.mem_singleton.1 hy; exact hF, fun y hy => ?_⟩
      cases hq : s'.h y with
      | none => exact absurd hq (d y hy)
      | some ob => rw [m.1 y ob (by simp only [List.mem_singleton]; rintro rfl; exact hF hy) hq]; simp
    have St.ext : ∀ {s' s''}, St s' → WFs s'' → Ext s' s'' → St s'' := by
      intro s' s'' ⟨a, b, c, d⟩ w e
      refine ⟨a.trans e, w, c.mut (L := []) e.mut (by simp), fun y hy => ?_⟩
      cases hq : s'.h y with
      | none => exact absurd hq (d y hy)
      | some ob => rw [e.1 y ob hq]; simp
    have S48 : St s48 := St.ext (s' := s45) ⟨e45, w45, hcF, hFt⟩ F48.wf F48.ext
    have D48 : DMap s48 bo fun _ => false := DMap.new F48.at
    let C1 : Dot → Bool := fun d => decide (d ∈ l) || !hasD cv ce d
    let C2 : Dot → Bool := fun d => x0.live d || !hasD x0.v x0.ex d
    refine ⟨fun vs s' => St s' ∧ DMap s' bo (fun d => x0.live d && C1 d), ?_, _, q1' _ E48, ?_⟩
    · -- the second range, over what is live now
      rintro s50 ⟨S50, D50⟩
      refine ⟨fun vs s' => St s' ∧ DMap s' bo (fun d => (x0.live d && C1 d) || (decide (d ∈ l) && C2 d)), ?_, ?_⟩
      · rintro s52 ⟨⟨E52, w52, c52, _⟩, D52⟩
        have E52' := E14.trans E52
        refine ⟨_, h.r2 E52', _, view_build _ _, rfl, NewQ.intro w52 rfl fun z s58 F58 => ?_⟩
        have hnew : ∀ y ∈ z :: bo :: Fc, s5.h y = none := by
          intro y hy
          rcases List.mem_cons.1 hy with rfl | hy
          · exact E52'.none F58.no
          · rcases List.mem_cons.1 hy with rfl | hy
            · exact E14.none hbo
            · exact E14.none (hFn' y hy)
        have hnotin : ∀ y, s5.h y ≠ none → y ∉ F → y ∉ z :: bo :: Fc ++ F := by
          intro y h1 h2 hy
          rcases List.mem_append.1 hy with hy | hy
          · exact h1 (hnew y hy)
          · exact h2 hy
        have okj : Vw.Ok ⟨jv, je, fun d => (x0.live d && C1 d) || (decide (d ∈ l) && C2 d)⟩ := ⟨J.ok, J.gap, by show je.length ≤ 4096; omega⟩
        refine told_set F58.wf (h.ext (E52'.trans F58.ext)) r (F' := z :: bo :: Fc ++ F) (x := ⟨jv, je, fun d => (x0.live d && C1 d) || (decide (d ∈ l) && C2 d)⟩) (fun y hy => by simp [hy]) ⟨okj, q1, bo, F58.at, by simp, (c52.mut (L := []) F58.ext.mut (by simp)).sub (fun y hy => by simp [hy]), by simp, D52.ext F58.ext⟩ (hnotin p h.pthere h.pF) (hnotin m h.mthere h.mF) fun s59 M59 w59 m59 => .inr ⟨⟨hother, hmay⟩, rfl, _, _, (fun y hy => by simp [hy]), (fun y hy => ?_), ⟨okj, fun d => by simp only [Vw.has, sn]; exact J.has d, fun d => by simp only [lvo, sn, Vw.has]; rfl, hjl⟩, M59, (E52'.trans F58.ext).mut.trans m59⟩
        rcases List.mem_append.1 hy with hy | hy
        · exact .inr (hnew y hy)
        · exact .inl hy
      · refine MpAt.range u_m_Dot_struct__is_bool__ S50.2.1 (hB.ext S50.1) fun it s61 I61 F61 => ?_
        have hit : s14.h it = none := S50.1.none F61.no
        have hitbo : it ≠ bo := by rintro rfl; exact D50.there F61.no
        have hitF : it ∉ Fc := fun hm => S50.2.2.2 it hm F61.no
        have S61 := St.ext S50 F61.wf F61.ext
        have hnit : nw ≠ it := by
          rintro rfl
          have := F61.no
          rw [(hB.ext S50.1).obj] at this; cases this
        let f : List (Dot × Bool × Nat) → Dot → Bool := fun done d => (x0.live d && C1 d) || (done.any (fun e => decide (e.1 = d)) && C2 d)
        refine ⟨fun m' vs s' => vs = [] ∧ ∃ done, m' = es2.length - done.length ∧ St s' ∧ Iter s' it nw es2 c2 done ∧ DMap s' bo (f done), es2.length, ⟨rfl, [], rfl, S61, I61, (D50.ext F61.ext).congr fun d => by simp [f]⟩, ?_⟩
        rintro m' s65 ⟨_, done, rfl, S65, I65, D65⟩
        refine ⟨fun vs s' => St s' ∧ DMap s' bo (f done) ∧ ((vs = [.bool false] ∧ ∀ e ∈ es2, e ∈ done) ∨ ∃ e, vs = [.bool true] ∧ e ∈ es2 ∧ e ∉ done ∧ Iter s' it nw es2 c2 (done ++ [e])), ?_, ?_⟩
        rotate_left
        · exact Iter.next S65.2.1 (hB.ext S65.1) I65 (fun hall => ⟨S65, D65, .inl ⟨rfl, hall⟩⟩) fun e s96 he hn I96 w96 m96 => ⟨St.mut S65 w96 m96 hit hitF, D65.mut m96 (by simpa using hitbo.symm), .inr ⟨e, rfl, he, hn, I96⟩⟩
        rintro b s68 ⟨S68, D68, hcase⟩
        rcases hcase with ⟨hb, hall⟩ | ⟨e, hb, he, hn, I68⟩
        · simp only [List.cons.injEq, AV.bool.injEq, and_true] at hb
          subst hb
          refine bsplit.no rfl ⟨S68, D68.congr fun d => ?_⟩
          simp only [f, any_all hall I65.sub hget2 d]
        · simp only [List.cons.injEq, AV.bool.injEq, and_true] at hb
          subst hb
          refine bsplit.yes rfl (Iter.entry (hB.ext S68.1) I68 ⟨_, rfl, NewSt S68.2.1 rfl rfl rfl fun l72 s74 F74 => ?_⟩)
          have d74 : At s74 l72 (dotC e.1) := F74.own.at
          have g74 : ∀ s', Ext s74 s' → rdc s' l72 0 2 = some (dotC e.1) := fun s' e' => (d74.ext e').rdc (by simp [dotC])
          have S74 := St.ext S68 F74.wf F74.ext
          have D74 := D68.ext F74.ext
          have I74 := I68.ext F74.ext
          have hlt := I65.lt he hn
          refine ⟨fun vs s' => Ext s74 s' ∧ St s' ∧ vs = [.bool (C2 e.1)], ?_, ?_⟩
          · rintro b76 s77 ⟨e77, S77, hb⟩
            simp only [List.cons.injEq, AV.bool.injEq, and_true] at hb
            subst hb
            refine bsplit.mk (fun hb => ⟨_, g74 _ e77, _, is_build, DMap.upd S77.2.1 (D74.ext e77) e.1 fun s80 D80 w80 m80 => ⟨es2.length - (done.length + 1), by omega, rfl, done ++ [e], by simp, St.mut S77 w80 m80 hbo hboF, (I74.ext e77).mut m80 (by simpa using hitbo), D80.congr fun d => ?_⟩⟩) (fun hb => ⟨es2.length - (done.length + 1), by omega, rfl, done ++ [e], by simp, S77, I74.ext e77, (D74.ext e77).congr fun d => ?_⟩)
            · simp only [f, List.any_append, List.any_cons, List.any_nil, Bool.or_false]
              by_cases hd : d = e.1
              · subst hd; simp [hb]
              · rw [decide_eq_false hd, decide_eq_false (fun h : e.1 = d => hd h.symm)]; simp
            · simp only [f, List.any_append, List.any_cons, List.any_nil, Bool.or_false]
              by_cases hd : d = e.1
              · subst hd; simp [hb]
              · rw [decide_eq_false (fun h : e.1 = d => hd h.symm)]; simp
          · refine ⟨_, q1' _ S74.1, _, g74 _ (Ext.refl _), _, (hml.ext S74.1).look e.1, _, rfl, bsplit.mk (fun hb => ?_) (fun hb => ⟨_, q0' _ S74.1, _, g74 _ (Ext.refl _), ?_⟩)⟩
            · exact ⟨Ext.refl _, S74, by simp [C2, hb]⟩
            · refine ACalls.use (ctx_Has_ok (hc'.at.ext S74.1) okx.ok.r (by omega) e.1) ?_
              rintro v s92 ⟨rfl, e92⟩ w92
              exact ⟨_, rfl, e92, St.ext S74 w92 e92, by simp [C2, hb]⟩
    · refine MpAt.range u_m_Dot_struct__is_bool__ S48.2.1 (hA.ext S48.1) fun it s61 I61 F61 => ?_
      have hit : s14.h it = none := S48.1.none F61.no
      have hitbo : it ≠ bo := by rintro rfl; exact D48.there F61.no
      have hitF : it ∉ Fc := fun hm => S48.2.2.2 it hm F61.no
      have S61 := St.ext S48 F61.wf F61.ext
      have hnit : ml ≠ it := by
        rintro rfl
        have := F61.no
        rw [(hA.ext S48.1).obj] at this; cases this
      let f : List (Dot × Bool × Nat) → Dot → Bool := fun done d => done.any (fun e => decide (e.1 = d)) && C1 d
      refine ⟨fun m' vs s' => vs = [] ∧ ∃ done, m' = es.length - done.length ∧ St s' ∧ Iter s' it ml es c done ∧ DMap s' bo (f done), es.length, ⟨rfl, [], rfl, S61, I61, (D48.ext F61.ext).congr fun d => by simp [f]⟩, ?_⟩
      rintro m' s65 ⟨_, done, rfl, S65, I65, D65⟩
      refine ⟨fun vs s' => St s' ∧ DMap s' bo (f done) ∧ ((vs = [.bool false] ∧ ∀ e ∈ es, e ∈ done) ∨ ∃ e, vs = [.bool true] ∧ e ∈ es ∧ e ∉ done ∧ Iter s' it ml es c (done ++ [e])), ?_, ?_⟩
      rotate_left
      · exact Iter.next S65.2.1 (hA.ext S65.1) I65 (fun hall => ⟨S65, D65, .inl ⟨rfl, hall⟩⟩) fun e s96 he hn I96 w96 m96 => ⟨St.mut S65 w96 m96 hit hitF, D65.mut m96 (by simpa using hitbo.symm), .inr ⟨e, rfl, he, hn, I96⟩⟩
      rintro b s68 ⟨S68, D68, hcase⟩
      rcases hcase with ⟨hb, hall⟩ | ⟨e, hb, he, hn, I68⟩
      · simp only [List.cons.injEq, AV.bool.injEq, and_true] at hb
        subst hb
        refine bsplit.no rfl ⟨S68, D68.congr fun d => ?_⟩
        simp only [f, any_all hall I65.sub hget d]
      · simp only [List.cons.injEq, AV.bool.injEq, and_true] at hb
        subst hb
        refine bsplit.yes rfl (Iter.entry (hA.ext S68.1) I68 ⟨_, rfl, NewSt S68.2.1 rfl rfl rfl fun l72 s74 F74 => ?_⟩)
        have d74 : At s74 l72 (dotC e.1) := F74.own.at
        have g74 : ∀ s', Ext s74 s' → rdc s' l72 0 2 = some (dotC e.1) := fun s' e' => (d74.ext e').rdc (by simp [dotC])
        have S74 := St.ext S68 F74.wf F74.ext
        have D74 := D68.ext F74.ext
        have I74 := I68.ext F74.ext
        have hlt := I65.lt he hn
        refine ⟨fun vs s' => Ext s74 s' ∧ St s' ∧ vs = [.bool (C1 e.1)], ?_, ?_⟩
        · rintro b76 s77 ⟨e77, S77, hb⟩
          simp only [List.cons.injEq, AV.bool.injEq, and_true] at hb
          subst hb
          refine bsplit.mk (fun hb => ⟨_, g74 _ e77, _, is_build, DMap.upd S77.2.1 (D74.ext e77) e.1 fun s80 D80 w80 m80 => ⟨es.length - (done.length + 1), by omega, rfl, done ++ [e], by simp, St.mut S77 w80 m80 hbo hboF, (I74.ext e77).mut m80 (by simpa using hitbo), D80.congr fun d => ?_⟩⟩) (fun hb => ⟨es.length - (done.length + 1), by omega, rfl, done ++ [e], by simp, S77, I74.ext e77, (D74.ext e77).congr fun d => ?_⟩)
          · simp only [f, List.any_append, List.any_cons, List.any_nil, Bool.or_false]
            by_cases hd : d = e.1
            · subst hd; simp [hb]
            · rw [decide_eq_false hd, decide_eq_false (fun h : e.1 = d => hd h.symm)]; simp
          · simp only [f, List.any_append, List.any_cons, List.any_nil, Bool.or_false]
            by_cases hd : d = e.1
            · subst hd; simp [hb]
            · rw [decide_eq_false (fun h : e.1 = d => hd h.symm)]; simp
        · refine ⟨_, g74 _ (Ext.refl _), _, (D14.ext S74.1).look e.1, _, rfl, bsplit.mk (fun hb => ?_) (fun hb => ⟨_, g74 _ (Ext.refl _), ?_⟩)⟩
          · exact ⟨Ext.refl _, S74, by simp [C1, hb]⟩
          · refine ACalls.use (ctx_Has_ok (hc14.ext S74.1) okc.r (by omega) e.1) ?_
            rintro v s92 ⟨rfl, e92⟩ w92
            exact ⟨_, rfl, e92, St.ext S74 w92 e92, by simp [C1, hb]⟩
end Go.Proofs.Ytbfchlimonimkaa
end

section
set_option linter.unusedSimpArgs false
set_option linter.unusedVariables false
namespace Go.Proofs.Ytbfchlimonimkaa
open Go.Am Go.Minster Go.ChangeShapes Go.WideShapes Go.ChangeAt Go.RowKit

theorem ctx_Of_any {s : AS} {a : AV} {v : List Int} {l : List Dot} (hv : VIn v) (hl : Dots s a l) (hn : l.length ≤ 2 ^ 20) :
    ACalls Try.prog F_ctx_Of [.agg (v.map (.int .u64)), a] s fun r s' => Ext s s' ∧ ((¬ OfOk v l ∧ r = .tup [.ptr none, .int .i64 2]) ∨ (OfOk v l ∧ 4096 < l.length ∧ r = .tup [.ptr none, .int .i64 5]) ∨ (OfOk v l ∧ l.length ≤ 4096 ∧ ∃ p, s.h p = none ∧ r = .tup [.ptr (some (p, 0)), .int .i64 0] ∧ CtxG s s' p v l)) := by
  have hlen := hv.len
  refine ACalls.pre fun hw => q_ctx_Of _ _ _ _ ⟨ints_one _ _, NewQ.intro hw rfl fun l1 s2 F => ?_⟩
  have hat := F.own.at
  refine ⟨fun vs s' => s' = s2 ∧ ∀ x ∈ v, x ≤ 4611686018427387904, ?_, _, hat.rdc (by simp [hlen]), ?_⟩
  · rintro s4 ⟨rfl, hvm⟩
    have cont : ∀ (i : Nat), i < l.length → ∀ s', Ext s4 s' → WFs s' → (∀ (k : Nat) x, k < i + 1 → l[k]? = some x → x.may = true ∧ (∀ y, 0 < k → l[k - 1]? = some y → y.lt x = true) ∧ v.getD (x.r - 1).toNat 0 + 1 < x.c) → ∃ m', m' < l.length - i ∧ ∃ j : Nat, [AV.int .i64 (IntKind.wrap .i64 ((i : Int) + 1))] = [.int .i64 (j : Nat)] ∧ j ≤ l.length ∧ m' = l.length - j ∧ Ext s4 s' ∧ WFs s' ∧ (∀ (k : Nat) x, k < j → l[k]? = some x → x.may = true ∧ (∀ y, 0 < k → l[k - 1]? = some y → y.lt x = true) ∧ v.getD (x.r - 1).toNat 0 + 1 < x.c) :=
      fun i hi s' e w h => ⟨l.length - (i + 1), by omega, i + 1, by rw [wrap_i (by omega)]; rfl, by omega, rfl, e, w, h⟩
    refine ⟨fun vs s' => Ext s4 s' ∧ WFs s' ∧ OfOk v l, ?_, _, hl.lenB u_s_Dot _, fun m vs s' => ∃ i : Nat, vs = [.int .i64 (i : Nat)] ∧ i ≤ l.length ∧ m = l.length - i ∧ Ext s4 s' ∧ WFs s' ∧ (∀ (k : Nat) x, k < i → l[k]? = some x → x.may = true ∧ (∀ y, 0 < k → l[k - 1]? = some y → y.lt x = true) ∧ v.getD (x.r - 1).toNat 0 + 1 < x.c), l.length, ⟨0, rfl, by omega, rfl, Ext.refl _, F.wf, by omega⟩, ?_⟩
    · rintro s6 ⟨e6, w6, ok⟩
      have E6 := F.ext.trans e6
      refine ⟨_, hl.lenB u_s_Dot _, bsplit.dec (fun hgt => ⟨E6, .inr (.inl ⟨ok, by omega, rfl⟩)⟩) (fun hle => ?_)⟩
      refine ⟨fun k _ r s' => k = 2 → Gro dotC 2 s' r l ∧ (∀ la ∈ labOf r, s.h la = none) ∧ r ≠ .emp ∧ r.one = true, fun _ _ _ => True, fun _ _ _ _ _ e h hk => ⟨(h hk).1.ext e, (h hk).2⟩, _, (hat.ext e6).rdc (by simp [hlen]), fun s9 e9 w9 _ => ?_, ⟨.emp, trivial⟩, ?_⟩
      · refine (clone_S (s := s) (E6.trans e9) (hl.ext (E6.trans e9)) (by omega)).mono ?_
        rintro r s' ⟨e, h⟩
        exact ⟨e, fun _ => h, trivial⟩
      rintro r _ s13 e13 w13 ⟨hr, _⟩
      obtain ⟨g, hnew, hne, hone⟩ := hr rfl
      rw [List.drop_zero, List.take_of_length_le (by simp [hlen])]
      refine ⟨_, build_Ctx hlen hone, by simp [hone], NewQ.intro w13 rfl fun p s17 F17 => ?_⟩
      have E13 := E6.trans e13
      refine ⟨E13.trans F17.ext, .inr (.inr ⟨ok, by omega, p, E13.none F17.no, rfl, hlen, r, F17.own, hone, g.ext F17.ext, hnew⟩)⟩
    · rintro m n s15 ⟨i, hi, h6, rfl, e15, w15, hk⟩
      simp only [List.cons.injEq, AV.int.injEq, true_and, and_true] at hi
      subst hi
      have E15 := F.ext.trans e15
      refine bsplit.dec (fun hlt => ?_) (fun hge => ⟨e15, w15, hvm, fun k x hx => hk k x (by
        rcases Nat.lt_or_ge k l.length with h | h
        · omega
        · rw [List.getElem?_eq_none h] at hx; cases hx) hx⟩)
      obtain ⟨x, hx⟩ := get_lt (l := l) (i := i) (by omega)
      obtain ⟨lx, o, h8, h9⟩ := hl.ix (by decide) dotC_len u_s_Dot z_Dot hx
      have gx := fun s' e => (h9 s' e).2
      have bad : ∀ (s' : AS), Ext s s' → (OfOk v l → False) → Ext s s' ∧ ((¬ OfOk v l ∧ AV.tup [.ptr none, .int .i64 2] = .tup [.ptr none, .int .i64 2]) ∨ (OfOk v l ∧ 4096 < l.length ∧ AV.tup [.ptr none, .int .i64 2] = .tup [.ptr none, .int .i64 5]) ∨ (OfOk v l ∧ l.length ≤ 4096 ∧ ∃ p, s.h p = none ∧ AV.tup [.ptr none, .int .i64 2] = .tup [.ptr (some (p, 0)), .int .i64 0] ∧ CtxG s s' p v l)) :=
        fun s' e h => ⟨e, .inl ⟨h, rfl⟩⟩
      refine ⟨lx, o, h8 _, _, gx _ E15, NewSt w15 rfl rfl rfl fun l27 s29 F29 => ?_⟩
      have E29 := E15.trans F29.ext
      have e29 := e15.trans F29.ext
      have d29 : At s29 l27 (dotC x) := F29.own.at
      refine ⟨fun vs s' => Ext s29 s' ∧ WFs s' ∧ ∃ t, vs = [.bool t] ∧ (t = true → ¬ OfOk v l) ∧ (t = false → x.may = true ∧ (∀ y, 0 < i → l[i - 1]? = some y → y.lt x = true) ∧ v.getD (x.r - 1).toNat 0 + 1 < x.c), ?_, ?_⟩
      · rintro b s19 ⟨e19, w19, t, ht, h1, h2⟩
        simp only [List.cons.injEq, AV.bool.injEq, and_true] at ht
        subst ht
        refine bsplit.mk (fun hb => bad _ (E29.trans e19) (h1 hb)) (fun hb => cont i (by omega) _ (e29.trans e19) w19 fun k y hk' hy => ?_)
        rcases Nat.lt_or_ge k i with h | h
        · exact hk k y h hy
        · obtain rfl : k = i := by omega
          rw [hx] at hy; obtain rfl := Option.some.inj hy; exact h2 hb
      · have last : x.may = true → ∀ (s' : AS), Ext s29 s' → WFs s' → (∀ y, 0 < i → l[i - 1]? = some y → y.lt x = true) → ∃ t, [AV.bool (decide (x.c ≤ v.getD (x.r - 1).toNat 0 + 1))] = [.bool t] ∧ (t = true → ¬ OfOk v l) ∧ (t = false → x.may = true ∧ (∀ y, 0 < i → l[i - 1]? = some y → y.lt x = true) ∧ v.getD (x.r - 1).toNat 0 + 1 < x.c) := by
          intro hm s' e w hy
          refine ⟨_, rfl, fun h ok => ?_, fun h => ⟨hm, hy, ?_⟩⟩
          · exact absurd (of_decide_eq_true h) (Int.not_le.2 (ok.hl i x hx).2.2)
          · exact Int.not_le.1 (of_decide_eq_false h)
        have hbd := hv.get (x.r - 1).toNat
        have hvle : v.getD (x.r - 1).toNat 0 ≤ 4611686018427387904 := by
          rw [List.getD_eq_getElem?_getD]
          cases hq : v[(x.r - 1).toNat]? with
          | none => simp
          | some y => exact hvm y (List.mem_of_getElem? hq)
        have dc0 : rdc s29 l27 0 2 = some (dotC x) := d29.rdc (by simp [dotC])
        have d0 : rd1 s29 l27 0 = some (.int .i64 x.r) := by rw [d29.rd1]; rfl
        have d1 : rd1 s29 l27 1 = some (.int .u64 x.c) := by rw [d29.rd1]; rfl
        refine ⟨fun _ _ _ _ => True, fun k _ r => (k = 1 → r = .bool x.may) ∧ (k = 13 → ∀ y, l[i - 1]? = some y → r = .bool (y.lt x)), fun _ _ _ _ _ _ _ => trivial, _, dc0, fun s34 e34 w34 _ => ?_, ⟨.bool x.may, (fun _ => rfl), (fun h => by cases h)⟩, ?_⟩
        · refine (ctx_May_ok x _).mono ?_
          rintro r s' ⟨rfl, e⟩
          exact ⟨_, rfl, e, trivial, (fun _ => rfl), (fun h => by cases h)⟩
        rintro r ⟨hr, _⟩
        obtain rfl := hr rfl
        refine ⟨_, rfl, bsplit.mk (fun hm => ?_) (fun hm => ?_)⟩
        · intro s40 e40 w40 _
          refine ⟨e40, w40, true, rfl, fun _ ok => ?_, (fun h => by cases h)⟩
          have := (ok.hl i x hx).1
          rw [this] at hm; cases hm
        have hmay : x.may = true := by simpa using hm
        have hmm := Dot.may_iff.1 hmay
        refine bsplit.dec (fun hpos => ?_) (fun hz => ?_)
        · obtain ⟨y, hy⟩ := get_lt (l := l) (i := i - 1) (by omega)
          obtain ⟨ly, o', k8, k9⟩ := hl.ix (by decide) dotC_len u_s_Dot z_Dot hy
          have gy := fun s' e => (k9 s' e).2
          rw [wrap_i' (by omega), show (i : Int) - 1 = ((i - 1 : Nat) : Int) by omega]
          refine ⟨ly, o', k8 _, _, gy _ E29, _, dc0, fun s46 e46 w46 _ => ?_, ⟨.bool (y.lt x), (fun h => by cases h), (fun _ y' hy' => by rw [hy] at hy'; obtain rfl := Option.some.inj hy'; rfl)⟩, ?_⟩
          · refine (ctx_Less_ok y x _).mono ?_
            rintro r s' ⟨rfl, e⟩
            exact ⟨_, rfl, e, trivial, (fun h => by cases h), (fun _ y' hy' => by rw [hy] at hy'; obtain rfl := Option.some.inj hy'; rfl)⟩
          rintro r ⟨_, hr⟩
          obtain rfl := hr rfl y hy
          refine ⟨_, rfl, bsplit.mk (fun hb => ?_) (fun hb => ?_)⟩
          · intro s52 e52 w52 _
            refine ⟨e52, w52, true, rfl, fun _ ok => ?_, (fun h => by cases h)⟩
            have := (ok.hl i x hx).2.1 y (by omega) hy
            rw [this] at hb; cases hb
          · refine ⟨_, d1, _, d0, ?_⟩
            dsimp only
            rw [wrap_i' (by omega)]
            refine ⟨_, _, vix (by omega), _, by rw [(hat.ext e29).rd1, Nat.zero_add, Nat.mul_one]; exact vec_at hlen (by omega), fun s54 e54 w54 _ => ⟨e54, w54, ?_⟩⟩
            rw [wrap_u (by omega)]
            exact last hmay s54 e54 w54 fun y' _ hy' => by rw [hy] at hy'; obtain rfl := Option.some.inj hy'; simpa using hb
        · refine ⟨_, d1, _, d0, ?_⟩
          dsimp only
          rw [wrap_i' (by omega)]
          refine ⟨_, _, vix (by omega), _, by rw [(hat.ext e29).rd1, Nat.zero_add, Nat.mul_one]; exact vec_at hlen (by omega), fun s65 e65 w65 _ => ⟨e65, w65, ?_⟩⟩
          rw [wrap_u (by omega)]
          exact last hmay s65 e65 w65 fun y' h0 _ => by omega
  rw [List.drop_zero, List.take_of_length_le (by simp [hlen])]
  refine ⟨fun m vs s' => ∃ i : Nat, vs = [.int .i64 (i : Nat)] ∧ i ≤ 16 ∧ m = 16 - i ∧ s' = s2 ∧ ∀ (k : Nat) x, k < i → v[k]? = some x → x ≤ 4611686018427387904, 16, ⟨0, rfl, by omega, rfl, rfl, by omega⟩, ?_⟩
  rintro m n s71 ⟨i, hi, h6, rfl, rfl, hk⟩
  simp only [List.cons.injEq, AV.int.injEq, true_and, and_true] at hi
  subst hi
  refine bsplit.dec (fun hlt => ?_) (fun hge => ⟨rfl, fun x hx => ?_⟩)
  · have hi16 : i < 16 := by omega
    refine ⟨_, aix_vec hlen hi16, bsplit.dec (fun hgt => ?_) (fun hle => ?_)⟩
    · refine ⟨F.ext, .inl ⟨fun ok => ?_, rfl⟩⟩
      have := ok.hv _ (List.mem_of_getElem? (vec_some hlen hi16))
      omega
    · refine ⟨16 - (i + 1), by omega, i + 1, by rw [wrap_i (by omega)]; rfl, by omega, rfl, rfl, fun k y hk' hy => ?_⟩
      rcases Nat.lt_or_ge k i with h | h
      · exact hk k y h hy
      · obtain rfl : k = i := by omega
        rw [vec_some hlen hi16] at hy; obtain rfl := Option.some.inj hy; omega
  · obtain ⟨k, hkx⟩ := List.mem_iff_getElem?.1 hx
    refine hk k x ?_ hkx
    rcases Nat.lt_or_ge k v.length with h | h
    · omega
    · rw [List.getElem?_eq_none h] at hkx; cases hkx

/-- exceptions that stand apart stay as they are -/
theorem fold_apart {v : List Int} : ∀ (l acc : List Dot), (∀ d ∈ l, v.getD (d.r - 1).toNat 0 + 1 < d.c) → l.foldl cstep (v, acc) = (v, acc ++ l)
  | [], acc, _ => by simp
  | d :: l, acc, h => by
    have hd := h d (by simp)
    have : cstep (v, acc) d = (v, acc ++ [d]) := by
      unfold cstep
      rw [if_neg (by show ¬ d.c ≤ v.getD (d.r - 1).toNat 0; omega), if_neg (by show ¬ d.c = v.getD (d.r - 1).toNat 0 + 1; omega)]
    rw [List.foldl_cons, this, fold_apart l _ fun x hx => h x (by simp [hx])]
    simp
theorem compact_apart {v : List Int} {l : List Dot} (h : Gap v l) : compact v l = (v, l) := by
  rw [compact, fold_apart l [] h, List.nil_append]
theorem zeros_at (i : Nat) : zeros.getD i 0 = 0 := by
  simp only [zeros, List.getD_eq_getElem?_getD, List.getElem?_replicate]
  split <;> rfl

/-- the exceptions of the law -/
def many (r : Int) (a : Int) (n : Nat) : List Dot := (List.range n).map fun (i : Nat) => Dot.mk r (a + 2 + 2 * (i : Int))
theorem many_len (r a : Int) (n : Nat) : (many r a n).length = n := by simp [many]
theorem many_succ (r a : Int) (n : Nat) : many r a (n + 1) = many r a n ++ [⟨r, a + 2 + 2 * n⟩] := by
  simp [many, List.range_succ]
theorem many_get {r a : Int} {n i : Nat} {x : Dot} (h : (many r a n)[i]? = some x) : i < n ∧ x = ⟨r, a + 2 + 2 * i⟩ := by
  simp only [many, List.getElem?_map, Option.map_eq_some_iff] at h
  obtain ⟨k, hk, rfl⟩ := h
  obtain ⟨h1, h2⟩ := List.getElem?_eq_some_iff.1 hk
  simp only [List.length_range] at h1
  simp only [List.getElem_range] at h2
  subst h2
  exact ⟨h1, rfl⟩
theorem many_mem {r a : Int} {n : Nat} {x : Dot} (h : x ∈ many r a n) : ∃ i : Nat, i < n ∧ x = ⟨r, a + 2 + 2 * i⟩ := by
  obtain ⟨i, hi⟩ := List.mem_iff_getElem?.1 h
  obtain ⟨h1, h2⟩ := many_get hi
  exact ⟨i, h1, h2⟩
section
variable {r a : Int} (hr : 1 ≤ r ∧ r ≤ 16) (ha : 0 ≤ a ∧ a ≤ 1152921504606846976)
include hr ha
theorem many_may {n : Nat} (hn : n ≤ 4096) : ∀ d ∈ many r a n, d.may = true := by
  intro d hd
  obtain ⟨i, hi, rfl⟩ := many_mem hd
  refine Dot.may_iff.2 ⟨hr.1, hr.2, ?_, ?_⟩
  · show 1 ≤ a + 2 + 2 * (i : Int); omega
  · show a + 2 + 2 * (i : Int) ≤ 4611686018427387904; omega
theorem more_may : (Dot.mk r (a + 9000)).may = true := Dot.may_iff.2 ⟨hr.1, hr.2, by show 1 ≤ a + 9000; omega, by show a + 9000 ≤ 4611686018427387904; omega⟩
omit hr in
theorem more_gap : Gap zeros (many r a 4096 ++ [⟨r, a + 9000⟩]) := by
  intro y hy
  rw [zeros_at]
  rcases List.mem_append.1 hy with h | h
  · obtain ⟨i, hi, rfl⟩ := many_mem h
    show 0 + 1 < a + 2 + 2 * (i : Int); omega
  · obtain rfl : y = ⟨r, a + 9000⟩ := by simpa using h
    show 0 + 1 < a + 9000; omega
omit hr ha in
theorem more_rising : Rising (many r a 4096 ++ [⟨r, a + 9000⟩]) := by
  refine List.pairwise_append.2 ⟨?_, List.pairwise_singleton _ _, fun x hx y hy => ?_⟩
  · refine List.pairwise_map.2 ((List.pairwise_lt_range).imp fun {i j} h => ?_)
    exact Dot.lt_iff.2 (.inr ⟨rfl, by show a + 2 + 2 * (i : Int) < a + 2 + 2 * (j : Int); omega⟩)
  · obtain ⟨i, hi, rfl⟩ := many_mem hx
    obtain rfl : y = ⟨r, a + 9000⟩ := by simpa using hy
    exact Dot.lt_iff.2 (.inr ⟨rfl, by show a + 2 + 2 * (i : Int) < a + 9000; omega⟩)
theorem more_ok : COk zeros (many r a 4096 ++ [⟨r, a + 9000⟩]) := by
  refine ⟨⟨rfl, by decide⟩, more_rising, fun d hd => ?_⟩
  rcases List.mem_append.1 hd with h | h
  · exact many_may hr ha (Nat.le_refl _) d h
  · obtain rfl : d = ⟨r, a + 9000⟩ := by simpa using h
    exact more_may hr ha
theorem many_ok : COk zeros (many r a 4096) := by
  have h := more_ok hr ha
  exact ⟨h.v, h.r.sub (List.sublist_append_left _ _), fun d hd => h.m d (by simp [hd])⟩
omit hr in
theorem many_gap : Gap zeros (many r a 4096) := fun y hy => more_gap (r := r) ha y (List.mem_append_left _ hy)
/-- one dot more is refused -/
theorem add_full : addD zeros (many r a 4096) ⟨r, a + 9000⟩ = (false, 5, zeros, many r a 4096) := by
  have hm := more_may hr ha
  have hnin : (Dot.mk r (a + 9000)) ∉ many r a 4096 := by
    intro h
    obtain ⟨i, hi, he⟩ := many_mem h
    have := congrArg Dot.c he
    have : a + 9000 = a + 2 + 2 * (i : Int) := this
    omega
  have hh : hasD zeros (many r a 4096) ⟨r, a + 9000⟩ = false := by
    cases hq : hasD zeros (many r a 4096) ⟨r, a + 9000⟩ with
    | false => rfl
    | true =>
      rcases (hasD_iff.1 hq).2 with h | h
      · exact absurd h hnin
      · rw [zeros_at] at h
        have : a + 9000 ≤ 0 := h
        omega
  have hp : pos (many r a 4096) ⟨r, a + 9000⟩ = 4096 := by
    refine pos_eq (by rw [many_len]; exact Nat.le_refl _) (fun k x hk hx => ?_) fun x hx => ?_
    · obtain ⟨h1, rfl⟩ := many_get hx
      exact Dot.lt_iff.2 (.inr ⟨rfl, by show a + 2 + 2 * (k : Int) < a + 9000; omega⟩)
    · have := (many_get hx).1; omega
  have hi : ins (many r a 4096) ⟨r, a + 9000⟩ = many r a 4096 ++ [⟨r, a + 9000⟩] := by
    rw [ins, hp, List.take_of_length_le (by rw [many_len]; exact Nat.le_refl _), List.drop_eq_nil_of_le (by rw [many_len]; exact Nat.le_refl _)]
  unfold addD
  rw [hm, hh, hi, compact_apart (more_gap ha), List.length_append, many_len]
  rfl
end

theorem dotC_mk (r c : Int) : [AV.int .i64 r, AV.int .u64 c] = dotC ⟨r, c⟩ := rfl
theorem dot_build (r c : Int) : abuild T Y_Dot [(0, .int .i64 r), (1, .int .u64 c)] = some (.agg (dotC ⟨r, c⟩)) := by
  rw [abuild_pl (pl := [(0, 1), (1, 1)]) (by kernel_rfl) zr_Dot rfl]
  rfl
theorem vec_build : abuild T Y_Vector [] = some (.agg (zeros.map (.int .u64))) := by kernel_rfl

set_option maxRecDepth 100000 in
/-- a number as it may come -/
theorem int_arg {k : IntKind} {t : TypeId} (ht : Try.prog.underlying t = some (.int k)) (hf : flatT Try.prog 5 t = some [.int k]) {H : Type} {enc : TypeId × Value → H} {W : World} {base : Nat} {v : Value} (hv : Value.okWide Try.prog W .any base t v) (h : ∃ (d : DataW H) (p : List MemPlace), DataW.Trod enc Try.prog W 0 (fun _ => true) true t v d p) :
    ∃ n : Int, absV W.heap.size (MW W) v = .int k n ∧ k.min ≤ n ∧ n ≤ k.max := by
  obtain ⟨n, rfl⟩ := okWide_int ht hv
  obtain ⟨d, p, fuel, h⟩ := h
  have hc := flat_open 5 t _ fuel _ _ W.heap.size (MW W) hf h
  obtain ⟨a, c1, h1, ⟨r, rfl, h2, h3⟩, _⟩ := cellsOk.cons hc
  simp only [Value.cells, absV, List.map_cons, List.map_nil, List.cons.injEq, AV.int.injEq, true_and] at h1
  obtain ⟨rfl, _⟩ := h1
  exact ⟨_, rfl, h2, h3⟩

set_option maxRecDepth 100000 in
theorem ctxFull_ok {s : AS} {r a : Int} (ha : 0 ≤ a) : ACalls Try.prog F_law04iCtxFull [.int .i64 r, .int .u64 a] s fun v s' => v = .bool true := by
  refine ACalls.pre fun hw => q_law04iCtxFull _ _ _ _ ⟨fun vs s' => s' = s ∧ ∃ t, vs = [.bool t] ∧ (t = false → 1 ≤ r ∧ r ≤ 16 ∧ a ≤ 1152921504606846976), ?_, bsplit.dec (fun h => ⟨rfl, _, rfl, by simp⟩) (fun h1 => bsplit.dec (fun h => ⟨rfl, _, rfl, by simp⟩) (fun h2 => ⟨rfl, _, rfl, fun h3 => by simp at h3; omega⟩))⟩
  rintro t s3 ⟨rfl, t', ht, hsmall⟩
  simp only [List.cons.injEq, AV.bool.injEq, and_true] at ht
  subst ht
  have kn : ∀ s', ACalls Try.prog F_law04iknown [] s' fun v4 s5 => ∃ b6 : Bool, v4 = .bool b6 ∧ (AV.bool b6 = .bool true) := by
    intro s'
    refine (known_ok _).mono ?_
    rintro r s' ⟨rfl, rfl⟩
    exact ⟨_, rfl, rfl⟩
  refine bsplit.mk (fun hb => kn _) (fun hf => ?_)
  obtain ⟨hr1, hr2, ha2⟩ := hsmall hf
  have hr : 1 ≤ r ∧ r ≤ 16 := ⟨hr1, hr2⟩
  have haa : 0 ≤ a ∧ a ≤ 1152921504606846976 := ⟨ha, ha2⟩
  have okl := many_ok hr haa
  have gapl := many_gap (r := r) haa
  have okm := more_ok hr haa
  have gapm := more_gap (r := r) haa
  have hmay := more_may hr haa
  have vz : VIn zeros := ⟨rfl, by decide⟩
  refine ⟨fun vs s' => ∃ v, vs = [v] ∧ GroN dotC 2 [] s3 s' v (many r a 4096) ∧ WFs s', ?_, fun m vs s' => ∃ (i : Nat) (v : AV), vs = [v, .int .i64 (i : Nat)] ∧ i ≤ 4096 ∧ m = 4096 - i ∧ GroN dotC 2 [] s3 s' v (many r a i) ∧ WFs s', 4096, ⟨0, _, rfl, by omega, rfl, GroN.nil, hw⟩, ?_⟩
  · rintro v8 s9 ⟨v, hv, g9, w9⟩
    simp only [List.cons.injEq, and_true] at hv
    subst hv
    have E9 := g9.chg.ext
    have d9 : Dots s9 v8 (many r a 4096) := g9.sl dotC_len
    have hl := many_len r a 4096
    refine ⟨_, vec_build, ?_⟩
    refine ACalls.use (ctx_Of_any vz d9 (by omega)) ?_
    rintro r1 s12 ⟨e12, h12⟩ w12
    obtain ⟨p, hp, rfl, c12⟩ : ∃ p, s9.h p = none ∧ r1 = .tup [.ptr (some (p, 0)), .int .i64 0] ∧ CtxG s9 s12 p zeros (many r a 4096) := by
      rcases h12 with ⟨h, _⟩ | ⟨_, h, _⟩ | ⟨_, _, h⟩
      · exact absurd (ofOk okl gapl) h
      · omega
      · exact h
    refine ⟨_, _, rfl, bsplit.no rfl ?_⟩
    refine ACalls.use (ctx_Copy_G c12.at (by omega)) ?_
    rintro r1 s16 ⟨q, rfl, hq, c16, e16⟩ w16
    have hpq : q ≠ p := by rintro rfl; exact c12.at.there hq
    have cp16 := c12.ext e16
    have cq16 := c16.back e12
    refine ⟨_, rfl, ?_⟩
    rw [wrap_u (by omega)]
    refine ⟨_, dot_build _ _, NewSt w16 rfl rfl rfl fun l19 s21 F => ?_⟩
    have d21 : At s21 l19 (dotC ⟨r, a + 9000⟩) := F.own.at
    have cp21 := cp16.ext F.ext
    have cq21 := cq16.ext F.ext
    refine ⟨_, d21.rdc (by simp [dotC]), ?_⟩
    have hful := add_full hr haa
    refine ACalls.use (ctx_Add_ok2 cp21.at okl.v okl.r okl.m (by omega) ⟨r, a + 9000⟩) ?_
    rintro r1 s24 ⟨rfl, _, _, e24⟩ w24
    replace e24 := e24 (by rw [hful])
    rw [hful]
    have cp24 := cp21.ext e24
    have cq24 := cq21.ext e24
    have d24 := d21.ext e24
    refine ⟨_, _, rfl, ?_⟩
    refine ACalls.use (ctx_New_ok _) ?_
    rintro r1 s28 ⟨o, rfl, ho, co, e28⟩ w28
    have hop : o ≠ p := by rintro rfl; exact cp24.at.there ho
    have hoq : o ≠ q := by rintro rfl; exact cq24.at.there ho
    have hol : o ≠ l19 := by
      rintro rfl
      obtain ⟨g, ro, h⟩ := d24
      rw [h] at ho; cases ho
    have E24 : Ext s9 s24 := ((e12.trans e16).trans F.ext).trans e24
    refine ⟨_, rfl, _, (d24.ext e28).rdc (by simp [dotC]), ?_⟩
    refine ACalls.use (ctx_Add_ok co COk.zero.v COk.zero.r COk.zero.m (by simp) ⟨r, a + 9000⟩) ?_
    rintro r1 s32 ⟨rfl, co32, m32⟩ w32
    obtain ⟨oko, gapo, leno, haso⟩ := addD_any COk.zero (fun y hy => by cases hy) (by simp) ⟨r, a + 9000⟩
    have e32 := Ext.wr e28 ho m32
    have cp32 := cp24.ext e32
    have cq32 := cq24.ext e32
    have d32 := d24.ext e32
    refine ⟨_, _, rfl, ?_⟩
    refine ACalls.use (ctx_Join_ok cp32.at co32 okl oko (by omega) (Nat.le_trans leno (by simp))) ?_
    rintro r1 s36 ⟨v, ex, j, m36, hj⟩ w36
    obtain ⟨rfl, rfl⟩ : v = zeros ∧ ex = many r a 4096 ++ [⟨r, a + 9000⟩] := norm_eq j.ok j.gap okm gapm fun x => by
      rw [Bool.eq_iff_iff, j.has, Bool.or_eq_true, haso, has_zero, hasD_iff, hasD_iff, List.mem_append, List.mem_singleton, zeros_at]
      constructor
      · rintro (⟨h1, h2⟩ | h | ⟨h, _⟩)
        · rcases h2 with h2 | h2
          · exact ⟨h1, .inl (.inl h2)⟩
          · exact ⟨h1, .inr h2⟩
        · cases h
        · subst h; exact ⟨hmay, .inl (.inr rfl)⟩
      · rintro ⟨h1, (h2 | h2) | h2⟩
        · exact .inl ⟨h1, .inl h2⟩
        · exact .inr (.inr ⟨h2, hmay⟩)
        · exact .inl ⟨h1, .inr h2⟩
    have hl1 : (many r a 4096 ++ [Dot.mk r (a + 9000)]).length = 4097 := by rw [List.length_append, hl, List.length_singleton]
    obtain ⟨rfl, e36⟩ : r1 = .int .i64 5 ∧ Ext s32 s36 := by
      rcases hj with ⟨h, _⟩ | ⟨_, h, h'⟩
      · omega
      · exact ⟨h, h'⟩
    have d36 := d32.ext e36
    have cp36 := cp32.ext e36
    have cq36 := cq32.ext e36
    have E36 : Ext s9 s36 := (E24.trans e32).trans e36
    refine ⟨_, rfl, _, vec_build, _, d36.rdc (by simp [dotC]), ?_⟩
    refine GroN.append1 sl_s_Dot dotC_len dotC_one w36 (g9.step E36) (by simp) ⟨r, a + 9000⟩ (by omega) fun v43 s44 g44 w44 m44 => ?_
    have hlab : ∀ x ∈ labOf v8, s9.h x ≠ none := by
      intro x hx
      rcases g9.gro with ⟨h, _⟩ | ⟨la, rfl, h⟩
      · have := congrArg List.length h; rw [hl, List.length_nil] at this; omega
      · obtain rfl : x = la := by simpa [labOf] using hx
        rw [h]; simp
    have cp44 := cp36.mut m44 (fun h => hlab p h hp) fun x hx => .inl (hlab x hx)
    have cq44 := cq36.mut m44 (fun h => hlab q h (e12.none hq)) fun x hx => .inl (hlab x hx)
    refine ACalls.use (ctx_Of_any vz (g44.sl dotC_len) (by omega)) ?_
    rintro r1 s46 ⟨e46, h46⟩ w46
    obtain rfl : r1 = .tup [.ptr none, .int .i64 5] := by
      rcases h46 with ⟨h, _⟩ | ⟨_, _, h⟩ | ⟨_, h, _⟩
      · exact absurd (ofOk okm gapm) h
      · exact h
      · omega
    have cp46 := cp44.ext e46
    have cq46 := cq44.ext e46
    refine ⟨_, _, rfl, ?_⟩
    rw [wrap_u (by omega)]
    refine ⟨_, dot_build _ _, ?_⟩
    have hhas : addD zeros (many r a 4096) ⟨r, a + 2⟩ = (false, 0, zeros, many r a 4096) := by
      have hin : (Dot.mk r (a + 2)) ∈ many r a 4096 := by
        simp only [many, List.mem_map, List.mem_range]
        exact ⟨0, by omega, by simp⟩
      have hm := okl.m _ hin
      have hh : hasD zeros (many r a 4096) ⟨r, a + 2⟩ = true := hasD_iff.2 ⟨hm, .inl hin⟩
      unfold addD
      rw [hm, hh]
      rfl
    refine ACalls.use (ctx_Add_ok2 cp46.at okl.v okl.r okl.m (by omega) ⟨r, a + 2⟩) ?_
    rintro r1 s51 ⟨rfl, _, _, e51⟩ w51
    replace e51 := e51 (by rw [hhas])
    rw [hhas]
    refine ⟨_, _, rfl, bsplit.yes rfl (bsplit.yes rfl (bsplit.yes rfl ?_))⟩
    refine ACalls.use (Same_ok (cp46.ext e51).at (cq46.ext e51).at (by omega)) ?_
    rintro r1 s55 ⟨rfl, rfl⟩ _
    exact ⟨_, rfl, bsplit.yes (by simp) (bsplit.yes rfl (bsplit.yes rfl (kn _)))⟩
  · rintro m v n s65 ⟨i, v', hi, hil, rfl, g65, w65⟩
    simp only [List.cons.injEq, AV.int.injEq, true_and, and_true] at hi
    obtain ⟨rfl, rfl⟩ := hi
    refine bsplit.dec (fun hlt => ?_) (fun hge => ?_)
    · have e1 : IntKind.wrap .u64 (IntKind.wrap .u64 (a + 2) + IntKind.wrap .u64 (2 * IntKind.wrap .u64 (i : Int))) = a + 2 + 2 * (i : Int) := by
        rw [wrap_u (n := (i : Int)) (by omega), wrap_u (n := a + 2) (by omega), wrap_u (n := 2 * (i : Int)) (by omega), wrap_u (by omega)]
      rw [e1]
      refine ⟨_, dot_build _ _, GroN.append1 sl_s_Dot dotC_len dotC_one w65 g65 (by simp) ⟨r, a + 2 + 2 * (i : Int)⟩ (by rw [many_len]; omega) fun v' s' g' w' _ => ?_⟩
      refine ⟨4096 - (i + 1), by omega, i + 1, v', by rw [wrap_i (by omega)]; rfl, by omega, rfl, by rw [many_succ]; exact g', w'⟩
    · obtain rfl : i = 4096 := by omega
      exact ⟨v, rfl, g65, w65⟩

set_option maxRecDepth 100000 in
theorem flat_uint64 : flatT Try.prog 5 Y_uint64 = some [.int .u64] := by kernel_rfl
set_option maxRecDepth 100000 in
theorem ctxFull_lifted (os : Os) (started : os.Started) (H : Type) (enc : TypeId × Value → H) :
    ReturnsInHanded {} Try.checked os F_law04iCtxFull .any (Rows.ctxFullSpec.pre6 enc Try.prog Try.f8 Rows.ctxFullRow.domain false) (Rows.ctxFullSpec.post enc Try.prog Try.f8 false true false false) := by
  refine law_open (C := Try.checked) (rt := 4) own started (by kernel_rfl) Try.func8
    (ChangeSpec.witness6 (enc := enc) (C := Try.checked) false ⟨#[], #[.int .i64 0, .int .u64 0], []⟩ 8 (by kernel_rfl) (by kernel_rfl) (by kernel_rfl) (by kernel_rfl)) (by kernel_rfl) rfl (by kernel_rfl) Try.underlying4 laid (by kernel_rfl) ?_ ?_
  · intro ds hds
    rw [Try.params8] at hds
    match ds, hds with
    | [d1, d2], _ => rfl
  · intro W base args hlen hargs
    rw [Try.params8] at hlen hargs
    match args, hlen with
    | [a, b], _ =>
      obtain ⟨n, hn, _⟩ := int_arg (hT.und _ _ u_int) flat_int (hargs 0 _ a rfl rfl).1 (hargs 0 _ a rfl rfl).2
      obtain ⟨m, hm, hm0, _⟩ := int_arg (hT.und _ _ u_uint64) flat_uint64 (hargs 1 _ b rfl rfl).1 (hargs 1 _ b rfl rfl).2
      simp only [List.map_cons, List.map_nil, hn, hm]
      exact ctxFull_ok (by rw [min_u64] at hm0; exact hm0)

theorem ctxFull_holds : Rows.CtxFullSaid :=
  OpenClaim.holds_of_wide 8 Try.f8 rfl rfl rfl rfl rfl rfl rfl ⟨rfl, rfl, rfl, rfl, rfl⟩ rfl rfl rfl rfl rfl (by kernel_rfl) Try.func8 (by kernel_rfl)
    (of_decide_eq_true (by kernel_rfl)) (by unfold Func.isWrapper; rw [if_neg (by decide +kernel)]; exact ⟨rfl, rfl⟩)
    (fun os started H enc _ => ctxFull_lifted os started H enc)
end Go.Proofs.Ytbfchlimonimkaa
end
