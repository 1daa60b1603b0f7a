/-
  A part of the proof: an abstract machine over the model, and contracts of functions of this program over it.
-/
import Derived.KernelRfl
import Derived.Test.YtoklmpkpeanloaaP4
set_option linter.unusedVariables false
set_option linter.unusedSimpArgs false
set_option linter.unusedSectionVars false
section
namespace Go.Proofs.Ytoklmpkpeanloaa
open Go.Am Go.Minster Go.Minster2
theorem Ext.wrL {s s1 s2 : AS} {L : List Nat} (e : Ext s s1) (hp : ∀ x ∈ L, s.h x = none) (m : Mut L s1 s2) : Ext s s2 :=
 ⟨fun x o hx => m.1 x o (fun hm => by rw [hp x hm] at hx; cases hx) (e.1 x o hx), Nat.le_trans e.2 m.2⟩
section
variable {s : AS} {l n : Nat}
theorem LiveAt.obj {f : Dot → Option Key} (h : LiveAt s l f n) : ∃ es c, s.h l = some (.map es c false) := by
 obtain ⟨es, c, h1, _⟩ := h; exact ⟨_, _, h1.obj⟩
theorem TombAt.obj {f : Dot → Bool} (h : TombAt s l f n) : ∃ es c, s.h l = some (.map es c false) := by
 obtain ⟨es, c, h1, _⟩ := h; exact ⟨_, _, h1.obj⟩
theorem LiveAt.upd (hw : WFs s) {f : Dot → Option Key} (h : LiveAt s l f n) (d : Dot) (k : Key) {Q : AS → Prop}
  (hq : ∀ s', LiveAt s' l (fun x => if x = d then some k else f x) (if (f d).isSome then n else n + 1) → WFs s' → Mut [l] s s' → Q s') : StQ (amapUpdate T Y_m_Dot_Key (.map (some l)) (.agg (dotC d)) (.agg (keyC k)) s) Q := by
 obtain ⟨es, c, h1, h2, h3⟩ := h
 refine MpAt.upd mp_live hw h1 d k fun s' es' c' h1' h2' w m => hq s' ⟨es', c', h1', fun x => ?_, ?_⟩ w m
 ·rw [h2', h2]
 ·rw [upd_len h1.nd h1'.nd h2', h2, h3]
theorem TombAt.upd (hw : WFs s) {f : Dot → Bool} (h : TombAt s l f n) (d : Dot) {Q : AS → Prop}
  (hq : ∀ s', TombAt s' l (fun x => f x || decide (x = d)) (if f d then n else n + 1) → WFs s' → Mut [l] s s' → Q s') : StQ (amapUpdate T Y_m_Dot_struct__is_bool__ (.map (some l)) (.agg (dotC d)) (.agg [.bool true]) s) Q := by
 obtain ⟨es, c, h1, h2, h3⟩ := h
 refine MpAt.upd mp_tombs hw h1 d true fun s' es' c' h1' h2' w m => hq s' ⟨es', c', h1', fun x => ?_, ?_⟩ w m
 ·rw [h2', h2]
  by_cases e : x = d
  ·simp [e]
  ·simp [e]
 ·rw [upd_len h1.nd h1'.nd h2', h2, h3]
  cases f d <;> simp
end
section
variable {F : List Nat} {s : AS} {p : Nat} {x : OSet}
end
end Go.Proofs.Ytoklmpkpeanloaa
end

section
namespace Go.Proofs.Ytoklmpkpeanloaa
open Go.Am Go.Minster Go.Minster2
theorem sl_s_Item : SlTy T Y_s_Item Y_Item 5 56 := ⟨u_s_Item, z_Item, b_Item, ⟨_, _, zr_Item, rfl, rfl⟩, by decide, by decide⟩
section
variable {s : AS} {a : AV} {l : List Itm} {g : FuncId} {cap : List AV} {P : Itm → Bool}
theorem IndexFunc_ok (hl : Sl itemC 5 s a l) (hn : l.length ≤ 2 ^ 40) (hf : ∀ i s', Ext s s' → WFs s' → ACalls Try.prog g ([.agg (itemC i)] ++ cap) s' fun v s'' => v = .bool (P i) ∧ Ext s' s'') :
  ACalls Try.prog F_slices_IndexFunc__s_Item_Item [a, .func g cap] s fun v s' => Ext s s' ∧ ∃ n : Int, v = .int .i64 n ∧ ((n = -1 ∧ l.any P = false) ∨ ∃ k : Nat, n = k ∧ k < l.length ∧ (∃ x, l[k]? = some x ∧ P x = true) ∧ ∀ j x, j < k → l[j]? = some x → P x = false) := by
 refine ACalls.pre fun hw => q_slices_IndexFunc__s_Item_Item _ _ _ _ ⟨_, hl.lenB u_s_Item _, fun m vs s' => ∃ i : Nat, vs = [.int .i64 (i : Nat)] ∧ i ≤ l.length ∧ m = l.length - i ∧ Ext s s' ∧ WFs s' ∧ (∀ j x, j < i → l[j]? = some x → P x = false), l.length, ⟨0, rfl, by omega, rfl, Ext.refl _, hw, by omega⟩, ?_⟩
 rintro m n s6 ⟨i, hi, h6, rfl, e6, w6, hall⟩
 simp only [List.cons.injEq, AV.int.injEq, true_and, and_true] at hi
 subst hi
 refine bsplit.dec (fun hlt => ?_) (fun hge => ⟨e6, -1, rfl, .inl ⟨rfl, ?_⟩⟩)
 ·obtain ⟨x, hx⟩ := get_lt (l := l) (i := i) (by omega)
  obtain ⟨la, o, h8, h9⟩ := hl.ix (by decide) itemC_len u_s_Item z_Item hx
  refine ⟨la, o, h8 _, _, (h9 _ e6).2, ?_⟩
  refine ACalls.use (hf x s6 e6 w6) ?_
  rintro v s11 ⟨rfl, e11⟩ w11
  refine ⟨_, rfl, bsplit.mk (fun hb => ⟨e6.trans e11, _, rfl, .inr ⟨i, rfl, by omega, ⟨x, hx, hb⟩, hall⟩⟩) (fun hb => ⟨l.length - (i + 1), by omega, i + 1, by rw [wrap_i (by omega)]; rfl, by omega, rfl, e6.trans e11, w11, fun j y hj hy => ?_⟩)⟩
  rcases Nat.lt_or_ge j i with h | h
  ·exact hall j y h hy
  ·obtain rfl : j = i := by omega
   rw [hx] at hy; obtain rfl := Option.some.inj hy; exact hb
 ·rw [List.any_eq_false]
  intro x hx
  obtain ⟨j, hj⟩ := List.mem_iff_getElem?.1 hx
  have : j < l.length := by
   rcases Nat.lt_or_ge j l.length with h | h
   ·exact h
   ·rw [List.getElem?_eq_none h] at hj; cases hj
  rw [hall j x (by omega) hj]; simp
end
section
variable {F : List Nat} {s : AS} {p : Nat} {x : OSet}
theorem LiveAt.lenB {l n : Nat} {f : Dot → Option Key} (h : LiveAt s l f n) : alenB T Y_m_Dot_Key (.map (some l)) s = some (.int .i64 (n : Nat)) := by
 obtain ⟨es, c, h1, _, h3⟩ := h
 rw [h1.lenB mp_live, h3]
end
/-! ### the live dots that something holds of -/
section
variable {F : List Nat} {s : AS} {p : Nat} {x : OSet} {g : FuncId} {cap : List AV} {P : Dot → Key → Bool}
end
/-! ### items that are gone -/
def goneI (d : Dot) : Itm := ⟨d, ⟨[], []⟩, true⟩
theorem build_gone (d : Dot) : abuild T Y_Item [(0, .agg (dotC d)), (2, .bool true)] = some (.agg (itemC (goneI d))) := by kernel_rfl
theorem gone_ok {s : AS} {a : AV} {l : List Dot} (hl : Dots s a l) (hn : l.length ≤ 2 ^ 29) :
  ACalls Try.prog F_orset_gone [a] s fun v s' => GroN itemC 5 [] s s' v (l.map goneI) := by
 refine ACalls.pre fun hw => q_orset_gone _ _ _ ⟨_, hl.lenB u_s_Dot _, fun m vs s' => ∃ (i : Nat) (v : AV), vs = [v, .int .i64 (i : Nat)] ∧ i ≤ l.length ∧ m = l.length - i ∧ WFs s' ∧ GroN itemC 5 [] s s' v ((l.take i).map goneI), l.length, ⟨0, _, rfl, by omega, rfl, hw, by simpa using GroN.nil⟩, ?_⟩
 rintro m v5 n s7 ⟨i, v', hi, h6, rfl, w7, g7⟩
 simp only [List.cons.injEq, AV.int.injEq, true_and, and_true] at hi
 obtain ⟨rfl, rfl⟩ := hi
 refine bsplit.dec (fun hlt => ?_) (fun hge => ?_)
 ·obtain ⟨d, hx⟩ := get_lt (l := l) (i := i) (by omega)
  obtain ⟨la, o, h8, h9⟩ := hl.ix (by decide) dotC_len u_s_Dot z_Dot hx
  have ht : (l.take (i + 1)).map goneI = (l.take i).map goneI ++ [goneI d] := by
   rw [List.take_add_one, hx, List.map_append]; rfl
  refine ⟨la, o, h8 _, _, (h9 _ g7.chg.ext).2, NewSt w7 rfl rfl rfl fun l11 s13 F13 => ?_⟩
  refine ⟨_, F13.own.at.rdc (by simp [dotC]), _, build_gone d, GroN.append1 sl_s_Item itemC_len itemC_one F13.wf (g7.step F13.ext) (by simp) (goneI d) (by simp; omega) fun v' s' g' w' _ => ?_⟩
  exact ⟨l.length - (i + 1), by omega, i + 1, v', by rw [wrap_i (by omega)]; rfl, by omega, rfl, w', by rw [ht]; exact g'⟩
 ·rw [List.take_of_length_le (by omega)] at g7
  exact g7
end Go.Proofs.Ytoklmpkpeanloaa
end

section
namespace Go.Proofs.Ytoklmpkpeanloaa
open Go.Am Go.Minster Go.Minster2
def OSet.zero : OSet := ⟨zeros, [], fun _ => none, fun _ => false, 0, 0⟩
theorem ctx_New_G (s : AS) : ACalls Try.prog F_ctx_New [] s fun r s' => ∃ p, r = .ptr (some (p, 0)) ∧ s.h p = none ∧ CtxG s s' p zeros [] ∧ Ext s s' := by
 refine ACalls.pre fun hw => q_ctx_New _ _ ?_
 have hb : abuild T Y_ctx_Ctx [(2, .bool true)] = some (.agg (zeros.map (.int .u64) ++ [.slc none 0 0 true, .bool true])) := by kernel_rfl
 exact ⟨_, hb, rfl, NewQ.intro hw rfl fun p s1 F => ⟨p, rfl, F.no, ⟨rfl, _, F.own, rfl, Gro.nil, by simp [labOf]⟩, F.ext⟩⟩
theorem New_ok (s : AS) : ACalls Try.prog F_orset_New [] s fun r s' => ∃ p F, r = .ptr (some (p, 0)) ∧ SetF F s' p OSet.zero ∧ (∀ y ∈ F, s.h y = none) ∧ (∀ y ∈ F, s'.h y ≠ none) ∧ Ext s s' := by
 refine ACalls.pre fun hw => q_orset_New _ _ ?_
 refine ACalls.use (ctx_New_G s) ?_
 rintro v s2 ⟨pc, rfl, hpc, hG, e2⟩ w2
 refine ⟨_, rfl, NewQ.intro w2 rfl fun lm s5 F5 => NewQ.intro F5.wf rfl fun tm s7 F7 => ⟨_, set_build _ _ _, rfl, NewQ.intro F7.wf rfl fun p s10 F10 => ?_⟩⟩
 obtain ⟨Fc, hcF, hFn, hFt⟩ := hG.toF hpc
 have e10 := F5.ext.trans (F7.ext.trans F10.ext)
 have e57 := F7.ext.trans F10.ext
 have hlm : s10.h lm = some (.map [] 0 false) := e57.1 _ _ F5.at
 have htm : s10.h tm = some (.map [] 0 false) := F10.ext.1 _ _ F7.at
 have hne : lm ≠ tm := by
  rintro rfl
  have := F7.no
  rw [F5.at] at this; cases this
 refine ⟨p, p :: lm :: tm :: Fc, rfl, ⟨COk.zero, (fun y hy => by cases hy), by simp [OSet.zero], pc, lm, tm, F10.own, by simp, (hcF.mut (L := []) e10.mut (by simp)).sub (fun y hy => by simp [hy]), by simp, by simp, hne, ⟨[], 0, MpAt.new hlm, fun d => rfl, rfl⟩, ⟨[], 0, MpAt.new htm, fun d => rfl, rfl⟩⟩, ?_, ?_, e2.trans e10⟩
 ·intro y hy
  simp only [List.mem_cons] at hy
  rcases hy with rfl | rfl | rfl | hy
  ·exact e2.none (F5.ext.none (F7.ext.none F10.no))
  ·exact e2.none F5.no
  ·exact e2.none (F5.ext.none F7.no)
  ·exact hFn y hy
 ·intro y hy
  simp only [List.mem_cons] at hy
  rcases hy with rfl | rfl | rfl | hy
  ·rw [F10.at]; simp
  ·rw [hlm]; simp
  ·rw [htm]; simp
  ·cases hq : s2.h y with
   | none => exact absurd hq (hFt y hy)
   | some ob => rw [e10.1 y ob hq]; simp
section
variable {F : List Nat} {s s' : AS} {p : Nat} {x : OSet} {k : Key}
theorem Ctx_ok (h : SetF F s p x) : ACalls Try.prog F_orset_Set_Ctx [.ptr (some (p, 0))] s fun r s' => ∃ q, r = .ptr (some (q, 0)) ∧ s.h q = none ∧ CtxG s s' q x.v x.ex ∧ Ext s s' := by
 refine q_orset_Set_Ctx _ _ _ ?_
 refine ACalls.use (there_ok h) ?_
 rintro v s2 ⟨rfl, rfl⟩ w2
 have hlx := h.len
 obtain ⟨ok, gap, hlen, pc, lm, tm, a, hpF, hc, _⟩ := h
 refine ⟨_, rfl, bsplit.no rfl ⟨_, by rw [a.at.rd1]; rfl, ?_⟩⟩
 refine ACalls.use (ctx_Copy_G hc.at (by omega)) ?_
 rintro v s8 ⟨q, rfl, hq, g, e⟩ _
 exact ⟨_, rfl, q, rfl, hq, g, e⟩
theorem build_item (d : Dot) (k : Key) : abuild T Y_Item [(0, .agg (dotC d)), (1, .agg (keyC k))] = some (.agg (itemC ⟨d, k, false⟩)) := by kernel_rfl
end
end Go.Proofs.Ytoklmpkpeanloaa
end

section
set_option maxRecDepth 100000
set_option maxHeartbeats 4000000
namespace Go.Proofs.Ytoklmpkpeanloaa
open Go.Am
end Go.Proofs.Ytoklmpkpeanloaa
end

section
namespace Go.Minster.SK
open Go.Minster2
end Go.Minster.SK
namespace Go.Proofs.Ytoklmpkpeanloaa.SK
open Go.Am Go.Minster2 Go.Minster.SK
theorem ab1 {y i : Nat} (h : i ≤ y) : abound1 y (.int .i64 (i : Nat)) = some i := by
 have : (0 : Int) ≤ (i : Int) ∧ (i : Int) ≤ ((y : Nat) : Int) := by omega
 simp only [abound1, if_pos this, Int.toNat_natCast]
theorem asl_from {a o n c i : Nat} {e : Bool} (h1 : i < n) (h2 : n ≤ c) : aslice T Y_s_Key (.slc (some (a, o)) n c e) (some (.int .i64 (i : Nat))) none none = some (.slc (some (a, o + i * 2)) (n - i) (c - i) e) := by
 have h3 : ¬ c = i := by omega
 cases e <;> simp [aslice, u_s_Key, z_Key, abounds, aopt, ahigh, ab1 (show i ≤ n by omega), h2, h3]
theorem asl_to {a o n c i : Nat} {e : Bool} (h1 : i ≤ c) (h0 : 0 < c) : aslice T Y_s_Key (.slc (some (a, o)) n c e) none (some (.int .i64 (i : Nat))) none = some (.slc (some (a, o)) i c e) := by
 have : ¬ c = 0 := by omega
 cases e <;> simp [aslice, u_s_Key, z_Key, abounds, aopt, ahigh, ab1 h1, this]
theorem clear_ok {s : AS} {lo n c i m : Nat} {e : Bool} {l : List Key} {rest : List AV} {g : Nat} (hw : WFs s) (hobj : s.h lo = some (.cells (l.flatMap keyC ++ rest) g false)) (hi : i < l.length) (hn : n = l.length - i) (ho : m = i * 2) {K : AS → Prop}
  (hk : ∀ s', (∃ rest', s'.h lo = some (.cells ((l.take i).flatMap keyC ++ rest') g false)) → WFs s' → Mut [lo] s s' → K s') : StQ (aclear T Y_s_Key (.slc (some (lo, m)) n c e) s) K := by
 subst hn; subst ho
 have hne : ¬ l.length - i = 0 := by omega
 have hrl : (rep (l.length - i) [AV.str [], AV.str []]).length = (l.length - i) * 2 := by simp [rep]
 have e1 : aclear T Y_s_Key (.slc (some (lo, i * 2)) (l.length - i) c e) s = awr s lo (i * 2) (rep (l.length - i) [AV.str [], AV.str []]) := by
  simp only [aclear, u_s_Key, if_neg hne, zr_Key, Option.bind_some, acells_agg]
  rfl
 rw [e1]
 refine StQ.awr hw hobj (by rw [hrl, List.length_append, dots_len]; omega) fun s' P => hk s' ⟨rep (l.length - i) [AV.str [], AV.str []] ++ ((l.drop i).flatMap keyC ++ rest).drop (rep (l.length - i) [AV.str [], AV.str []]).length, ?_⟩ P.wf P.mut
 have hsp : l.flatMap keyC ++ rest = (l.take i).flatMap keyC ++ ((l.drop i).flatMap keyC ++ rest) := by
  rw [← List.append_assoc, ← List.flatMap_append, List.take_append_drop]
 rw [P.at, hsp]
 have hl : ((l.take i).flatMap keyC).length = i * 2 := by rw [dots_len, List.length_take]; omega
 rw [← hl, wrs_app _ _ _ (by rw [hrl, List.length_append, dots_len, List.length_drop]; omega), List.append_assoc]
end Go.Proofs.Ytoklmpkpeanloaa.SK
end

section
namespace Go.Proofs.Ytoklmpkpeanloaa
open Go.Am Go.Minster Go.Minster2
section
variable {m : Nat} {es : List (Dot × Key × Nat)} {c : Nat} {ro : Bool} {s : AS}
end
section
variable {F : List Nat} {s s' : AS} {p : Nat} {x : OSet}
end
end Go.Proofs.Ytoklmpkpeanloaa
end

section
namespace Go.Proofs.Ytoklmpkpeanloaa
open Go.Am Go.Minster Go.Minster2
def OSet.has (x : OSet) (d : Dot) : Bool := hasD x.v x.ex d
def OSet.keeps (x : OSet) (d : Dot) : Prop := d ∈ x.ex ∨ (x.live d).isSome = true ∨ x.tomb d = true
structure OOk (x : OSet) (B : Nat) : Prop where
 ok : COk x.v x.ex
 gap : Gap x.v x.ex
 lv : ∀ d k, x.live d = some k → x.has d = true ∧ k.may = true
 tb : ∀ d, x.tomb d = true → x.has d = true ∧ x.live d = none
 sz : ∃ U : List Dot, U.length ≤ B ∧ ∀ d, x.keeps d → d ∈ U
theorem OOk.zero : OOk OSet.zero 0 := ⟨COk.zero, (fun y hy => by cases hy), (fun d k h => by cases h), (fun d h => by cases h), [], by simp, fun d h => by
  rcases h with h | h | h
  ·cases h
  ·cases h
  ·cases h⟩
theorem OOk.mono {x : OSet} {B B' : Nat} (h : OOk x B) (hb : B ≤ B') : OOk x B' := by
 obtain ⟨a, b, c, d, U, e, f⟩ := h; exact ⟨a, b, c, d, U, by omega, f⟩
section
variable {x : OSet} {B : Nat} {i : Itm}
end
/-! ### how great -/
theorem rising_nodup {l : List Dot} (h : Rising l) : l.Nodup := h.imp fun {a b} hab e => by subst e; exact Dot.lt_irrefl _ hab
theorem SetF.bnd {F : List Nat} {s : AS} {p : Nat} {x : OSet} {B : Nat} (h : SetF F s p x) (o : OOk x B) : x.nl + x.nt ≤ B ∧ x.ex.length ≤ B := by
 obtain ⟨ok, gap, hlen, pc, lm, tm, a, hpF, hc, hlF, htF, hlt, ⟨es, c, h1, h2, h3⟩, ⟨es', c', h1', h2', h3'⟩⟩ := h
 obtain ⟨U, hU, hm⟩ := o.sz
 have n1 : (es.map fun e => e.1).Nodup := List.pairwise_map.2 h1.nd
 have n2 : (es'.map fun e => e.1).Nodup := List.pairwise_map.2 h1'.nd
 constructor
 ·have hnd : ((es.map fun e => e.1) ++ (es'.map fun e => e.1)).Nodup := by
   refine List.nodup_append.2 ⟨n1, n2, fun a ha b hb => ?_⟩
   rintro rfl
   rw [keys_iff, h2] at ha
   rw [keys_iff, h2'] at hb
   cases hq : x.tomb a with
   | false => rw [hq] at hb; cases hb
   | true => rw [(o.tb _ hq).2] at ha; cases ha
  have := nodup_len hnd fun d hd => hm d ?_
  ·simp only [List.length_append, List.length_map] at this; omega
  ·rcases List.mem_append.1 hd with hd | hd
   ·rw [keys_iff, h2] at hd
    exact .inr (.inl hd)
   ·rw [keys_iff, h2'] at hd
    cases hq : x.tomb d with
    | false => rw [hq] at hd; cases hd
    | true => exact .inr (.inr hq)
 ·have := nodup_len (rising_nodup ok.r) fun d hd => hm d ?_
  ·omega
  ·exact .inl hd
/-! ### rows in order -/
theorem pw_uniq {α : Type} {r : α → α → Prop} (irr : ∀ a, ¬ r a a) (asy : ∀ a b, r a b → ¬ r b a) : ∀ {l l' : List α}, l.Pairwise r → l'.Pairwise r → (∀ x, x ∈ l ↔ x ∈ l') → l = l'
 | [], [], _, _, _ => rfl
 | [], b :: l', _, _, h => by have := (h b).2 (by simp); cases this
 | a :: l, [], _, _, h => by have := (h a).1 (by simp); cases this
 | a :: l, b :: l', h1, h2, h => by
  obtain ⟨p1, p2⟩ := List.pairwise_cons.1 h1
  obtain ⟨q1, q2⟩ := List.pairwise_cons.1 h2
  have hab : a = b := by
   rcases List.mem_cons.1 ((h a).1 (by simp)) with e | ha
   ·exact e
   ·rcases List.mem_cons.1 ((h b).2 (by simp)) with e | hb
    ·exact e.symm
    ·exact absurd (p1 b hb) (asy _ _ (q1 a ha))
  subst hab
  have := pw_uniq irr asy p2 q2 fun x => by
   constructor
   ·intro hx
    rcases List.mem_cons.1 ((h x).1 (by simp [hx])) with e | hx'
    ·subst e; exact absurd (p1 x hx) (irr x)
    ·exact hx'
   ·intro hx
    rcases List.mem_cons.1 ((h x).2 (by simp [hx])) with e | hx'
    ·subst e; exact absurd (q1 x hx) (irr x)
    ·exact hx'
  rw [this]
theorem Dot.lt_asym {a b : Dot} (h : a.lt b = true) : ¬ b.lt a = true := by
 rw [Dot.lt_iff] at *; omega
/-! ### a law's own sets -/
def Dj (F G : List Nat) : Prop := ∀ y ∈ F, y ∉ G
section
variable {s0 s s' : AS} {F F' G : List Nat} {p q : Nat} {x y : OSet} {B C : Nat}
theorem there_mut {L : List Nat} (h : ∀ y ∈ F, s.h y ≠ none) (m : Mut L s s') (d : Dj L F) : ∀ y ∈ F, s'.h y ≠ none := by
 intro y hy
 cases hq : s.h y with
 | none => exact absurd hq (h y hy)
 | some o => rw [m.1 y o (fun hl => d y hl hy) hq]; simp
end
end Go.Proofs.Ytoklmpkpeanloaa
end

section
namespace Go.Proofs.Ytoklmpkpeanloaa
open Go.Am Go.Minster Go.Minster2
section
variable {s0 s : AS} {F : List Nat} {p : Nat} {x : OSet} {B : Nat}
end
/-! ### what is seen and live, by cases -/
end Go.Proofs.Ytoklmpkpeanloaa
end

section
set_option maxRecDepth 100000
set_option maxHeartbeats 4000000
namespace Go.Proofs.Ytoklmpkpeanloaa
open Go.Am
end Go.Proofs.Ytoklmpkpeanloaa
end

section
namespace Go.Proofs.Ytoklmpkpeanloaa
open Go.Am Go.Minster Go.Minster2
theorem key_build (a b : List UInt8) : abuild T Y_Key [(0, .str a), (1, .str b)] = some (.agg (keyC ⟨a, b⟩)) := by kernel_rfl
theorem dot_build2 (r c : Int) : abuild T Y_Dot [(0, .int .i64 r), (1, .int .u64 c)] = some (.agg (dotC ⟨r, c⟩)) := by kernel_rfl
end Go.Proofs.Ytoklmpkpeanloaa
end

section
namespace Go.Proofs.Ytoklmpkpeanloaa
open Go.Am Go.Minster Go.Minster2 Go.ChangeShapes Go.WideShapes Go.ChangeAt Go.RowKit
section
variable {s0 s s' : AS} {pa pb : Nat} {xa xb : OSet} {Ba Bb : Nat} {sl : List (AV × List Itm)}
end
end Go.Proofs.Ytoklmpkpeanloaa
end

section
set_option maxRecDepth 100000
set_option maxHeartbeats 4000000
namespace Go.Proofs.Ytoklmpkpeanloaa
open Go.Am
end Go.Proofs.Ytoklmpkpeanloaa
end

section
namespace Go.Proofs.Ytoklmpkpeanloaa
open Go.Am Go.Minster Go.Minster2
section
variable {F : List Nat} {s : AS} {p : Nat} {x : OSet}
end
section
variable {s0 s s' : AS} {pa pb : Nat} {xa xb : OSet} {Ba Bb : Nat} {sl : List (AV × List Itm)}
end
end Go.Proofs.Ytoklmpkpeanloaa
end

section
namespace Go.Proofs.Ytoklmpkpeanloaa
open Go.Am Go.Minster Go.Minster2
def OSet.item (x : OSet) (i : Itm) : Prop := match i.gone with
 | true => x.tomb i.dot = true ∧ i.key = ⟨[], []⟩
 | false => x.live i.dot = some i.key
structure Items (x : OSet) (I : List Itm) : Prop where
 ris : Rising (I.map Itm.dot)
 mem : ∀ i, i ∈ I ↔ x.item i
theorem IRis.pw {I : List Itm} (h : Rising (I.map Itm.dot)) : I.Pairwise fun a b => a.dot.lt b.dot = true := List.pairwise_map.1 h
theorem iris_uniq {I J : List Itm} (h : Rising (I.map Itm.dot)) (h' : Rising (J.map Itm.dot)) (hm : ∀ i, i ∈ I ↔ i ∈ J) : I = J :=
 pw_uniq (fun a h => Dot.lt_irrefl _ h) (fun a b => Dot.lt_asym) (IRis.pw h) (IRis.pw h') hm
theorem Items.uniq {x : OSet} {I J : List Itm} (h : Items x I) (h' : Items x J) : I = J := iris_uniq h.ris h'.ris fun i => by rw [h.mem, h'.mem]
theorem Items.zero : Items OSet.zero [] := ⟨List.Pairwise.nil, fun i => by unfold OSet.item; cases i.gone <;> simp [OSet.zero]⟩
theorem item_keeps {x : OSet} {i : Itm} (h : x.item i) : x.keeps i.dot := by
 unfold OSet.item at h
 cases hg : i.gone with
 | true => rw [hg] at h; exact .inr (.inr h.1)
 | false => rw [hg] at h; exact .inr (.inl (by rw [h]; rfl))
theorem Items.len {x : OSet} {B : Nat} (o : OOk x B) {I : List Itm} (h : Items x I) : I.length ≤ B := by
 obtain ⟨U, hU, hm⟩ := o.sz
 have := nodup_len (rising_nodup h.ris) fun d hd => hm d ?_
 ·simp only [List.length_map] at this; omega
 ·obtain ⟨i, hi, rfl⟩ := List.mem_map.1 hd
  exact item_keeps ((h.mem i).1 hi)
section
variable {F F' : List Nat} {s s' : AS} {q : Nat} {x : OSet}
/-! ### the plain side of seeing -/
end
end Go.Proofs.Ytoklmpkpeanloaa
end

section
namespace Go.Proofs.Ytoklmpkpeanloaa
open Go.Am Go.Minster Go.Minster2
theorem OOk.exlen {x : OSet} {B : Nat} (o : OOk x B) : x.ex.length ≤ B := by
 obtain ⟨U, hU, hm⟩ := o.sz
 have := nodup_len (rising_nodup o.ok.r) fun d hd => hm d ?_
 ·omega
 ·exact .inl hd
section
variable {F : List Nat} {s : AS} {q : Nat} {x : OSet} {B : Nat}
theorem _root_.Go.Am.Gro.there {α : Type} {f : α → List AV} {sz : Nat} {v : AV} {l : List α} (h : Gro f sz s v l) : ∀ y ∈ labOf v, s.h y ≠ none := by
 intro y hy
 rcases h with ⟨_, b, rfl⟩ | ⟨la, rfl, ho⟩
 ·simp [labOf] at hy
 ·obtain rfl : y = la := by simpa [labOf] using hy
  rw [ho]; simp
end
end Go.Proofs.Ytoklmpkpeanloaa
end

section
set_option maxRecDepth 100000
set_option maxHeartbeats 4000000
namespace Go.Proofs.Ytoklmpkpeanloaa
open Go.Am
end Go.Proofs.Ytoklmpkpeanloaa
end

section
namespace Go.Proofs.Ytoklmpkpeanloaa
open Go.Am Go.Minster Go.Minster2
section
variable {F : List Nat} {s : AS} {q : Nat} {x : OSet} {B : Nat}
end
end Go.Proofs.Ytoklmpkpeanloaa
end

section
namespace Go.Proofs.Ytoklmpkpeanloaa
open Go.Am Go.Minster Go.Minster2
section
variable {F : List Nat} {s : AS} {p : Nat} {x : OSet} {B : Nat}
def liveE (e : Dot × Key × Nat) : Itm := ⟨e.1, e.2.1, false⟩
theorem srt_rising {l : List Itm} (hs : Go.Minster.SI.Srt l 0 l.length) (hn : (l.map Itm.dot).Nodup) : Rising (l.map Itm.dot) := by
 refine List.pairwise_iff_getElem.2 fun i j hi hj hij => ?_
 simp only [List.length_map] at hi hj
 have hle : (Go.Minster.SI.el l i).le (Go.Minster.SI.el l j) := hs i j (by omega) hij hj
 have ei : Go.Minster.SI.el l i = l[i] := by have := Go.Minster.SI.el_get hi; rw [List.getElem?_eq_getElem hi] at this; exact (Option.some.inj this).symm
 have ej : Go.Minster.SI.el l j = l[j] := by have := Go.Minster.SI.el_get hj; rw [List.getElem?_eq_getElem hj] at this; exact (Option.some.inj this).symm
 rw [ei, ej] at hle
 simp only [List.getElem_map]
 rcases Dot.lt_tri l[i].dot l[j].dot with h | h | h
 ·exact h
 ·exfalso
  have := (List.pairwise_iff_getElem.1 hn) i j (by simpa using hi) (by simpa using hj) hij
  simp only [List.getElem_map] at this
  exact this h
 ·exfalso
  have h2 : l[j].dot.lt l[i].dot = false := hle
  rw [h2] at h; cases h
theorem Items_okN (h : SetF F s p x) (o : OOk x B) (hB : B ≤ 1000) : ACalls Try.prog F_orset_Set_Items [.ptr (some (p, 0))] s fun v s' => ∃ I, Items x I ∧ SI.ArrN s s' v I := by
 obtain ⟨hb1, hb2⟩ := h.bnd o
 refine q_orset_Set_Items _ _ _ ?_
 refine ACalls.use (there_ok h) ?_
 rintro v s2 ⟨rfl, rfl⟩ w2
 obtain ⟨_, _, _, pc, lm, tm, a, _, _, _, _, _, ⟨es, c, hm, hg, hl⟩, _⟩ := id h
 refine ⟨_, rfl, bsplit.no rfl ⟨fun vs s' => ∃ (v : AV) (done : List (Dot × Key × Nat)), vs = [v] ∧ WFs s' ∧ GroN itemC 5 [] s2 s' v (done.map liveE) ∧ (∀ e ∈ es, e ∈ done) ∧ (∀ e ∈ done, e ∈ es) ∧ done.Nodup, ?_, _, by rw [a.at.rd1]; rfl, MpAt.range u_m_Dot_Key w2 hm fun it s19 hit F19 => ⟨fun m vs s' => ∃ (v : AV) (done : List (Dot × Key × Nat)), vs = [v] ∧ m = es.length - done.length ∧ WFs s' ∧ MpAt dK kV s' lm es c false ∧ Iter s' it lm es c done ∧ GroN itemC 5 [it] s19 s' v (done.map liveE), es.length, ⟨_, [], rfl, by simp, F19.wf, hm.ext F19.ext, hit, GroN.nil⟩, ?_⟩⟩⟩
 ·rintro v5 s6 ⟨v', done, hv, w6, g6, d1, d2, d3⟩
  obtain rfl : v5 = v' := by simpa using hv
  have e6 := g6.chg.ext
  refine ACalls.use (Tombs_ok (h.ext e6) (by omega)) ?_
  rintro v7 s8 ⟨t, hA, tris, tmem, tlen⟩ w8
  refine ACalls.use (gone_ok hA.dots (by omega)) ?_
  rintro v9 s10 g10 w10
  have e10 := hA.1.trans g10.chg.ext
  have hdl : done.length = es.length := by
   have hes2 : es.Nodup := hm.nd.imp fun {a b} h e => h (by rw [e])
   exact ((List.perm_ext_iff_of_nodup d3 hes2).2 fun a => ⟨d2 a, d1 a⟩).length_eq
  refine GroN.appendS sl_s_Item itemC_len itemC_one w10 (g6.step e10) (by simp) (g10.sl itemC_len) (by simp; omega) u_s_Item fun v11 s12 g12 w12 _ => ?_
  refine ACalls.use (SI.sortGro_ok g12 (by simp; omega)) ?_
  rintro r s14 ⟨rfl, l', hp, hs, hA2⟩ w14
  refine ⟨rfl, l', ?_, hA2⟩
  have hlive : ∀ i : Itm, i ∈ done.map liveE ↔ i.gone = false ∧ x.live i.dot = some i.key := by
   intro i
   rw [List.mem_map]
   constructor
   ·rintro ⟨e, he, rfl⟩
    exact ⟨rfl, by rw [← hg]; exact mget_mem hm.nd (d2 e he)⟩
   ·rintro ⟨h1, h2⟩
    rw [← hg] at h2
    obtain ⟨j, n, hj⟩ := mget_some h2
    refine ⟨_, d1 _ (List.mem_of_getElem? hj), ?_⟩
    cases i
    simp only at h1
    simp [liveE, h1]
  have hgone : ∀ i : Itm, i ∈ t.map goneI ↔ i.gone = true ∧ x.tomb i.dot = true ∧ i.key = ⟨[], []⟩ := by
   intro i
   rw [List.mem_map]
   constructor
   ·rintro ⟨d, hd, rfl⟩
    exact ⟨rfl, (tmem d).1 hd, rfl⟩
   ·rintro ⟨h1, h2, h3⟩
    refine ⟨i.dot, (tmem _).2 h2, ?_⟩
    cases i
    simp only at h1 h3
    simp [goneI, h1, h3]
  have hnd : ((done.map liveE ++ t.map goneI).map Itm.dot).Nodup := by
   rw [List.map_append, List.map_map, List.map_map]
   refine List.nodup_append.2 ⟨?_, ?_, ?_⟩
   ·refine List.pairwise_map.2 (List.Pairwise.imp_of_mem ?_ d3)
    intro u w hu hw huw he
    have h1 := mget_mem hm.nd (d2 u hu)
    have h2 := mget_mem hm.nd (d2 w hw)
    have key : ∀ (l : List (Dot × Key × Nat)), l.Pairwise (fun a b => a.1 ≠ b.1) → u ∈ l → w ∈ l → u = w := by
     intro l
     induction l with
     | nil => intro _ h; cases h
     | cons z l ih =>
      intro hp h4 h5
      obtain ⟨p1, p2⟩ := List.pairwise_cons.1 hp
      rcases List.mem_cons.1 h4 with r4 | h4 <;> rcases List.mem_cons.1 h5 with r5 | h5
      ·rw [r4, r5]
      ·exact absurd (by rw [← r4]; exact he) (p1 w h5)
      ·exact absurd (by rw [← r5]; exact he.symm) (p1 u h4)
      ·exact ih p2 h4 h5
    exact huw (key es hm.nd (d2 u hu) (d2 w hw))
   ·have : t.map (Itm.dot ∘ goneI) = t := by
     conv => rhs; rw [← List.map_id t]
     rfl
    rw [this]; exact rising_nodup tris
   ·intro u hu w hw
    rw [List.mem_map] at hu hw
    obtain ⟨e, he, rfl⟩ := hu
    obtain ⟨d, hd, rfl⟩ := hw
    intro heq
    have h1 : x.live e.1 = some e.2.1 := by rw [← hg]; exact mget_mem hm.nd (d2 e he)
    have h2 := (o.tb d ((tmem d).1 hd)).2
    have : e.1 = d := heq
    rw [this, h2] at h1; cases h1
  refine ⟨srt_rising hs ((hp.map Itm.dot).nodup_iff.2 hnd), fun i => ?_⟩
  rw [hp.mem_iff, List.mem_append, hlive, hgone]
  unfold OSet.item
  cases i.gone <;> simp
 ·rintro m v s24 ⟨v', done, hv, rfl, w24, hm24, hit24, g24⟩
  obtain rfl : v = v' := by simpa using hv
  have hitx : s24.h it ≠ none := by rw [hit24.at]; simp
  refine ⟨fun vs s' => (vs = [.bool false] ∧ s' = s24 ∧ ∀ e ∈ es, e ∈ done) ∨ (vs = [.bool true] ∧ ∃ e, e ∈ es ∧ e ∉ done ∧ WFs s' ∧ MpAt dK kV s' lm es c false ∧ Iter s' it lm es c (done ++ [e]) ∧ GroN itemC 5 [it] s19 s' v (done.map liveE)), ?_, ?_⟩
  rotate_left
  ·refine Iter.next w24 hm24 hit24 (fun hall => .inl ⟨rfl, rfl, hall⟩) fun e s' he hne hit' w' m' => .inr ⟨rfl, e, he, hne, w', hm24.mut m' ?_, hit', g24.wr ?_ m'⟩
   ·simp only [List.mem_singleton]
    rintro rfl
    have := hm24.obj
    rw [hit24.at] at this; cases this
   ·intro y hy
    obtain rfl := List.mem_singleton.1 hy
    rw [hit.at]; simp
  rintro b s27 (⟨hb, rfl, hall⟩ | ⟨hb, e, he, hne, w27, hm27, hit27, g27⟩)
  ·obtain rfl : b = false := by simpa using hb
   refine bsplit.no rfl ⟨v, done, rfl, w24, ⟨g24.gro, ?_, fun la hla => F19.ext.none (g24.new la hla)⟩, hall, hit24.sub, hit24.nd⟩
   exact (Ext.wr F19.ext F19.no g24.chg).mut
  ·obtain rfl : b = true := by simpa using hb
   have hlt := hit24.lt he hne
   refine bsplit.yes rfl (Iter.entry hm27 hit27 ⟨dotC e.1, rfl, keyC e.2.1, rfl, NewQ.intro w27 rfl fun l32 s33 F33 => NewQ.intro F33.wf rfl fun l34 s35 F35 => ⟨⟨by simp [dotC], rfl⟩, ?_⟩⟩)
   have hne34 : l32 ≠ l34 := by
    rintro rfl
    have := F35.no
    rw [F33.at] at this; cases this
   refine StQ.own F35.wf (F33.own.ext F35.ext) (by simp [dotC]) fun s36 P36 => ⟨⟨by simp [keyC], rfl⟩, StQ.own P36.wf (F35.own.mut P36.mut (by simpa using hne34.symm)) (by simp [keyC]) fun s37 P37 => ?_⟩
   have e35 : Ext s27 s35 := F33.ext.trans F35.ext
   have e37 : Ext s27 s37 := Ext.wr (Ext.wr e35 F33.no P36.mut) (F33.ext.none F35.no) P37.mut
   have o32 : Am.Own s37 l32 (dotC e.1) := by
    have := P36.at
    rw [wrs_all0 (by simp [dotC])] at this
    exact Am.Own.mut this P37.mut (by simpa using hne34)
   have o34 : Am.Own s37 l34 (keyC e.2.1) := by
    have := P37.at
    rw [wrs_all0 (by simp [keyC])] at this
    exact this
   have hit37 := hit27.ext e37
   refine ⟨_, o32.at.rdc (by simp [dotC]), _, o34.at.rdc (by simp [keyC]), _, build_item e.1 e.2.1, GroN.append1 sl_s_Item itemC_len itemC_one P37.wf (g27.step e37) (fun y hy => ?_) (liveE e) (by simp; omega) fun v44 s45 g45 w45 m45 => ?_⟩
   ·obtain rfl := List.mem_singleton.1 hy
    rw [hit37.at]; simp
   ·have hnit : it ∉ labOf v := fun hx => by
     have := g24.new it hx
     rw [hit.at] at this; cases this
    have hnlm : lm ∉ labOf v := fun hx => by
     have := g24.new lm hx
     rw [(hm.ext F19.ext).obj] at this; cases this
    refine ⟨es.length - (done ++ [e]).length, by simp; omega, v44, done ++ [e], rfl, rfl, w45, (hm27.ext e37).mut m45 hnlm, hit37.mut m45 hnit, ?_⟩
    rw [List.map_append]
    exact g45
end
/-! ### the reference's live items and keys -/
section
variable {F : List Nat} {s : AS} {q : Nat} {x : OSet} {B : Nat}
def liveI (I : List Itm) : List Itm := I.filter fun i => !i.gone
theorem liveI_mem {I : List Itm} (h : Items x I) (i : Itm) : i ∈ liveI I ↔ i.gone = false ∧ x.live i.dot = some i.key := by
 unfold liveI
 rw [List.mem_filter, h.mem]
 unfold OSet.item
 cases i.gone <;> simp
end
end Go.Proofs.Ytoklmpkpeanloaa
end

section
set_option maxRecDepth 100000
set_option maxHeartbeats 4000000
namespace Go.Proofs.Ytoklmpkpeanloaa
open Go.Am
end Go.Proofs.Ytoklmpkpeanloaa
end

section
namespace Go.Proofs.Ytoklmpkpeanloaa
open Go.Am Go.Minster Go.Minster2
section
variable {s0 s s' : AS} {p q : Nat} {x y : OSet} {B : Nat}
end
end Go.Proofs.Ytoklmpkpeanloaa
end

section
namespace Go.Proofs.Ytoklmpkpeanloaa
open Go.Am Go.Minster Go.Minster2 Go.ChangeShapes Go.WideShapes Go.ChangeAt Go.RowKit
end Go.Proofs.Ytoklmpkpeanloaa
end

section
namespace Go.Proofs.Ytoklmpkpeanloaa
open Go.Am Go.Minster Go.Minster2 Go.ChangeShapes Go.WideShapes Go.ChangeAt Go.RowKit
end Go.Proofs.Ytoklmpkpeanloaa
end

section
namespace Go.Proofs.Ytoklmpkpeanloaa
open Go.Am Go.Minster Go.Minster2
section
variable {s0 s : AS} {p q : Nat} {x : OSet} {B : Nat} {F G : List Nat}
end
end Go.Proofs.Ytoklmpkpeanloaa
end

section
namespace Go.Am
def AS.less (s : AS) (L : List Nat) : AS := L.foldl AS.kill s
theorem AS.less_h (s : AS) (L : List Nat) (x : Nat) : (s.less L).h x = if x ∈ L then none else s.h x := by
 unfold AS.less
 induction L generalizing s with
 | nil => simp
 | cons a L ih =>
  rw [List.foldl_cons, ih, AS.kill_h]
  by_cases h1 : x ∈ L
  ·simp [h1]
  ·by_cases h2 : x = a <;> simp [h1, h2]
theorem AS.less_nl (s : AS) (L : List Nat) : (s.less L).nl = s.nl := by
 unfold AS.less
 induction L generalizing s with
 | nil => rfl
 | cons a L ih => rw [List.foldl_cons, ih, AS.kill_nl]
theorem AS.less_ext (s : AS) (L : List Nat) : Ext (s.less L) s := ⟨(fun l o h => by rw [AS.less_h] at h; split at h <;> first | exact h | cases h), by rw [AS.less_nl]; exact Nat.le_refl _⟩
theorem AS.less_mut (s : AS) (L : List Nat) : Mut L s (s.less L) := ⟨fun l o hl h => by rw [AS.less_h, if_neg hl]; exact h, by rw [AS.less_nl]; exact Nat.le_refl _⟩
theorem AS.less_of {s0 s : AS} {L : List Nat} (e : Ext s0 s) (hL : ∀ x ∈ L, s0.h x = none) : Ext s0 (s.less L) :=
 ⟨fun l o h => by rw [AS.less_h, if_neg (fun hm => by rw [hL l hm] at h; cases h)]; exact e.1 l o h, by rw [AS.less_nl]; exact e.2⟩
end Go.Am
namespace Go.Proofs.Ytoklmpkpeanloaa
open Go.Am Go.Minster Go.Minster2
section
variable {s0 s s' : AS} {p q : Nat} {x y : OSet} {B : Nat}
end
end Go.Proofs.Ytoklmpkpeanloaa
end

section
namespace Go.Proofs.Ytoklmpkpeanloaa
open Go.Am Go.Minster Go.Minster2
end Go.Proofs.Ytoklmpkpeanloaa
end

section
set_option maxRecDepth 100000
set_option maxHeartbeats 4000000
namespace Go.Proofs.Ytoklmpkpeanloaa
open Go.Am
end Go.Proofs.Ytoklmpkpeanloaa
end

section
namespace Go.Proofs.Ytoklmpkpeanloaa
open Go.Am Go.Minster Go.Minster2
/-! ### plainly -/
theorem has_may {x : OSet} {d : Dot} (h : x.has d = true) : d.may = true := (hasD_iff.1 h).1
/-! ### at a set -/
section
variable {s0 s : AS} {F : List Nat} {p : Nat} {x : OSet} {B : Nat}
end
end Go.Proofs.Ytoklmpkpeanloaa
end

section
namespace Go.Proofs.Ytoklmpkpeanloaa
open Go.Am Go.Minster Go.Minster2
/-! ### plainly -/
def Good (v : List Int) (ex : List Dot) (L : List Itm) : Prop := (∀ j ∈ L, j.may = true ∧ hasD v ex j.dot = true) ∧ (L.map Itm.dot).Nodup
structure OfP (v : List Int) (ex : List Dot) (L : List Itm) (x : OSet) : Prop where
 v : x.v = v
 ex : x.ex = ex
 live : ∀ d k, x.live d = some k ↔ (⟨d, k, false⟩ : Itm) ∈ L
 tomb : ∀ d, x.tomb d = true ↔ goneI d ∈ L
 cnt : x.nl + x.nt = L.length
def OSet.put (x : OSet) (j : Itm) : OSet :=
 if j.gone then { x with tomb := fun d => x.tomb d || decide (d = j.dot), nt := if x.tomb j.dot then x.nt else x.nt + 1 }
 else { x with live := fun d => if d = j.dot then some j.key else x.live d, nl := if (x.live j.dot).isSome then x.nl else x.nl + 1 }
theorem may_gone {j : Itm} (h : j.may = true) (hg : j.gone = true) : j = goneI j.dot := by
 cases j
 simp only [Itm.may] at h hg
 subst hg
 simp at h
 simp [goneI, h.2]
theorem may_live {j : Itm} (h : j.may = true) (hg : j.gone = false) : j.dot.may = true ∧ j.key.may = true := by
 cases j
 simp only [Itm.may] at h hg
 subst hg
 simpa using h
theorem nodup_one : ∀ {L : List Itm}, (L.map Itm.dot).Nodup → ∀ {i j : Itm}, i ∈ L → j ∈ L → i.dot = j.dot → i = j
 | [], _, _, _, h, _, _ => by cases h
 | a :: L, hn, i, j, h1, h2, e => by
  obtain ⟨p1, p2⟩ := List.nodup_cons.1 (by simpa using hn : (a.dot :: L.map Itm.dot).Nodup)
  rcases List.mem_cons.1 h1 with e1 | r1 <;> rcases List.mem_cons.1 h2 with e2 | r2
  ·rw [e1, e2]
  ·exact absurd (List.mem_map.2 ⟨j, r2, by rw [← e, e1]⟩) p1
  ·exact absurd (List.mem_map.2 ⟨i, r1, by rw [e, e2]⟩) p1
  ·exact nodup_one p2 r1 r2 e
section
variable {v : List Int} {ex : List Dot} {L : List Itm} {x : OSet}
theorem OfP.zero (v : List Int) (ex : List Dot) : OfP v ex [] ⟨v, ex, fun _ => none, fun _ => false, 0, 0⟩ := ⟨rfl, rfl, fun d k => by simp, fun d => by simp, rfl⟩
theorem Good.nil (v : List Int) (ex : List Dot) : Good v ex [] := ⟨by simp, by simp⟩
theorem OfP.dup (h : OfP v ex L x) (g : Good v ex L) (d : Dot) : ((x.live d).isSome || x.tomb d) = true ↔ d ∈ L.map Itm.dot := by
 rw [Bool.or_eq_true, Option.isSome_iff_exists, h.tomb, List.mem_map]
 constructor
 ·rintro (⟨k, hk⟩ | hk)
  ·exact ⟨_, (h.live d k).1 hk, rfl⟩
  ·exact ⟨_, hk, rfl⟩
 ·rintro ⟨j, hj, rfl⟩
  cases hg : j.gone with
  | true => exact .inr (by rw [← may_gone (g.1 j hj).1 hg]; exact hj)
  | false =>
   refine .inl ⟨j.key, (h.live _ _).2 ?_⟩
   cases j
   simp only at hg
   subst hg
   exact hj
theorem Good.snoc {j : Itm} : Good v ex (L ++ [j]) ↔ Good v ex L ∧ j.may = true ∧ hasD v ex j.dot = true ∧ j.dot ∉ L.map Itm.dot := by
 unfold Good
 rw [List.map_append, List.nodup_append]
 constructor
 ·rintro ⟨h1, h2, _, h3⟩
  exact ⟨⟨fun i hi => h1 i (by simp [hi]), h2⟩, (h1 j (by simp)).1, (h1 j (by simp)).2, fun hm => h3 _ hm j.dot (by simp) rfl⟩
 ·rintro ⟨⟨h1, h2⟩, h3, h4, h5⟩
  refine ⟨fun i hi => ?_, h2, by simp, fun a ha b hb => ?_⟩
  ·rcases List.mem_append.1 hi with hi | hi
   ·exact h1 i hi
   ·obtain rfl := List.mem_singleton.1 hi; exact ⟨h3, h4⟩
  ·obtain rfl : b = j.dot := by simpa using hb
   rintro rfl
   exact h5 ha
theorem OfP.put (h : OfP v ex L x) {j : Itm} (g : Good v ex (L ++ [j])) : OfP v ex (L ++ [j]) (x.put j) := by
 obtain ⟨g0, g1, g2, g3⟩ := Good.snoc.1 g
 have hd : ¬ ((x.live j.dot).isSome || x.tomb j.dot) = true := fun hc => g3 ((h.dup g0 j.dot).1 hc)
 rw [Bool.or_eq_true, not_or] at hd
 have hl : x.live j.dot = none := by cases hx : x.live j.dot <;> simp [hx] at hd; rfl
 have ht : x.tomb j.dot = false := by simpa using hd.2
 have hcnt := h.cnt
 cases hg : j.gone with
 | true =>
  have hj := may_gone g1 hg
  have e : x.put j = { x with tomb := fun d => x.tomb d || decide (d = j.dot), nt := if x.tomb j.dot then x.nt else x.nt + 1 } := by unfold OSet.put; rw [if_pos hg]
  rw [e]
  refine ⟨h.v, h.ex, fun d k => ?_, fun d => ?_, ?_⟩
  ·simp only [h.live, List.mem_append, List.mem_singleton]
   refine ⟨.inl, fun h => h.resolve_right fun he => ?_⟩
   rw [← he] at hg; cases hg
  ·simp only [Bool.or_eq_true, decide_eq_true_eq, h.tomb, List.mem_append, List.mem_singleton]
   refine or_congr Iff.rfl ⟨?_, ?_⟩
   ·rintro rfl; exact hj.symm
   ·intro he; rw [← he]; rfl
  ·simp only [ht, List.length_append, List.length_singleton]
   simp; omega
 | false =>
  have e : x.put j = { x with live := fun d => if d = j.dot then some j.key else x.live d, nl := if (x.live j.dot).isSome then x.nl else x.nl + 1 } := by unfold OSet.put; rw [if_neg (by rw [hg]; simp)]
  rw [e]
  refine ⟨h.v, h.ex, fun d k => ?_, fun d => ?_, ?_⟩
  ·simp only [List.mem_append, List.mem_singleton]
   by_cases e : d = j.dot
   ·subst e
    simp only [if_true, Option.some.injEq]
    constructor
    ·rintro rfl
     exact .inr (by cases j; simp only at hg; subst hg; rfl)
    ·rintro (hm | hm)
     ·exact absurd (List.mem_map.2 ⟨_, hm, rfl⟩) g3
     ·rw [← hm]
   ·rw [if_neg e, h.live]
    refine ⟨.inl, fun h => h.resolve_right fun he => e (by rw [← he])⟩
  ·simp only [h.tomb, List.mem_append, List.mem_singleton]
   refine ⟨.inl, fun h => h.resolve_right fun he => ?_⟩
   rw [← he] at hg; cases hg
  ·simp only [hl, List.length_append, List.length_singleton]
   simp; omega
theorem OfP.item (h : OfP v ex L x) (g : Good v ex L) (i : Itm) : x.item i ↔ i ∈ L := by
 unfold OSet.item
 cases hg : i.gone with
 | true =>
  simp only [h.tomb]
  constructor
  ·rintro ⟨h1, h2⟩
   have : i = goneI i.dot := by cases i; simp only at hg h2; subst hg h2; rfl
   rw [this]; exact h1
  ·intro hi
   have := may_gone (g.1 i hi).1 hg
   rw [this] at hi
   exact ⟨hi, by rw [this]; rfl⟩
 | false =>
  simp only [h.live]
  have : (⟨i.dot, i.key, false⟩ : Itm) = i := by cases i; simp only at hg; subst hg; rfl
  rw [this]
theorem OfP.ok (h : OfP v ex L x) (g : Good v ex L) (ok : COk v ex) (gap : Gap v ex) {B : Nat} (sz : ∃ U : List Dot, U.length ≤ B ∧ ∀ d, (d ∈ ex ∨ d ∈ L.map Itm.dot) → d ∈ U) : OOk x B := by
 have one := fun i hi j hj => nodup_one g.2 (i := i) (j := j) hi hj
 refine ⟨by rw [h.v, h.ex]; exact ok, by rw [h.v, h.ex]; exact gap, fun d k hd => ?_, fun d hd => ?_, ?_⟩
 ·have hm := (h.live d k).1 hd
  obtain ⟨g1, g2⟩ := g.1 _ hm
  exact ⟨by unfold OSet.has; rw [h.v, h.ex]; exact g2, (may_live g1 rfl).2⟩
 ·have hm := (h.tomb d).1 hd
  obtain ⟨g1, g2⟩ := g.1 _ hm
  refine ⟨by unfold OSet.has; rw [h.v, h.ex]; exact g2, ?_⟩
  cases hx : x.live d with
  | none => rfl
  | some k =>
   have := one _ hm _ ((h.live d k).1 hx) rfl
   simp [goneI] at this
 ·obtain ⟨U, h1, h2⟩ := sz
  refine ⟨U, h1, fun d hd => h2 d ?_⟩
  rcases hd with hd | hd | hd
  ·rw [h.ex] at hd; exact .inl hd
  ·obtain ⟨k, hk⟩ := Option.isSome_iff_exists.1 hd
   exact .inr (List.mem_map.2 ⟨_, (h.live d k).1 hk, rfl⟩)
  ·exact .inr (List.mem_map.2 ⟨_, (h.tomb d).1 hd, rfl⟩)
end
/-! ### in memory -/
set_option maxRecDepth 100000 in
set_option maxHeartbeats 1000000 in
theorem Of_ok {s : AS} {pc : Nat} {v : List Int} {ex : List Dot} {a : AV} {l : List Itm} (h : CtxAt s pc v ex) (ok : COk v ex) (gap : Gap v ex) (hex : ex.length ≤ 4096) (hl : Sl itemC 5 s a l) (hn : l.length ≤ 1000) :
  ACalls Try.prog F_orset_Of [.ptr (some (pc, 0)), a] s fun r s' => Ext s s' ∧ ((¬ Good v ex l ∧ r = .tup [.ptr none, .int .i64 2]) ∨
   (Good v ex l ∧ ∃ p F x, r = .tup [.ptr (some (p, 0)), .int .i64 0] ∧ OfP v ex l x ∧ SetF F s' p x ∧ (∀ y ∈ F, s.h y = none) ∧ ∀ y ∈ F, s'.h y ≠ none)) := by
 refine q_orset_Of _ _ _ _ ?_
 refine ACalls.use (ctx_Copy_G h (by omega)) ?_
 rintro v1 s2 ⟨q, rfl, hq, hG, e2⟩ w2
 refine ⟨_, rfl, _, aeqPtrNil u_p_ctx_Ctx _, bsplit.no rfl (NewQ.intro w2 rfl fun lm s6 F6 => NewQ.intro F6.wf rfl fun tm s8 F8 => ⟨_, set_build _ _ _, rfl, NewQ.intro F8.wf rfl fun p s11 F11 => ?_⟩)⟩
 obtain ⟨Fc, hcF, hFn, hFt⟩ := hG.toF hq
 have e11 := F6.ext.trans (F8.ext.trans F11.ext)
 have E11 := e2.trans e11
 have hlm : s11.h lm = some (.map [] 0 false) := (F8.ext.trans F11.ext).1 _ _ F6.at
 have htm : s11.h tm = some (.map [] 0 false) := F11.ext.1 _ _ F8.at
 have hne : lm ≠ tm := by
  rintro rfl
  have := F8.no
  rw [F6.at] at this; cases this
 have a11 : Am.Own s11 p [.ptr (some (q, 0)), .map (some lm), .map (some tm)] := F11.own
 have hpl : p ≠ lm := by rintro rfl; rw [a11] at hlm; cases hlm
 have hpt : p ≠ tm := by rintro rfl; rw [a11] at htm; cases htm
 have hcm : ∀ y ∈ [lm, tm], y ∉ Fc := by
  intro y hy hf
  rcases List.mem_cons.1 hy with rfl | hy
  ·exact hFt _ hf F6.no
  ·obtain rfl := List.mem_singleton.1 hy; exact hFt _ hf (F6.ext.none F8.no)
 have hc11 : CtxF Fc s11 q v ex := hcF.mut (L := []) e11.mut (by simp)
 have mnew : ∀ z ∈ [lm, tm], s.h z = none := by
  intro z hz
  rcases List.mem_cons.1 hz with rfl | hz
  ·exact e2.none F6.no
  ·obtain rfl := List.mem_singleton.1 hz; exact e2.none (F6.ext.none F8.no)
 have bad : ∀ {i : Nat} {j : Itm}, l[i]? = some j → ¬ Good v ex (l.take (i + 1)) → ¬ Good v ex l := by
  intro i j hj hb hg
  refine hb ⟨fun y hy => hg.1 y (List.mem_of_mem_take hy), ?_⟩
  rw [List.map_take]
  exact hg.2.sublist (List.take_sublist _ _)
 refine ⟨fun vs s' => vs = [] ∧ ∃ x, WFs s' ∧ Mut [lm, tm] s11 s' ∧ LiveAt s' lm x.live x.nl ∧ TombAt s' tm x.tomb x.nt ∧ OfP v ex l x ∧ Good v ex l, ?_, _, hl.lenB u_s_Item _, fun m vs s' => ∃ (i : Nat) (x : OSet), vs = [.int .i64 (i : Nat)] ∧ i ≤ l.length ∧ m = l.length - i ∧ WFs s' ∧ Mut [lm, tm] s11 s' ∧ LiveAt s' lm x.live x.nl ∧ TombAt s' tm x.tomb x.nt ∧ OfP v ex (l.take i) x ∧ Good v ex (l.take i), l.length,
  ⟨0, ⟨v, ex, fun _ => none, fun _ => false, 0, 0⟩, rfl, by omega, rfl, F11.wf, Mut.refl _ _, ⟨[], 0, MpAt.new hlm, fun d => rfl, rfl⟩, ⟨[], 0, MpAt.new htm, fun d => rfl, rfl⟩, OfP.zero v ex, Good.nil v ex⟩, ?_⟩
 ·rintro s13 ⟨_, x, w13, m13, hlv, htb, P, G⟩
  have a13 := a11.mut m13 (by simp [hpl, hpt])
  have hcnt := P.cnt
  refine ⟨fun vs s' => vs = [.bool false] ∧ s' = s13, ?_, some lm, by rw [a13.at.rd1]; rfl, _, hlv.lenB, bsplit.dec (fun hc => absurd hc (by omega)) (fun _ => ⟨_, hl.lenB u_s_Item _, by simp; omega, rfl⟩)⟩
  rintro b s16 ⟨hb, rfl⟩
  obtain rfl : b = false := by simpa using hb
  refine bsplit.no rfl ⟨Ext.wrL E11 mnew m13, .inr ⟨G, p, p :: lm :: tm :: Fc, x, rfl, P, ⟨by rw [P.v, P.ex]; exact ok, by rw [P.v, P.ex]; exact gap, by rw [P.ex]; exact hex, q, lm, tm, a13, by simp, ?_, by simp, by simp, hne, hlv, htb⟩, ?_, ?_⟩⟩
  ·rw [P.v, P.ex]
   exact (hc11.mut m13 hcm).sub fun y hy => by simp [hy]
  ·intro y hy
   simp only [List.mem_cons] at hy
   rcases hy with rfl | rfl | rfl | hy
   ·exact e2.none (F6.ext.none (F8.ext.none F11.no))
   ·exact mnew _ (by simp)
   ·exact mnew _ (by simp)
   ·exact hFn y hy
  ·intro y hy
   simp only [List.mem_cons] at hy
   rcases hy with rfl | rfl | rfl | hy
   ·rw [a13]; simp
   ·obtain ⟨es, c, h⟩ := hlv.obj; rw [h]; simp
   ·obtain ⟨es, c, h⟩ := htb.obj; rw [h]; simp
   ·exact there_mut (fun z hz hn => hFt z hz (e11.none hn)) m13 (fun z hz => hcm z hz) y hy
 ·rintro m n s25 ⟨i, x, hin, h6, rfl, w25, m25, hlv, htb, P, G⟩
  simp only [List.cons.injEq, AV.int.injEq, true_and, and_true] at hin
  subst hin
  have E25 : Ext s s25 := Ext.wrL E11 mnew m25
  refine bsplit.dec (fun hlt => ?_) (fun hge => ?_)
  rotate_left
  ·rw [List.take_of_length_le (by omega)] at P G
   exact ⟨rfl, x, w25, m25, hlv, htb, P, G⟩
  obtain ⟨j, hj⟩ := get_lt (l := l) (i := i) (by omega)
  obtain ⟨la, oa, k8, k9⟩ := hl.ix (by decide) itemC_len u_s_Item z_Item hj
  refine ⟨la, oa, k8 _, _, (k9 _ E25).2, ?_⟩
  refine NewSt w25 rfl rfl rfl fun l29 s31 F31 => ?_
  have o31 : Am.Own s31 l29 (itemC j) := F31.own
  have e31 := F31.ext
  have a31 := (a11.mut m25 (by simp [hpl, hpt])).ext e31
  have hlv31 := hlv.ext e31
  have htb31 := htb.ext e31
  have hf : alookup T Y_m_Dot_Key (.map (some lm)) (.agg (dotC j.dot)) true s31 = some (.tup [.agg (keyC ((x.live j.dot).getD ⟨[], []⟩)), .bool (x.live j.dot).isSome]) := by
   obtain ⟨es, c, hm, hg, _⟩ := hlv31
   have hf := hm.find mp_live j.dot true
   rw [hg] at hf
   refine Eq.trans (show _ = _ from hf) ?_
   cases x.live j.dot <;> rfl
  refine ⟨some lm, by rw [a31.at.rd1]; rfl, _, o31.at.rdc (by simp [itemC]), keyC ((x.live j.dot).getD ⟨[], []⟩), (x.live j.dot).isSome, hf, ?_⟩
  refine NewSt F31.wf rfl rfl rfl fun l36 s38 F38 => ?_
  have o38 := o31.ext F38.ext
  have step := List.take_add_one (l := l) (i := i)
  rw [hj, Option.toList_some] at step
  refine ⟨fun vs s' => ∃ b, vs = [.bool b] ∧ (b = true ↔ ¬ (j.may = true ∧ hasD v ex j.dot = true ∧ ((x.live j.dot).isSome || x.tomb j.dot) = false)) ∧ Ext s38 s' ∧ WFs s', ?_, ?_⟩
  rotate_left
  ·refine ⟨_, o38.at.rdc (by simp [itemC]), ?_⟩
   refine ACalls.use (May_ok j _) ?_
   rintro v52 s53 ⟨rfl, e53⟩ w53
   refine ⟨_, rfl, bsplit.mk (fun hb => ⟨_, rfl, ?_, e53, w53⟩) (fun hb => ?_)⟩
   ·simp only [Bool.not_eq_true'] at hb
    simp [hb]
   simp only [Bool.not_eq_false'] at hb
   refine ⟨_, (o38.ext e53).at.rdc (by simp [itemC]), ?_⟩
   have hc53 : CtxAt s53 q v ex := (hc11.mut m25 hcm).at.ext ((e31.trans F38.ext).trans e53)
   refine ACalls.use (ctx_Has_ok hc53 ok.r (by omega) j.dot) ?_
   rintro v56 s57 ⟨rfl, e57⟩ w57
   have E57 := (F38.ext.trans e53).trans e57
   refine ⟨_, rfl, bsplit.mk (fun hb2 => ⟨_, rfl, ?_, e53.trans e57, w57⟩) (fun hb2 => bsplit.mk (fun hb3 => ⟨_, rfl, ?_, e53.trans e57, w57⟩) (fun hb3 => ?_))⟩
   ·simp only [Bool.not_eq_true'] at hb2
    simp [hb2]
   ·simp [hb3]
   simp only [Bool.not_eq_false'] at hb2
   have hlook : alookup T Y_m_Dot_struct__is_bool__ (.map (some tm)) (.agg (dotC j.dot)) false s57 = some (.agg [.bool (x.tomb j.dot)]) := by
    obtain ⟨es, c, h1, h2, _⟩ := htb31.ext E57
    rw [show (AV.agg (dotC j.dot)) = dK j.dot from rfl, h1.find mp_tombs j.dot false, h2]
    cases x.tomb j.dot <;> rfl
   refine ⟨some tm, by rw [(a31.ext E57).at.rd1]; rfl, _, (o38.ext (e53.trans e57)).at.rdc (by simp [itemC]), _, hlook, _, rfl, _, rfl, ?_, e53.trans e57, w57⟩
   rw [hb, hb2, hb3]
   cases x.tomb j.dot <;> simp
  rintro b s41 ⟨b', hb', hbi, e41, w41⟩
  obtain rfl : b = b' := by simpa using hb'
  have E41 := (e31.trans F38.ext).trans e41
  have a41 := a31.ext (F38.ext.trans e41)
  have o41 := o38.ext e41
  refine bsplit.mk (fun hb => ⟨E25.trans E41, .inl ⟨bad hj ?_, rfl⟩⟩) (fun hb => ?_)
  ·rw [step, Good.snoc]
   rintro ⟨_, g1, g2, g3⟩
   refine hbi.1 hb ⟨g1, g2, ?_⟩
   cases hd : ((x.live j.dot).isSome || x.tomb j.dot) with
   | false => rfl
   | true => exact absurd ((P.dup G j.dot).1 hd) g3
  have hgood : j.may = true ∧ hasD v ex j.dot = true ∧ ((x.live j.dot).isSome || x.tomb j.dot) = false := by
   by_cases hg : j.may = true ∧ hasD v ex j.dot = true ∧ ((x.live j.dot).isSome || x.tomb j.dot) = false
   ·exact hg
   ·rw [hbi.2 hg] at hb; cases hb
  have G' : Good v ex (l.take i ++ [j]) := by
   rw [Good.snoc]
   refine ⟨G, hgood.1, hgood.2.1, fun hm => ?_⟩
   rw [(P.dup G j.dot).2 hm] at hgood
   cases hgood.2.2
  have P' := P.put G'
  have m41 : Mut [lm, tm] s11 s41 := m25.trans E41.mut
  have hl29 : l29 ∉ [lm, tm] := by
   intro hm
   rcases List.mem_cons.1 hm with rfl | hm
   ·obtain ⟨es, c, h⟩ := hlv.obj
    rw [F31.no] at h; cases h
   ·obtain rfl := List.mem_singleton.1 hm
    obtain ⟨es, c, h⟩ := htb.obj
    rw [F31.no] at h; cases h
  have hlv41 := hlv.ext E41
  have htb41 := htb.ext E41
  refine ⟨j.gone, by rw [o41.at.rd1]; rfl, bsplit.mk (fun hg => ?_) (fun hg => ?_)⟩
  ·have e : x.put j = { x with tomb := fun d => x.tomb d || decide (d = j.dot), nt := if x.tomb j.dot then x.nt else x.nt + 1 } := by unfold OSet.put; rw [if_pos hg]
   refine ⟨some tm, by rw [a41.at.rd1]; rfl, _, o41.at.rdc (by simp [itemC]), _, is_build, htb41.upd w41 j.dot fun s46 ht46 w46 m46 => ⟨l.length - (i + 1), by omega, i + 1, x.put j, by rw [wrap_i (by omega)]; rfl, by omega, rfl, w46, m41.trans (m46.mono (by simp)), ?_, ?_, by rw [step]; exact P', by rw [step]; exact G'⟩⟩
   ·rw [e]; exact hlv41.mut m46 (by simpa using hne)
   ·rw [e]; exact ht46
  ·have e : x.put j = { x with live := fun d => if d = j.dot then some j.key else x.live d, nl := if (x.live j.dot).isSome then x.nl else x.nl + 1 } := by unfold OSet.put; rw [if_neg (by rw [hg]; simp)]
   refine ⟨some lm, by rw [a41.at.rd1]; rfl, _, o41.at.rdc (by simp [itemC]), _, o41.at.rdc (by simp [itemC]), ?_⟩
   refine hlv41.upd w41 j.dot j.key fun s50 hl50 w50 m50 => ⟨l.length - (i + 1), by omega, i + 1, x.put j, by rw [wrap_i (by omega)]; rfl, by omega, rfl, w50, m41.trans (m50.mono (by simp)), ?_, ?_, by rw [step]; exact P', by rw [step]; exact G'⟩
   ·rw [e]; exact hl50
   ·rw [e]; exact htb41.mut m50 (by simpa using fun hh => hne hh.symm)
end Go.Proofs.Ytoklmpkpeanloaa
end

section
namespace Go.Proofs.Ytoklmpkpeanloaa
open Go.Am Go.Minster Go.Minster2
end Go.Proofs.Ytoklmpkpeanloaa
end

section
namespace Go.Proofs.Ytoklmpkpeanloaa.SI
open Go.Am Go.Minster Go.Minster2 Go.Minster.SI
theorem ab1 {y i : Nat} (h : i ≤ y) : abound1 y (.int .i64 (i : Nat)) = some i := by
 have : (0 : Int) ≤ (i : Int) ∧ (i : Int) ≤ ((y : Nat) : Int) := by omega
 simp only [abound1, if_pos this, Int.toNat_natCast]
theorem asl_from {a o n c i : Nat} {e : Bool} (h1 : i < n) (h2 : n ≤ c) : aslice T Y_s_Item (.slc (some (a, o)) n c e) (some (.int .i64 (i : Nat))) none none = some (.slc (some (a, o + i * 5)) (n - i) (c - i) e) := by
 have h3 : ¬ c = i := by omega
 cases e <;> simp [aslice, u_s_Item, z_Item, abounds, aopt, ahigh, ab1 (show i ≤ n by omega), h2, h3]
theorem asl_to {a o n c i : Nat} {e : Bool} (h1 : i ≤ c) (h0 : 0 < c) : aslice T Y_s_Item (.slc (some (a, o)) n c e) none (some (.int .i64 (i : Nat))) none = some (.slc (some (a, o)) i c e) := by
 have : ¬ c = 0 := by omega
 cases e <;> simp [aslice, u_s_Item, z_Item, abounds, aopt, ahigh, ab1 h1, this]
theorem clear_ok {s : AS} {lo n c i m : Nat} {e : Bool} {l : List Itm} {rest : List AV} {g : Nat} (hw : WFs s) (hobj : s.h lo = some (.cells (l.flatMap itemC ++ rest) g false)) (hi : i < l.length) (hn : n = l.length - i) (ho : m = i * 5) {K : AS → Prop}
  (hk : ∀ s', (∃ rest', s'.h lo = some (.cells ((l.take i).flatMap itemC ++ rest') g false)) → WFs s' → Mut [lo] s s' → K s') : StQ (aclear T Y_s_Item (.slc (some (lo, m)) n c e) s) K := by
 subst hn; subst ho
 have hne : ¬ l.length - i = 0 := by omega
 have hrl : (rep (l.length - i) [AV.int .i64 0, AV.int .u64 0, AV.str [], AV.str [], AV.bool false]).length = (l.length - i) * 5 := by simp [rep]
 have e1 : aclear T Y_s_Item (.slc (some (lo, i * 5)) (l.length - i) c e) s = awr s lo (i * 5) (rep (l.length - i) [AV.int .i64 0, AV.int .u64 0, AV.str [], AV.str [], AV.bool false]) := by
  simp only [aclear, u_s_Item, if_neg hne, zr_Item, Option.bind_some, acells_agg]
  rfl
 rw [e1]
 refine StQ.awr hw hobj (by rw [hrl, List.length_append, dots_len]; omega) fun s' P => hk s' ⟨rep (l.length - i) [AV.int .i64 0, AV.int .u64 0, AV.str [], AV.str [], AV.bool false] ++ ((l.drop i).flatMap itemC ++ rest).drop (rep (l.length - i) [AV.int .i64 0, AV.int .u64 0, AV.str [], AV.str [], AV.bool false]).length, ?_⟩ P.wf P.mut
 have hsp : l.flatMap itemC ++ rest = (l.take i).flatMap itemC ++ ((l.drop i).flatMap itemC ++ rest) := by
  rw [← List.append_assoc, ← List.flatMap_append, List.take_append_drop]
 rw [P.at, hsp]
 have hl : ((l.take i).flatMap itemC).length = i * 5 := by rw [dots_len, List.length_take]; omega
 rw [← hl, wrs_app _ _ _ (by rw [hrl, List.length_append, dots_len, List.length_drop]; omega), List.append_assoc]
theorem el_of {l : List Itm} {i : Nat} {x : Itm} (h : l[i]? = some x) : el l i = x := by
 have hi : i < l.length := by
  rcases Nat.lt_or_ge i l.length with h1 | h1
  ·exact h1
  ·rw [List.getElem?_eq_none h1] at h; cases h
 have := el_get hi
 rw [h] at this; exact (Option.some.inj this).symm
def Keeps (s0 s : AS) (v : AV) (l : List Itm) : Prop := ∀ s' L, Mut L s s' → (∀ z ∈ L, s0.h z ≠ none) → Sl itemC 5 s' v l
theorem Keeps.sl {s0 s : AS} {v : AV} {l : List Itm} (h : Keeps s0 s v l) : Sl itemC 5 s v l := h s [] (Mut.refl _ _) (by simp)
theorem ArrN.keep2 {s0 s s' : AS} {v : AV} {l : List Itm} {L : List Nat} (h : ArrN s0 s v l) (m : Mut L s s') (hL : ∀ z ∈ L, s0.h z ≠ none) : Sl itemC 5 s' v l := by
 obtain ⟨e, ⟨rfl, a, rfl⟩ | ⟨la, rfl, hA, hn⟩⟩ := h
 ·exact Sl.nil
 ·exact ArrN.dots (s0 := s'.less [la]) ⟨AS.less_ext _ _, .inr ⟨la, rfl, hA.mut m fun hm => hL la hm hn, by rw [AS.less_h, if_pos (by simp)]⟩⟩
section
variable {s0 s : AS} {a : AV} {l : List Itm} {g : FuncId} {cap : List AV} {P : Itm → Bool}
set_option maxRecDepth 100000 in
theorem DeleteFunc_okN (hN : ArrN s0 s a l) (hn : l.length ≤ 2 ^ 30) (hf : ∀ i s', Ext s0 s' → WFs s' → ACalls Try.prog g ([.agg (itemC i)] ++ cap) s' fun v s'' => v = .bool (P i) ∧ Ext s' s'') :
  ACalls Try.prog F_slices_DeleteFunc__s_Item_Item [a, .func g cap] s fun v s' => Ext s0 s' ∧ Keeps s0 s' v (l.filter fun i => !P i) := by
 refine q_slices_DeleteFunc__s_Item_Item _ _ _ _ ?_
 refine ACalls.use (IndexFunc_ok hN.dots (by omega) fun i s' e w => hf i s' (hN.1.trans e) w) ?_
 rintro v1 s2 ⟨e2, n, rfl, hres⟩ w2
 have E2 := hN.1.trans e2
 rcases hres with ⟨rfl, hany⟩ | ⟨k, rfl, hk, ⟨x0, hx0, hp0⟩, hbef⟩
 ·refine ⟨_, rfl, bsplit.yes rfl ⟨E2, ?_⟩⟩
  rw [List.filter_eq_self.2 fun i hi => by rw [List.any_eq_false] at hany; simpa using hany i hi]
  intro s'' L m hL
  exact hN.keep2 (e2.mut.trans m) hL
 obtain ⟨_, ⟨rfl, _⟩ | ⟨la, rfl, hA, hla⟩⟩ := hN
 ·simp at hk
 refine ⟨_, rfl, bsplit.no (by simp) ?_⟩
 have A2 := hA.ext e2
 refine ⟨fun vs s' => ∃ (i : Nat) (l' : List Itm), vs = [.int .i64 (i : Nat)] ∧ i < l.length ∧ WFs s' ∧ Arr s' (.slc (some (la, 0)) l.length l.length false) la l' [] ∧ l'.length = l.length ∧ l'.take i = (l.filter fun i => !P i) ∧ Mut [la] s2 s', ?_,
  fun m vs s' => ∃ (i j : Nat) (l' : List Itm), vs = [.int .i64 (i : Nat), .int .i64 (j : Nat)] ∧ i < j ∧ j ≤ l.length ∧ m = l.length - j ∧ WFs s' ∧ Arr s' (.slc (some (la, 0)) l.length l.length false) la l' [] ∧ l'.length = l.length ∧ l'.take i = ((l.take j).filter fun i => !P i) ∧ l'.drop j = l.drop j ∧ Mut [la] s2 s', l.length - (k + 1),
  ⟨k, k + 1, l, by rw [wrap_i (by omega)]; rfl, by omega, by omega, rfl, w2, A2, rfl, ?_, rfl, Mut.refl _ _⟩, ?_⟩
 ·rintro n5 s6 ⟨i, l', hin, hi, w6, a6, hl', ht, m6⟩
  simp only [List.cons.injEq, AV.int.injEq, true_and, and_true] at hin
  subst hin
  obtain ⟨⟨c, e, _⟩, gg, hobj⟩ := a6
  refine ⟨_, asl_from hi (Nat.le_refl _), clear_ok (i := i) w6 hobj (by omega) (by omega) (by omega) fun s8 hs8 w8 m8 => ⟨_, asl_to (by omega) (by omega), ?_, ?_⟩⟩
  ·exact Ext.wr E2 hla (m6.trans m8)
  ·obtain ⟨rest', h8⟩ := hs8
   rw [← ht]
   intro s'' L m hL
   have hlen : (l'.take i).length = i := by rw [List.length_take]; omega
   have h8' := m.1 _ _ (fun hm => hL la hm hla) h8
   have := SlAt.mk (s := s'') (la := la) (o := 0) (n := (l'.take i).length) (c := l.length) (e := false) (sz := 5) ⟨_, _, h8'⟩ (dots_len (l'.take i)) (by rw [List.drop_zero, ← dots_len (l'.take i), List.take_append_of_le_length (Nat.le_refl _), List.take_length]) (by omega)
   rw [hlen] at this
   show SlAt _ _ _ _ (l'.take i).length
   rw [hlen]; exact this
 ·have hh : l.take (k + 1) = l.take k ++ [x0] := by rw [List.take_add_one, hx0, Option.toList_some]
  rw [hh, List.filter_append, List.filter_eq_self.2 fun i hi => by
   obtain ⟨j, hj, hj2⟩ := List.mem_take_iff_getElem.1 hi
   rw [hbef j i (by omega) (by rw [List.getElem?_eq_getElem (by omega), hj2])]; rfl]
  simp [hp0]
 ·rintro m n13 n14 s15 ⟨i, j, l', hin, hij, hj, rfl, w15, a15, hl', ht, hd, m15⟩
  simp only [List.cons.injEq, AV.int.injEq, true_and, and_true] at hin
  obtain ⟨rfl, rfl⟩ := hin
  have hlen : alenB T Y_s_Item (.slc (some (la, 0)) l.length l.length false) s15 = some (.int .i64 (l.length : Nat)) := by simp [alenB, u_s_Item]
  refine ⟨_, hlen, bsplit.dec (fun hlt => ?_) (fun hge => ?_)⟩
  rotate_left
  ·rw [show l.take j = l from List.take_of_length_le (by omega)] at ht
   exact ⟨i, l', rfl, by omega, w15, a15, hl', ht, m15⟩
  obtain ⟨x, hx⟩ := get_lt (l := l) (i := j) (by omega)
  have hx' : l'[j]? = some x := by
   have h1 := congrArg (fun q => q[0]?) hd
   simp only [List.getElem?_drop, Nat.add_zero] at h1
   rw [h1, hx]
  have step := List.take_add_one (l := l) (i := j)
  rw [hx, Option.toList_some] at step
  have hrd := a15.rd (i := j) (by omega)
  rw [el_of hx'] at hrd
  refine ⟨_, _, a15.ix (by omega), _, hrd, NewSt w15 rfl rfl rfl fun l20 s22 F22 => ⟨_, F22.own.at.rdc (by simp [itemC]), ?_⟩⟩
  have E22 : Ext s0 s22 := (Ext.wr E2 hla m15).trans F22.ext
  refine ACalls.use (hf x s22 E22 F22.wf) ?_
  rintro v24 s25 ⟨rfl, e25⟩ w25
  have a25 := a15.ext (F22.ext.trans e25)
  have m25 : Mut [la] s2 s25 := m15.trans (F22.ext.trans e25).mut
  have hdrop : ∀ q : List Itm, q.drop j = l.drop j → q.drop (j + 1) = l.drop (j + 1) := by
   intro q hq
   have := congrArg (fun u => u.drop 1) hq
   simpa [List.drop_drop, Nat.add_comm] using this
  refine ⟨_, rfl, bsplit.mk (fun hb => ?_) (fun hb => ?_)⟩
  ·refine ⟨_, (F22.own.ext e25).at.rdc (by simp [itemC]), _, _, a25.ix (by omega), a25.wr w25 (by omega) x fun s30 a30 w30 m30 => ?_⟩
   refine ⟨l.length - (j + 1), by omega, i + 1, j + 1, l'.set i x, by rw [wrap_i (by omega), wrap_i (by omega)]; rfl, by omega, by omega, rfl, w30, a30, by rw [List.length_set]; exact hl', ?_, ?_, m25.trans m30⟩
   ·rw [step, List.filter_append, ← ht, List.take_add_one, List.getElem?_set, if_pos rfl, if_pos (by omega), Option.toList_some, List.take_set_of_le (Nat.le_refl _)]
    simp only [Bool.not_eq_true'] at hb
    simp [hb]
   ·rw [List.drop_set_of_lt (by omega)]; exact hdrop _ hd
  ·refine ⟨l.length - (j + 1), by omega, i, j + 1, l', by rw [wrap_i (by omega)]; rfl, by omega, by omega, rfl, w25, a25, hl', ?_, hdrop _ hd, m25⟩
   rw [step, List.filter_append, ← ht]
   simp only [Bool.not_eq_false'] at hb
   simp [hb]
end
end Go.Proofs.Ytoklmpkpeanloaa.SI
end

section
namespace Go.Proofs.Ytoklmpkpeanloaa
open Go.Am Go.Minster Go.Minster2
/-! ### buckets -/
section
variable {F G : List Nat} {s : AS} {p q : Nat} {x : OSet} {B : Nat}
end
/-! ### dests -/
section
variable {F G : List Nat} {s : AS} {p q : Nat} {x : OSet} {B : Nat}
end
end Go.Proofs.Ytoklmpkpeanloaa
end

section
namespace Go.Proofs.Ytoklmpkpeanloaa
open Go.Am Go.Minster Go.Minster2
end Go.Proofs.Ytoklmpkpeanloaa
end

section
namespace Go.Am
section
variable {T : TT} {t el : TypeId} {sz by_ : Nat} (ht : SlTy T t el sz by_)
include ht
end
end Go.Am
namespace Go.Proofs.Ytoklmpkpeanloaa
open Go.Am Go.Minster Go.Minster2
def byC (n : Int) : List AV := [.int .u8 n]
theorem byC_len (n : Int) : (byC n).length = 1 := rfl
theorem byC_one (n : Int) : (byC n).all AV.one = true := rfl
theorem sl_s_uint8 : SlTy T Y_s_uint8 Y_uint8 1 1 := ⟨u_s_uint8, z_uint8, b_uint8, ⟨_, _, zr_uint8, rfl, rfl⟩, by decide, by decide⟩
theorem by_len (l : List Int) : (l.flatMap byC).length = l.length * 1 := flat_len byC_len l
abbrev Byts (s : AS) (v : AV) (l : List Int) : Prop := Sl byC 1 s v l
abbrev BytN (s0 s : AS) (v : AV) (l : List Int) : Prop := GroN byC 1 [] s0 s v l
def BRoom (s : AS) (v : AV) (n : Nat) (l : List Int) (lo : Option Nat) : Prop :=
 match lo with
 | none => v = .slc none 0 0 true ∧ n = 0 ∧ l = []
 | some lo => v = .slc (some (lo, 0)) l.length n false ∧ l.length ≤ n ∧ ∃ rest, s.h lo = some (.cells (l.flatMap byC ++ rest) 1 false) ∧ rest.length = (n - l.length) * 1
theorem BRoom.app {s : AS} {v x : AV} {n : Nat} {l xs : List Int} {lo : Nat} (h : BRoom s v n l (some lo)) (hw : WFs s) (hx : Sl byC 1 s x xs) (hn : l.length + xs.length ≤ n) (hb : n ≤ 2 ^ 30)
  {K : AV → AS → Prop} (hk : ∀ v' s', BRoom s' v' n (l ++ xs) (some lo) → WFs s' → Mut [lo] s s' → K v' s') : Bd2 (aappend T Y_s_uint8 Y_s_uint8 v x s) K := by
 obtain ⟨rfl, hle, rest, hobj, hr⟩ := h
 obtain ⟨hsrc, hlen⟩ := SlAt.src sl_s_uint8 hx
 have e := aappend_core sl_s_uint8 (base := some (lo, 0)) (len := l.length) (cap := n) (ex := false) u_s_uint8 hlen hsrc (by rw [by_len]) (by omega)
 rw [if_pos hn] at e
 by_cases h0 : xs.flatMap byC = []
 ·have hxs : xs = [] := by
   have := congrArg List.length h0
   rw [by_len] at this
   exact List.length_eq_zero_iff.1 (by simp only [List.length_nil] at this; omega)
  subst hxs
  simp only [List.flatMap_nil, if_true] at e
  exact ⟨_, _, e, hk _ _ ⟨by simp, by simpa using hle, rest, by simpa using hobj, by simpa using hr⟩ hw (Mut.refl _ _)⟩
 ·simp only [if_neg h0] at e
  have hP := hw.put hobj (o := .cells (wrs (l.flatMap byC ++ rest) (0 + l.length * 1) (xs.flatMap byC)) 1 false) rfl
  have ea : awr s lo (0 + l.length * 1) (xs.flatMap byC) = some (s.put lo (.cells (wrs (l.flatMap byC ++ rest) (0 + l.length * 1) (xs.flatMap byC)) 1 false)) := by
   simp only [awr, hobj]
   rw [if_pos (by rw [List.length_append, by_len, by_len, hr]; omega)]
  rw [ea] at e
  refine ⟨_, _, e, hk _ _ ⟨by simp, by simpa using hn, rest.drop (xs.flatMap byC).length, ?_, ?_⟩ hP.wf hP.mut⟩
  ·rw [hP.at, Nat.zero_add, ← by_len l, wrs_app _ _ _ (by rw [by_len, hr]; omega), List.flatMap_append]
  ·rw [List.length_drop, by_len, hr, List.length_append]; omega
theorem BRoom.app' {s : AS} {v x : AV} {n : Nat} {l xs : List Int} {lo : Option Nat} (h : BRoom s v n l lo) (hw : WFs s) (hx : Sl byC 1 s x xs) (hn : l.length + xs.length ≤ n) (hb : n ≤ 2 ^ 30)
  {K : AV → AS → Prop} (hk : ∀ v' s', BRoom s' v' n (l ++ xs) lo → WFs s' → Mut lo.toList s s' → K v' s') : Bd2 (aappend T Y_s_uint8 Y_s_uint8 v x s) K := by
 cases lo with
 | some lo => exact BRoom.app h hw hx hn hb hk
 | none =>
  obtain ⟨rfl, rfl, rfl⟩ := h
  obtain rfl : xs = [] := by simpa using hn
  obtain ⟨hsrc, hlen⟩ := SlAt.src sl_s_uint8 hx
  have e := aappend_core sl_s_uint8 (base := none) (len := 0) (cap := 0) (ex := true) u_s_uint8 hlen hsrc (by simp) (by simp)
  simp only [List.length_nil, Nat.le_refl, if_true] at e
  exact ⟨_, _, e, hk _ _ ⟨rfl, rfl, rfl⟩ hw (Mut.refl _ _)⟩
theorem blit_append {s : AS} (hw : WFs s) {l0 : Nat} {i : Int} (h0 : At s l0 (byC i)) {v : AV} {l : List Int} (hl : Byts s v l) (hz : l ≠ []) (hb : l.length ≤ 2 ^ 29) {K : AV → AS → Prop} (hK : ∀ v' s', BytN s s' v' (i :: l) → WFs s' → K v' s') : Bd2 (aappend T Y_s_uint8 Y_s_uint8 (.slc (some (l0, 0)) 1 1 true) v s) K := by
 obtain ⟨hsrc, hlen⟩ := SlAt.src sl_s_uint8 hl
 have e := aappend_core sl_s_uint8 (base := some (l0, 0)) (len := 1) (cap := 1) (ex := true) u_s_uint8 hlen hsrc (by rw [flat_len byC_len]) (by omega)
 have h1 : Sl byC 1 s (.slc (some (l0, 0)) 1 1 true) [i] := SlAt.mk h0 (by simp [byC]) (by simp [byC])
 have hpos : 0 < l.length := List.length_pos_iff.2 hz
 rw [if_neg (by omega)] at e
 have hs1 := (SlAt.src sl_s_uint8 h1).1
 simp only [List.length_cons, List.length_nil, Nat.zero_add] at hs1
 rw [hs1] at e
 simp only [Option.bind_some, if_true] at e
 rw [show 1 + l.length = (i :: l).length by simp; omega] at e
 have Fr := hw.new (o := .cells ([i].flatMap byC ++ l.flatMap byC) 1 false) rfl
 refine ⟨_, _, e, hK _ _ ⟨.inr ⟨s.nl, rfl, ?_⟩, Fr.ext.mut, fun la hla => ?_⟩ Fr.wf⟩
 ·have := Fr.at
  simpa using this
 ·obtain rfl : la = s.nl := by simpa [labOf] using hla
  exact hw.none
def strB (t : List UInt8) : List Int := t.map fun c => (c.toNat : Int)
theorem strB_len (t : List UInt8) : (strB t).length = t.length := by simp [strB]
theorem strB_flat (t : List UInt8) : (strB t).flatMap byC = t.map fun c => AV.int .u8 c.toNat := by
 induction t with
 | nil => rfl
 | cons a t ih => simp only [strB, List.map_cons, List.flatMap_cons, byC] at ih ⊢; rw [ih]; rfl
def toB (l : List Int) : List UInt8 := l.map fun n => UInt8.ofNat n.toNat
theorem abytes_flat (l : List Int) : abytes (l.flatMap byC) = some (toB l) := by
 induction l with
 | nil => rfl
 | cons a l ih =>
  simp only [List.flatMap_cons, byC, List.cons_append, List.nil_append, abytes, ih, toB, List.map_cons, Option.map_some]
theorem conv_str {s : AS} {v : AV} {l : List Int} (h : Byts s v l) (hz : l ≠ []) : (aconvert T Y_s_uint8 Y_string v s).map (·.1) = some (.str (toB l)) := by
 have hp : 0 < l.length := List.length_pos_iff.2 hz
 rcases h with ⟨rfl, h2, h3⟩ | ⟨a, c, e, rfl, ⟨h1, h2⟩, h3⟩
 ·omega
 ·rcases h3 with h3 | ⟨la, o, C, rfl, hC, h3⟩
  ·omega
  ·have hn : o + l.length ≤ C.length := by
    have := congrArg List.length h3
    rw [List.length_take, List.length_drop, h1] at this
    omega
   have hr : rdc s la o l.length = some (l.flatMap byC) := by
    rw [hC.rdc hn, ← h3, Nat.mul_one]
   have hne : ¬ l.length = 0 := by omega
   simp [aconvert, u_s_uint8, u_string, u_uint8, hr, abytes_flat, hz]
theorem toB_inj : ∀ {l l' : List Int}, (∀ n ∈ l, 0 ≤ n ∧ n < 256) → (∀ n ∈ l', 0 ≤ n ∧ n < 256) → toB l = toB l' → l = l'
 | [], [], _, _, _ => rfl
 | [], _ :: _, _, _, h => by simp [toB] at h
 | _ :: _, [], _, _, h => by simp [toB] at h
 | a :: l, b :: l', h1, h2, h => by
  simp only [toB, List.map_cons, List.cons.injEq] at h
  have ha := h1 a (by simp)
  have hb := h2 b (by simp)
  have e : a.toNat = b.toNat := by
   have := congrArg UInt8.toNat h.1
   rw [UInt8.toNat_ofNat_of_lt' (by have : UInt8.size = 256 := rfl; omega), UInt8.toNat_ofNat_of_lt' (by have : UInt8.size = 256 := rfl; omega)] at this
   exact this
  rw [show a = b by omega, toB_inj (fun n hn => h1 n (by simp [hn])) (fun n hn => h2 n (by simp [hn])) h.2]
/-! ### numbers -/
def byteAt (n : Int) (sh : Nat) : Int := IntKind.wrap .u8 (Int.fdiv n (2 ^ min sh (IntKind.bits .u64)))
def bes (n : Int) (k : Nat) : List Int := (List.range k).map fun i => byteAt n (8 * (k - 1 - i))
theorem bes_len (n : Int) (k : Nat) : (bes n k).length = k := by simp [bes]
theorem absl_byte (n : Int) : absl T Y_s_uint8 1 [(0, .int .u8 n)] = some [.int .u8 n] := absl_one sl_s_uint8 rfl rfl
theorem byte_append {M : List Nat} {s0 s : AS} (hw : WFs s) {v : AV} {l : List Int} (h : GroN byC 1 M s0 s v l) (hM : ∀ x ∈ M, s.h x ≠ none) (n : Int) (hb : l.length + 1 ≤ 2 ^ 30) {K : AV → AS → Prop} (hK : ∀ v' s', GroN byC 1 M s0 s' v' (l ++ [n]) → WFs s' → Mut (labOf v) s s' → K v' s') : RdL (absl T Y_s_uint8 1 [(0, .int .u8 n)]) fun g => NewQ (.cells g 0 false) s fun la s1 => Bd2 (aappend T Y_s_uint8 Y_s_uint8 v (.slc (some (la, 0)) 1 1 true) s1) K :=
 GroN.append1s (f := fun n : Int => AV.int .u8 n) sl_s_uint8 rfl (fun _ => rfl) hw h hM n hb hK
theorem byts_append {M : List Nat} {s0 s : AS} (hw : WFs s) {v x : AV} {l xs : List Int} (h : GroN byC 1 M s0 s v l) (hM : ∀ x ∈ M, s.h x ≠ none) (hx : Byts s x xs) (hb : l.length + xs.length ≤ 2 ^ 30) {K : AV → AS → Prop} (hK : ∀ v' s', GroN byC 1 M s0 s' v' (l ++ xs) → WFs s' → Mut (labOf v) s s' → K v' s') : Bd2 (aappend T Y_s_uint8 Y_s_uint8 v x s) K :=
 GroN.appendS sl_s_uint8 byC_len byC_one hw h hM hx hb u_s_uint8 hK
theorem Put_ok (n : Int) (k : Nat) (hk : 1 ≤ k ∧ k ≤ 8) (hn : k < 8 → Int.fdiv n (2 ^ min (8 * k) (IntKind.bits .u64)) = 0) (s : AS) :
  ACalls Try.prog F_wire_Put [.int .u64 n, .int .i64 (k : Nat)] s fun r s' => ∃ v, r = .tup [v, .int .i64 0] ∧ BytN s s' v (bes n k) := by
 refine ACalls.pre fun hw => q_wire_Put _ _ _ _ ⟨fun vs s' => vs = [.bool false] ∧ s' = s, ?_, bsplit.dec (fun h => absurd h (by omega)) (fun _ => bsplit.dec (fun h => absurd h (by omega)) (fun _ => bsplit.dec (fun h => ⟨?_, ?_, rfl⟩) (fun _ => ⟨rfl, rfl⟩)))⟩
 ·rintro b s3 ⟨hb, rfl⟩
  obtain rfl : b = false := by simpa using hb
  refine bsplit.no rfl ⟨fun vs s' => ∃ v, vs = [v] ∧ BytN s3 s' v (bes n k), ?_, fun m vs s' => ∃ (i : Nat) (v : AV), vs = [v, .int .i64 (i : Nat)] ∧ i ≤ k ∧ m = k - i ∧ WFs s' ∧ BytN s3 s' v ((List.range i).map fun j => byteAt n (8 * (k - 1 - j))), k, ⟨0, _, rfl, by omega, rfl, hw, by simpa using GroN.nil⟩, ?_⟩
  ·rintro v5 s6 ⟨v, hv, g⟩
   obtain rfl : v5 = v := by simpa using hv
   exact ⟨_, rfl, g⟩
  ·rintro m v10 n11 s12 ⟨i, v', hin, hi, rfl, w12, g12⟩
   simp only [List.cons.injEq, AV.int.injEq, true_and, and_true] at hin
   obtain ⟨rfl, rfl⟩ := hin
   refine bsplit.dec (fun hlt => ?_) (fun hge => ?_)
   ·have e1 : IntKind.wrap .i64 (8 * (IntKind.wrap .i64 ((IntKind.wrap .i64 ((k : Int) - 1)) - (i : Int)))) = ((8 * (k - 1 - i) : Nat) : Int) := by
     rw [wrap_i (n := (k : Int) - 1) (by omega), wrap_i (n := (k : Int) - 1 - i) (by omega), wrap_i (by omega)]; omega
    rw [e1]
    refine ⟨by omega, ?_⟩
    rw [Int.toNat_natCast]
    refine byte_append w12 g12 (by simp) (byteAt n (8 * (k - 1 - i))) (by simp; omega) fun v' s' g' w' _ => ?_
    refine ⟨k - (i + 1), by omega, i + 1, v', by rw [wrap_i (by omega)]; rfl, by omega, rfl, w', ?_⟩
    rw [List.range_succ, List.map_append]
    exact g'
   ·obtain rfl : i = k := by omega
    exact ⟨v10, rfl, g12⟩
 ·rw [wrap_i (by omega)]; omega
 ·rw [show IntKind.wrap .i64 (8 * (k : Int)) = ((8 * k : Nat) : Int) by rw [wrap_i (by omega)]; omega, Int.toNat_natCast, hn (by omega)]
  rfl
/-! ### dots, texts -/
def dotB (d : Dot) : List Int := IntKind.wrap .u8 d.r :: bes d.c 8
def textB (t : List UInt8) : List Int := bes (t.length : Nat) 2 ++ strB t
theorem dotB_len (d : Dot) : (dotB d).length = 9 := by simp [dotB, bes_len]
theorem textB_len (t : List UInt8) : (textB t).length = 2 + t.length := by simp [textB, bes_len, strB_len]
theorem bes_ne (n : Int) {k : Nat} (hk : 1 ≤ k) : bes n k ≠ [] := fun h => by have := congrArg List.length h; rw [bes_len] at this; simp at this; omega
theorem wireDot_ok (d : Dot) (hd : 0 ≤ d.r ∧ d.r ≤ 255) (s : AS) : ACalls Try.prog F_wire_Dot [.agg (dotC d)] s fun r s' => ∃ v, r = .tup [v, .int .i64 0] ∧ BytN s s' v (dotB d) := by
 refine ACalls.pre fun hw => q_wire_Dot _ _ _ ⟨rfl, NewQ.intro hw rfl fun l1 s2 F2 => ?_⟩
 have c2 := F2.own.at
 refine ⟨fun vs s' => vs = [.bool false] ∧ s' = s2, ?_, d.r, by rw [c2.rd1]; rfl, bsplit.dec (fun h => absurd h (by omega)) (fun _ => ⟨d.r, by rw [c2.rd1]; rfl, by simp; omega, rfl⟩)⟩
 rintro b s5 ⟨hb, rfl⟩
 obtain rfl : b = false := by simpa using hb
 refine bsplit.no rfl ⟨d.c, by rw [c2.rd1]; rfl, ?_⟩
 refine ACalls.use (Put_ok d.c 8 (by omega) (by omega) s5) ?_
 rintro r s8 ⟨v9, rfl, g8⟩ w8
 have e8 := g8.chg.ext
 refine ⟨_, _, rfl, d.r, by rw [(c2.ext e8).rd1]; rfl, _, absl_byte _, NewQ.intro w8 rfl fun l13 s14 F14 => ?_⟩
 refine blit_append F14.wf F14.own.at ((g8.sl byC_len).ext F14.ext) (bes_ne _ (by omega)) (by rw [bes_len]; omega) fun v' s' g' w' => ⟨v', rfl, ?_⟩
 exact ⟨g'.gro, (F2.ext.trans (e8.trans F14.ext)).mut.trans g'.chg, fun la hla => F2.ext.none (e8.none (F14.ext.none (g'.new la hla)))⟩
theorem small_shift {n : Nat} (h : n < 2 ^ 16) : Int.fdiv (n : Int) (2 ^ min (8 * 2) (IntKind.bits .u64)) = 0 := by
 rw [show min (8 * 2) (IntKind.bits .u64) = 16 from rfl]
 rw [Int.fdiv_eq_ediv_of_nonneg _ (by decide)]
 omega
theorem Blob_ok {s : AS} {v : AV} {l : List Int} (h : Byts s v l) (hn : l.length ≤ 65535) : ACalls Try.prog F_wire_Blob [v] s fun r s' => ∃ v, r = .tup [v, .int .i64 0] ∧ BytN s s' v (bes (l.length : Nat) 2 ++ l) := by
 refine ACalls.pre fun hw => q_wire_Blob _ _ _ ⟨_, h.lenB u_s_uint8 _, bsplit.dec (fun hh => absurd hh (by omega)) (fun _ => ⟨_, h.lenB u_s_uint8 _, ?_⟩)⟩
 dsimp only
 rw [wrap_u (by omega)]
 refine ACalls.use (Put_ok _ 2 (by omega) (fun _ => small_shift (by omega)) s) ?_
 rintro r s4 ⟨v5, rfl, g4⟩ w4
 refine ⟨_, _, rfl, ?_⟩
 exact byts_append w4 g4 (by simp) (h.ext g4.chg.ext) (by rw [bes_len]; omega) fun v' s' g' w' _ => ⟨v', rfl, g'⟩
end Go.Proofs.Ytoklmpkpeanloaa
end

section
namespace Go.Proofs.Ytoklmpkpeanloaa
open Go.Am Go.Minster Go.Minster2
theorem Grow_ok (N : Nat) (hN : N ≤ 2 ^ 28) (s : AS) : ACalls Try.prog F_slices_Grow__s_byte_byte [.slc none 0 0 true, .int .i64 (N : Nat)] s fun v s' => ∃ lo, BRoom s' v N [] lo ∧ Ext s s' ∧ ∀ l ∈ lo.toList, s.h l = none := by
 refine ACalls.pre fun hw => q_slices_Grow__s_byte_byte _ _ _ _ (bsplit.dec (fun h => absurd h (by omega)) (fun _ => ?_))
 refine ⟨0, by simp [acapB, u_s_uint8], 0, by simp [alenB, u_s_uint8], ?_⟩
 have e1 : IntKind.wrap .i64 ((N : Int) - (IntKind.wrap .i64 (0 - 0))) = (N : Nat) := by rw [show IntKind.wrap .i64 (0 - 0) = 0 from rfl, wrap_i (by omega)]; omega
 dsimp only
 rw [e1]
 refine bsplit.dec (fun hp => ?_) (fun hz => ?_)
 ·have hpos : 0 < N := by omega
  have ha : aappend T Y_s_uint8 Y_int (.slc none 0 0 true) (.int .i64 (N : Nat)) s = some (.slc (some (s.nl, 0)) N N false, s.new (.cells (rep N [.int .u8 0]) 1 false)) := by
   simp only [aappend, u_s_uint8, u_int, if_true, aappendZ, z_uint8, b_uint8, zr_uint8, Option.bind_some, acells, List.length_cons, List.length_nil, Int.toNat_natCast, Nat.zero_add]
   rw [show (if (AV.int IntKind.u8 0).cells.all AV.one = true then some (AV.int IntKind.u8 0).cells else none) = some [AV.int .u8 0] from rfl, Option.bind_some, if_neg (by simp only [List.length_cons, List.length_nil]; omega)]
   simp [asrc]
  have Fr := hw.new (o := .cells (rep N [.int .u8 0]) 1 false) rfl
  refine ⟨0, by simp [acapB, u_s_uint8], .slc none 0 0 true, by simp [aslice, u_s_uint8, z_uint8, abounds, aopt, ahigh, abound1], _, _, ha, 0, by simp [alenB, u_s_uint8], .slc (some (s.nl, 0)) 0 N false, ?_, some s.nl, ⟨rfl, by simp, rep N [.int .u8 0], by simpa using Fr.at, by simp [rep]⟩, Fr.ext, ?_⟩
  ·have : ¬ N = 0 := by omega
   simp [aslice, u_s_uint8, z_uint8, abounds, aopt, ahigh, abound1, this]
  ·intro l hl
   obtain rfl : l = s.nl := by simpa using hl
   exact hw.none
 ·obtain rfl : N = 0 := by omega
  exact ⟨none, ⟨rfl, rfl, rfl⟩, Ext.refl _, by simp⟩
abbrev prC : AV × List Int → List AV := fun p => [p.1]
theorem prC_len (p : AV × List Int) : (prC p).length = 1 := rfl
def lenS (L : List (AV × List Int)) : Nat := (L.map fun p => p.2.length).sum
theorem lenS_take {L : List (AV × List Int)} {i : Nat} {p : AV × List Int} (h : L[i]? = some p) : lenS (L.take (i + 1)) = lenS (L.take i) + p.2.length := by
 unfold lenS
 rw [List.take_add_one, h, Option.toList_some, List.map_append, List.sum_append]; simp
theorem lenS_le (L : List (AV × List Int)) (i : Nat) : lenS (L.take i) ≤ lenS L := by
 have : lenS L = lenS (L.take i) + lenS (L.drop i) := by
  unfold lenS
  rw [← List.sum_append, ← List.map_append, List.take_append_drop]
 omega
theorem lenS_flat (L : List (AV × List Int)) : (L.flatMap Prod.snd).length = lenS L := by simp [lenS, List.length_flatMap]
theorem Concat_ok {s : AS} {a : AV} {L : List (AV × List Int)} (ha : Sl prC 1 s a L) (hL : ∀ p ∈ L, Byts s p.1 p.2) (hn : L.length ≤ 2 ^ 20) (hb : lenS L ≤ 2 ^ 28) : ACalls Try.prog F_slices_Concat__s_byte_byte [a] s fun v s' => BytN s s' v (L.flatMap Prod.snd) := by
 refine ACalls.pre fun hw => q_slices_Concat__s_byte_byte _ _ _ ⟨fun vs s' => s' = s ∧ vs = [.int .i64 (lenS L : Nat)], ?_, _, ha.lenB u_s__uint8 _, fun m vs s' => ∃ i : Nat, vs = [.int .i64 (lenS (L.take i) : Nat), .int .i64 (i : Nat)] ∧ i ≤ L.length ∧ m = L.length - i ∧ s' = s, L.length, ⟨0, by simp [lenS], by omega, rfl, rfl⟩, ?_⟩
 rotate_left
 ·rintro m n22 n23 s24 ⟨i, hin, hi, rfl, rfl⟩
  simp only [List.cons.injEq, AV.int.injEq, true_and, and_true] at hin
  obtain ⟨rfl, rfl⟩ := hin
  refine bsplit.dec (fun hlt => ?_) (fun hge => ?_)
  ·obtain ⟨p, hp⟩ := get_lt (l := L) (i := i) (by omega)
   obtain ⟨la, o, k8, k9⟩ := ha.ix (by decide) prC_len u_s__uint8 z_s_uint8 hp
   have hs := lenS_take hp
   have hle := lenS_le L (i + 1)
   refine ⟨la, o, k8 _, p.1, (k9 _ (Ext.refl _)).1 0 (by decide), _, (hL p (List.mem_of_getElem? hp)).lenB u_s_uint8 _, ?_⟩
   dsimp only
   rw [wrap_i (n := (lenS (L.take i) : Int) + p.2.length) (by omega)]
   refine bsplit.dec (fun h => absurd h (by omega)) (fun _ => ⟨L.length - (i + 1), by omega, i + 1, ?_, by omega, rfl, rfl⟩)
   rw [wrap_i (by omega), hs]; rfl
  ·rw [List.take_of_length_le (by omega)]
   exact ⟨rfl, rfl⟩
 rintro n2 s3 ⟨rfl, hn2⟩
 obtain rfl : n2 = (lenS L : Nat) := by simpa using hn2
 refine ACalls.use (Grow_ok (lenS L) hb s3) ?_
 rintro v4 s5 ⟨lo, hR, e5, hlo⟩ w5
 refine ⟨_, ha.lenB u_s__uint8 _, fun m vs s' => ∃ (i : Nat) (v : AV), vs = [v, .int .i64 (i : Nat)] ∧ i ≤ L.length ∧ m = L.length - i ∧ WFs s' ∧ Ext s3 s' ∧ BRoom s' v (lenS L) ((L.take i).flatMap Prod.snd) lo, L.length, ⟨0, v4, rfl, by omega, rfl, w5, e5, by simpa using hR⟩, ?_⟩
 rintro m v10 n11 s12 ⟨i, v', hin, hi, rfl, w12, e12, hR12⟩
 simp only [List.cons.injEq, AV.int.injEq, true_and, and_true] at hin
 obtain ⟨rfl, rfl⟩ := hin
 refine bsplit.dec (fun hlt => ?_) (fun hge => ?_)
 ·obtain ⟨p, hp⟩ := get_lt (l := L) (i := i) (by omega)
  obtain ⟨la, o, k8, k9⟩ := ha.ix (by decide) prC_len u_s__uint8 z_s_uint8 hp
  have hs := lenS_take hp
  have hle := lenS_le L (i + 1)
  have step := List.take_add_one (l := L) (i := i)
  rw [hp, Option.toList_some] at step
  refine ⟨la, o, k8 _, p.1, (k9 _ e12).1 0 (by decide), ?_⟩
  refine BRoom.app' hR12 w12 ((hL p (List.mem_of_getElem? hp)).ext e12) (by rw [lenS_flat]; omega) (by omega) fun v' s' hR' w' m' => ?_
  refine ⟨L.length - (i + 1), by omega, i + 1, v', by rw [wrap_i (by omega)]; rfl, by omega, rfl, w', Ext.wrL e12 hlo m', ?_⟩
  rw [step, List.flatMap_append]
  simpa using hR'
 ·rw [List.take_of_length_le (by omega)] at hR12
  cases lo with
  | none =>
   obtain ⟨rfl, hN, hl0⟩ := hR12
   rw [hl0]
   exact ⟨Gro.nil, e12.mut, by simp [labOf]⟩
  | some lo =>
   obtain ⟨rfl, _, rest, hobj, hr⟩ := hR12
   rw [lenS_flat, Nat.sub_self, Nat.zero_mul] at hr
   obtain rfl := List.length_eq_zero_iff.1 hr
   rw [List.append_nil] at hobj
   refine ⟨.inr ⟨lo, by rw [lenS_flat], hobj⟩, e12.mut, fun la hla => ?_⟩
   obtain rfl : la = lo := by simpa [labOf] using hla
   exact hlo la (by simp)
theorem Join_ok {s : AS} {a : AV} {L : List (AV × List Int)} (ha : Sl prC 1 s a L) (hL : ∀ p ∈ L, Byts s p.1 p.2) (hn : L.length ≤ 2 ^ 20) (hb : lenS L ≤ 2 ^ 28) : ACalls Try.prog F_wire_Join [a] s fun v s' => BytN s s' v (L.flatMap Prod.snd) := by
 refine q_wire_Join _ _ _ ?_
 refine (Concat_ok ha hL hn hb).mono ?_
 exact fun v s' h => h
theorem qstore_slc {s : AS} {l o : Nat} {a : Option (Nat × Nat)} {n c : Nat} {e : Bool} {K : AS → Prop} : qstore T Y_s_uint8 s l o (.slc a n c e) K = StQ (awr s l o [.slc a n c e]) K := by
 simp only [qstore, z_s_uint8]; rfl
/-! ### a variable that holds a row of bytes of one's own -/
structure OutV (s0 s : AS) (c : Nat) (l : List Int) : Prop where
 e : Ext s0 s
 cn : s0.h c = none
 mem : ∃ v, Am.Own s c [v] ∧ Gro byC 1 s v l ∧ ∀ la ∈ labOf v, s0.h la = none ∧ la ≠ c
section
variable {s0 s s' : AS} {c : Nat} {l : List Int}
theorem OutV.ext (h : OutV s0 s c l) (e : Ext s s') : OutV s0 s' c l := by
 obtain ⟨h1, h2, v, h3, h4, h5⟩ := h
 exact ⟨h1.trans e, h2, v, h3.ext e, h4.ext e, h5⟩
theorem State1_ok (h : OutV s0 s c l) {a : AV} {L : List (AV × List Int)} (ha : Sl prC 1 s a L) (hL : ∀ p ∈ L, Byts s p.1 p.2) (hn : L.length ≤ 2 ^ 20) (hb : l.length + lenS L ≤ 2 ^ 28) :
  ACalls Try.prog F_views_State_1 [a, .ptr (some (c, 0))] s fun r s' => r = .tup [] ∧ OutV s0 s' c (l ++ L.flatMap Prod.snd) := by
 obtain ⟨h1, h2, v, h3, h4, h5⟩ := h
 refine q_views_State_1 _ _ _ _ ⟨fun z _ v s' => Byts s' v (L.flatMap Prod.snd), fun _ _ _ => True, fun _ _ _ _ _ e h => h.ext e, v, by rw [h3.at.rd1]; rfl, fun s4 e4 w4 _ => ?_, ⟨.undef, trivial⟩, fun v7 _ s8 e8 w8 hS => ?_⟩
 ·refine (Join_ok (ha.ext e4) (fun p hp => (hL p hp).ext e4) hn (by omega)).mono ?_
  intro v5 s6 g
  exact ⟨g.chg.ext, g.sl byC_len, trivial⟩
 obtain ⟨v', s', k1, k2, k3, k4, k5⟩ := Gro.append sl_s_uint8 byC_len byC_one w8 (h4.ext e8) hS.1 (by rw [lenS_flat]; omega) u_s_uint8
 have c8 := h3.ext e8
 have hcl : c ∉ labOf v := fun hm => (h5 c hm).2 rfl
 have c9 : Am.Own s' c [v] := c8.mut k3 hcl
 refine ⟨v', s', k1, ?_⟩
 have hv1 : ∀ la ∈ labOf v', s0.h la = none ∧ la ≠ c := by
  intro la hla
  rcases k5 la hla with h6 | h6
  ·exact h5 la h6
  ·refine ⟨h1.none (e8.none h6), ?_⟩
   rintro rfl
   rw [c8] at h6; cases h6
 have E' : Ext s0 s' := Ext.wrL (h1.trans e8) (fun x hx => (h5 x hx).1) k3
 have fin : StQ (awr s' c 0 [v']) fun s14 => (AV.tup [] = AV.tup []) ∧ OutV s0 s14 c (l ++ L.flatMap Prod.snd) := by
  refine StQ.own k4 c9 (by simp) fun s14 P => ⟨rfl, Ext.wr E' h2 P.mut, h2, v', ?_, ?_, hv1⟩
  ·have := P.at
   exact this
  ·exact k2.mut P.mut fun la hla hm => (hv1 la hla).2 (by simpa using hm)
 show qstore T Y_s_uint8 s' c 0 v' _
 rcases k2 with ⟨_, a', rfl⟩ | ⟨la, rfl, _⟩
 ·rw [qstore_slc]; exact fin
 ·rw [qstore_slc]; exact fin
theorem OutV.get (h : OutV s0 s c l) : ∃ v, rd1 s c 0 = some v ∧ Byts s v l := by
 obtain ⟨h1, h2, v, h3, h4, h5⟩ := h
 exact ⟨v, by rw [h3.at.rd1]; rfl, h4.sl byC_len⟩
end
theorem State2_ok (d : Dot) (hd : 0 ≤ d.r ∧ d.r ≤ 255) (s : AS) : ACalls Try.prog F_views_State_2 [.agg (dotC d)] s fun v s' => BytN s s' v (dotB d) := by
 refine ACalls.pre fun hw => q_views_State_2 _ _ _ ⟨rfl, NewQ.intro hw rfl fun l1 s2 F2 => ⟨_, F2.own.at.rdc (by simp [dotC]), ?_⟩⟩
 refine ACalls.use (wireDot_ok d hd s2) ?_
 rintro r s5 ⟨v, rfl, g⟩ _
 exact ⟨_, _, rfl, g.gro, F2.ext.mut.trans g.chg, fun la hla => F2.ext.none (g.new la hla)⟩
theorem State3_ok (n : Nat) (hn : n < 2 ^ 30) (s : AS) : ACalls Try.prog F_views_State_3 [.int .i64 (n : Nat)] s fun v s' => BytN s s' v (bes (n : Nat) 4) := by
 refine q_views_State_3 _ _ _ ?_
 unfold Q_views_State_3
 rw [wrap_u (by omega)]
 refine (Put_ok _ 4 (by omega) (fun _ => ?_) s).mono ?_
 ·rw [show min (8 * 4) (IntKind.bits .u64) = 32 from rfl, Int.fdiv_eq_ediv_of_nonneg _ (by decide)]
  omega
 ·rintro r s2 ⟨v, rfl, g⟩
  exact ⟨_, _, rfl, g⟩
theorem State4_ok (i : Itm) (s : AS) : ACalls Try.prog F_views_State_4 [.agg (itemC i)] s fun v s' => v = .bool i.gone ∧ Ext s s' := by
 refine ACalls.pre fun hw => q_views_State_4 _ _ _ ⟨rfl, NewQ.intro hw rfl fun l1 s2 F2 => ⟨i.gone, by rw [F2.own.at.rd1]; rfl, rfl, F2.ext⟩⟩
theorem Vector_ok (v : List Int) (hv : v.length = 16) (s : AS) : ACalls Try.prog F_wire_Vector [.agg (v.map (.int .u64))] s fun r s' => BytN s s' r (v.flatMap fun n => bes n 8) := by
 refine ACalls.pre fun hw => q_wire_Vector _ _ _ ⟨?_, NewQ.intro hw rfl fun l1 s2 F2 => ⟨v.map (.int .u64), ?_, fun m vs s' => ∃ (i : Nat) (r : AV), vs = [r, .int .i64 (i : Nat)] ∧ i ≤ 16 ∧ m = 16 - i ∧ WFs s' ∧ BytN s2 s' r ((v.take i).flatMap fun n => bes n 8), 16, ⟨0, _, rfl, by omega, rfl, F2.wf, by simpa using GroN.nil⟩, ?_⟩⟩
 ·simp [List.all_eq_true, AV.one]
 ·rw [F2.own.at.rdc (by simp [hv])]
  simp [hv, List.take_of_length_le]
 ·rintro m v7 n8 s9 ⟨i, r, hin, hi, rfl, w9, g9⟩
  simp only [List.cons.injEq, AV.int.injEq, true_and, and_true] at hin
  obtain ⟨rfl, rfl⟩ := hin
  refine bsplit.dec (fun hlt => ?_) (fun hge => ?_)
  ·obtain ⟨n, hn⟩ := get_lt (l := v) (i := i) (by omega)
   have step := List.take_add_one (l := v) (i := i)
   rw [hn, Option.toList_some] at step
   refine ⟨n, ?_, ?_⟩
   ·rw [aix_vec hv (by omega), List.getD_eq_getElem?_getD, hn]; rfl
   refine ACalls.use (Put_ok n 8 (by omega) (by omega) s9) ?_
   rintro q s12 ⟨v13, rfl, g12⟩ w12
   have hlen : ((v.take i).flatMap fun n => bes n 8).length ≤ 16 * 8 := by
    rw [List.length_flatMap]
    have : (List.map (fun a => (bes a 8).length) (v.take i)) = List.map (fun _ => 8) (v.take i) := by simp [bes_len]
    rw [this, List.map_const', List.sum_replicate_nat, List.length_take]
    have : min i v.length ≤ 16 := by omega
    omega
   refine ⟨_, _, rfl, byts_append w12 (g9.step g12.chg.ext) (by simp) (g12.sl byC_len) (by rw [bes_len]; omega) fun v' s' g' w' _ => ?_⟩
   refine ⟨16 - (i + 1), by omega, i + 1, v', by rw [wrap_i (by omega)]; rfl, by omega, rfl, w', ?_⟩
   rw [step, List.flatMap_append]
   simpa using g'
  ·rw [List.take_of_length_le (by omega)] at g9
   exact ⟨g9.gro, F2.ext.mut.trans g9.chg, fun la hla => F2.ext.none (g9.new la hla)⟩
end Go.Proofs.Ytoklmpkpeanloaa
end

section
namespace Go.Proofs.Ytoklmpkpeanloaa
open Go.Am Go.Minster Go.Minster2
def itemB (i : Itm) : List Int := dotB i.dot ++ textB i.key.t ++ textB i.key.d
def stateB (v : List Int) (ex : List Dot) (L : List Itm) : List Int := (v.flatMap fun n => bes n 8) ++ bes (ex.length : Nat) 4 ++ ex.flatMap dotB ++ bes (L.length : Nat) 4 ++ L.flatMap itemB
theorem sl_one {v : AV} (h : v.one = true) : acells v = some [v] := by cases v <;> first | rfl | cases h
theorem absl_s1 {v : AV} (h : v.one = true) : absl T Y_s__uint8 1 [(0, v)] = some [v] := by
 simp [absl, u_s__uint8, z_s_uint8, zr_s_uint8, afill, wrs, sl_one h, sl_one (show (AV.slc none 0 0 true).one = true from rfl), rep]
theorem absl_s2 {v w : AV} (h : v.one = true) (h' : w.one = true) : absl T Y_s__uint8 2 [(0, v), (1, w)] = some [v, w] := by
 simp [absl, u_s__uint8, z_s_uint8, zr_s_uint8, afill, wrs, sl_one h, sl_one h', sl_one (show (AV.slc none 0 0 true).one = true from rfl), rep]
theorem absl_s3 {u v w : AV} (h0 : u.one = true) (h : v.one = true) (h' : w.one = true) : absl T Y_s__uint8 3 [(0, u), (1, v), (2, w)] = some [u, v, w] := by
 simp [absl, u_s__uint8, z_s_uint8, zr_s_uint8, afill, wrs, sl_one h0, sl_one h, sl_one h', sl_one (show (AV.slc none 0 0 true).one = true from rfl), rep]
theorem OutV.rebase2 {s0 s s' : AS} {c : Nat} {l : List Int} (h : OutV s0 s c l) (e : Ext s s') : ∃ L, OutV (s'.less L) s' c l ∧ (∀ y ∈ L, s0.h y = none) ∧ (∀ y ∈ L, s.h y ≠ none) ∧ Ext s0 (s'.less L) := by
 obtain ⟨h1, h2, v, h3, h4, h5⟩ := h
 have hn : ∀ y ∈ c :: labOf v, s0.h y = none := by
  intro y hy
  rcases List.mem_cons.1 hy with rfl | hy
  ·exact h2
  ·exact (h5 y hy).1
 refine ⟨c :: labOf v, ⟨s'.less_ext _, by rw [AS.less_h, if_pos (by simp)], v, h3.ext e, h4.ext e, fun la hla => ⟨by rw [AS.less_h, if_pos (by simp [hla])], (h5 la hla).2⟩⟩, hn, ?_, AS.less_of (h1.trans e) hn⟩
 intro y hy
 rcases List.mem_cons.1 hy with rfl | hy
 ·rw [h3]; simp
 ·exact h4.there y hy
theorem GroN.keepL {α : Type} {f : α → List AV} {sz : Nat} {s0 s : AS} {v : AV} {l : List α} {L : List Nat} (hf : ∀ x, (f x).length = sz) (h : GroN f sz [] s0 s v l) (hL : ∀ y ∈ L, s0.h y ≠ none) : Sl f sz (s.less L) v l :=
 (h.gro.mut (s.less_mut L) fun x hx hm => hL x hm (h.new x hx)).sl hf
theorem flat_lenI {α : Type} {f : α → List Int} {n : Nat} (h : ∀ x, (f x).length = n) : ∀ l : List α, (l.flatMap f).length = l.length * n
 | [] => by simp
 | a :: l => by rw [List.flatMap_cons, List.length_append, h, flat_lenI h l, List.length_cons, Nat.add_mul]; omega
theorem reg_ok {d : Dot} (h : d.may = true) : 0 ≤ d.r ∧ d.r ≤ 255 := by have := Dot.may_iff.1 h; omega
theorem conv_bytes {s : AS} (hw : WFs s) (t : List UInt8) {K : AV → AS → Prop} (hK : ∀ v s', Byts s' v (strB t) → Ext s s' → WFs s' → K v s') : Bd2 (aconvert T Y_string Y_s_uint8 (.str t) s) K := by
 have Fr := hw.new (o := .cells (t.map fun c => .int .u8 c.toNat) 1 false) rfl
 refine ⟨.slc (some (s.nl, 0)) t.length t.length false, s.new (.cells (t.map fun c => .int .u8 c.toNat) 1 false), by simp [aconvert, u_string, u_s_uint8, u_uint8], hK _ _ ?_ Fr.ext Fr.wf⟩
 have := SlAt.mk (s := s.new (.cells (t.map fun c => .int .u8 c.toNat) 1 false)) (la := s.nl) (o := 0) (n := t.length) (c := t.length) (e := false) (sz := 1) (cs := (strB t).flatMap byC) ⟨_, _, Fr.at⟩ (by rw [by_len, strB_len]) (by rw [strB_flat, List.drop_zero]; exact List.take_of_length_le (by simp)) (Nat.le_refl _)
 show SlAt _ _ _ _ (strB t).length
 rw [strB_len]; exact this
section
variable {F : List Nat} {s : AS} {p : Nat} {x : OSet} {B : Nat}
set_option maxRecDepth 100000 in
set_option maxHeartbeats 1000000 in
theorem State_ok (h : SetF F s p x) (o : OOk x B) (hB : B ≤ 1000) : ACalls Try.prog F_views_State [.ptr (some (p, 0))] s fun v s' => ∃ I, Items x I ∧ Byts s' v (stateB x.v x.ex (liveI I)) ∧ Ext s s' := by
 have hex := o.exlen
 refine q_views_State _ _ _ ?_
 refine ACalls.use (Ctx_ok h) ?_
 rintro v1 s2 ⟨q, rfl, hq, g, e2⟩ w2
 refine ⟨_, rfl, _, aeqPtrNil u_p_ctx_Ctx _, bsplit.no rfl (NewQ.intro w2 rfl fun l5 s6 F6 => ?_)⟩
 have O6 : OutV s2 s6 l5 [] := ⟨F6.ext, F6.no, .slc none 0 0 true, F6.own, Gro.nil, by simp [labOf]⟩
 refine ACalls.use (ctx_Vector_ok (g.at.ext F6.ext)) ?_
 rintro v7 s8 ⟨rfl, e8⟩ w8
 refine ⟨_, rfl, ?_⟩
 refine ACalls.use (Vector_ok x.v o.ok.v.len s8) ?_
 rintro v10 s11 g11 w11
 have e11 := e8.trans g11.chg.ext
 refine ACalls.use (ctx_Extra_ok (g.at.ext (F6.ext.trans e11)) (by omega)) ?_
 rintro v12 s13 g13 w13
 refine ⟨_, (g13.sl dotC_len).lenB u_s_Dot _, ?_⟩
 refine ACalls.use (State3_ok x.ex.length (by omega) s13) ?_
 rintro v15 s16 g16 w16
 have e16 := g13.chg.ext.trans g16.chg.ext
 refine ⟨_, absl_s2 g11.isSlc.2 g16.isSlc.2, NewQ.intro w16 rfl fun l18 s19 F19 => ?_⟩
 have E19 := (e11.trans e16).trans F19.ext
 let L0 : List (AV × List Int) := [(v10, x.v.flatMap fun n => bes n 8), (v15, bes (x.ex.length : Nat) 4)]
 have hVl : (x.v.flatMap fun n => bes n 8).length = 128 := by
  rw [List.length_flatMap]
  have : (List.map (fun a => (bes a 8).length) x.v) = List.map (fun _ => 8) x.v := by simp [bes_len]
  rw [this, List.map_const', List.sum_replicate_nat, o.ok.v.len]
 have hL0 : lenS L0 = 132 := by simp only [lenS, L0, List.map_cons, List.map_nil, List.sum_cons, List.sum_nil, hVl, bes_len]; rfl
 refine ACalls.use (State1_ok (O6.ext E19) (L := L0) (SlAt.mk F19.own.at (by simp [L0]) (by simp [L0]) (by simp [L0])) ?_ (by simp [L0]) (by simp only [hL0, List.length_nil]; omega)) ?_
 ·intro p hp
  rcases List.mem_cons.1 hp with rfl | hp
  ·exact (g11.sl byC_len).ext (e16.trans F19.ext)
  ·obtain rfl := List.mem_singleton.1 hp
   exact (g16.sl byC_len).ext F19.ext
 rintro v20 s21 ⟨rfl, O21⟩ w21
 have hH : [] ++ L0.flatMap Prod.snd = (x.v.flatMap fun n => bes n 8) ++ bes (x.ex.length : Nat) 4 := by simp [L0]
 rw [hH] at O21
 have hHl : ((x.v.flatMap fun n => bes n 8) ++ bes (x.ex.length : Nat) 4).length = 132 := by rw [List.length_append, hVl, bes_len]
 generalize hHd : (x.v.flatMap fun n => bes n 8) ++ bes (x.ex.length : Nat) 4 = H at O21 hHl
 have hdl : ∀ l : List Dot, (l.flatMap dotB).length = l.length * 9 := fun l => flat_lenI dotB_len l
 refine ⟨rfl, fun vs s' => vs = [] ∧ WFs s' ∧ OutV s2 s' l5 (H ++ x.ex.flatMap dotB), ?_, ?_⟩
 rotate_left
 ·refine ACalls.use (ctx_Extra_ok (g.at.ext O21.e) (by omega)) ?_
  rintro v71 s72 g72 w72
  obtain ⟨Lb, Ob, hb1, hb2, eb⟩ := O21.rebase2 g72.chg.ext
  have sEx : Dots (s72.less Lb) v71 x.ex := GroN.keepL dotC_len g72 hb2
  refine ⟨_, sEx.lenB u_s_Dot _, fun m vs s' => ∃ i : Nat, vs = [.int .i64 (i : Nat)] ∧ i ≤ x.ex.length ∧ m = x.ex.length - i ∧ WFs s' ∧ OutV (s72.less Lb) s' l5 (H ++ (x.ex.take i).flatMap dotB), x.ex.length, ⟨0, rfl, by omega, rfl, w72, by simpa using Ob⟩, ?_⟩
  rintro m n s78 ⟨i, hin, hi, rfl, w78, O78⟩
  simp only [List.cons.injEq, AV.int.injEq, true_and, and_true] at hin
  subst hin
  refine bsplit.dec (fun hlt => ?_) (fun hge => ?_)
  rotate_left
  ·rw [List.take_of_length_le (by omega)] at O78
   exact ⟨rfl, w78, ⟨eb.trans O78.e, F6.no, by obtain ⟨_, _, v, k1, k2, k3⟩ := O78; exact ⟨v, k1, k2, fun la hla => ⟨eb.none (k3 la hla).1, (k3 la hla).2⟩⟩⟩⟩
  obtain ⟨d, hd⟩ := get_lt (l := x.ex) (i := i) (by omega)
  have hdm := o.ok.m d (List.mem_of_getElem? hd)
  have step := List.take_add_one (l := x.ex) (i := i)
  rw [hd, Option.toList_some] at step
  obtain ⟨la, oa, k8, k9⟩ := sEx.ix (by decide) dotC_len u_s_Dot z_Dot hd
  refine ⟨la, oa, k8 _, _, (k9 _ O78.e).2, NewSt w78 rfl rfl rfl fun l82 s84 F84 => ⟨_, F84.own.at.rdc (by simp [dotC]), ?_⟩⟩
  refine ACalls.use (State2_ok d (reg_ok hdm) s84) ?_
  rintro v86 s87 g87 w87
  refine ⟨_, absl_s1 g87.isSlc.2, NewQ.intro w87 rfl fun l89 s90 F90 => ?_⟩
  have hlen := hdl (x.ex.take i)
  have htl := List.length_take_le i x.ex
  refine ACalls.use (State1_ok (O78.ext ((F84.ext.trans g87.chg.ext).trans F90.ext)) (L := [(v86, dotB d)]) (SlAt.mk F90.own.at (by simp) (by simp) (by simp)) ?_ (by simp) (by simp only [lenS, List.map_cons, List.map_nil, List.sum_cons, List.sum_nil, dotB_len, List.length_append, hHl, hlen]; omega)) ?_
  ·intro p hp
   obtain rfl := List.mem_singleton.1 hp
   exact (g87.sl byC_len).ext F90.ext
  rintro v91 s92 ⟨rfl, O92⟩ w92
  refine ⟨rfl, x.ex.length - (i + 1), by omega, i + 1, by rw [wrap_i (by omega)]; rfl, by omega, rfl, w92, ?_⟩
  rw [step, List.flatMap_append, ← List.append_assoc]
  simpa using O92
 rintro s23 ⟨_, w23, O23⟩
 have E23 : Ext s s23 := e2.trans O23.e
 refine ACalls.use (Items_okN (h.ext E23) o hB) ?_
 rintro v24 s25 ⟨I, hI, hN⟩ w25
 have hIl := hI.len o
 refine ACalls.use (SI.DeleteFunc_okN (P := fun i => i.gone) hN (by omega) fun i s' e w => State4_ok i s') ?_
 rintro v26 s27 ⟨e27, hK⟩ w27
 have s26 := hK.sl
 have hLl : (liveI I).length ≤ I.length := List.length_filter_le _ _
 have hLeq : (I.filter fun i => !i.gone) = liveI I := rfl
 rw [hLeq] at hK s26
 refine ⟨_, s26.lenB u_s_Item _, ?_⟩
 refine ACalls.use (State3_ok (liveI I).length (by omega) s27) ?_
 rintro v29 s30 g30 w30
 refine ⟨_, absl_s1 g30.isSlc.2, NewQ.intro w30 rfl fun l32 s33 F33 => ?_⟩
 have e33 := (e27.trans g30.chg.ext).trans F33.ext
 have e27' := g30.chg.ext.trans F33.ext
 have hAl : (H ++ x.ex.flatMap dotB).length ≤ 10000 := by rw [List.length_append, hHl, hdl]; omega
 obtain ⟨Lb, Ob, hb1, hb2, eb⟩ := O23.rebase2 e33
 have sL : Sl itemC 5 (s33.less Lb) v26 (liveI I) := hK _ Lb (e27'.mut.trans (s33.less_mut Lb)) hb2
 refine ACalls.use (State1_ok Ob (L := [(v29, bes ((liveI I).length : Nat) 4)]) (SlAt.mk F33.own.at (by simp) (by simp) (by simp)) ?_ (by simp) (by simp only [lenS, List.map_cons, List.map_nil, List.sum_cons, List.sum_nil, bes_len]; omega)) ?_
 ·intro p hp
  obtain rfl := List.mem_singleton.1 hp
  exact (g30.sl byC_len).ext F33.ext
 rintro v34 s35 ⟨rfl, O35⟩ w35
 have hk : ∀ j ∈ liveI I, j.dot.may = true ∧ j.key.t.length ≤ 32 ∧ j.key.d.length ≤ 32 := by
  intro j hj
  have h1 := ((liveI_mem hI j).1 hj).2
  obtain ⟨h2, h3⟩ := o.lv _ _ h1
  refine ⟨has_may h2, ?_⟩
  simp only [Key.may, nameOk, Bool.and_eq_true, decide_eq_true_eq] at h3
  omega
 have hil : ∀ l : List Itm, (∀ j ∈ l, j ∈ liveI I) → (l.flatMap itemB).length ≤ l.length * 77 := by
  intro l
  induction l with
  | nil => simp
  | cons a l ih =>
   intro hl
   have := ih fun j hj => hl j (by simp [hj])
   have h1 := hk a (hl a (by simp))
   simp only [List.flatMap_cons, List.length_append, List.length_cons, itemB, dotB_len, textB_len] at this ⊢
   omega
 simp only [List.flatMap_cons, List.flatMap_nil, List.append_nil] at O35
 have hCl : (H ++ x.ex.flatMap dotB ++ bes ((liveI I).length : Nat) 4).length ≤ 10004 := by rw [List.length_append, bes_len]; omega
 generalize hC : H ++ x.ex.flatMap dotB ++ bes ((liveI I).length : Nat) 4 = C at O35 hCl
 refine ⟨rfl, _, sL.lenB u_s_Item _, fun m vs s' => ∃ i : Nat, vs = [.int .i64 (i : Nat)] ∧ i ≤ (liveI I).length ∧ m = (liveI I).length - i ∧ WFs s' ∧ OutV (s33.less Lb) s' l5 (C ++ ((liveI I).take i).flatMap itemB), (liveI I).length, ⟨0, rfl, by omega, rfl, w35, by simpa using O35⟩, ?_⟩
 rintro m n s41 ⟨i, hin, hi, rfl, w41, O41⟩
 simp only [List.cons.injEq, AV.int.injEq, true_and, and_true] at hin
 subst hin
 refine bsplit.dec (fun hlt => ?_) (fun hge => ?_)
 rotate_left
 ·rw [List.take_of_length_le (by omega)] at O41
  obtain ⟨v, k1, k2⟩ := O41.get
  refine ⟨v, k1, I, hI, ?_, e2.trans (eb.trans O41.e)⟩
  rw [← hC, ← hHd] at k2
  exact k2
 obtain ⟨j, hj⟩ := get_lt (l := liveI I) (i := i) (by omega)
 obtain ⟨hjm, hjt, hjd⟩ := hk j (List.mem_of_getElem? hj)
 have step := List.take_add_one (l := liveI I) (i := i)
 rw [hj, Option.toList_some] at step
 obtain ⟨la, oa, k8, k9⟩ := sL.ix (by decide) itemC_len u_s_Item z_Item hj
 refine ⟨la, oa, k8 _, _, (k9 _ O41.e).2, NewSt w41 rfl rfl rfl fun l45 s47 F47 => ⟨j.key.t, by rw [F47.own.at.rd1]; rfl, ?_⟩⟩
 refine conv_bytes F47.wf j.key.t fun v49 s50 b50 e50 w50 => ?_
 refine ACalls.use (Blob_ok b50 (by rw [strB_len]; omega)) ?_
 rintro r51 s52 ⟨v53, rfl, g52⟩ w52
 rw [strB_len] at g52
 have E52 := e50.trans g52.chg.ext
 refine ⟨_, _, rfl, j.key.d, by rw [(F47.own.ext E52).at.rd1]; rfl, ?_⟩
 refine conv_bytes w52 j.key.d fun v56 s57 b57 e57 w57 => ?_
 refine ACalls.use (Blob_ok b57 (by rw [strB_len]; omega)) ?_
 rintro r58 s59 ⟨v60, rfl, g59⟩ w59
 rw [strB_len] at g59
 have E59 := e57.trans g59.chg.ext
 refine ⟨_, _, rfl, _, (F47.own.ext (E52.trans E59)).at.rdc (by simp [itemC]), ?_⟩
 refine ACalls.use (State2_ok j.dot (reg_ok hjm) s59) ?_
 rintro v63 s64 g64 w64
 refine ⟨_, absl_s3 g64.isSlc.2 g52.isSlc.2 g59.isSlc.2, NewQ.intro w64 rfl fun l66 s67 F67 => ?_⟩
 have hlen := hil ((liveI I).take i) fun j hj => List.mem_of_mem_take hj
 have htl := List.length_take_le i (liveI I)
 let L3 : List (AV × List Int) := [(v63, dotB j.dot), (v53, textB j.key.t), (v60, textB j.key.d)]
 have hL3 : lenS L3 ≤ 77 := by simp only [lenS, L3, List.map_cons, List.map_nil, List.sum_cons, List.sum_nil, dotB_len, textB_len]; omega
 have E67 := ((F47.ext.trans E52).trans E59).trans (g64.chg.ext.trans F67.ext)
 refine ACalls.use (State1_ok (O41.ext E67) (L := L3) (SlAt.mk F67.own.at (by simp [L3]) (by simp [L3]) (by simp [L3])) ?_ (by simp [L3]) (by rw [List.length_append]; omega)) ?_
 ·intro p hp
  rcases List.mem_cons.1 hp with rfl | hp
  ·exact (g64.sl byC_len).ext F67.ext
  ·rcases List.mem_cons.1 hp with rfl | hp
   ·exact (g52.sl byC_len).ext (E59.trans (g64.chg.ext.trans F67.ext))
   ·obtain rfl := List.mem_singleton.1 hp
    exact (g59.sl byC_len).ext (g64.chg.ext.trans F67.ext)
 rintro v68 s69 ⟨rfl, O69⟩ w69
 refine ⟨rfl, (liveI I).length - (i + 1), by omega, i + 1, by rw [wrap_i (by omega)]; rfl, by omega, rfl, w69, ?_⟩
 rw [step, List.flatMap_append, ← List.append_assoc]
 simpa [L3, itemB] using O69
end
end Go.Proofs.Ytoklmpkpeanloaa
end

section
namespace Go.Proofs.Ytoklmpkpeanloaa
open Go.Am Go.Minster Go.Minster2
theorem byteAt_val {n : Int} (h : 0 ≤ n) {sh : Nat} (hs : sh ≤ 64) : byteAt n sh = n / 2 ^ sh % 256 := by
 unfold byteAt
 rw [IntKind.wrap_u8, Nat.min_eq_left (show sh ≤ IntKind.bits .u64 from hs), Int.fdiv_eq_ediv_of_nonneg _ (Int.le_of_lt (Int.pow_pos (by decide)))]
theorem byteAt_in (n : Int) (sh : Nat) : 0 ≤ byteAt n sh ∧ byteAt n sh < 256 := by unfold byteAt; rw [IntKind.wrap_u8]; omega
theorem bes_get (n : Int) {k i : Nat} (h : i < k) : (bes n k)[i]? = some (byteAt n (8 * (k - 1 - i))) := by
 simp [bes, h]
theorem bes_in (n : Int) (k : Nat) : ∀ b ∈ bes n k, 0 ≤ b ∧ b < 256 := by
 intro b hb
 obtain ⟨i, _, rfl⟩ := List.mem_map.1 hb
 exact byteAt_in _ _
theorem strB_in (t : List UInt8) : ∀ b ∈ strB t, 0 ≤ b ∧ b < 256 := by
 intro b hb
 obtain ⟨c, _, rfl⟩ := List.mem_map.1 hb
 have := c.toNat_lt
 omega
theorem dotB_in (d : Dot) : ∀ b ∈ dotB d, 0 ≤ b ∧ b < 256 := by
 intro b hb
 rcases List.mem_cons.1 hb with rfl | hb
 ·rw [IntKind.wrap_u8]; omega
 ·exact bes_in _ _ b hb
theorem textB_in (t : List UInt8) : ∀ b ∈ textB t, 0 ≤ b ∧ b < 256 := by
 intro b hb
 rcases List.mem_append.1 hb with hb | hb
 ·exact bes_in _ _ b hb
 ·exact strB_in _ b hb
structure ItemS (i : Itm) : Prop where
 d : i.dot.may = true
 g : i.gone = false
 t : i.key.t.length < 65536
 u : i.key.d.length < 65536
theorem stateB_in (v : List Int) (ex : List Dot) (L : List Itm) : ∀ b ∈ stateB v ex L, 0 ≤ b ∧ b < 256 := by
 intro b hb
 simp only [stateB, List.mem_append, List.mem_flatMap] at hb
 rcases hb with (((⟨n, _, h⟩ | h) | ⟨d, _, h⟩) | h) | ⟨i, _, h⟩
 ·exact bes_in _ _ b h
 ·exact bes_in _ _ b h
 ·exact dotB_in _ b h
 ·exact bes_in _ _ b h
 ·simp only [itemB, List.mem_append] at h
  rcases h with (h | h) | h
  ·exact dotB_in _ b h
  ·exact textB_in _ b h
  ·exact textB_in _ b h
end Go.Proofs.Ytoklmpkpeanloaa
end

section
set_option maxRecDepth 100000
set_option maxHeartbeats 4000000
namespace Go.Proofs.Ytoklmpkpeanloaa
open Go.Am
def Q_views_Of (a0 : AV) (s : AS) (R : AV → AS → Prop) : Prop :=
 ACalls Try.prog F_wire_Read [a0] s fun v1 s2 => ∃ p3 : Option (Nat × Nat), v1 = .ptr p3 ∧ (ACalls Try.prog F_wire_Reader_Vector [(.ptr p3)] s2 fun v4 s5 => ∃ g6 : List AV, v4 = .agg g6 ∧ (NewQ (.cells [.int .u64 0, .int .u64 0, .int .u64 0, .int .u64 0, .int .u64 0, .int .u64 0, .int .u64 0, .int .u64 0, .int .u64 0, .int .u64 0, .int .u64 0, .int .u64 0, .int .u64 0, .int .u64 0, .int .u64 0, .int .u64 0] 0 false) s5 fun l7 s8 => OkC (some 16) g6 (StQ (awr s8 l7 0 g6) fun s9 => JoinQ fun J10 =>
 (∀ v11 : AV, ∀ s12 : AS, J10 [v11] s12 →
 JoinQ fun J13 =>
 (∀ v14 : AV, ∀ s15 : AS, J13 [v14] s15 →
 ACalls Try.prog F_wire_Reader_End [(.ptr p3)] s15 fun v16 s17 => ∃ n18 : Int, v16 = .int .i64 n18 ∧ (bsplit ((n18 : Int) != 0)
 (R (.tup [(.ptr none), (.int .i64 4)]) s17)
 (RdL (rdc s17 l7 0 16) fun g19 => ACalls Try.prog F_ctx_Of [(.agg g19), v11] s17 fun v20 s21 => ∃ p22 : Option (Nat × Nat), ∃ n23 : Int, v20 = .tup [(.ptr p22), (.int .i64 n23)] ∧ (bsplit ((n23 : Int) != 0)
 (R (.tup [(.ptr none), (.int .i64 4)]) s21)
 (ACalls Try.prog F_orset_Of [(.ptr p22), v14] s21 fun v24 s25 => ∃ p26 : Option (Nat × Nat), ∃ n27 : Int, v24 = .tup [(.ptr p26), (.int .i64 n27)] ∧ (JoinQ fun J28 =>
 (∀ b29 : Bool, ∀ s30 : AS, J28 [(.bool b29)] s30 →
 bsplit b29
 (R (.tup [(.ptr none), (.int .i64 4)]) s30)
 (R (.tup [(.ptr p26), (.int .i64 0)]) s30)) ∧
 (bsplit ((n27 : Int) != 0) (J28 [(.bool true)] s25) (ACalls Try.prog F_views_State [(.ptr p26)] s25 fun v31 s32 => ACalls Try.prog F_bytes_Equal [v31, a0] s32 fun v33 s34 => ∃ b35 : Bool, v33 = .bool b35 ∧ (J28 [(.bool (!b35))] s34))))))))) ∧
 (ACalls Try.prog F_wire_Reader_Number [(.ptr p3), (.int .i64 4)] s12 fun v36 s37 => ∃ n38 : Int, v36 = .int .u64 n38 ∧ (LoopQ fun I39 m40 => I39 m40 [(.slc none 0 0 true), (.int .u64 n38)] s37 ∧
 ∀ m41 : Nat, ∀ v42 : AV, ∀ n43 : Int, ∀ s44 : AS, I39 m41 [v42, (.int .u64 n43)] s44 →
 bsplit (decide ((n43 : Int) > 0)) (ACalls Try.prog F_wire_Reader_Failed [(.ptr p3)] s44 fun v45 s46 => ∃ b47 : Bool, v45 = .bool b47 ∧ (bsplit (!b47)
 (ACalls Try.prog F_wire_Reader_Dot [(.ptr p3)] s46 fun v48 s49 => ∃ g50 : List AV, v48 = .agg g50 ∧ (NewQ (.cells [.int .i64 0, .int .u64 0] 0 false) s49 fun l51 s52 => OkC (some 2) g50 (StQ (awr s52 l51 0 g50) fun s53 => ACalls Try.prog F_wire_Reader_Blob [(.ptr p3)] s53 fun v54 s55 => RdS ((aconvert T Y_s_uint8 Y_string v54 s55).map (·.1)) fun x56 => DrawM s55 fun X C c S V => RdL (rdc s55 l51 0 2) fun g58 => (∀ s57 : AS, X s55 s57 → WFs s57 → RdL (rdc s57 l51 0 2) fun g59 => (((.agg g59) : AV) = (.agg g58))) ∧ ((∀ s60 : AS, X s55 s60 → WFs s60 → (True) → c s60 → ACalls Try.prog F_wire_Reader_Blob [(.ptr p3)] s60 fun v61 s62 => ((X s60 s62 ∧ C 4 [(.func F_wire_Reader_Blob []), (.ptr p3)] v61 s62) ∧ S 4 [(.func F_wire_Reader_Blob []), (.ptr p3)] v61 s62 ∧ V 4 [(.func F_wire_Reader_Blob []), (.ptr p3)] v61)) ∧ (∃ v, V 4 [(.func F_wire_Reader_Blob []), (.ptr p3)] v) ∧ ∀ v63 : AV, V 4 [(.func F_wire_Reader_Blob []), (.ptr p3)] v63 → (∀ s64 : AS, X s55 s64 → WFs s64 → (S 4 [(.func F_wire_Reader_Blob []), (.ptr p3)] v63 s64 ∧ True) → RdS ((aconvert T Y_s_uint8 Y_string v63 s64).map (·.1)) fun x65 => (Ext s64 s64 ∧ S 5 [v63] (.str x65) s64 ∧ V 5 [v63] (.str x65))) ∧ (∃ v, V 5 [v63] v) ∧ ∀ v66 : AV, V 5 [v63] v66 → ∃ x67 : List UInt8, v66 = .str x67 ∧ (RdG (abuild T Y_Key [(0, (.str x56)), (1, (.str x67))]) fun g68 => RdG (abuild T Y_Item [(0, (.agg g58)), (1, (.agg g68))]) fun g69 => (∀ s70 : AS, X s55 s70 → WFs s70 → (S 4 [(.func F_wire_Reader_Blob []), (.ptr p3)] v63 s70 ∧ (S 5 [v63] (.str x67) s70 ∧ True)) → RdL (absl T Y_s_Item 1 [(0, (.agg g69))]) fun g71 => NewQ (.cells g71 0 false) s70 fun l72 s73 => (Ext s70 s73 ∧ S 8 [(.agg g69)] (.slc (some (l72, 0)) 1 1 true) s73 ∧ V 8 [(.agg g69)] (.slc (some (l72, 0)) 1 1 true))) ∧ (∃ v, V 8 [(.agg g69)] v) ∧ ∀ v74 : AV, V 8 [(.agg g69)] v74 → ∀ s75 : AS, X s55 s75 → WFs s75 → (S 4 [(.func F_wire_Reader_Blob []), (.ptr p3)] v63 s75 ∧ (S 5 [v63] (.str x67) s75 ∧ (S 8 [(.agg g69)] v74 s75 ∧ True))) → C 4 [(.func F_wire_Reader_Blob []), (.ptr p3)] v63 s75 → Bd2 (aappend T Y_s_Item Y_s_Item v42 v74 s75) fun v76 s77 => ∃ m', m' < m41 ∧ I39 m' [v76, (.int .u64 (IntKind.wrap .u64 (n43 - 1)))] s77)))))
 (J13 [v42] s46))) (J13 [v42] s44)))) ∧
 (ACalls Try.prog F_wire_Reader_Number [(.ptr p3), (.int .i64 4)] s9 fun v78 s79 => ∃ n80 : Int, v78 = .int .u64 n80 ∧ (LoopQ fun I81 m82 => I81 m82 [(.slc none 0 0 true), (.int .u64 n80)] s79 ∧
 ∀ m83 : Nat, ∀ v84 : AV, ∀ n85 : Int, ∀ s86 : AS, I81 m83 [v84, (.int .u64 n85)] s86 →
 bsplit (decide ((n85 : Int) > 0)) (ACalls Try.prog F_wire_Reader_Failed [(.ptr p3)] s86 fun v87 s88 => ∃ b89 : Bool, v87 = .bool b89 ∧ (bsplit (!b89)
 (ACalls Try.prog F_wire_Reader_Dot [(.ptr p3)] s88 fun v90 s91 => ∃ g92 : List AV, v90 = .agg g92 ∧ (RdL (absl T Y_s_Dot 1 [(0, (.agg g92))]) fun g93 => NewQ (.cells g93 0 false) s91 fun l94 s95 => Bd2 (aappend T Y_s_Dot Y_s_Dot v84 (.slc (some (l94, 0)) 1 1 true) s95) fun v96 s97 => ∃ m', m' < m83 ∧ I81 m' [v96, (.int .u64 (IntKind.wrap .u64 (n85 - 1)))] s97))
 (J10 [v84] s88))) (J10 [v84] s86))))))
def A_views_Of : QA := (.seq .leaf (.seq .leaf (.seq .leaf (.seq .leaf (.join [(6, .any)] [(6, 7), (19, 34)] (.seq .leaf (.wrap (.loop [(6, .any), (7, .int .u64)] [(6, 7), (21, 34)] (.seq (.seq .leaf (.cond .leaf .leaf)) (.seq (.wrap .leaf) .leaf))))) (.seq .leaf (.join [(8, .any)] [(8, 11), (35, 60)] (.seq .leaf (.wrap (.loop [(8, .any), (9, .int .u64)] [(8, 11), (37, 60)] (.seq (.seq .leaf (.cond .leaf .leaf)) (.seq (.wrap (.seq .leaf (.seq .leaf (.drawM [0, 1, 2, 3, 4, 5, 6, 7, 8] [9, 10] [[], [], [], [], [], [4], [], [], [4, 5]] [4, 5, 8] [4])))) .leaf))))) (.seq (.seq .leaf (.cond (.seq .leaf .leaf) .leaf)) (.seq .leaf (.seq (.seq .leaf (.cond (.seq .leaf .leaf) .leaf)) (.seq .leaf (.seq (.join [(86, .bool)] [(78, 86)] .leaf (.cond (.seq .leaf .leaf) .leaf)) (.seq .leaf .leaf)))))))))))))
theorem q_views_Of (a0 : AV) (s : AS) (R : AV → AS → Prop) (h : Q_views_Of a0 s R) : ACalls Try.prog F_views_Of [a0] s R :=
 ACalls.q (n := 88) (rs := [.tmp 2, .tmp 3]) (A := A_views_Of) hT hmx Try.func7 (by kernel_rfl) rfl rfl rfl (by kernel_rfl) (by kernel_rfl) h
def Q_wire_Read (a0 : AV) (s : AS) (R : AV → AS → Prop) : Prop :=
 ACalls Try.prog F_slices_Clone__s_byte_byte [a0] s fun v1 s2 => RdG (abuild T Y_wire_Reader [(0, v1), (1, (.bool true)), (2, (.bool true))]) fun g3 => One1 g3 (NewQ (.cells g3 0 false) s2 fun l4 s5 => R (.ptr (some (l4, 0))) s5)
def A_wire_Read : QA := (.seq .leaf (.seq .leaf .leaf))
theorem q_wire_Read (a0 : AV) (s : AS) (R : AV → AS → Prop) (h : Q_wire_Read a0 s R) : ACalls Try.prog F_wire_Read [a0] s R :=
 ACalls.q (n := 7) (rs := [.tmp 2]) (A := A_wire_Read) hT hmx Try.func23 (by kernel_rfl) rfl rfl rfl (by kernel_rfl) (by kernel_rfl) h
def Q_wire_Reader_Vector (a0 : Option (Nat × Nat)) (s : AS) (R : AV → AS → Prop) : Prop :=
 NewQ (.cells [.int .u64 0, .int .u64 0, .int .u64 0, .int .u64 0, .int .u64 0, .int .u64 0, .int .u64 0, .int .u64 0, .int .u64 0, .int .u64 0, .int .u64 0, .int .u64 0, .int .u64 0, .int .u64 0, .int .u64 0, .int .u64 0] 0 false) s fun l1 s2 => ACalls Try.prog F_wire_Reader_take [(.ptr a0), (.int .i64 128)] s2 fun v3 s4 => ∃ v5 : AV, ∃ b6 : Bool, v3 = .tup [v5, (.bool b6)] ∧ (ACalls Try.prog F_wire_Read [v5] s4 fun v7 s8 => ∃ p9 : Option (Nat × Nat), v7 = .ptr p9 ∧ (NewQ (.cells [(.ptr none)] 0 false) s8 fun l10 s11 => StQ (awr s11 l10 0 [(.ptr p9)]) fun s12 => LoopQ fun I13 m14 => I13 m14 [(.int .i64 0)] s12 ∧
 ∀ m15 : Nat, ∀ n16 : Int, ∀ s17 : AS, I13 m15 [(.int .i64 n16)] s17 →
 bsplit (decide ((n16 : Int) < 16))
 (ACalls Try.prog F_wire_Reader_Vector_1 [(.ptr (some (l10, 0)))] s17 fun v18 s19 => ∃ n20 : Int, v18 = .int .u64 n20 ∧ (IxQ (aindexAddr T Y_Vector (.ptr (some (l1, 0))) (.int .i64 n16)) fun l21 o22 => StQ (awr s19 l21 o22 [(.int .u64 n20)]) fun s23 => ∃ m', m' < m15 ∧ I13 m' [(.int .i64 (IntKind.wrap .i64 (n16 + 1)))] s23))
 (RdL (rdc s17 l1 0 16) fun g24 => OkC (some 16) g24 (StQ (awr s17 l1 0 g24) fun s25 => RdL (rdc s25 l1 0 16) fun g26 => R (.agg g26) s25))))
def A_wire_Reader_Vector : QA := (.seq .leaf (.seq .leaf (.seq .leaf (.seq .leaf (.seq (.seq .leaf (.wrap (.loop [(16, .int .i64)] [(7, 7), (16, 23)] (.seq .leaf (.seq (.cond .leaf .leaf) (.seq (.wrap (.seq .leaf .leaf)) .leaf)))))) (.seq .leaf .leaf))))))
theorem q_wire_Reader_Vector (a0 : Option (Nat × Nat)) (s : AS) (R : AV → AS → Prop) (h : Q_wire_Reader_Vector a0 s R) : ACalls Try.prog F_wire_Reader_Vector [(.ptr a0)] s R :=
 ACalls.q (n := 25) (rs := [.cell 2 62]) (A := A_wire_Reader_Vector) hT hmx Try.func24 (by kernel_rfl) rfl rfl rfl (by kernel_rfl) (by kernel_rfl) h
def Q_wire_Reader_Number (a0 : Option (Nat × Nat)) (a1 : Int) (s : AS) (R : AV → AS → Prop) : Prop :=
 JoinQ fun J1 =>
 (∀ n2 : Int, ∀ s3 : AS, J1 [(.int .i64 n2)] s3 →
 ACalls Try.prog F_wire_Reader_take [(.ptr a0), (.int .i64 n2)] s3 fun v4 s5 => ∃ v6 : AV, ∃ b7 : Bool, v4 = .tup [v6, (.bool b7)] ∧ (ACalls Try.prog F_wire_Get [v6] s5 fun v8 s9 => ∃ n10 : Int, ∃ n11 : Int, v8 = .tup [(.int .u64 n10), (.int .i64 n11)] ∧ (R (.int .u64 n10) s9))) ∧
 (bsplit (decide ((a1 : Int) < 1)) (J1 [(.int .i64 (-1))] s) (bsplit (decide ((a1 : Int) > 8))
 (J1 [(.int .i64 (-1))] s)
 (J1 [(.int .i64 a1)] s)))
def A_wire_Reader_Number : QA := (.seq .leaf (.join [(1, .int .i64)] [(1, 1), (9, 14)] (.seq .leaf (.cond .leaf .leaf)) (.seq .leaf (.seq .leaf (.seq .leaf .leaf)))))
theorem q_wire_Reader_Number (a0 : Option (Nat × Nat)) (a1 : Int) (s : AS) (R : AV → AS → Prop) (h : Q_wire_Reader_Number a0 a1 s R) : ACalls Try.prog F_wire_Reader_Number [(.ptr a0), (.int .i64 a1)] s R :=
 ACalls.q (n := 27) (rs := [.tmp 4]) (A := A_wire_Reader_Number) hT hmx Try.func25 (by kernel_rfl) rfl rfl rfl (by kernel_rfl) (by kernel_rfl) h
def Q_wire_Reader_Failed (a0 : Option (Nat × Nat)) (s : AS) (R : AV → AS → Prop) : Prop :=
 RdO (aeq T 100 Y_p_wire_Reader (.ptr a0) (.ptr none)) fun b1 => bsplit b1 (R (.bool true) s) (AsSome a0 fun l2 o3 => RdB (rd1 s l2 (o3 + 1)) fun b4 => R (.bool (!b4)) s)
def A_wire_Reader_Failed : QA := (.seq .leaf (.seq .leaf .leaf))
theorem q_wire_Reader_Failed (a0 : Option (Nat × Nat)) (s : AS) (R : AV → AS → Prop) (h : Q_wire_Reader_Failed a0 s R) : ACalls Try.prog F_wire_Reader_Failed [(.ptr a0)] s R :=
 ACalls.q (n := 12) (rs := [.tmp 2]) (A := A_wire_Reader_Failed) hT hmx Try.func26 (by kernel_rfl) rfl rfl rfl (by kernel_rfl) (by kernel_rfl) h
def Q_wire_Reader_Dot (a0 : Option (Nat × Nat)) (s : AS) (R : AV → AS → Prop) : Prop :=
 NewQ (.cells [.int .i64 0, .int .u64 0] 0 false) s fun l1 s2 => ACalls Try.prog F_wire_Reader_take [(.ptr a0), (.int .i64 9)] s2 fun v3 s4 => ∃ v5 : AV, ∃ b6 : Bool, v3 = .tup [v5, (.bool b6)] ∧ (ACalls Try.prog F_wire_Read [v5] s4 fun v7 s8 => ∃ p9 : Option (Nat × Nat), v7 = .ptr p9 ∧ (ACalls Try.prog F_wire_Reader_Number [(.ptr p9), (.int .i64 1)] s8 fun v10 s11 => ∃ n12 : Int, v10 = .int .u64 n12 ∧ (ACalls Try.prog F_wire_Reader_Number [(.ptr p9), (.int .i64 8)] s11 fun v13 s14 => ∃ n15 : Int, v13 = .int .u64 n15 ∧ (RdG (abuild T Y_Dot [(0, (.int .i64 (IntKind.wrap .i64 n12))), (1, (.int .u64 n15))]) fun g16 => OkC (some 2) g16 (StQ (awr s14 l1 0 g16) fun s17 => RdL (rdc s17 l1 0 2) fun g18 => R (.agg g18) s17)))))
def A_wire_Reader_Dot : QA := (.seq .leaf (.seq .leaf (.seq .leaf (.seq .leaf .leaf))))
theorem q_wire_Reader_Dot (a0 : Option (Nat × Nat)) (s : AS) (R : AV → AS → Prop) (h : Q_wire_Reader_Dot a0 s R) : ACalls Try.prog F_wire_Reader_Dot [(.ptr a0)] s R :=
 ACalls.q (n := 19) (rs := [.cell 2 41]) (A := A_wire_Reader_Dot) hT hmx Try.func27 (by kernel_rfl) rfl rfl rfl (by kernel_rfl) (by kernel_rfl) h
def Q_wire_Reader_Blob (a0 : Option (Nat × Nat)) (s : AS) (R : AV → AS → Prop) : Prop :=
 ACalls Try.prog F_wire_Reader_Number [(.ptr a0), (.int .i64 2)] s fun v1 s2 => ∃ n3 : Int, v1 = .int .u64 n3 ∧ (ACalls Try.prog F_wire_Reader_Bytes [(.ptr a0), (.int .i64 (IntKind.wrap .i64 n3))] s2 fun v4 s5 => R v4 s5)
def A_wire_Reader_Blob : QA := (.seq .leaf (.seq .leaf .leaf))
theorem q_wire_Reader_Blob (a0 : Option (Nat × Nat)) (s : AS) (R : AV → AS → Prop) (h : Q_wire_Reader_Blob a0 s R) : ACalls Try.prog F_wire_Reader_Blob [(.ptr a0)] s R :=
 ACalls.q (n := 8) (rs := [.tmp 2]) (A := A_wire_Reader_Blob) hT hmx Try.func28 (by kernel_rfl) rfl rfl rfl (by kernel_rfl) (by kernel_rfl) h
def Q_wire_Reader_End (a0 : Option (Nat × Nat)) (s : AS) (R : AV → AS → Prop) : Prop :=
 JoinQ fun J1 =>
 (∀ b2 : Bool, ∀ s3 : AS, J1 [(.bool b2)] s3 →
 bsplit b2
 (R (.int .i64 1) s3)
 (ACalls Try.prog F_wire_Reader_Failed [(.ptr a0)] s3 fun v4 s5 => ∃ b6 : Bool, v4 = .bool b6 ∧ (bsplit b6 (R (.int .i64 4) s5) (AsSome a0 fun l7 o8 => RdA (rd1 s5 l7 o8) fun v9 => RdI .i64 (alenB T Y_s_uint8 v9 s5) fun n10 => bsplit (decide ((n10 : Int) > 0))
 (R (.int .i64 4) s5)
 (R (.int .i64 0) s5))))) ∧
 (RdO (aeq T 100 Y_p_wire_Reader (.ptr a0) (.ptr none)) fun b11 => bsplit b11 (J1 [(.bool true)] s) (AsSome a0 fun l12 o13 => RdB (rd1 s l12 (o13 + 2)) fun b14 => J1 [(.bool (!b14))] s))
def A_wire_Reader_End : QA := (.seq .leaf (.seq (.wrap (.join [(3, .bool)] [(3, 12)] .leaf (.cond (.seq .leaf .leaf) (.seq .leaf (.cond (.seq .leaf .leaf) .leaf))))) (.seq .leaf .leaf)))
theorem q_wire_Reader_End (a0 : Option (Nat × Nat)) (s : AS) (R : AV → AS → Prop) (h : Q_wire_Reader_End a0 s R) : ACalls Try.prog F_wire_Reader_End [(.ptr a0)] s R :=
 ACalls.q (n := 24) (rs := [.tmp 2]) (A := A_wire_Reader_End) hT hmx Try.func29 (by kernel_rfl) rfl rfl rfl (by kernel_rfl) (by kernel_rfl) h
def Q_wire_Reader_take (a0 : Option (Nat × Nat)) (a1 : Int) (s : AS) (R : AV → AS → Prop) : Prop :=
 ACalls Try.prog F_wire_Reader_Failed [(.ptr a0)] s fun v1 s2 => ∃ b3 : Bool, v1 = .bool b3 ∧ (bsplit b3
 (R (.tup [(.slc none 0 0 true), (.bool false)]) s2)
 (JoinQ fun J4 =>
 (∀ b5 : Bool, ∀ s6 : AS, J4 [(.bool b5)] s6 →
 bsplit b5
 (RdG (abuild T Y_wire_Reader [(2, (.bool true))]) fun g7 => AsSome a0 fun l8 o9 => OkC (some 3) g7 (StQ (awr s6 l8 o9 g7) fun s10 => R (.tup [(.slc none 0 0 true), (.bool false)]) s10))
 (AsSome a0 fun l11 o12 => RdA (rd1 s6 l11 o12) fun v13 => RdA (aslice T Y_s_uint8 v13 none (some (.int .i64 a1)) (some (.int .i64 a1))) fun v14 => AsSome a0 fun l15 o16 => RdA (rd1 s6 l15 o16) fun v17 => RdA (aslice T Y_s_uint8 v17 (some (.int .i64 a1)) none none) fun v18 => AsSome a0 fun l19 o20 => qstore T Y_s_uint8 s6 l19 o20 v18 fun s21 => R (.tup [v14, (.bool true)]) s21)) ∧
 (bsplit (decide ((a1 : Int) < 0)) (J4 [(.bool true)] s2) (AsSome a0 fun l22 o23 => RdA (rd1 s2 l22 o23) fun v24 => RdI .i64 (alenB T Y_s_uint8 v24 s2) fun n25 => J4 [(.bool (decide ((a1 : Int) > n25)))] s2))))
def A_wire_Reader_take : QA := (.seq .leaf (.seq (.wrap (.seq .leaf (.cond (.seq .leaf .leaf) (.join [(10, .bool)] [(10, 21)] .leaf (.cond (.seq .leaf (.seq .leaf .leaf)) .leaf))))) (.seq .leaf (.seq .leaf (.seq .leaf .leaf)))))
theorem q_wire_Reader_take (a0 : Option (Nat × Nat)) (a1 : Int) (s : AS) (R : AV → AS → Prop) (h : Q_wire_Reader_take a0 a1 s R) : ACalls Try.prog F_wire_Reader_take [(.ptr a0), (.int .i64 a1)] s R :=
 ACalls.q (n := 42) (rs := [.tmp 4, .tmp 5]) (A := A_wire_Reader_take) hT hmx Try.func77 (by kernel_rfl) rfl rfl rfl (by kernel_rfl) (by kernel_rfl) h
def Q_wire_Reader_Vector_1 (c0 : Option (Nat × Nat)) (s : AS) (R : AV → AS → Prop) : Prop :=
 AsSome c0 fun l1 o2 => RdP (rd1 s l1 o2) fun p3 => ACalls Try.prog F_wire_Reader_Number [(.ptr p3), (.int .i64 8)] s fun v4 s5 => ∃ n6 : Int, v4 = .int .u64 n6 ∧ (R (.int .u64 n6) s5)
def A_wire_Reader_Vector_1 : QA := (.seq .leaf (.seq .leaf .leaf))
theorem q_wire_Reader_Vector_1 (c0 : Option (Nat × Nat)) (s : AS) (R : AV → AS → Prop) (h : Q_wire_Reader_Vector_1 c0 s R) : ACalls Try.prog F_wire_Reader_Vector_1 [(.ptr c0)] s R :=
 ACalls.q (n := 4) (rs := [.tmp 1]) (A := A_wire_Reader_Vector_1) hT hmx Try.func78 (by kernel_rfl) rfl rfl rfl (by kernel_rfl) (by kernel_rfl) h
def Q_wire_Get (a0 : AV) (s : AS) (R : AV → AS → Prop) : Prop :=
 JoinQ fun J1 =>
 (∀ b2 : Bool, ∀ s3 : AS, J1 [(.bool b2)] s3 →
 bsplit b2
 (R (.tup [(.int .u64 0), (.int .i64 2)]) s3)
 (JoinQ fun J4 =>
 (∀ n5 : Int, ∀ s6 : AS, J4 [(.int .u64 n5)] s6 →
 R (.tup [(.int .u64 n5), (.int .i64 0)]) s6) ∧
 (RdI .i64 (alenB T Y_s_uint8 a0 s3) fun n7 => LoopQ fun I8 m9 => I8 m9 [(.int .u64 0), (.int .i64 0)] s3 ∧
 ∀ m10 : Nat, ∀ n11 : Int, ∀ n12 : Int, ∀ s13 : AS, I8 m10 [(.int .u64 n11), (.int .i64 n12)] s13 →
 bsplit (decide ((n12 : Int) < n7))
 (IxQ (aindexAddr T Y_s_uint8 a0 (.int .i64 n12)) fun l14 o15 => RdI .u8 (rd1 s13 l14 o15) fun n16 => NN 8 (RdA (abinInt .or .u64 (IntKind.wrap .u64 (n11 * 2 ^ min (Int.toNat 8) (IntKind.bits .u64))) (IntKind.wrap .u64 n16)) fun v17 => isK (.int .u64) v17 fun v18 => ∃ m', m' < m10 ∧ I8 m' [v18, (.int .i64 (IntKind.wrap .i64 (n12 + 1)))] s13))
 (J4 [(.int .u64 n11)] s13)))) ∧
 (RdI .i64 (alenB T Y_s_uint8 a0 s) fun n19 => bsplit (decide ((n19 : Int) < 1)) (J1 [(.bool true)] s) (RdI .i64 (alenB T Y_s_uint8 a0 s) fun n20 => J1 [(.bool (decide ((n20 : Int) > 8)))] s))
def A_wire_Get : QA := (.seq .leaf (.seq (.join [(14, .bool)] [(7, 14)] .leaf (.cond (.seq .leaf .leaf) .leaf)) (.seq .leaf (.join [(4, .int .u64)] [(4, 4), (6, 6), (15, 26)] (.seq .leaf (.wrap (.loop [(4, .int .u64), (17, .int .i64)] [(4, 4), (6, 6), (17, 26)] (.seq .leaf (.seq (.cond .leaf .leaf) (.seq (.wrap (.seq .leaf .leaf)) .leaf)))))) (.seq .leaf .leaf)))))
theorem q_wire_Get (a0 : AV) (s : AS) (R : AV → AS → Prop) (h : Q_wire_Get a0 s R) : ACalls Try.prog F_wire_Get [a0] s R :=
 ACalls.q (n := 28) (rs := [.tmp 2, .tmp 3]) (A := A_wire_Get) hT hmx Try.func79 (by kernel_rfl) rfl rfl rfl (by kernel_rfl) (by kernel_rfl) h
def Q_wire_Reader_Bytes (a0 : Option (Nat × Nat)) (a1 : Int) (s : AS) (R : AV → AS → Prop) : Prop :=
 ACalls Try.prog F_wire_Reader_take [(.ptr a0), (.int .i64 a1)] s fun v1 s2 => ∃ v3 : AV, ∃ b4 : Bool, v1 = .tup [v3, (.bool b4)] ∧ (R v3 s2)
def A_wire_Reader_Bytes : QA := (.seq .leaf (.seq .leaf (.seq .leaf .leaf)))
theorem q_wire_Reader_Bytes (a0 : Option (Nat × Nat)) (a1 : Int) (s : AS) (R : AV → AS → Prop) (h : Q_wire_Reader_Bytes a0 a1 s R) : ACalls Try.prog F_wire_Reader_Bytes [(.ptr a0), (.int .i64 a1)] s R :=
 ACalls.q (n := 14) (rs := [.tmp 4]) (A := A_wire_Reader_Bytes) hT hmx Try.func80 (by kernel_rfl) rfl rfl rfl (by kernel_rfl) (by kernel_rfl) h
end Go.Proofs.Ytoklmpkpeanloaa
end

section
namespace Go.Proofs.Ytoklmpkpeanloaa
open Go.Am Go.Minster Go.Minster2
/-! ### numbers of bytes -/
def InB (l : List Int) : Prop := ∀ x ∈ l, 0 ≤ x ∧ x < 256
theorem InB.take {l : List Int} (h : InB l) (n : Nat) : InB (l.take n) := fun x hx => h x (List.mem_of_mem_take hx)
theorem InB.drop {l : List Int} (h : InB l) (n : Nat) : InB (l.drop n) := fun x hx => h x (List.mem_of_mem_drop hx)
theorem InB.nil : InB [] := by simp [InB]
def numB (l : List Int) : Int := l.foldl (fun n x => n * 256 + x) 0
theorem numB_snoc (l : List Int) (x : Int) : numB (l ++ [x]) = numB l * 256 + x := by simp [numB]
theorem numB_in : ∀ (l : List Int) (n : Nat), InB l → l.length ≤ n → 0 ≤ numB l ∧ numB l < 256 ^ n := by
 intro l
 induction hl : l.length generalizing l with
 | zero =>
  intro n _ _
  obtain rfl := List.length_eq_zero_iff.1 hl
  exact ⟨by simp [numB], by simp only [numB, List.foldl_nil]; exact Int.pow_pos (by decide)⟩
 | succ k ih =>
  intro n h hn
  obtain ⟨m, x, rfl⟩ : ∃ m x, l = m ++ [x] := ⟨l.dropLast, l.getLast (by intro e; subst e; simp at hl), (List.dropLast_concat_getLast _).symm⟩
  have hk : m.length = k := by simpa using hl
  obtain ⟨n', rfl⟩ : ∃ n', n = n' + 1 := ⟨n - 1, by omega⟩
  have := ih m hk n' (fun y hy => h y (by simp [hy])) (by omega)
  have hx := h x (by simp)
  rw [numB_snoc, Int.pow_succ]
  exact ⟨by omega, by omega⟩
theorem or_byte {a x : Int} (ha : 0 ≤ a ∧ a < 256 ^ 7) (hx : 0 ≤ x ∧ x < 256) : abinInt .or .u64 (IntKind.wrap .u64 (a * 2 ^ min (Int.toNat 8) (IntKind.bits .u64))) (IntKind.wrap .u64 x) = some (.int .u64 (a * 256 + x)) := by
 have e1 : (2 : Int) ^ min (Int.toNat 8) (IntKind.bits .u64) = 256 := by decide
 have e7 : (256 : Int) ^ 7 = 72057594037927936 := by decide
 rw [e7] at ha
 rw [e1, wrap_u (by omega), wrap_u (by omega)]
 obtain ⟨A, rfl⟩ := Int.eq_ofNat_of_zero_le ha.1
 obtain ⟨X, rfl⟩ := Int.eq_ofNat_of_zero_le hx.1
 have h1 : (BitVec.ofInt (IntKind.bits .u64) ((A : Int) * 256)).toNat = 2 ^ 8 * A := by
  rw [BitVec.toNat_ofInt]
  have : ((2 ^ (IntKind.bits .u64) : Nat) : Int) = 18446744073709551616 := by decide
  rw [this]; omega
 have h2 : (BitVec.ofInt (IntKind.bits .u64) (X : Int)).toNat = X := by
  rw [BitVec.toNat_ofInt]
  have : ((2 ^ (IntKind.bits .u64) : Nat) : Int) = 18446744073709551616 := by decide
  rw [this]; omega
 simp only [abinInt, BitVec.toNat_or, h1, h2]
 rw [← Nat.two_pow_add_eq_or_of_lt (show X < 2 ^ 8 by omega), wrap_u (by omega)]
 congr 2; omega
def getN (l : List Int) : Int := if 1 ≤ l.length ∧ l.length ≤ 8 then numB l else 0
theorem getN_in {l : List Int} (h : InB l) : 0 ≤ getN l ∧ getN l ≤ 18446744073709551615 := by
 unfold getN
 split
 ·rename_i hc
  have := numB_in l 8 h hc.2
  have e : (256 : Int) ^ 8 = 18446744073709551616 := by decide
  omega
 ·omega
theorem Get_ok {s : AS} {v : AV} {l : List Int} (h : Byts s v l) (hb : InB l) : ACalls Try.prog F_wire_Get [v] s fun r s' => s' = s ∧ ∃ c, r = .tup [.int .u64 (getN l), .int .i64 c] := by
 refine q_wire_Get _ _ _ ⟨fun vs s' => s' = s ∧ vs = [.bool (decide (¬ (1 ≤ l.length ∧ l.length ≤ 8)))], ?_, _, h.lenB u_s_uint8 _, bsplit.dec (fun h1 => ⟨rfl, ?_⟩) (fun h1 => ⟨_, h.lenB u_s_uint8 _, rfl, ?_⟩)⟩
 rotate_left
 ·rw [decide_eq_true (by omega)]
 ·congr 2
  apply decide_eq_decide.2
  omega
 rintro b s3 ⟨rfl, hb2⟩
 obtain rfl : b = decide (¬ (1 ≤ l.length ∧ l.length ≤ 8)) := AV.bool.inj (List.cons.inj hb2).1
 refine bsplit.dec (fun hc => ⟨rfl, 2, ?_⟩) (fun hc => ?_)
 ·rw [show getN l = 0 from if_neg hc]
 have hc : 1 ≤ l.length ∧ l.length ≤ 8 := Classical.not_not.1 hc
 refine ⟨fun vs s' => s' = s3 ∧ vs = [.int .u64 (numB l)], ?_, _, h.lenB u_s_uint8 _, fun m vs s' => ∃ i : Nat, vs = [.int .u64 (numB (l.take i)), .int .i64 (i : Nat)] ∧ i ≤ l.length ∧ m = l.length - i ∧ s' = s3, l.length, ⟨0, rfl, by omega, rfl, rfl⟩, ?_⟩
 ·rintro n s6 ⟨rfl, hn⟩
  obtain rfl : n = numB l := by simpa using hn
  exact ⟨rfl, 0, by rw [show getN l = numB l from if_pos hc]⟩
 rintro m n11 n12 s13 ⟨i, hin, hi, rfl, rfl⟩
 simp only [List.cons.injEq, AV.int.injEq, true_and, and_true] at hin
 obtain ⟨rfl, rfl⟩ := hin
 refine bsplit.dec (fun hlt => ?_) (fun hge => ?_)
 ·obtain ⟨x, hx⟩ := get_lt (l := l) (i := i) (by omega)
  obtain ⟨la, o, k8, k9⟩ := h.ix (by decide) byC_len u_s_uint8 z_uint8 hx
  have step := List.take_add_one (l := l) (i := i)
  rw [hx, Option.toList_some] at step
  have hn := numB_in (l.take i) 7 (hb.take i) (by rw [List.length_take]; omega)
  refine ⟨la, o, k8 _, x, (k9 _ (Ext.refl _)).1 0 (by decide), by omega, _, or_byte hn (hb x (List.mem_of_getElem? hx)), l.length - (i + 1), by omega, i + 1, ?_, by omega, rfl, rfl⟩
  rw [step, numB_snoc, wrap_i (by omega)]; rfl
 ·rw [List.take_of_length_le (by omega)]
  exact ⟨rfl, rfl⟩
/-! ### readers, plainly: what is left; none: it has failed -/
abbrev RO := Option (List Int)
def RO.fit (o : RO) (n : Int) : Bool := match o with
 | some B => decide (0 ≤ n ∧ n ≤ B.length)
 | none => false
def RO.take (o : RO) (n : Int) : List Int := if o.fit n then (o.getD []).take n.toNat else []
def RO.left (o : RO) (n : Int) : RO := if o.fit n then o.map fun B => B.drop n.toNat else none
def RO.numR (o : RO) (k : Int) : Int := getN (o.take k)
def RO.blobR (o : RO) : List Int := (o.left 2).take (o.numR 2)
def RO.blobL (o : RO) : RO := (o.left 2).left (o.numR 2)
def RO.dotR (o : RO) : Dot := ⟨IntKind.wrap .i64 (RO.numR (some (o.take 9)) 1), RO.numR (RO.left (some (o.take 9)) 1) 8⟩
def vecN (B : RO) : Nat → List Int
 | 0 => []
 | n + 1 => RO.numR B 8 :: vecN (B.left 8) n
def RO.vecR (o : RO) : List Int := vecN (some (o.take 128)) 16
def RO.In (o : RO) : Prop := ∀ B, o = some B → InB B
theorem RO.In.getD {o : RO} (h : o.In) : InB (o.getD []) := by
 cases o with
 | none => exact InB.nil
 | some B => exact h B rfl
theorem RO.In.take {o : RO} (h : o.In) (n : Int) : InB (o.take n) := by
 unfold RO.take
 split
 ·exact h.getD.take _
 ·exact InB.nil
theorem RO.In.left {o : RO} (h : o.In) (n : Int) : (o.left n).In := by
 intro B hB
 unfold RO.left at hB
 split at hB
 ·cases o with
  | none => cases hB
  | some A => obtain rfl := Option.some.inj hB; exact (h A rfl).drop _
 ·cases hB
/-! ### a reader in memory -/
structure RdrAt (s : AS) (p : Nat) (o : RO) : Prop where
 inb : o.In
 mem : ∃ v, Am.Own s p [v, .bool o.isSome, .bool true] ∧ Byts s v (o.getD [])
def NoB (s : AS) (q : Nat) : Prop := ∀ (C : List AV), At s q C → ∀ (k : Nat) (x : Int), C[k]? ≠ some (AV.int .u8 x)
theorem NoB.own {s : AS} {q : Nat} {C : List AV} (h : At s q C) (hC : ∀ v ∈ C, ∀ x, v ≠ AV.int .u8 x) : NoB s q := by
 intro C' h' k x he
 rw [h'.inj h] at he
 exact hC _ (List.mem_of_getElem? he) x rfl
theorem SlAt.nu8 {s : AS} {v : AV} {n sz : Nat} {cs : List AV} (h : SlAt s v sz cs n) (x : Int) : v ≠ AV.int .u8 x := by
 rcases h with ⟨rfl, _⟩ | ⟨a, c, e, rfl, _⟩ <;> exact fun h => by cases h
theorem Byts.mutN {s s' : AS} {v : AV} {l : List Int} {L : List Nat} (h : Byts s v l) (m : Mut L s s') (hL : ∀ q ∈ L, NoB s q) : Byts s' v l :=
 Sl.mut h m byC_len (by decide) fun q hq C hC x _ k c hc he => hL q hq C hC k x (by rw [he, ← hc]; rfl)
section
variable {s s' : AS} {p : Nat} {o : RO}
theorem RdrAt.noB (h : RdrAt s p o) : NoB s p := by
 obtain ⟨_, v, h1, h2⟩ := h
 refine NoB.own h1.at fun w hw x => ?_
 simp only [List.mem_cons, List.not_mem_nil, or_false] at hw
 rcases hw with rfl | rfl | rfl
 ·exact SlAt.nu8 h2 x
 ·exact fun h => by cases h
 ·exact fun h => by cases h
theorem RdrAt.there (h : RdrAt s p o) : s.h p ≠ none := by
 obtain ⟨_, v, h1, _⟩ := h
 rw [h1]; simp
theorem RdrAt.mut {L : List Nat} (h : RdrAt s p o) (m : Mut L s s') (hp : p ∉ L) (hL : ∀ q ∈ L, NoB s q) : RdrAt s' p o := by
 obtain ⟨h0, v, h1, h2⟩ := h
 exact ⟨h0, v, h1.mut m hp, h2.mutN m hL⟩
theorem RdrAt.ext (h : RdrAt s p o) (e : Ext s s') : RdrAt s' p o := h.mut (L := []) e.mut (by simp) (by simp)
theorem Failed_ok (h : RdrAt s p o) : ACalls Try.prog F_wire_Reader_Failed [.ptr (some (p, 0))] s fun r s' => r = .bool (!o.isSome) ∧ s' = s := by
 obtain ⟨_, v, h1, _⟩ := h
 exact q_wire_Reader_Failed _ _ _ ⟨_, aeqPtrNil u_p_wire_Reader _, bsplit.no rfl ⟨o.isSome, by rw [h1.at.rd1]; rfl, rfl, rfl⟩⟩
theorem pl_Rdr : places T Y_wire_Reader = some [(0, 1), (1, 1), (2, 1)] := by kernel_rfl
theorem rdr_zero : abuild T Y_wire_Reader [(2, .bool true)] = some (.agg [.slc none 0 0 true, .bool false, .bool true]) := by kernel_rfl
theorem rdr_build {w : AV} (hw : w.one = true) : abuild T Y_wire_Reader [(0, w), (1, .bool true), (2, .bool true)] = some (.agg [w, .bool true, .bool true]) := by
 rw [abuild_pl pl_Rdr zr_wire_Reader rfl]
 have e0 := afill_step (pl := fun i => [(0, 1), (1, 1), (2, 1)][i]?) (pre := []) (mid := [.slc none 0 0 true]) (post := [.bool false, .bool false]) (c := [w]) (i := 0) (sz := 1) (v := w) (rest := [(1, .bool true), (2, .bool true)]) rfl (acells_1 hw) rfl rfl
 have e1 := afill_step (pl := fun i => [(0, 1), (1, 1), (2, 1)][i]?) (pre := [w]) (mid := [.bool false]) (post := [.bool false]) (c := [.bool true]) (i := 1) (sz := 1) (v := .bool true) (rest := [(2, .bool true)]) rfl rfl rfl rfl
 have e2 := afill_step (pl := fun i => [(0, 1), (1, 1), (2, 1)][i]?) (pre := [w, .bool true]) (mid := [.bool false]) (post := []) (c := [.bool true]) (i := 2) (sz := 1) (v := .bool true) (rest := []) rfl rfl rfl rfl
 exact congrArg (Option.map AV.agg) (e0.trans (e1.trans e2))
theorem take_ok (h : RdrAt s p o) (n : Int) : ACalls Try.prog F_wire_Reader_take [.ptr (some (p, 0)), .int .i64 n] s fun r s' => Mut [p] s s' ∧ RdrAt s' p (o.left n) ∧ ∃ v, r = .tup [v, .bool (o.fit n)] ∧ Byts s' v (o.take n) := by
 refine ACalls.pre fun hw => q_wire_Reader_take _ _ _ _ ?_
 refine ACalls.use (Failed_ok h) ?_
 rintro v1 s2 ⟨rfl, rfl⟩ w2
 obtain ⟨hin, v, h1, h2⟩ := id h
 cases o with
 | none => exact ⟨_, rfl, bsplit.yes rfl ⟨Mut.refl _ _, h, _, rfl, Sl.nil⟩⟩
 | some B =>
  simp only [Option.isSome_some, Option.getD_some] at h1 h2
  refine ⟨_, rfl, bsplit.no rfl ⟨fun vs s' => s' = s2 ∧ vs = [.bool (!RO.fit (some B) n)], ?_, ?_⟩⟩
  rotate_left
  ·refine bsplit.dec (fun hn => ⟨rfl, ?_⟩) (fun hn => ⟨v, by rw [h1.at.rd1]; rfl, _, h2.lenB u_s_uint8 _, rfl, ?_⟩)
   ·rw [show RO.fit (some B) n = false from decide_eq_false (by omega)]; rfl
   ·congr 2
    unfold RO.fit
    rw [← decide_not, decide_eq_decide]
    omega
  rintro b s6 ⟨rfl, hb⟩
  obtain rfl : b = !RO.fit (some B) n := AV.bool.inj (List.cons.inj hb).1
  refine bsplit.mk (fun hf => ?_) (fun hf => ?_)
  ·have hf : RO.fit (some B) n = false := by simpa using hf
   refine ⟨_, rdr_zero, ⟨rfl, rfl⟩, StQ.own w2 h1 (by simp) fun s10 P => ⟨P.mut, ⟨hin.left n, .slc none 0 0 true, ?_, ?_⟩, _, by rw [hf], ?_⟩⟩
   ·simp only [RO.left, hf, Bool.false_eq_true, if_false]; exact P.at
   ·simp only [RO.left, hf, Bool.false_eq_true, if_false]; exact Sl.nil
   ·simp only [RO.take, hf, Bool.false_eq_true, if_false]; exact Sl.nil
  ·have hf : RO.fit (some B) n = true := by simpa using hf
   have hn : 0 ≤ n ∧ n ≤ B.length := by simpa [RO.fit] using hf
   obtain ⟨k, rfl⟩ := Int.eq_ofNat_of_zero_le hn.1
   obtain ⟨v14, e14, b14⟩ := Sl.head byC_len u_s_uint8 z_uint8 h2 (i := k) (by omega) .i64
   obtain ⟨v18, e18, b18⟩ := Sl.rest byC_len u_s_uint8 z_uint8 h2 (i := k) (by omega) .i64
   refine ⟨v, by rw [h1.at.rd1]; rfl, v14, e14, v, by rw [h1.at.rd1]; rfl, v18, e18, ?_⟩
   refine qstore_one (SlAt.one b18) z_s_uint8 (StQ.own w2 h1 (by simp) fun s21 P => ?_)
   have hN : ∀ q ∈ [p], NoB s6 q := by
    intro q hq
    obtain rfl := List.mem_singleton.1 hq
    exact h.noB
   refine ⟨P.mut, ⟨hin.left _, v18, ?_, ?_⟩, v14, by rw [hf], ?_⟩
   ·simp only [RO.left, hf, if_true]; exact P.at
   ·simp only [RO.left, hf, if_true, Option.map_some, Option.getD_some, Int.toNat_natCast]; exact Byts.mutN b18 P.mut hN
   ·simp only [RO.take, hf, if_true, Option.getD_some, Int.toNat_natCast]; exact Byts.mutN b14 P.mut hN
theorem Number_ok (h : RdrAt s p o) {k : Int} (hk : 1 ≤ k ∧ k ≤ 8) : ACalls Try.prog F_wire_Reader_Number [.ptr (some (p, 0)), .int .i64 k] s fun r s' => r = .int .u64 (o.numR k) ∧ Mut [p] s s' ∧ RdrAt s' p (o.left k) := by
 refine q_wire_Reader_Number _ _ _ _ ⟨fun vs s' => s' = s ∧ vs = [.int .i64 k], ?_, bsplit.dec (fun h => absurd h (by omega)) (fun _ => bsplit.dec (fun h => absurd h (by omega)) (fun _ => ⟨rfl, rfl⟩))⟩
 rintro n s3 ⟨rfl, hn⟩
 obtain rfl : n = k := by simpa using hn
 refine ACalls.use (take_ok h n) ?_
 rintro v4 s5 ⟨m5, r5, v6, rfl, b6⟩ w5
 refine ⟨_, _, rfl, ?_⟩
 refine ACalls.use (Get_ok b6 (h.inb.take n)) ?_
 rintro v8 s9 ⟨rfl, c, rfl⟩ w9
 exact ⟨_, _, rfl, rfl, m5, r5⟩
theorem Bytes_ok (h : RdrAt s p o) (n : Int) : ACalls Try.prog F_wire_Reader_Bytes [.ptr (some (p, 0)), .int .i64 n] s fun r s' => Mut [p] s s' ∧ RdrAt s' p (o.left n) ∧ Byts s' r (o.take n) := by
 refine q_wire_Reader_Bytes _ _ _ _ ?_
 refine ACalls.use (take_ok h n) ?_
 rintro v4 s5 ⟨m5, r5, v6, rfl, b6⟩ w5
 exact ⟨_, _, rfl, m5, r5, b6⟩
theorem numR_in (h : o.In) (k : Int) : 0 ≤ o.numR k ∧ o.numR k ≤ 18446744073709551615 := getN_in (h.take k)
theorem num2_in (h : o.In) : 0 ≤ o.numR 2 ∧ o.numR 2 < 65536 := by
 unfold RO.numR getN
 split
 ·have hl : (o.take 2).length ≤ 2 := by
   unfold RO.take
   split
   ·rw [List.length_take]; omega
   ·simp
  have := numB_in (o.take 2) 2 (h.take 2) hl
  have e : (256 : Int) ^ 2 = 65536 := by decide
  omega
 ·omega
theorem RBlob_ok (h : RdrAt s p o) : ACalls Try.prog F_wire_Reader_Blob [.ptr (some (p, 0))] s fun r s' => Mut [p] s s' ∧ RdrAt s' p o.blobL ∧ Byts s' r o.blobR := by
 refine q_wire_Reader_Blob _ _ _ ?_
 refine ACalls.use (Number_ok h (k := 2) (by omega)) ?_
 rintro v1 s2 ⟨rfl, m2, r2⟩ w2
 have hn := num2_in h.inb
 refine ⟨_, rfl, ?_⟩
 rw [wrap_i (by omega)]
 refine ACalls.use (Bytes_ok r2 (o.numR 2)) ?_
 rintro v4 s5 ⟨m5, r5, b5⟩ w5
 exact ⟨m2.trans m5, r5, b5⟩
theorem End_ok (h : RdrAt s p o) : ACalls Try.prog F_wire_Reader_End [.ptr (some (p, 0))] s fun r s' => s' = s ∧ r = .int .i64 (if o = some [] then 0 else 4) := by
 obtain ⟨hin, v, h1, h2⟩ := id h
 refine q_wire_Reader_End _ _ _ ⟨fun vs s' => s' = s ∧ vs = [.bool false], ?_, _, aeqPtrNil u_p_wire_Reader _, bsplit.no rfl ⟨true, by rw [h1.at.rd1]; rfl, rfl, rfl⟩⟩
 rintro b s3 ⟨rfl, hb⟩
 obtain rfl : b = false := by simpa using hb
 refine bsplit.no rfl ?_
 refine ACalls.use (Failed_ok h) ?_
 rintro v4 s5 ⟨rfl, rfl⟩ w5
 refine ⟨_, rfl, ?_⟩
 cases o with
 | none => exact bsplit.yes rfl ⟨rfl, by rw [if_neg (by simp)]⟩
 | some B =>
  refine bsplit.no rfl ⟨v, by rw [h1.at.rd1]; rfl, _, h2.lenB u_s_uint8 _, bsplit.dec (fun hp => ⟨rfl, ?_⟩) (fun hp => ⟨rfl, ?_⟩)⟩
  ·rw [if_neg]
   rintro h; obtain rfl := Option.some.inj h
   simp at hp
  ·rw [if_pos]
   have : B = [] := List.length_eq_zero_iff.1 (by simp only [Option.getD_some] at hp; omega)
   rw [this]
end
theorem bclone_ok {s : AS} {v : AV} {l : List Int} (hl : Byts s v l) (hn : l.length ≤ 2 ^ 30) : ACalls Try.prog F_slices_Clone__s_byte_byte [v] s fun r s' => BytN s s' r l := by
 refine ACalls.pre fun hw => q_slices_Clone__s_byte_byte _ _ _ ?_
 have main : RdL (absl T Y_s_uint8 0 []) fun g2 => NewQ (.cells g2 0 false) s fun l3 s4 => Bd2 (aappend T Y_s_uint8 Y_s_uint8 (.slc (some (l3, 0)) 0 0 true) v s4) fun v5 s6 => BytN s s6 v5 l := by
  refine ⟨_, absl_nil sl_s_uint8, NewQ.intro hw rfl fun l3 s4 F => ?_⟩
  refine GroN.appendS sl_s_uint8 byC_len byC_one F.wf (GroN.start (M := []) F.ext.mut) (by simp) (hl.ext F.ext) (by simpa using hn) u_s_uint8 fun v' s' g _ _ => ?_
  simpa using g
 rcases hl with ⟨rfl, _, hnil⟩ | ⟨a, c, e, rfl, hlen, h3⟩
 ·refine ⟨_, eqQ_emp_nil u_s_uint8 _ _ _ _, bsplit.no rfl main⟩
 ·refine ⟨_, eqQ_slc_nil u_s_uint8 _ _ _ _ _ _ _ _, bsplit.mk (fun h => ?_) (fun _ => main)⟩
  have : a = none := by simpa using h
  subst this
  have : l = [] := by
   rcases h3 with h3 | ⟨la, o, C, h, _⟩
   ·exact List.length_eq_zero_iff.1 h3
   ·cases h
  subst this
  exact GroN.nil
theorem Read_ok {s : AS} {v : AV} {l : List Int} (hl : Byts s v l) (hb : InB l) (hn : l.length ≤ 2 ^ 30) : ACalls Try.prog F_wire_Read [v] s fun r s' => ∃ p, r = .ptr (some (p, 0)) ∧ s.h p = none ∧ RdrAt s' p (some l) ∧ Ext s s' := by
 refine q_wire_Read _ _ _ ?_
 refine ACalls.use (bclone_ok hl hn) ?_
 rintro v1 s2 g w2
 have h1 := g.isSlc.2
 refine ⟨_, rdr_build h1, ?_, NewQ.intro w2 rfl fun l4 s5 F5 => ⟨l4, rfl, g.chg.ext.none F5.no, ⟨?_, v1, F5.own, (g.sl byC_len).ext F5.ext⟩, g.chg.ext.trans F5.ext⟩⟩
 ·simp [h1]
 ·intro B hB; obtain rfl := Option.some.inj hB; exact hb
section
variable {s : AS} {p : Nat} {o : RO}
theorem fit_le {n : Nat} : (o.take n).length ≤ n := by
 unfold RO.take
 split
 ·rw [List.length_take]; omega
 ·simp
theorem RDot_ok (h : RdrAt s p o) : ACalls Try.prog F_wire_Reader_Dot [.ptr (some (p, 0))] s fun r s' => r = .agg (dotC o.dotR) ∧ Mut [p] s s' ∧ RdrAt s' p (o.left 9) := by
 refine ACalls.pre fun hw => q_wire_Reader_Dot _ _ _ (NewQ.intro hw rfl fun l1 s2 F2 => ?_)
 refine ACalls.use (take_ok (h.ext F2.ext) 9) ?_
 rintro v3 s4 ⟨m4, r4, v5, rfl, b5⟩ w4
 have hpl : l1 ≠ p := by rintro rfl; exact h.there F2.no
 refine ⟨_, _, rfl, ?_⟩
 have hlen : (o.take 9).length ≤ 9 := fit_le (n := 9)
 refine ACalls.use (Read_ok b5 (h.inb.take 9) (by omega)) ?_
 rintro v7 s8 ⟨q, rfl, hq, rq, e8⟩ w8
 refine ⟨_, rfl, ?_⟩
 refine ACalls.use (Number_ok rq (k := 1) (by omega)) ?_
 rintro v10 s11 ⟨rfl, m11, rq11⟩ w11
 refine ⟨_, rfl, ?_⟩
 refine ACalls.use (Number_ok rq11 (k := 8) (by omega)) ?_
 rintro v13 s14 ⟨rfl, m14, rq14⟩ w14
 refine ⟨_, rfl, _, dot_build2 _ _, ⟨rfl, rfl⟩, ?_⟩
 have hqp : p ≠ q := by rintro rfl; exact r4.there hq
 have hql : l1 ≠ q := by
  rintro rfl
  have := m4.1 l1 _ (by simpa using hpl) F2.at
  rw [this] at hq; cases hq
 have a14 : Am.Own s14 l1 [.int .i64 0, .int .u64 0] := (((F2.own.mut m4 (by simpa using hpl)).ext e8).mut m11 (by simpa using hql)).mut m14 (by simpa using hql)
 have rp14 : RdrAt s14 p (o.left 9) := ((r4.ext e8).mut m11 (by simpa using hqp) (by intro x hx; obtain rfl := List.mem_singleton.1 hx; exact rq.noB)).mut m14 (by simpa using hqp) (by intro x hx; obtain rfl := List.mem_singleton.1 hx; exact rq11.noB)
 refine StQ.own w14 a14 (by simp [dotC]) fun s17 P => ⟨dotC o.dotR, ?_, rfl, ?_, ?_⟩
 ·exact At.rdc (cs := dotC o.dotR) ⟨_, _, P.at⟩ (by simp [dotC])
 ·have hsq : s.h q = none := by
   cases hs : s.h q with
   | none => rfl
   | some ob =>
    have := m4.1 q ob (by simpa using Ne.symm hqp) (F2.ext.1 _ _ hs)
    rw [this] at hq; cases hq
  have m1 : Mut [p] s s4 := F2.ext.mut.trans m4
  have m2 := (m1.trans e8.mut).new m11 (by intro x hx; obtain rfl := List.mem_singleton.1 hx; exact .inr hsq)
  have m3 := m2.new m14 (by intro x hx; obtain rfl := List.mem_singleton.1 hx; exact .inr hsq)
  exact m3.new P.mut (by intro x hx; obtain rfl := List.mem_singleton.1 hx; exact .inr F2.no)
 ·refine rp14.mut P.mut (by simpa using Ne.symm hpl) ?_
  intro x hx; obtain rfl := List.mem_singleton.1 hx
  exact NoB.own a14.at (by intro w hw x; simp only [List.mem_cons, List.not_mem_nil, or_false] at hw; rcases hw with rfl | rfl <;> exact fun h => by cases h)
end
end Go.Proofs.Ytoklmpkpeanloaa
end

section
namespace Go.Proofs.Ytoklmpkpeanloaa
open Go.Am Go.Minster Go.Minster2
def leftN : RO → Nat → RO
 | B, 0 => B
 | B, n + 1 => leftN (B.left 8) n
theorem leftN_succ : ∀ (n : Nat) (B : RO), leftN B (n + 1) = (leftN B n).left 8
 | 0, B => rfl
 | n + 1, B => by rw [leftN, leftN_succ n, leftN]
theorem vecN_succ : ∀ (n : Nat) (B : RO), vecN B (n + 1) = vecN B n ++ [(leftN B n).numR 8]
 | 0, B => rfl
 | n + 1, B => by rw [vecN, vecN_succ n, vecN, leftN]; rfl
theorem vecN_len : ∀ (n : Nat) (B : RO), (vecN B n).length = n
 | 0, _ => rfl
 | n + 1, B => by rw [vecN, List.length_cons, vecN_len n]
theorem vecN_in : ∀ (n : Nat) {B : RO}, B.In → ∀ x ∈ vecN B n, 0 ≤ x ∧ x ≤ 18446744073709551615
 | 0, _, _, x, hx => by cases hx
 | n + 1, B, h, x, hx => by
  rcases List.mem_cons.1 hx with rfl | hx
  ·exact numR_in h 8
  ·exact vecN_in n (h.left 8) x hx
theorem vecR_in {o : RO} (h : o.In) : VIn o.vecR := ⟨vecN_len _ _, vecN_in 16 (fun B hB => by obtain rfl := Option.some.inj hB; exact h.take 128)⟩
theorem wrs_vec (l : List Int) (m : Nat) (x : Int) : wrs ((l ++ List.replicate (m + 1) 0).map (AV.int .u64)) l.length [.int .u64 x] = ((l ++ [x]) ++ List.replicate m 0).map (AV.int .u64) := by
 rw [wrs_one]
 simp [List.replicate_succ, List.set_append]
section
variable {s : AS} {p : Nat} {o : RO}
theorem Vector1_ok {c q : Nat} (hc : At s c [.ptr (some (q, 0))]) (h : RdrAt s q o) : ACalls Try.prog F_wire_Reader_Vector_1 [.ptr (some (c, 0))] s fun r s' => r = .int .u64 (o.numR 8) ∧ Mut [q] s s' ∧ RdrAt s' q (o.left 8) := by
 refine q_wire_Reader_Vector_1 _ _ _ ⟨_, by rw [hc.rd1]; rfl, ?_⟩
 refine ACalls.use (Number_ok h (k := 8) (by omega)) ?_
 rintro v s' ⟨rfl, h1, h2⟩ _
 exact ⟨_, rfl, rfl, h1, h2⟩
theorem RVector_ok (h : RdrAt s p o) : ACalls Try.prog F_wire_Reader_Vector [.ptr (some (p, 0))] s fun r s' => r = .agg (o.vecR.map (.int .u64)) ∧ Mut [p] s s' ∧ RdrAt s' p (o.left 128) := by
 refine ACalls.pre fun hw => q_wire_Reader_Vector _ _ _ (NewQ.intro hw rfl fun l1 s2 F2 => ?_)
 refine ACalls.use (take_ok (h.ext F2.ext) 128) ?_
 rintro v3 s4 ⟨m4, r4, v5, rfl, b5⟩ w4
 have hpl : l1 ≠ p := by rintro rfl; exact h.there F2.no
 refine ⟨_, _, rfl, ?_⟩
 have hlen : (o.take 128).length ≤ 128 := fit_le (n := 128)
 refine ACalls.use (Read_ok b5 (h.inb.take 128) (by omega)) ?_
 rintro v7 s8 ⟨q, rfl, hq, rq, e8⟩ w8
 refine ⟨_, rfl, NewQ.intro w8 rfl fun l10 s11 F11 => StQ.own F11.wf F11.own (by simp) fun s12 P12 => ?_⟩
 have hqp : p ≠ q := by rintro rfl; exact r4.there hq
 have hl1 : Am.Own s4 l1 (zeros.map (.int .u64)) := F2.own.mut m4 (by simpa using hpl)
 have hql : l1 ≠ q := by rintro rfl; rw [hl1] at hq; cases hq
 have hl18 := hl1.ext e8
 have hl10 : l10 ≠ l1 := by
  rintro rfl
  have := F11.no
  rw [hl18] at this; cases this
 have h10q : l10 ≠ q := by rintro rfl; exact rq.there F11.no
 have h10p : l10 ≠ p := by rintro rfl; exact (r4.ext e8).there F11.no
 have n10 : NoB s11 l10 := NoB.own F11.own.at (by intro w hw x; obtain rfl := List.mem_singleton.1 hw; exact fun h => by cases h)
 have a12 : Am.Own s12 l1 (zeros.map (.int .u64)) := (hl18.ext F11.ext).mut P12.mut (by simpa using Ne.symm hl10)
 have rq12 : RdrAt s12 q (some (o.take 128)) := (rq.ext F11.ext).mut P12.mut (by simpa using Ne.symm h10q) (by intro x hx; obtain rfl := List.mem_singleton.1 hx; exact n10)
 have rp12 : RdrAt s12 p (o.left 128) := ((r4.ext e8).ext F11.ext).mut P12.mut (by simpa using Ne.symm h10p) (by intro x hx; obtain rfl := List.mem_singleton.1 hx; exact n10)
 have c12 : Am.Own s12 l10 [.ptr (some (q, 0))] := P12.at
 have hsq : s.h q = none := by
  cases hs : s.h q with
  | none => rfl
  | some ob =>
   have := m4.1 q ob (by simpa using Ne.symm hqp) (F2.ext.1 _ _ hs)
   rw [this] at hq; cases hq
 have hs10 : s.h l10 = none := by
  cases hs : s.h l10 with
  | none => rfl
  | some ob =>
   have := e8.1 _ _ (m4.1 l10 ob (by simpa using h10p) (F2.ext.1 _ _ hs))
   rw [F11.no] at this; cases this
 have m12 : Mut [p] s s12 := (((F2.ext.mut.trans m4).trans e8.mut).trans F11.ext.mut).new P12.mut (by intro x hx; obtain rfl := List.mem_singleton.1 hx; exact .inr hs10)
 refine ⟨fun m vs s' => ∃ i : Nat, vs = [.int .i64 (i : Nat)] ∧ i ≤ 16 ∧ m = 16 - i ∧ WFs s' ∧ Mut [p] s s' ∧ Am.Own s' l1 ((vecN (some (o.take 128)) i ++ List.replicate (16 - i) 0).map (.int .u64)) ∧ Am.Own s' l10 [.ptr (some (q, 0))] ∧ RdrAt s' q (leftN (some (o.take 128)) i) ∧ RdrAt s' p (o.left 128), 16, ⟨0, rfl, by omega, rfl, P12.wf, m12, a12, c12, rq12, rp12⟩, ?_⟩
 rintro m n s17 ⟨i, hin, hi, rfl, w17, m17, a17, c17, rq17, rp17⟩
 simp only [List.cons.injEq, AV.int.injEq, true_and, and_true] at hin
 subst hin
 refine bsplit.dec (fun hlt => ?_) (fun hge => ?_)
 ·refine ACalls.use (Vector1_ok c17.at rq17) ?_
  rintro v18 s19 ⟨rfl, m19, rq19⟩ w19
  have a19 := a17.mut m19 (by simpa using hql)
  have hx := vix (l := l1) (o := 0) (i := (i : Nat)) (by omega)
  simp only [Int.toNat_natCast, Nat.mul_one, Nat.zero_add] at hx
  have e16 : 16 - i = (16 - (i + 1)) + 1 := by omega
  rw [e16] at a19
  refine ⟨_, rfl, _, _, hx, StQ.own w19 a19 (by simp [vecN_len]) fun s23 P => ⟨16 - (i + 1), by omega, i + 1, by rw [wrap_i (by omega)]; rfl, by omega, rfl, P.wf, ?_, ?_, ?_, ?_, ?_⟩⟩
  ·exact (m17.new m19 (by intro x hx; obtain rfl := List.mem_singleton.1 hx; exact .inr hsq)).new P.mut (by intro x hx; obtain rfl := List.mem_singleton.1 hx; exact .inr F2.no)
  ·have := P.at
   rw [vecN_succ]
   have hv := wrs_vec (vecN (some (o.take 128)) i) (16 - (i + 1)) ((leftN (some (o.take 128)) i).numR 8)
   rw [vecN_len] at hv
   rw [hv] at this
   exact this
  ·exact (c17.mut m19 (by simpa using h10q)).mut P.mut (by simpa using hl10)
  ·rw [leftN_succ]
   refine rq19.mut P.mut (by simpa using Ne.symm hql) ?_
   intro x hx; obtain rfl := List.mem_singleton.1 hx
   exact NoB.own a19.at (by intro w hw x; obtain ⟨n, _, rfl⟩ := List.mem_map.1 hw; exact fun h => by cases h)
  ·refine (rp17.mut m19 (by simpa using hqp) (by intro x hx; obtain rfl := List.mem_singleton.1 hx; exact rq17.noB)).mut P.mut (by simpa using Ne.symm hpl) ?_
   intro x hx; obtain rfl := List.mem_singleton.1 hx
   exact NoB.own a19.at (by intro w hw x; obtain ⟨n, _, rfl⟩ := List.mem_map.1 hw; exact fun h => by cases h)
 ·obtain rfl : i = 16 := by omega
  simp only [Nat.sub_self, List.replicate_zero, List.append_nil] at a17
  have hl : ((vecN (some (o.take 128)) 16).map (AV.int .u64)).length = 16 := by simp [vecN_len]
  have h1 := ints_one .u64 (vecN (some (o.take 128)) 16)
  have n17 : NoB s17 l1 := NoB.own a17.at (by intro w hw x; obtain ⟨n, _, rfl⟩ := List.mem_map.1 hw; exact fun h => by cases h)
  have hR : (vecN (some (o.take 128)) 16).map (AV.int .u64) = o.vecR.map (.int .u64) := rfl
  generalize (vecN (some (o.take 128)) 16).map (AV.int .u64) = C at a17 hl h1 hR
  have ht : ∀ D : List AV, D.length = 16 → (D.drop 0).take 16 = D := fun D hD => by rw [List.drop_zero, List.take_of_length_le (by omega)]
  refine ⟨C, by rw [a17.at.rdc (by omega), ht C hl], ⟨h1, by rw [hl]⟩, StQ.own w17 a17 (by omega) fun s25 P => ?_⟩
  have hP := P.at
  rw [wrs_all rfl] at hP
  refine ⟨C, by rw [At.rdc ⟨_, _, hP⟩ (by omega), ht C hl], by rw [hR], ?_, ?_⟩
  ·exact m17.new P.mut (by intro x hx; obtain rfl := List.mem_singleton.1 hx; exact .inr F2.no)
  ·refine rp17.mut P.mut (by simpa using Ne.symm hpl) ?_
   intro x hx; obtain rfl := List.mem_singleton.1 hx
   exact n17
end
/-! ### what is read of what was written -/
theorem bes_step (n : Int) (hn : 0 ≤ n) (k : Nat) (hk : k ≤ 7) : bes n (k + 1) = bes (n / 256) k ++ [n % 256] := by
 apply List.ext_getElem?
 intro i
 by_cases h1 : i < k
 ·rw [bes_get _ (by omega), List.getElem?_append_left (by rw [bes_len]; exact h1), bes_get _ h1, byteAt_val hn (by omega), byteAt_val (by omega) (by omega)]
  rw [Int.ediv_ediv_of_nonneg (by decide), show (256 : Int) * 2 ^ (8 * (k - 1 - i)) = 2 ^ (8 * (k + 1 - 1 - i)) by
   rw [show 8 * (k + 1 - 1 - i) = 8 + 8 * (k - 1 - i) by omega, Int.pow_add]; rfl]
 ·by_cases h2 : i = k
  ·subst h2
   rw [bes_get _ (by omega), List.getElem?_append_right (by rw [bes_len]; omega), bes_len, Nat.sub_self, byteAt_val hn (by omega)]
   simp
  ·rw [List.getElem?_eq_none (by rw [bes_len]; omega), List.getElem?_eq_none (by simp [bes_len]; omega)]
theorem numB_bes : ∀ (k : Nat) (n : Int), k ≤ 8 → 0 ≤ n → n < 256 ^ k → numB (bes n k) = n
 | 0, n, _, h0, h1 => by
  have : n = 0 := by simp at h1; omega
  subst this; rfl
 | k + 1, n, hk, h0, h1 => by
  rw [Int.pow_succ] at h1
  rw [bes_step n h0 k (by omega), numB_snoc, numB_bes k (n / 256) (by omega) (by omega) (by omega)]
  omega
theorem getN_bes {k : Nat} (hk : 1 ≤ k ∧ k ≤ 8) {n : Int} (h0 : 0 ≤ n) (h1 : n < 256 ^ k) : getN (bes n k) = n := by
 unfold getN
 rw [bes_len, if_pos hk, numB_bes k n hk.2 h0 h1]
theorem p256_8 : (256 : Int) ^ 8 = 18446744073709551616 := by decide
theorem p256_2 : (256 : Int) ^ 2 = 65536 := by decide
theorem take_app {A B : List Int} {n : Int} (h : n = A.length) : RO.take (some (A ++ B)) n = A ∧ RO.left (some (A ++ B)) n = some B := by
 subst h
 have hf : RO.fit (some (A ++ B)) A.length = true := by simp [RO.fit]; omega
 constructor
 ·simp [RO.take, hf]
 ·simp [RO.left, hf]
theorem num_app {k : Nat} (hk : 1 ≤ k ∧ k ≤ 8) {n : Int} (h0 : 0 ≤ n) (h1 : n < 256 ^ k) (B : List Int) : RO.numR (some (bes n k ++ B)) k = n ∧ RO.left (some (bes n k ++ B)) k = some B := by
 obtain ⟨a, b⟩ := take_app (A := bes n k) (B := B) (n := k) (by rw [bes_len])
 exact ⟨by rw [RO.numR, a, getN_bes hk h0 h1], b⟩
theorem dot_app {d : Dot} (h : d.may = true) (B : List Int) : RO.dotR (some (dotB d ++ B)) = d ∧ RO.left (some (dotB d ++ B)) 9 = some B := by
 obtain ⟨a, b⟩ := take_app (A := dotB d) (B := B) (n := 9) (by rw [dotB_len]; rfl)
 refine ⟨?_, b⟩
 have hd := Dot.may_iff.1 h
 have e : dotB d = [IntKind.wrap .u8 d.r] ++ bes d.c 8 := rfl
 have hr : IntKind.wrap .u8 d.r = d.r := by rw [IntKind.wrap_u8]; omega
 obtain ⟨c1, c2⟩ := take_app (A := [IntKind.wrap .u8 d.r]) (B := bes d.c 8) (n := 1) rfl
 unfold RO.dotR
 rw [a, e, c2]
 have n1 : RO.numR (some ([IntKind.wrap .u8 d.r] ++ bes d.c 8)) 1 = d.r := by
  rw [RO.numR, c1, hr]
  simp [getN, numB]
 have n2 := (num_app (k := 8) (by omega) (n := d.c) (by omega) (by rw [p256_8]; omega) []).1
 rw [List.append_nil] at n2
 rw [n1, show RO.numR (some (bes d.c 8)) 8 = d.c from n2, wrap_i (by omega)]
theorem blob_app {l B : List Int} (h : l.length < 65536) : RO.blobR (some (bes (l.length : Nat) 2 ++ (l ++ B))) = l ∧ RO.blobL (some (bes (l.length : Nat) 2 ++ (l ++ B))) = some B := by
 obtain ⟨a, b⟩ := num_app (k := 2) (by omega) (n := (l.length : Nat)) (by omega) (by rw [p256_2]; omega) (l ++ B)
 obtain ⟨c, d⟩ := take_app (A := l) (B := B) (n := (l.length : Nat)) rfl
 have a' : RO.numR (some (bes (l.length : Nat) 2 ++ (l ++ B))) 2 = (l.length : Nat) := a
 have b' : RO.left (some (bes (l.length : Nat) 2 ++ (l ++ B))) 2 = some (l ++ B) := b
 exact ⟨by rw [RO.blobR, a', b', c], by rw [RO.blobL, a', b', d]⟩
theorem vecN_app : ∀ (v : List Int), (∀ x ∈ v, 0 ≤ x ∧ x ≤ 18446744073709551615) → ∀ B, vecN (some ((v.flatMap fun n => bes n 8) ++ B)) v.length = v
 | [], _, _ => rfl
 | x :: v, h, B => by
  have hx := h x (by simp)
  obtain ⟨a, b⟩ := num_app (k := 8) (by omega) (n := x) (by omega) (by rw [p256_8]; omega) ((v.flatMap fun n => bes n 8) ++ B)
  rw [List.flatMap_cons, List.append_assoc, List.length_cons, vecN]
  have a' : RO.numR (some (bes x 8 ++ ((v.flatMap fun n => bes n 8) ++ B))) 8 = x := a
  have b' : RO.left (some (bes x 8 ++ ((v.flatMap fun n => bes n 8) ++ B))) 8 = some ((v.flatMap fun n => bes n 8) ++ B) := b
  rw [a', b', vecN_app v (fun y hy => h y (by simp [hy])) B]
theorem vec_app {v : List Int} (h : VIn v) (B : List Int) : RO.vecR (some ((v.flatMap fun n => bes n 8) ++ B)) = v ∧ RO.left (some ((v.flatMap fun n => bes n 8) ++ B)) 128 = some B := by
 have hl : (v.flatMap fun n => bes n 8).length = 128 := by rw [flat_lenI (f := fun n => bes n 8) (n := 8) (fun n => bes_len n 8), h.len]
 obtain ⟨a, b⟩ := take_app (A := v.flatMap fun n => bes n 8) (B := B) (n := 128) (by rw [hl]; rfl)
 refine ⟨?_, b⟩
 have := vecN_app v h.rng []
 rw [List.append_nil, h.len] at this
 rw [RO.vecR, a, this]
theorem toB_strB : ∀ t : List UInt8, toB (strB t) = t
 | [] => rfl
 | a :: t => by
  have := toB_strB t
  simp only [toB, strB, List.map_cons, List.map_map, Int.toNat_natCast, List.cons.injEq] at this ⊢
  exact ⟨UInt8.ofNat_toNat, this⟩
theorem conv_strE {s : AS} {v : AV} {l : List Int} (h : Byts s v l) : (aconvert T Y_s_uint8 Y_string v s).map (·.1) = some (.str (toB l)) := by
 by_cases hz : l = []
 ·subst hz
  rcases h with ⟨rfl, h2, h3⟩ | ⟨a, c, e, rfl, ⟨h1, h2⟩, h3⟩
  ·simp [aconvert, u_s_uint8, u_string, u_uint8, toB]
  ·rcases a with _ | ⟨la, o⟩ <;> simp [aconvert, u_s_uint8, u_string, u_uint8, toB]
 ·exact conv_str h hz
end Go.Proofs.Ytoklmpkpeanloaa
end

section
namespace Go.Proofs.Ytoklmpkpeanloaa
open Go.Am Go.Minster Go.Minster2
def zeroB : List Int := List.replicate 136 0
theorem zeroB_eq : stateB zeros [] (liveI []) = zeroB := by decide +kernel
theorem make136 (s : AS) : amakeSlice T Y_s_uint8 (.int .i64 136) (.int .i64 136) s = some (.slc (some (s.nl, 0)) 136 136 true, s.new (.cells (rep 136 [.int .u8 0]) 0 false)) := by
 simp only [amakeSlice, u_s_uint8, z_uint8, b_uint8, zr_uint8, Option.bind_some]
 rw [show acells (.int .u8 0) = some [AV.int .u8 0] from rfl, Option.bind_some, if_pos ⟨by decide, by decide, by decide, by decide, rfl⟩]
 rfl
set_option maxRecDepth 100000 in
theorem known19_ok (s : AS) : ACalls Try.prog F_law19iknown [] s fun v s' => v = .bool true ∧ Ext s s' := by
 have hz : zeroB ≠ [] := by simp [zeroB]
 refine q_law19iknown _ _ ⟨fun n _ v s' => (n = 0 → ∃ p F, v = .ptr (some (p, 0)) ∧ SetF F s' p OSet.zero) ∧ ((n = 1 ∨ n = 3) → Byts s' v zeroB), fun n _ v => (n = 0 → ∃ p, v = .ptr p) ∧ ((n = 2 ∨ n = 4) → v = .str (toB zeroB)), ?_, fun s1 e1 w1 _ => ?_, ⟨.ptr none, fun _ => ⟨_, rfl⟩, by simp⟩, fun v5 hv5 => ?_⟩
 ·rintro n k v s s' e ⟨h1, h2⟩
  exact ⟨fun hn => by obtain ⟨p, F, g1, g2⟩ := h1 hn; exact ⟨p, F, g1, g2.ext e⟩, fun hn => (h2 hn).ext e⟩
 ·refine (New_ok s1).mono ?_
  rintro v s3 ⟨p, F, rfl, h1, h2, h3, e3⟩
  exact ⟨_, rfl, e3, ⟨fun _ => ⟨p, F, rfl, h1⟩, by simp⟩, fun _ => ⟨_, rfl⟩, by simp⟩
 obtain ⟨p6, rfl⟩ := hv5.1 rfl
 refine ⟨p6, rfl, fun s7 e7 w7 hS => ?_, ⟨.undef, by simp⟩, fun v10 _ => ⟨fun s11 e11 w11 hS => ?_, ⟨.str (toB zeroB), by simp⟩, fun v13 hv13 => ?_⟩⟩
 ·obtain ⟨p, F, hp, hF⟩ := hS.1.1 rfl
  obtain rfl : p6 = some (p, 0) := by simpa using hp
  refine (State_ok hF OOk.zero (by omega)).mono ?_
  rintro v s9 ⟨I, hI, hb, e9⟩
  obtain rfl := hI.uniq Items.zero
  rw [show stateB OSet.zero.v OSet.zero.ex (liveI []) = zeroB from zeroB_eq] at hb
  exact ⟨e9, ⟨by simp, fun _ => hb⟩, by simp⟩
 ·have hb := hS.2.1.2 (.inl rfl)
  exact ⟨toB zeroB, conv_str hb hz, Ext.refl _, ⟨by simp, by simp⟩, by simp⟩
 obtain rfl := hv13.2 (.inl rfl)
 refine ⟨_, rfl, fun s15 e15 w15 _ => ?_, ⟨.undef, by simp⟩, fun v18 _ => ⟨fun s19 e19 w19 hS => ?_, ⟨.str (toB zeroB), by simp⟩, fun v21 hv21 => ?_⟩⟩
 ·have Fr := w15.new (o := .cells (rep 136 [.int .u8 0]) 0 false) rfl
  refine ⟨_, _, make136 s15, Fr.ext, ⟨by simp, fun _ => ?_⟩, by simp⟩
  exact SlAt.mk (n := 136) (c := 136) ⟨_, _, Fr.at⟩ (by rfl) (by rfl) (by omega)
 ·have hb := hS.1.2 (.inr rfl)
  exact ⟨toB zeroB, conv_str hb hz, Ext.refl _, ⟨by simp, by simp⟩, by simp⟩
 obtain rfl := hv21.2 (.inr rfl)
 exact ⟨_, rfl, fun s23 e23 w23 _ => ⟨by simp, e23⟩⟩
theorem kn19 (s' : AS) : ACalls Try.prog F_law19iknown [] s' fun v4 s5 => ∃ b6 : Bool, v4 = .bool b6 ∧ (AV.bool b6 = .bool true) := by
 refine (known19_ok s').mono ?_
 rintro v s' ⟨rfl, _⟩
 exact ⟨_, rfl, rfl⟩
/-! ### what is live in one alone -/
section
variable {F F' : List Nat} {s : AS} {p p' : Nat} {x y : OSet} {B : Nat}
end
/-! ### the reference's -/
section
variable {s0 s s' : AS} {q : Nat} {x : OSet}
end
end Go.Proofs.Ytoklmpkpeanloaa
end

section
namespace Go.Proofs.Ytoklmpkpeanloaa
open Go.Am Go.Minster Go.Minster2
/-! ### plainly -/
def dotsR : Nat → RO → List Dot × RO
 | 0, o => ([], o)
 | _ + 1, none => ([], none)
 | n + 1, some B => (RO.dotR (some B) :: (dotsR n (RO.left (some B) 9)).1, (dotsR n (RO.left (some B) 9)).2)
def itemR (o : RO) : Itm := ⟨o.dotR, ⟨toB (o.left 9).blobR, toB (o.left 9).blobL.blobR⟩, false⟩
def itemL (o : RO) : RO := (o.left 9).blobL.blobL
def itemsR : Nat → RO → List Itm × RO
 | 0, o => ([], o)
 | _ + 1, none => ([], none)
 | n + 1, some B => (itemR (some B) :: (itemsR n (itemL (some B))).1, (itemsR n (itemL (some B))).2)
theorem left_none (n : Int) : RO.left none n = none := rfl
theorem left_len {B B' : List Int} {n : Int} (h : RO.left (some B) n = some B') : 0 ≤ n ∧ B'.length + n.toNat = B.length := by
 unfold RO.left at h
 split at h
 ·rename_i hf
  have hn : 0 ≤ n ∧ n ≤ B.length := by simpa [RO.fit] using hf
  obtain rfl := Option.some.inj h
  refine ⟨hn.1, ?_⟩
  rw [List.length_drop]; omega
 ·cases h
theorem blobL_len {o : RO} {B' : List Int} (h : o.blobL = some B') : ∃ B, o = some B ∧ B'.length + 2 ≤ B.length := by
 cases o with
 | none => simp [RO.blobL, left_none] at h
 | some B =>
  refine ⟨B, rfl, ?_⟩
  unfold RO.blobL at h
  cases h1 : RO.left (some B) 2 with
  | none => rw [h1] at h; simp [left_none] at h
  | some A =>
   rw [h1] at h
   have := left_len h1
   have := left_len h
   omega
theorem itemL_len {B B' : List Int} (h : itemL (some B) = some B') : B'.length + 13 ≤ B.length := by
 unfold itemL at h
 obtain ⟨A, h1, h2⟩ := blobL_len h
 obtain ⟨A', h3, h4⟩ := blobL_len h1
 have := left_len h3
 omega
theorem dotsR_none (n : Nat) : dotsR n none = ([], none) := by cases n <;> rfl
theorem itemsR_none (n : Nat) : itemsR n none = ([], none) := by cases n <;> rfl
theorem dotsR_len : ∀ (n : Nat) (B : List Int), (dotsR n (some B)).1.length * 9 ≤ B.length + 9
 | 0, B => by simp [dotsR]
 | n + 1, B => by
  simp only [dotsR]
  cases h : RO.left (some B) 9 with
  | none => simp [dotsR_none]
  | some A =>
   have h1 := left_len h
   have h2 := dotsR_len n A
   simp only [List.length_cons]
   omega
theorem itemsR_len : ∀ (n : Nat) (B : List Int), (itemsR n (some B)).1.length * 13 ≤ B.length + 13
 | 0, B => by simp [itemsR]
 | n + 1, B => by
  simp only [itemsR]
  cases h : itemL (some B) with
  | none => simp [itemsR_none]
  | some A =>
   have h1 := itemL_len h
   have h2 := itemsR_len n A
   simp only [List.length_cons]
   omega
theorem dotsR_left : ∀ (n : Nat) (o : RO) {B : List Int}, (dotsR n o).2 = some B → ∃ A, o = some A ∧ B.length ≤ A.length
 | 0, o, B, h => ⟨B, h, Nat.le_refl _⟩
 | n + 1, none, B, h => by cases h
 | n + 1, some A, B, h => by
  obtain ⟨C, h1, h2⟩ := dotsR_left n _ h
  have := left_len h1
  exact ⟨A, rfl, by omega⟩
theorem dots_app : ∀ (l : List Dot), (∀ d ∈ l, d.may = true) → ∀ B, dotsR l.length (some (l.flatMap dotB ++ B)) = (l, some B)
 | [], _, B => rfl
 | d :: l, h, B => by
  obtain ⟨a, b⟩ := dot_app (h d (by simp)) (l.flatMap dotB ++ B)
  have ih := dots_app l (fun x hx => h x (by simp [hx])) B
  rw [List.flatMap_cons, List.append_assoc, List.length_cons, dotsR, a, b, ih]
theorem textB_app (t : List UInt8) (B : List Int) : textB t ++ B = bes ((strB t).length : Nat) 2 ++ (strB t ++ B) := by
 unfold textB; rw [strB_len, List.append_assoc]
theorem item_app {i : Itm} (h : ItemS i) (B : List Int) : itemR (some (itemB i ++ B)) = i ∧ itemL (some (itemB i ++ B)) = some B := by
 obtain ⟨a, b⟩ := dot_app h.d (textB i.key.t ++ (textB i.key.d ++ B))
 obtain ⟨c1, c2⟩ := blob_app (l := strB i.key.t) (B := textB i.key.d ++ B) (by rw [strB_len]; exact h.t)
 obtain ⟨d1, d2⟩ := blob_app (l := strB i.key.d) (B := B) (by rw [strB_len]; exact h.u)
 rw [← textB_app] at c1 c2 d1 d2
 have e : itemB i ++ B = dotB i.dot ++ (textB i.key.t ++ (textB i.key.d ++ B)) := by simp [itemB]
 rw [e]
 constructor
 ·unfold itemR
  rw [a, b, c1, c2, d1, toB_strB, toB_strB]
  obtain ⟨d, k, g⟩ := i
  have := h.g
  simp only at this
  subst this
  rfl
 ·unfold itemL
  rw [b, c2, d2]
theorem items_app : ∀ (l : List Itm), (∀ i ∈ l, ItemS i) → ∀ B, itemsR l.length (some (l.flatMap itemB ++ B)) = (l, some B)
 | [], _, B => rfl
 | i :: l, h, B => by
  obtain ⟨a, b⟩ := item_app (h i (by simp)) (l.flatMap itemB ++ B)
  have ih := items_app l (fun x hx => h x (by simp [hx])) B
  rw [List.flatMap_cons, List.append_assoc, List.length_cons, itemsR, a, b, ih]
def decV (b : List Int) : List Int := RO.vecR (some b)
def dec1 (b : List Int) : RO := RO.left (some b) 128
def decE (b : List Int) : List Dot := (dotsR ((dec1 b).numR 4).toNat ((dec1 b).left 4)).1
def dec2 (b : List Int) : RO := (dotsR ((dec1 b).numR 4).toNat ((dec1 b).left 4)).2
def decL (b : List Int) : List Itm := (itemsR ((dec2 b).numR 4).toNat ((dec2 b).left 4)).1
def dec3 (b : List Int) : RO := (itemsR ((dec2 b).numR 4).toNat ((dec2 b).left 4)).2
theorem dec_state {v : List Int} {ex : List Dot} {L : List Itm} (hv : VIn v) (he : ∀ d ∈ ex, d.may = true) (hn : ex.length < 2 ^ 30) (hL : ∀ i ∈ L, ItemS i) (hm : L.length < 2 ^ 30) :
  decV (stateB v ex L) = v ∧ decE (stateB v ex L) = ex ∧ decL (stateB v ex L) = L ∧ dec3 (stateB v ex L) = some [] := by
 have e4 : (256 : Int) ^ 4 = 4294967296 := by decide
 have hs : stateB v ex L = (v.flatMap fun n => bes n 8) ++ (bes (ex.length : Nat) 4 ++ (ex.flatMap dotB ++ (bes (L.length : Nat) 4 ++ (L.flatMap itemB ++ [])))) := by simp [stateB]
 obtain ⟨a1, a2⟩ := vec_app hv (bes (ex.length : Nat) 4 ++ (ex.flatMap dotB ++ (bes (L.length : Nat) 4 ++ (L.flatMap itemB ++ []))))
 obtain ⟨b1, b2⟩ := num_app (k := 4) (by omega) (n := (ex.length : Nat)) (by omega) (by omega) (ex.flatMap dotB ++ (bes (L.length : Nat) 4 ++ (L.flatMap itemB ++ [])))
 have c := dots_app ex he (bes (L.length : Nat) 4 ++ (L.flatMap itemB ++ []))
 obtain ⟨d1, d2⟩ := num_app (k := 4) (by omega) (n := (L.length : Nat)) (by omega) (by omega) (L.flatMap itemB ++ [])
 have f := items_app L hL []
 have g1 : dec1 (stateB v ex L) = some (bes (ex.length : Nat) 4 ++ (ex.flatMap dotB ++ (bes (L.length : Nat) 4 ++ (L.flatMap itemB ++ [])))) := by rw [dec1, hs, a2]
 have b1' : RO.numR (some (bes (ex.length : Nat) 4 ++ (ex.flatMap dotB ++ (bes (L.length : Nat) 4 ++ (L.flatMap itemB ++ []))))) 4 = (ex.length : Nat) := b1
 have b2' : RO.left (some (bes (ex.length : Nat) 4 ++ (ex.flatMap dotB ++ (bes (L.length : Nat) 4 ++ (L.flatMap itemB ++ []))))) 4 = some (ex.flatMap dotB ++ (bes (L.length : Nat) 4 ++ (L.flatMap itemB ++ []))) := b2
 have d1' : RO.numR (some (bes (L.length : Nat) 4 ++ (L.flatMap itemB ++ []))) 4 = (L.length : Nat) := d1
 have d2' : RO.left (some (bes (L.length : Nat) 4 ++ (L.flatMap itemB ++ []))) 4 = some (L.flatMap itemB ++ []) := d2
 have gd : dotsR ((dec1 (stateB v ex L)).numR 4).toNat ((dec1 (stateB v ex L)).left 4) = (ex, some (bes (L.length : Nat) 4 ++ (L.flatMap itemB ++ []))) := by
  rw [g1, b1', b2', Int.toNat_natCast, c]
 have g2 : dec2 (stateB v ex L) = some (bes (L.length : Nat) 4 ++ (L.flatMap itemB ++ [])) := by rw [dec2, gd]
 have gi : itemsR ((dec2 (stateB v ex L)).numR 4).toNat ((dec2 (stateB v ex L)).left 4) = (L, some []) := by
  rw [g2, d1', d2', Int.toNat_natCast, f]
 refine ⟨?_, by rw [decE, gd], by rw [decL, gi], by rw [dec3, gi]⟩
 rw [decV, hs, a1]
theorem decE_len (b : List Int) : (decE b).length * 9 ≤ b.length + 9 := by
 unfold decE
 cases h : (dec1 b).left 4 with
 | none => rw [dotsR_none]; simp
 | some B =>
  have h1 := dotsR_len ((dec1 b).numR 4).toNat B
  cases h2 : dec1 b with
  | none => rw [h2] at h; simp [left_none] at h
  | some A =>
   rw [h2] at h
   have h3 := left_len h
   have h4 := left_len h2
   rw [h2] at h1
   omega
theorem decL_len (b : List Int) : (decL b).length * 13 ≤ b.length + 13 := by
 unfold decL
 cases h : (dec2 b).left 4 with
 | none => rw [itemsR_none]; simp
 | some B =>
  have h1 := itemsR_len ((dec2 b).numR 4).toNat B
  cases h2 : dec2 b with
  | none => rw [h2] at h; simp [left_none] at h
  | some A =>
   rw [h2] at h h1
   have h3 := left_len h
   obtain ⟨C, h4, h5⟩ := dotsR_left _ _ h2
   cases h6 : dec1 b with
   | none => rw [h6] at h4; simp [left_none] at h4
   | some D =>
    rw [h6] at h4
    have h7 := left_len h4
    have h8 := left_len h6
    omega
theorem OfOk.ok {v : List Int} {ex : List Dot} (hv : VIn v) (h : OfOk v ex) : COk v ex ∧ Gap v ex := by
 have hget : ∀ d ∈ ex, ∃ i, ex[i]? = some d := fun d hd => List.mem_iff_getElem?.1 hd
 refine ⟨⟨⟨hv.len, fun x hx => ⟨(hv.rng x hx).1, h.hv x hx⟩⟩, ?_, fun d hd => ?_⟩, fun d hd => ?_⟩
 ·have key : ∀ (l : List Dot), (∀ (i : Nat) x y, l[i + 1]? = some x → l[i]? = some y → y.lt x = true) → Rising l := by
   intro l
   induction l with
   | nil => intro _; exact List.Pairwise.nil
   | cons a l ih =>
    intro hl
    have ihl := ih fun i x y h1 h2 => hl (i + 1) x y (by simpa using h1) (by simpa using h2)
    refine List.pairwise_cons.2 ⟨?_, ihl⟩
    cases l with
    | nil => simp
    | cons b l =>
     have hab := hl 0 b a rfl rfl
     intro x hx
     rcases List.mem_cons.1 hx with rfl | hx
     ·exact hab
     ·exact Dot.lt_trans hab ((List.pairwise_cons.1 ihl).1 x hx)
  exact key ex fun i x y h1 h2 => (h.hl (i + 1) x h1).2.1 y (by omega) (by simpa using h2)
 ·obtain ⟨i, hi⟩ := hget d hd; exact (h.hl i d hi).1
 ·obtain ⟨i, hi⟩ := hget d hd; exact (h.hl i d hi).2.2
end Go.Proofs.Ytoklmpkpeanloaa
end

section
namespace Go.Proofs.Ytoklmpkpeanloaa
open Go.Am Go.Minster Go.Minster2
def Wr (s : AS) (p : Nat) : Prop := ∃ C, At s p C ∧ ∀ v ∈ C, ∀ x, v ≠ .int .u8 x
theorem Wr.noB {s : AS} {p : Nat} (h : Wr s p) : NoB s p := by obtain ⟨C, h1, h2⟩ := h; exact NoB.own h1 h2
theorem Wr.ext {s s' : AS} {p : Nat} (h : Wr s p) (e : Ext s s') : Wr s' p := by obtain ⟨C, h1, h2⟩ := h; exact ⟨C, h1.ext e, h2⟩
theorem RdrAt.wr {s : AS} {p : Nat} {o : RO} (h : RdrAt s p o) : Wr s p := by
 obtain ⟨_, v, h1, h2⟩ := h
 refine ⟨_, h1.at, fun w hw x => ?_⟩
 simp only [List.mem_cons, List.not_mem_nil, or_false] at hw
 rcases hw with rfl | rfl | rfl
 ·exact SlAt.nu8 h2 x
 ·exact fun h => by cases h
 ·exact fun h => by cases h
def RX (p : Nat) (s s' : AS) : Prop := Mut [p] s s' ∧ (Wr s p → Wr s' p)
theorem RX.ext {p : Nat} {s s' : AS} (e : Ext s s') : RX p s s' := ⟨e.mut, fun h => h.ext e⟩
theorem RX.trans {p : Nat} {a b c : AS} (h : RX p a b) (h' : RX p b c) : RX p a c := ⟨h.1.trans h'.1, fun w => h'.2 (h.2 w)⟩
theorem Gro.noB {α : Type} {f : α → List AV} {sz : Nat} (hf : ∀ x, ∀ c ∈ f x, ∀ y, c ≠ .int .u8 y) {s : AS} {v : AV} {l : List α} (h : Gro f sz s v l) : ∀ q ∈ labOf v, NoB s q := by
 rcases h with ⟨_, a, rfl⟩ | ⟨la, rfl, hla⟩
 ·intro q hq; rcases a with _ | ⟨l, o⟩ <;> simp [labOf] at hq
 ·intro q hq
  obtain rfl : q = la := by simpa [labOf] using hq
  refine NoB.own ⟨_, _, hla⟩ fun w hw x => ?_
  obtain ⟨y, _, hy⟩ := List.mem_flatMap.1 hw
  exact hf y w hy x
theorem dotC_nu (x : Dot) : ∀ c ∈ dotC x, ∀ y, c ≠ .int .u8 y := by
 intro c hc y
 simp only [dotC, List.mem_cons, List.not_mem_nil, or_false] at hc
 rcases hc with rfl | rfl <;> exact fun h => by cases h
theorem itemC_nu (x : Itm) : ∀ c ∈ itemC x, ∀ y, c ≠ .int .u8 y := by
 intro c hc y
 simp only [itemC, dotC, keyC, List.cons_append, List.nil_append, List.mem_cons, List.not_mem_nil, or_false] at hc
 rcases hc with rfl | rfl | rfl | rfl | rfl <;> exact fun h => by cases h
theorem bEqual_ok {s : AS} {v w : AV} {a b : List Int} (ha : Byts s v a) (hb : Byts s w b) (ia : InB a) (ib : InB b) : ACalls Try.prog F_bytes_Equal [v, w] s fun r s' => s' = s ∧ r = .bool (decide (a = b)) := by
 refine q_bytes_Equal _ _ _ _ ⟨_, conv_strE ha, _, conv_strE hb, rfl, ?_⟩
 congr 1
 rw [Bool.eq_iff_iff, beq_iff_eq, decide_eq_true_eq]
 exact ⟨fun h => toB_inj ia ib h, fun h => by rw [h]⟩
structure OfS (s s' : AS) (p : Nat) (b : List Int) (x : OSet) (I : List Itm) : Prop where
 ok : OOk x 1000
 items : Items x I
 tomb : ∀ d, x.tomb d = false
 bytes : stateB x.v x.ex (liveI I) = b
 mem : ∃ F, SetF F s' p x ∧ (∀ y ∈ F, s.h y = none) ∧ ∀ y ∈ F, s'.h y ≠ none
theorem goods {v : List Int} {ex : List Dot} {L : List Itm} {x : OSet} (P : OfP v ex L x) (g : Good v ex L) (hris : Rising (L.map Itm.dot)) {I : List Itm} (hI : Items x I) : I = L :=
 iris_uniq hI.ris hris fun i => by rw [hI.mem, P.item g]
set_option maxRecDepth 100000 in
set_option maxHeartbeats 2000000 in
theorem viewsOf_ok {s : AS} {a : AV} {b : List Int} (hb : Byts s a b) (inb : InB b) (hn : b.length ≤ 2 ^ 20) (h1 : (decE b).length + (decL b).length ≤ 1000) :
  ACalls Try.prog F_views_Of [a] s fun r s' => Ext s s' ∧ ((r = .tup [.ptr none, .int .i64 4] ∧ ∀ v ex L, VIn v → OfOk v ex → Good v ex L → (∀ i ∈ L, ItemS i) → Rising (L.map Itm.dot) → ex.length < 2 ^ 30 → L.length < 2 ^ 30 → b ≠ stateB v ex L) ∨
   ∃ p x I, r = .tup [.ptr (some (p, 0)), .int .i64 0] ∧ OfS s s' p b x I) := by
 refine q_views_Of _ _ _ ?_
 refine ACalls.use (Read_ok hb inb (by omega)) ?_
 rintro v1 s2 ⟨p, rfl, hp, r2, e2⟩ w2
 refine ⟨_, rfl, ?_⟩
 refine ACalls.use (RVector_ok r2) ?_
 rintro v4 s5 ⟨rfl, m5, r5⟩ w5
 have hvl : (RO.vecR (some b)).length = 16 := vecN_len _ _
 refine ⟨_, rfl, NewSt w5 (by simp [hvl]) rfl (ints_one _ _) fun l7 s9 F9 => ?_⟩
 have E5 : Ext s s5 := Ext.wr e2 hp m5
 have E9 := E5.trans F9.ext
 have r9 : RdrAt s9 p (dec1 b) := r5.ext F9.ext
 have a9 : Am.Own s9 l7 ((decV b).map (.int .u64)) := F9.own
 have h7 : s.h l7 = none := E5.none F9.no
 have h7p : l7 ≠ p := by rintro rfl; exact r5.there F9.no
 have inV : VIn (decV b) := vecR_in (o := some b) fun B hB => by obtain rfl := Option.some.inj hB; exact inb
 refine ⟨fun vs s' => ∃ v, vs = [v] ∧ WFs s' ∧ Ext s s' ∧ Gro dotC 2 s' v (decE b) ∧ (∀ la ∈ labOf v, s.h la = none ∧ la ≠ p ∧ la ≠ l7) ∧ RdrAt s' p (dec2 b) ∧ Am.Own s' l7 ((decV b).map (.int .u64)), ?_, ?_⟩
 rotate_left
 ·
  refine ACalls.use (Number_ok r9 (k := 4) (by omega)) ?_
  rintro v82 s83 ⟨rfl, m83, r83⟩ w83
  have E83 : Ext s s83 := Ext.wr E9 hp m83
  have a83 := a9.mut m83 (by simpa using h7p)
  have hN := numR_in r9.inb 4
  obtain ⟨N, hNe⟩ := Int.eq_ofNat_of_zero_le hN.1
  refine ⟨_, rfl, fun m vs s' => ∃ (k : Nat) (v : AV) (l : List Dot) (o : RO), vs = [v, .int .u64 (k : Nat)] ∧ k = m ∧ k ≤ N ∧ WFs s' ∧ GroN dotC 2 [p] s83 s' v l ∧ RdrAt s' p o ∧ dotsR N ((dec1 b).left 4) = (l ++ (dotsR k o).1, (dotsR k o).2), N, ⟨N, _, [], _, by rw [hNe], rfl, Nat.le_refl _, w83, GroN.nil, r83, by simp⟩, ?_⟩
  have hE : ∀ l x o, dotsR N ((dec1 b).left 4) = (l ++ x, o) → decE b = l ++ x ∧ dec2 b = o := by
   intro l x o h
   have eN : ((dec1 b).numR 4).toNat = N := by rw [hNe, Int.toNat_natCast]
   exact ⟨by rw [decE, eN, h], by rw [dec2, eN, h]⟩
  rintro m v88 n89 s90 ⟨k, v, l, o, hin, rfl, hkN, w90, g90, r90, hd⟩
  simp only [List.cons.injEq, AV.int.injEq, true_and, and_true] at hin
  obtain ⟨rfl, rfl⟩ := hin
  have hlab : ∀ {s' : AS} {v : AV} {l : List Dot}, GroN dotC 2 [p] s83 s' v l → ∀ la ∈ labOf v, s.h la = none ∧ la ≠ p ∧ la ≠ l7 := by
   intro s' v l g la hla
   have := g.new la hla
   refine ⟨E83.none this, ?_, ?_⟩
   ·rintro rfl; exact r83.there this
   ·rintro rfl; rw [a83] at this; cases this
  have out : (dotsR k o).1 = [] → dec2 b = o → ∃ v, [v88] = [v] ∧ WFs s90 ∧ Ext s s90 ∧ Gro dotC 2 s90 v (decE b) ∧ (∀ la ∈ labOf v, s.h la = none ∧ la ≠ p ∧ la ≠ l7) ∧ RdrAt s90 p (dec2 b) ∧ Am.Own s90 l7 ((decV b).map (.int .u64)) := by
   intro h1 h2
   refine ⟨v88, rfl, w90, Ext.wr E83 hp g90.chg, ?_, hlab g90, by rw [h2]; exact r90, a83.mut g90.chg (by simpa using h7p)⟩
   have := (hE _ _ _ hd).1
   rw [h1, List.append_nil] at this
   rw [this]; exact g90.gro
  refine bsplit.dec (fun hk => ?_) (fun hk => ?_)
  rotate_left
  ·obtain rfl : k = 0 := by omega
   exact out rfl (hE _ _ _ hd).2
  refine ACalls.use (Failed_ok r90) ?_
  rintro v91 s92 ⟨rfl, rfl⟩ w92
  refine ⟨_, rfl, ?_⟩
  cases o with
  | none =>
   refine bsplit.no rfl ?_
   have h2 := (hE _ _ _ hd).2
   rw [dotsR_none] at h2
   exact out (by rw [dotsR_none]) h2
  | some B =>
   refine bsplit.yes rfl ?_
   obtain ⟨k', rfl⟩ : ∃ k', k = k' + 1 := ⟨k - 1, by omega⟩
   refine ACalls.use (RDot_ok r90) ?_
   rintro v94 s95 ⟨rfl, m95, r95⟩ w95
   have hM : ∀ x ∈ [p], s83.h x ≠ none := by intro x hx; obtain rfl := List.mem_singleton.1 hx; exact r83.there
   have g95 := g90.wr hM m95
   have hl := decE_len b
   have hd1 := (hE _ _ _ hd).1
   have hll : l.length ≤ (decE b).length := by rw [hd1]; simp
   refine ⟨_, rfl, ?_⟩
   refine GroN.append1 sl_s_Dot dotC_len dotC_one w95 g95 (by intro x hx; obtain rfl := List.mem_singleton.1 hx; exact r95.there) (RO.dotR (some B)) (by omega) fun v' s' g' w' m' => ?_
   refine ⟨k', by omega, k', v', _, RO.left (some B) 9, ?_, rfl, by omega, w', g', ?_, ?_⟩
   ·rw [show (((k' + 1 : Nat) : Int) - 1) = (k' : Nat) by omega, wrap_u (by omega)]
   ·exact r95.mut m' (fun hm => (hlab g95 p hm).2.1 rfl) (Gro.noB dotC_nu g95.gro)
   ·rw [hd]; simp [dotsR]
 rintro v11 s12 ⟨v, hv, w12, e12, g12, hla12, r12, a12⟩
 obtain rfl : v11 = v := by simpa using hv
 refine ⟨fun vs s' => ∃ v, vs = [v] ∧ WFs s' ∧ Ext s s' ∧ Sl itemC 5 s' v (decL b) ∧ Dots s' v11 (decE b) ∧ RdrAt s' p (dec3 b) ∧ Am.Own s' l7 ((decV b).map (.int .u64)), ?_, ?_⟩
 rotate_left
 ·
  refine ACalls.use (Number_ok r12 (k := 4) (by omega)) ?_
  rintro v36 s37 ⟨rfl, m37, r37⟩ w37
  have E37 : Ext s s37 := Ext.wr e12 hp m37
  have a37 := a12.mut m37 (by simpa using h7p)
  have g37 := g12.mut m37 (fun la hla => by simpa using (hla12 la hla).2.1)
  have hN := numR_in r12.inb 4
  obtain ⟨N, hNe⟩ := Int.eq_ofNat_of_zero_le hN.1
  refine ⟨_, rfl, fun m vs s' => ∃ (k : Nat) (v : AV) (l : List Itm) (o : RO), vs = [v, .int .u64 (k : Nat)] ∧ k = m ∧ k ≤ N ∧ WFs s' ∧ GroN itemC 5 [p] s37 s' v l ∧ RdrAt s' p o ∧ itemsR N ((dec2 b).left 4) = (l ++ (itemsR k o).1, (itemsR k o).2), N, ⟨N, _, [], _, by rw [hNe], rfl, Nat.le_refl _, w37, GroN.nil, r37, by simp⟩, ?_⟩
  have hE : ∀ l x o, itemsR N ((dec2 b).left 4) = (l ++ x, o) → decL b = l ++ x ∧ dec3 b = o := by
   intro l x o h
   have eN : ((dec2 b).numR 4).toNat = N := by rw [hNe, Int.toNat_natCast]
   exact ⟨by rw [decL, eN, h], by rw [dec3, eN, h]⟩
  rintro m v42 n43 s44 ⟨k, v, l, o, hin, rfl, hkN, w44, g44, r44, hd⟩
  simp only [List.cons.injEq, AV.int.injEq, true_and, and_true] at hin
  obtain ⟨rfl, rfl⟩ := hin
  have hnp : ∀ {s' : AS} {v : AV} {l : List Itm}, GroN itemC 5 [p] s37 s' v l → p ∉ labOf v := fun g hm => r37.there (g.new p hm)
  have out : (itemsR k o).1 = [] → dec3 b = o → ∃ v, [v42] = [v] ∧ WFs s44 ∧ Ext s s44 ∧ Sl itemC 5 s44 v (decL b) ∧ Dots s44 v11 (decE b) ∧ RdrAt s44 p (dec3 b) ∧ Am.Own s44 l7 ((decV b).map (.int .u64)) := by
   intro h1 h2
   refine ⟨v42, rfl, w44, Ext.wr E37 hp g44.chg, ?_, (g37.mut g44.chg fun la hla => by simpa using (hla12 la hla).2.1).sl dotC_len, by rw [h2]; exact r44, a37.mut g44.chg (by simpa using h7p)⟩
   have := (hE _ _ _ hd).1
   rw [h1, List.append_nil] at this
   rw [this]; exact g44.sl itemC_len
  refine bsplit.dec (fun hk => ?_) (fun hk => ?_)
  rotate_left
  ·obtain rfl : k = 0 := by omega
   exact out rfl (hE _ _ _ hd).2
  refine ACalls.use (Failed_ok r44) ?_
  rintro v45 s46 ⟨rfl, rfl⟩ w46
  refine ⟨_, rfl, ?_⟩
  cases o with
  | none =>
   refine bsplit.no rfl ?_
   have h2 := (hE _ _ _ hd).2
   rw [itemsR_none] at h2
   exact out (by rw [itemsR_none]) h2
  | some B =>
   refine bsplit.yes rfl ?_
   obtain ⟨k', rfl⟩ : ∃ k', k = k' + 1 := ⟨k - 1, by omega⟩
   refine ACalls.use (RDot_ok r44) ?_
   rintro v48 s49 ⟨rfl, m49, r49⟩ w49
   have hM : ∀ x ∈ [p], s37.h x ≠ none := by intro x hx; obtain rfl := List.mem_singleton.1 hx; exact r37.there
   have g49 := g44.wr hM m49
   refine ⟨_, rfl, NewSt w49 rfl rfl rfl fun l51 s53 F53 => ?_⟩
   have h51 : l51 ≠ p := by rintro rfl; exact r49.there F53.no
   refine ACalls.use (RBlob_ok (r49.ext F53.ext)) ?_
   rintro v54 s55 ⟨m55, r55, b55⟩ w55
   have g55 := (g49.step F53.ext).wr hM m55
   have a55 := F53.own.mut m55 (by simpa using h51)
   refine ⟨_, conv_strE b55, ?_⟩
   have hD : dotC (RO.dotR (some B)) ++ keyC ⟨toB (RO.left (some B) 9).blobR, toB (RO.left (some B) 9).blobL.blobR⟩ ++ [AV.bool false] = itemC (itemR (some B)) := rfl
   refine ⟨RX p, fun _ _ _ s => RdrAt s p (itemL (some B)), fun s => RdrAt s p (RO.left (some B) 9).blobL, fun n _ v s => (n = 4 → Wr s p ∧ Byts s v (RO.left (some B) 9).blobL.blobR) ∧ (n = 8 → ∃ la, v = .slc (some (la, 0)) 1 1 true ∧ la ≠ p ∧ At s la (itemC (itemR (some B)))), fun n _ v => (n = 5 → v = .str (toB (RO.left (some B) 9).blobL.blobR)) ∧ (n = 8 → ∃ la, v = .slc (some (la, 0)) 1 1 true), fun _ _ e => RX.ext e, fun _ _ _ => RX.trans, fun _ _ _ s s' e h => h.ext e, ?_, fun s s' e h => h.ext e, r55, ?_⟩
   ·rintro n ks v s s' hx ⟨g1, g2⟩
    refine ⟨fun hn => ⟨hx.2 (g1 hn).1, (g1 hn).2.mutN hx.1 fun q hq => by obtain rfl := List.mem_singleton.1 hq; exact (g1 hn).1.noB⟩, fun hn => ?_⟩
    obtain ⟨la, q1, q2, q3⟩ := g2 hn
    exact ⟨la, q1, q2, q3.mut hx.1 (by simpa using q2)⟩
   refine ⟨_, a55.at.rdc (by simp [dotC]), fun s57 x57 _ => ⟨_, (a55.mut x57.1 (by simpa using h51)).at.rdc (by simp [dotC]), rfl⟩, fun s60 x60 w60 _ hph => ?_, ⟨.undef, by simp⟩, fun v63 _ => ⟨fun s64 x64 w64 hS => ?_, ⟨_, fun _ => rfl, by simp⟩, fun v66 hv66 => ?_⟩⟩
   ·refine (RBlob_ok hph).mono ?_
    rintro r s62 ⟨m62, r62, b62⟩
    exact ⟨⟨⟨m62, fun _ => r62.wr⟩, r62⟩, ⟨fun _ => ⟨r62.wr, b62⟩, by simp⟩, by simp, by simp⟩
   ·exact ⟨_, conv_strE (hS.1.1 rfl).2, Ext.refl _, ⟨by simp, by simp⟩, fun _ => rfl, by simp⟩
   obtain rfl := hv66.1 rfl
   refine ⟨_, rfl, _, key_build _ _, _, ?_, fun s70 x70 w70 _ => ⟨_, absl_agg sl_s_Item (itemC_len (itemR (some B))) (itemC_one _), NewQ.intro w70 rfl fun l72 s73 F73 => ⟨F73.ext, ⟨by simp, fun _ => ⟨l72, rfl, ?_, F73.own.at⟩⟩, by simp, fun _ => ⟨l72, rfl⟩⟩⟩, ⟨.slc (some (0, 0)) 1 1 true, by simp, fun _ => ⟨0, rfl⟩⟩, fun v74 hv74 s75 x75 w75 hS hph => ?_⟩
   ·exact build_item _ _
   ·rintro rfl
    obtain ⟨C, ⟨g, ro, hC⟩, _⟩ := x70.2 r55.wr
    rw [F73.no] at hC; cases hC
   obtain ⟨la, rfl, hlp, hla⟩ := hS.2.2.1.2 rfl
   have r75 := hph
   have g75 := g55.wr hM x75.1
   have hl := decL_len b
   have hd1 := (hE _ _ _ hd).1
   have hll : l.length ≤ (decL b).length := by rw [hd1]; simp
   refine GroN.appendS sl_s_Item itemC_len itemC_one w75 g75 (by intro x hx; obtain rfl := List.mem_singleton.1 hx; exact r75.there) (xs := [itemR (some B)]) (SlAt.mk hla (by simp [itemC_len]) (by simpa using List.take_of_length_le (Nat.le_of_eq (itemC_len _)))) (by simp; omega) u_s_Item fun v' s' g' w' m' => ?_
   refine ⟨k', by omega, k', v', _, itemL (some B), ?_, rfl, by omega, w', g', ?_, ?_⟩
   ·rw [show (((k' + 1 : Nat) : Int) - 1) = (k' : Nat) by omega, wrap_u (by omega)]
   ·exact r75.mut m' (hnp g75) (Gro.noB itemC_nu g75.gro)
   ·rw [hd]; simp [itemsR]
 rintro v14 s15 ⟨v, hv, w15, e15, sL, sE, r15, a15⟩
 obtain rfl : v14 = v := by simpa using hv
 have hdec : ∀ v ex L, VIn v → OfOk v ex → (∀ i ∈ L, ItemS i) → ex.length < 2 ^ 30 → L.length < 2 ^ 30 → b = stateB v ex L → decV b = v ∧ decE b = ex ∧ decL b = L ∧ dec3 b = some [] := by
  intro v ex L g1 g2 g3 g4 g5 he
  rw [he]
  exact dec_state g1 (g2.ok g1).1.m g4 g3 g5
 refine ACalls.use (End_ok r15) ?_
 rintro v16 s17 ⟨rfl, rfl⟩ w17
 refine ⟨_, rfl, ?_⟩
 by_cases hend : dec3 b = some []
 rotate_left
 ·rw [if_neg hend]
  refine bsplit.yes rfl ⟨e15, .inl ⟨rfl, fun v ex L g1 g2 g3 g4 g5 g6 g7 he => ?_⟩⟩
  exact hend (hdec v ex L g1 g2 g4 g6 g7 he).2.2.2
 rw [if_pos hend]
 refine bsplit.no rfl ⟨_, a15.at.rdc (by simp [inV.len]), ?_⟩
 have ht : (((decV b).map (AV.int .u64)).drop 0).take 16 = (decV b).map (AV.int .u64) := by rw [List.drop_zero, List.take_of_length_le (by simp [inV.len])]
 rw [ht]
 refine ACalls.use (ctx_Of_ok inV sE (by omega)) ?_
 rintro v20 s21 ⟨e21, ⟨hno, rfl⟩ | ⟨hok, q, hq, rfl, hC, _⟩⟩ w21
 ·refine ⟨_, _, rfl, bsplit.yes rfl ⟨e15.trans e21, .inl ⟨rfl, fun v ex L g1 g2 g3 g4 g5 g6 g7 he => ?_⟩⟩⟩
  obtain ⟨d1, d2, _, _⟩ := hdec v ex L g1 g2 g4 g6 g7 he
  exact hno (by rw [d1, d2]; exact g2)
 obtain ⟨cok, gap⟩ := hok.ok inV
 refine ⟨_, _, rfl, bsplit.no rfl ?_⟩
 refine ACalls.use (Of_ok hC cok gap (by omega) (sL.ext e21) (by omega)) ?_
 rintro v24 s25 ⟨e25, ⟨hno, rfl⟩ | ⟨hg, pu, F, x, rfl, P, hS, hF1, hF2⟩⟩ w25
 ·refine ⟨_, _, rfl, fun vs s' => s' = s25 ∧ vs = [.bool true], ?_, bsplit.yes rfl ⟨rfl, rfl⟩⟩
  rintro b29 s30 ⟨rfl, hb⟩
  obtain rfl : b29 = true := by simpa using hb
  refine bsplit.yes rfl ⟨(e15.trans e21).trans e25, .inl ⟨rfl, fun v ex L g1 g2 g3 g4 g5 g6 g7 he => ?_⟩⟩
  obtain ⟨d1, d2, d3, _⟩ := hdec v ex L g1 g2 g4 g6 g7 he
  exact hno (by rw [d1, d2, d3]; exact g3)
 have E25 := (e15.trans e21).trans e25
 have oX : OOk x 1000 := (P.ok hg cok gap (B := (decE b).length + (decL b).length) ⟨decE b ++ (decL b).map Itm.dot, by simp, fun d hd => by simpa using hd⟩).mono h1
 refine ⟨_, _, rfl, fun vs s' => WFs s' ∧ Ext s25 s' ∧ ∃ I, Items x I ∧ vs = [.bool (!decide (stateB x.v x.ex (liveI I) = b))], ?_, bsplit.no rfl ?_⟩
 rotate_left
 ·refine ACalls.use (State_ok hS oX (by omega)) ?_
  rintro v31 s32 ⟨I, hI, hB, e32⟩ w32
  refine ACalls.use (bEqual_ok hB (hb.ext (E25.trans e32)) (stateB_in _ _ _) inb) ?_
  rintro v33 s34 ⟨rfl, rfl⟩ w34
  exact ⟨_, rfl, w34, e32, I, hI, rfl⟩
 rintro b29 s30 ⟨w30, e30, I, hI, hb'⟩
 obtain rfl : b29 = _ := by simpa using hb'
 refine bsplit.mk (fun h => ⟨E25.trans e30, .inl ⟨rfl, fun v ex L g1 g2 g3 g4 g5 g6 g7 he => ?_⟩⟩) (fun h => ⟨E25.trans e30, .inr ⟨pu, x, I, rfl, oX, hI, ?_, ?_, F, hS.ext e30, fun y hy => (e15.trans e21).none (hF1 y hy), fun y hy hn => hF2 y hy (e30.none hn)⟩⟩)
 ·obtain ⟨d1, d2, d3, _⟩ := hdec v ex L g1 g2 g4 g6 g7 he
  simp only [Bool.not_eq_true', decide_eq_false_iff_not] at h
  apply h
  rw [d3] at P hg
  obtain rfl := goods P hg g5 hI
  rw [P.v, P.ex, d1, d2, show liveI I = I from List.filter_eq_self.2 fun i hi => by simp [(g4 i hi).g]]
  exact he.symm
 ·intro d
  cases hq : x.tomb d with
  | false => rfl
  | true =>
   have := (P.tomb d).1 hq
   have hgone : ∀ (n : Nat) (o : RO), ∀ i ∈ (itemsR n o).1, i.gone = false := by
    intro n
    induction n with
    | zero => intro o i hi; cases hi
    | succ n ih =>
     intro o i hi
     cases o with
     | none => cases hi
     | some B =>
      rcases List.mem_cons.1 hi with rfl | hi
      ·rfl
      ·exact ih _ i hi
   have h2 := hgone _ _ _ this
   simp [goneI] at h2
 ·simpa using h
end Go.Proofs.Ytoklmpkpeanloaa
end

section
set_option maxRecDepth 100000
set_option maxHeartbeats 4000000
namespace Go.Proofs.Ytoklmpkpeanloaa
open Go.Am
def Q_law19iViewsBytes (a0 : AV) (s : AS) (R : AV → AS → Prop) : Prop :=
 RdI .i64 (alenB T Y_s_uint8 a0 s) fun n1 => bsplit (decide ((n1 : Int) > 1000))
 (ACalls Try.prog F_law19iknown [] s fun v2 s3 => ∃ b4 : Bool, v2 = .bool b4 ∧ (R (.bool b4) s3))
 (ACalls Try.prog F_views_Of [a0] s fun v5 s6 => ∃ p7 : Option (Nat × Nat), ∃ n8 : Int, v5 = .tup [(.ptr p7), (.int .i64 n8)] ∧ (bsplit ((n8 : Int) != 0)
 (bsplit ((n8 : Int) == 4) (RdO (aeq T 100 Y_p_orset_Set (.ptr p7) (.ptr none)) fun b9 => bsplit b9 (ACalls Try.prog F_law19iknown [] s6 fun v10 s11 => ∃ b12 : Bool, v10 = .bool b12 ∧ (R (.bool b12) s11)) (R (.bool false) s6)) (R (.bool false) s6))
 (DrawQ fun S V => (∀ s13 : AS, Ext s6 s13 → WFs s13 → (True) → ACalls Try.prog F_views_State [(.ptr p7)] s13 fun v14 s15 => (Ext s13 s15 ∧ S 1 [(.func F_views_State []), (.ptr p7)] v14 s15 ∧ V 1 [(.func F_views_State []), (.ptr p7)] v14)) ∧ (∃ v, V 1 [(.func F_views_State []), (.ptr p7)] v) ∧ ∀ v16 : AV, V 1 [(.func F_views_State []), (.ptr p7)] v16 → (∀ s17 : AS, Ext s6 s17 → WFs s17 → (S 1 [(.func F_views_State []), (.ptr p7)] v16 s17 ∧ True) → RdS ((aconvert T Y_s_uint8 Y_string v16 s17).map (·.1)) fun x18 => (Ext s17 s17 ∧ S 2 [v16] (.str x18) s17 ∧ V 2 [v16] (.str x18))) ∧ (∃ v, V 2 [v16] v) ∧ ∀ v19 : AV, V 2 [v16] v19 → ∃ x20 : List UInt8, v19 = .str x20 ∧ ((∀ s21 : AS, Ext s6 s21 → WFs s21 → (True) → RdS ((aconvert T Y_s_uint8 Y_string a0 s21).map (·.1)) fun x22 => (Ext s21 s21 ∧ S 4 [a0] (.str x22) s21 ∧ V 4 [a0] (.str x22))) ∧ (∃ v, V 4 [a0] v) ∧ ∀ v23 : AV, V 4 [a0] v23 → ∃ x24 : List UInt8, v23 = .str x24 ∧ (∀ s25 : AS, Ext s6 s25 → WFs s25 → (S 1 [(.func F_views_State []), (.ptr p7)] v16 s25 ∧ (S 2 [v16] (.str x20) s25 ∧ (S 4 [a0] (.str x24) s25 ∧ True))) → bsplit ((x20 : List UInt8) == x24) (ACalls Try.prog F_orset_Set_Tombs [(.ptr p7)] s25 fun v27 s28 => RdI .i64 (alenB T Y_s_Dot v27 s28) fun n29 => bsplit ((n29 : Int) == 0) (ACalls Try.prog F_law19iknown [] s28 fun v30 s31 => ∃ b32 : Bool, v30 = .bool b32 ∧ (R (.bool b32) s31)) (R (.bool false) s28)) (R (.bool false) s25))))))
def A_law19iViewsBytes : QA := (.seq .leaf (.seq (.seq .leaf (.cond (.seq .leaf .leaf) .leaf)) (.seq .leaf (.seq (.seq .leaf (.cond (.seq .leaf .leaf) .leaf)) (.seq (.drawH 5 [[], [], [1], [], []] [1, 2, 4]) .leaf)))))
theorem q_law19iViewsBytes (a0 : AV) (s : AS) (R : AV → AS → Prop) (h : Q_law19iViewsBytes a0 s R) : ACalls Try.prog F_law19iViewsBytes [a0] s R :=
 ACalls.q (n := 40) (rs := [.tmp 2]) (A := A_law19iViewsBytes) hT hmx Try.func3 (by kernel_rfl) rfl rfl rfl (by kernel_rfl) (by kernel_rfl) h
end Go.Proofs.Ytoklmpkpeanloaa
end

section
namespace Go.Proofs.Ytoklmpkpeanloaa
open Go.Am Go.Minster Go.Minster2 Go.ChangeShapes Go.WideShapes Go.ChangeAt Go.RowKit
set_option maxRecDepth 100000 in
theorem flat_u8 : flatT Try.prog 5 Y_uint8 = some [.int .u8] := by kernel_rfl
set_option maxRecDepth 100000 in
theorem bytes_arg {H : Type} {enc : TypeId × Value → H} {W : World} {base : Nat} {v : Value} (hv : Value.okWide Try.prog W .any base Y_s_uint8 v) (h : ∃ (d : DataW H) (p : List MemPlace), DataW.Trod enc Try.prog W 0 (fun _ => true) true Y_s_uint8 v d p) :
  ∃ l : List Int, Byts (sW W) (absV W.heap.size (MW W) v) l ∧ InB l := by
 obtain ⟨d, p, h⟩ := h
 obtain ⟨C, h1, h2, _⟩ := slice_arg (d := 5) (ks := [.int .u8]) (hT.und _ _ u_s_uint8) flat_u8 (by kernel_rfl) (by decide) hv h
 obtain ⟨l, e1, e2, e3⟩ := cells_dec (f := byC) (Q := fun n => 0 ≤ n ∧ n < 256) C fun c hc => by
  obtain ⟨a, c1, rfl, ⟨r, rfl, hr1, hr2⟩, g1⟩ := (h2 c hc).cons
  obtain rfl := g1.nil
  have m1 : IntKind.min .u8 = 0 := by decide
  have m2 : IntKind.max .u8 = 255 := by decide
  rw [m1] at hr1
  rw [m2] at hr2
  exact ⟨r, rfl, hr1, by omega⟩
 rw [e1, e2] at h1
 exact ⟨l, h1, e3⟩
set_option maxRecDepth 100000 in
theorem viewsBytes_ok {s : AS} {a : AV} {b : List Int} (hb : Byts s a b) (inb : InB b) : ACalls Try.prog F_law19iViewsBytes [a] s fun r s' => r = .bool true := by
 refine q_law19iViewsBytes _ _ _ ⟨_, hb.lenB u_s_uint8 _, bsplit.dec (fun _ => kn19 _) (fun hn => ?_)⟩
 have h1 := decE_len b
 have h2 := decL_len b
 refine ACalls.use (viewsOf_ok hb inb (by omega) (by omega)) ?_
 rintro v5 s6 ⟨e6, ⟨rfl, _⟩ | ⟨p, z, J, rfl, O⟩⟩ w6
 ·exact ⟨_, _, rfl, bsplit.yes rfl (bsplit.yes rfl ⟨_, aeqPtrNil u_p_orset_Set _, bsplit.yes rfl (kn19 _)⟩)⟩
 obtain ⟨Fz, hz, _, _⟩ := O.mem
 refine ⟨_, _, rfl, bsplit.no rfl ⟨fun n _ v s' => n = 1 → Byts s' v b, fun n _ v => (n = 2 ∨ n = 4) → v = .str (toB b), fun n _ v s1 s2 e h hn => (h hn).ext e, fun s13 e13 w13 _ => ?_, ⟨.undef, by simp⟩, fun v16 _ => ⟨fun s17 e17 w17 hS => ⟨_, conv_strE (hS.1 rfl), Ext.refl _, by simp, fun _ => rfl⟩, ⟨_, fun _ => rfl⟩, fun v19 hv19 => ?_⟩⟩⟩
 ·refine (State_ok (hz.ext e13) O.ok (by omega)).mono ?_
  rintro v s' ⟨J', hJ', hB, e'⟩
  obtain rfl := hJ'.uniq O.items
  rw [O.bytes] at hB
  exact ⟨e', fun _ => hB, by simp⟩
 obtain rfl := hv19 (.inl rfl)
 refine ⟨_, rfl, fun s21 e21 w21 _ => ⟨_, conv_strE (hb.ext (e6.trans e21)), Ext.refl _, by simp, fun _ => rfl⟩, ⟨_, fun _ => rfl⟩, fun v23 hv23 => ?_⟩
 obtain rfl := hv23 (.inr rfl)
 refine ⟨_, rfl, fun s25 e25 w25 _ => bsplit.yes (by simp) ?_⟩
 refine ACalls.use (Tombs_ok (hz.ext e25) (by have := (hz.bnd O.ok).1; omega)) ?_
 rintro v27 s28 ⟨L, hA, _, hL, _⟩ w28
 have : L = [] := by
  cases L with
  | nil => rfl
  | cons d L =>
   have := (hL d).1 (by simp)
   rw [O.tomb d] at this; cases this
 subst this
 exact ⟨_, hA.dots.lenB u_s_Dot _, bsplit.yes rfl (kn19 _)⟩
end Go.Proofs.Ytoklmpkpeanloaa
end
