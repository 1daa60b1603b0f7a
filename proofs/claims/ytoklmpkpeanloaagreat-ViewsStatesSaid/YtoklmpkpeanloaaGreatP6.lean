/-
  A part of the proof: an abstract machine over the model, and contracts of functions of this program over it.
-/
import Derived.KernelRfl
import Derived.Test.YtoklmpkpeanloaaGreatP5
set_option linter.unusedVariables false
set_option linter.unusedSimpArgs false
set_option linter.unusedSectionVars false
section
namespace Go.Proofs.YtoklmpkpeanloaaGreat
open Go.Am Go.Minster Go.Minster2
theorem Grow_ok (N : Nat) (hN : N ≤ 2 ^ 28) (s : AS) : ACalls Tryz.prog F_slices_Grow__s_byte_byte [.slc none 0 0 true, .int .i64 (N : Nat)] s fun v s' => ∃ lo, BRoom s' v N [] lo ∧ Ext s s' ∧ ∀ l ∈ lo.toList, s.h l = none := by
 refine ACalls.pre fun hw => q_slices_Grow__s_byte_byte _ _ _ _ (bsplit.dec (fun h => absurd h (by omega)) (fun _ => ?_))
 refine ⟨0, by simp [acapB, u_s_uint8], 0, by simp [alenB, u_s_uint8], ?_⟩
 have e1 : IntKind.wrap .i64 ((N : Int) - (IntKind.wrap .i64 (0 - 0))) = (N : Nat) := by rw [show IntKind.wrap .i64 (0 - 0) = 0 from rfl, wrap_i (by omega)]; omega
 dsimp only
 rw [e1]
 refine bsplit.dec (fun hp => ?_) (fun hz => ?_)
 ·have hpos : 0 < N := by omega
  have ha : aappend T Y_s_uint8 Y_int (.slc none 0 0 true) (.int .i64 (N : Nat)) s = some (.slc (some (s.nl, 0)) N N false, s.new (.cells (rep N [.int .u8 0]) 1 false)) := by
   simp only [aappend, u_s_uint8, u_int, if_true, aappendZ, z_uint8, b_uint8, zr_uint8, Option.bind_some, acells, List.length_cons, List.length_nil, Int.toNat_natCast, Nat.zero_add]
   rw [show (if (AV.int IntKind.u8 0).cells.all AV.one = true then some (AV.int IntKind.u8 0).cells else none) = some [AV.int .u8 0] from rfl, Option.bind_some, if_neg (by simp only [List.length_cons, List.length_nil]; omega)]
   simp [asrc]
  have Fr := hw.new (o := .cells (rep N [.int .u8 0]) 1 false) rfl
  refine ⟨0, by simp [acapB, u_s_uint8], .slc none 0 0 true, by simp [aslice, u_s_uint8, z_uint8, abounds, aopt, ahigh, abound1], _, _, ha, 0, by simp [alenB, u_s_uint8], .slc (some (s.nl, 0)) 0 N false, ?_, some s.nl, ⟨rfl, by simp, rep N [.int .u8 0], by simpa using Fr.at, by simp [rep]⟩, Fr.ext, ?_⟩
  ·have : ¬ N = 0 := by omega
   simp [aslice, u_s_uint8, z_uint8, abounds, aopt, ahigh, abound1, this]
  ·intro l hl
   obtain rfl : l = s.nl := by simpa using hl
   exact hw.none
 ·obtain rfl : N = 0 := by omega
  exact ⟨none, ⟨rfl, rfl, rfl⟩, Ext.refl _, by simp⟩
abbrev prC : AV × List Int → List AV := fun p => [p.1]
theorem prC_len (p : AV × List Int) : (prC p).length = 1 := rfl
def lenS (L : List (AV × List Int)) : Nat := (L.map fun p => p.2.length).sum
theorem lenS_take {L : List (AV × List Int)} {i : Nat} {p : AV × List Int} (h : L[i]? = some p) : lenS (L.take (i + 1)) = lenS (L.take i) + p.2.length := by
 unfold lenS
 rw [List.take_add_one, h, Option.toList_some, List.map_append, List.sum_append]; simp
theorem lenS_le (L : List (AV × List Int)) (i : Nat) : lenS (L.take i) ≤ lenS L := by
 have : lenS L = lenS (L.take i) + lenS (L.drop i) := by
  unfold lenS
  rw [← List.sum_append, ← List.map_append, List.take_append_drop]
 omega
theorem lenS_flat (L : List (AV × List Int)) : (L.flatMap Prod.snd).length = lenS L := by simp [lenS, List.length_flatMap]
theorem Concat_ok {s : AS} {a : AV} {L : List (AV × List Int)} (ha : Sl prC 1 s a L) (hL : ∀ p ∈ L, Byts s p.1 p.2) (hn : L.length ≤ 2 ^ 20) (hb : lenS L ≤ 2 ^ 28) : ACalls Tryz.prog F_slices_Concat__s_byte_byte [a] s fun v s' => BytN s s' v (L.flatMap Prod.snd) := by
 refine ACalls.pre fun hw => q_slices_Concat__s_byte_byte _ _ _ ⟨fun vs s' => s' = s ∧ vs = [.int .i64 (lenS L : Nat)], ?_, _, ha.lenB u_s__uint8 _, fun m vs s' => ∃ i : Nat, vs = [.int .i64 (lenS (L.take i) : Nat), .int .i64 (i : Nat)] ∧ i ≤ L.length ∧ m = L.length - i ∧ s' = s, L.length, ⟨0, by simp [lenS], by omega, rfl, rfl⟩, ?_⟩
 rotate_left
 ·rintro m n22 n23 s24 ⟨i, hin, hi, rfl, rfl⟩
  simp only [List.cons.injEq, AV.int.injEq, true_and, and_true] at hin
  obtain ⟨rfl, rfl⟩ := hin
  refine bsplit.dec (fun hlt => ?_) (fun hge => ?_)
  ·obtain ⟨p, hp⟩ := get_lt (l := L) (i := i) (by omega)
   obtain ⟨la, o, k8, k9⟩ := ha.ix (by decide) prC_len u_s__uint8 z_s_uint8 hp
   have hs := lenS_take hp
   have hle := lenS_le L (i + 1)
   refine ⟨la, o, k8 _, p.1, (k9 _ (Ext.refl _)).1 0 (by decide), _, (hL p (List.mem_of_getElem? hp)).lenB u_s_uint8 _, ?_⟩
   dsimp only
   rw [wrap_i (n := (lenS (L.take i) : Int) + p.2.length) (by omega)]
   refine bsplit.dec (fun h => absurd h (by omega)) (fun _ => ⟨L.length - (i + 1), by omega, i + 1, ?_, by omega, rfl, rfl⟩)
   rw [wrap_i (by omega), hs]; rfl
  ·rw [List.take_of_length_le (by omega)]
   exact ⟨rfl, rfl⟩
 rintro n2 s3 ⟨rfl, hn2⟩
 obtain rfl : n2 = (lenS L : Nat) := by simpa using hn2
 refine ACalls.use (Grow_ok (lenS L) hb s3) ?_
 rintro v4 s5 ⟨lo, hR, e5, hlo⟩ w5
 refine ⟨_, ha.lenB u_s__uint8 _, fun m vs s' => ∃ (i : Nat) (v : AV), vs = [v, .int .i64 (i : Nat)] ∧ i ≤ L.length ∧ m = L.length - i ∧ WFs s' ∧ Ext s3 s' ∧ BRoom s' v (lenS L) ((L.take i).flatMap Prod.snd) lo, L.length, ⟨0, v4, rfl, by omega, rfl, w5, e5, by simpa using hR⟩, ?_⟩
 rintro m v10 n11 s12 ⟨i, v', hin, hi, rfl, w12, e12, hR12⟩
 simp only [List.cons.injEq, AV.int.injEq, true_and, and_true] at hin
 obtain ⟨rfl, rfl⟩ := hin
 refine bsplit.dec (fun hlt => ?_) (fun hge => ?_)
 ·obtain ⟨p, hp⟩ := get_lt (l := L) (i := i) (by omega)
  obtain ⟨la, o, k8, k9⟩ := ha.ix (by decide) prC_len u_s__uint8 z_s_uint8 hp
  have hs := lenS_take hp
  have hle := lenS_le L (i + 1)
  have step := List.take_add_one (l := L) (i := i)
  rw [hp, Option.toList_some] at step
  refine ⟨la, o, k8 _, p.1, (k9 _ e12).1 0 (by decide), ?_⟩
  refine BRoom.app' hR12 w12 ((hL p (List.mem_of_getElem? hp)).ext e12) (by rw [lenS_flat]; omega) (by omega) fun v' s' hR' w' m' => ?_
  refine ⟨L.length - (i + 1), by omega, i + 1, v', by rw [wrap_i (by omega)]; rfl, by omega, rfl, w', Ext.wrL e12 hlo m', ?_⟩
  rw [step, List.flatMap_append]
  simpa using hR'
 ·rw [List.take_of_length_le (by omega)] at hR12
  cases lo with
  | none =>
   obtain ⟨rfl, hN, hl0⟩ := hR12
   rw [hl0]
   exact ⟨Gro.nil, e12.mut, by simp [labOf]⟩
  | some lo =>
   obtain ⟨rfl, _, rest, hobj, hr⟩ := hR12
   rw [lenS_flat, Nat.sub_self, Nat.zero_mul] at hr
   obtain rfl := List.length_eq_zero_iff.1 hr
   rw [List.append_nil] at hobj
   refine ⟨.inr ⟨lo, by rw [lenS_flat], hobj⟩, e12.mut, fun la hla => ?_⟩
   obtain rfl : la = lo := by simpa [labOf] using hla
   exact hlo la (by simp)
theorem Join_ok {s : AS} {a : AV} {L : List (AV × List Int)} (ha : Sl prC 1 s a L) (hL : ∀ p ∈ L, Byts s p.1 p.2) (hn : L.length ≤ 2 ^ 20) (hb : lenS L ≤ 2 ^ 28) : ACalls Tryz.prog F_wire_Join [a] s fun v s' => BytN s s' v (L.flatMap Prod.snd) := by
 refine q_wire_Join _ _ _ ?_
 refine (Concat_ok ha hL hn hb).mono ?_
 exact fun v s' h => h
theorem qstore_slc {s : AS} {l o : Nat} {a : Option (Nat × Nat)} {n c : Nat} {e : Bool} {K : AS → Prop} : qstore T Y_s_uint8 s l o (.slc a n c e) K = StQ (awr s l o [.slc a n c e]) K := by
 simp only [qstore, z_s_uint8]; rfl
/-! ### a variable that holds a row of bytes of one's own -/
structure OutV (s0 s : AS) (c : Nat) (l : List Int) : Prop where
 e : Ext s0 s
 cn : s0.h c = none
 mem : ∃ v, Am.Own s c [v] ∧ Gro byC 1 s v l ∧ ∀ la ∈ labOf v, s0.h la = none ∧ la ≠ c
section
variable {s0 s s' : AS} {c : Nat} {l : List Int}
theorem OutV.ext (h : OutV s0 s c l) (e : Ext s s') : OutV s0 s' c l := by
 obtain ⟨h1, h2, v, h3, h4, h5⟩ := h
 exact ⟨h1.trans e, h2, v, h3.ext e, h4.ext e, h5⟩
theorem State1_ok (h : OutV s0 s c l) {a : AV} {L : List (AV × List Int)} (ha : Sl prC 1 s a L) (hL : ∀ p ∈ L, Byts s p.1 p.2) (hn : L.length ≤ 2 ^ 20) (hb : l.length + lenS L ≤ 2 ^ 28) :
  ACalls Tryz.prog F_views_State_1 [a, .ptr (some (c, 0))] s fun r s' => r = .tup [] ∧ OutV s0 s' c (l ++ L.flatMap Prod.snd) := by
 obtain ⟨h1, h2, v, h3, h4, h5⟩ := h
 refine q_views_State_1 _ _ _ _ ⟨fun z _ v s' => Byts s' v (L.flatMap Prod.snd), fun _ _ _ => True, fun _ _ _ _ _ e h => h.ext e, v, by rw [h3.at.rd1]; rfl, fun s4 e4 w4 _ => ?_, ⟨.undef, trivial⟩, fun v7 _ s8 e8 w8 hS => ?_⟩
 ·refine (Join_ok (ha.ext e4) (fun p hp => (hL p hp).ext e4) hn (by omega)).mono ?_
  intro v5 s6 g
  exact ⟨g.chg.ext, g.sl byC_len, trivial⟩
 obtain ⟨v', s', k1, k2, k3, k4, k5⟩ := Gro.append sl_s_uint8 byC_len byC_one w8 (h4.ext e8) hS.1 (by rw [lenS_flat]; omega) u_s_uint8
 have c8 := h3.ext e8
 have hcl : c ∉ labOf v := fun hm => (h5 c hm).2 rfl
 have c9 : Am.Own s' c [v] := c8.mut k3 hcl
 refine ⟨v', s', k1, ?_⟩
 have hv1 : ∀ la ∈ labOf v', s0.h la = none ∧ la ≠ c := by
  intro la hla
  rcases k5 la hla with h6 | h6
  ·exact h5 la h6
  ·refine ⟨h1.none (e8.none h6), ?_⟩
   rintro rfl
   rw [c8] at h6; cases h6
 have E' : Ext s0 s' := Ext.wrL (h1.trans e8) (fun x hx => (h5 x hx).1) k3
 have fin : StQ (awr s' c 0 [v']) fun s14 => (AV.tup [] = AV.tup []) ∧ OutV s0 s14 c (l ++ L.flatMap Prod.snd) := by
  refine StQ.own k4 c9 (by simp) fun s14 P => ⟨rfl, Ext.wr E' h2 P.mut, h2, v', ?_, ?_, hv1⟩
  ·have := P.at
   exact this
  ·exact k2.mut P.mut fun la hla hm => (hv1 la hla).2 (by simpa using hm)
 show qstore T Y_s_uint8 s' c 0 v' _
 rcases k2 with ⟨_, a', rfl⟩ | ⟨la, rfl, _⟩
 ·rw [qstore_slc]; exact fin
 ·rw [qstore_slc]; exact fin
theorem OutV.get (h : OutV s0 s c l) : ∃ v, rd1 s c 0 = some v ∧ Byts s v l := by
 obtain ⟨h1, h2, v, h3, h4, h5⟩ := h
 exact ⟨v, by rw [h3.at.rd1]; rfl, h4.sl byC_len⟩
end
theorem State2_ok (d : Dot) (hd : 0 ≤ d.r ∧ d.r ≤ 255) (s : AS) : ACalls Tryz.prog F_views_State_2 [.agg (dotC d)] s fun v s' => BytN s s' v (dotB d) := by
 refine ACalls.pre fun hw => q_views_State_2 _ _ _ ⟨rfl, NewQ.intro hw rfl fun l1 s2 F2 => ⟨_, F2.own.at.rdc (by simp [dotC]), ?_⟩⟩
 refine ACalls.use (wireDot_ok d hd s2) ?_
 rintro r s5 ⟨v, rfl, g⟩ _
 exact ⟨_, _, rfl, g.gro, F2.ext.mut.trans g.chg, fun la hla => F2.ext.none (g.new la hla)⟩
theorem State3_ok (n : Nat) (hn : n < 2 ^ 30) (s : AS) : ACalls Tryz.prog F_views_State_3 [.int .i64 (n : Nat)] s fun v s' => BytN s s' v (bes (n : Nat) 4) := by
 refine q_views_State_3 _ _ _ ?_
 unfold Q_views_State_3
 rw [wrap_u (by omega)]
 refine (Put_ok _ 4 (by omega) (fun _ => ?_) s).mono ?_
 ·rw [show min (8 * 4) (IntKind.bits .u64) = 32 from rfl, Int.fdiv_eq_ediv_of_nonneg _ (by decide)]
  omega
 ·rintro r s2 ⟨v, rfl, g⟩
  exact ⟨_, _, rfl, g⟩
theorem State4_ok (i : Itm) (s : AS) : ACalls Tryz.prog F_views_State_4 [.agg (itemC i)] s fun v s' => v = .bool i.gone ∧ Ext s s' := by
 refine ACalls.pre fun hw => q_views_State_4 _ _ _ ⟨rfl, NewQ.intro hw rfl fun l1 s2 F2 => ⟨i.gone, by rw [F2.own.at.rd1]; rfl, rfl, F2.ext⟩⟩
theorem Vector_ok (v : List Int) (hv : v.length = 16) (s : AS) : ACalls Tryz.prog F_wire_Vector [.agg (v.map (.int .u64))] s fun r s' => BytN s s' r (v.flatMap fun n => bes n 8) := by
 refine ACalls.pre fun hw => q_wire_Vector _ _ _ ⟨?_, NewQ.intro hw rfl fun l1 s2 F2 => ⟨v.map (.int .u64), ?_, fun m vs s' => ∃ (i : Nat) (r : AV), vs = [r, .int .i64 (i : Nat)] ∧ i ≤ 16 ∧ m = 16 - i ∧ WFs s' ∧ BytN s2 s' r ((v.take i).flatMap fun n => bes n 8), 16, ⟨0, _, rfl, by omega, rfl, F2.wf, by simpa using GroN.nil⟩, ?_⟩⟩
 ·simp [List.all_eq_true, AV.one]
 ·rw [F2.own.at.rdc (by simp [hv])]
  simp [hv, List.take_of_length_le]
 ·rintro m v7 n8 s9 ⟨i, r, hin, hi, rfl, w9, g9⟩
  simp only [List.cons.injEq, AV.int.injEq, true_and, and_true] at hin
  obtain ⟨rfl, rfl⟩ := hin
  refine bsplit.dec (fun hlt => ?_) (fun hge => ?_)
  ·obtain ⟨n, hn⟩ := get_lt (l := v) (i := i) (by omega)
   have step := List.take_add_one (l := v) (i := i)
   rw [hn, Option.toList_some] at step
   refine ⟨n, ?_, ?_⟩
   ·rw [aix_vec hv (by omega), List.getD_eq_getElem?_getD, hn]; rfl
   refine ACalls.use (Put_ok n 8 (by omega) (by omega) s9) ?_
   rintro q s12 ⟨v13, rfl, g12⟩ w12
   have hlen : ((v.take i).flatMap fun n => bes n 8).length ≤ 16 * 8 := by
    rw [List.length_flatMap]
    have : (List.map (fun a => (bes a 8).length) (v.take i)) = List.map (fun _ => 8) (v.take i) := by simp [bes_len]
    rw [this, List.map_const', List.sum_replicate_nat, List.length_take]
    have : min i v.length ≤ 16 := by omega
    omega
   refine ⟨_, _, rfl, byts_append w12 (g9.step g12.chg.ext) (by simp) (g12.sl byC_len) (by rw [bes_len]; omega) fun v' s' g' w' _ => ?_⟩
   refine ⟨16 - (i + 1), by omega, i + 1, v', by rw [wrap_i (by omega)]; rfl, by omega, rfl, w', ?_⟩
   rw [step, List.flatMap_append]
   simpa using g'
  ·rw [List.take_of_length_le (by omega)] at g9
   exact ⟨g9.gro, F2.ext.mut.trans g9.chg, fun la hla => F2.ext.none (g9.new la hla)⟩
end Go.Proofs.YtoklmpkpeanloaaGreat
end

section
namespace Go.Proofs.YtoklmpkpeanloaaGreat
open Go.Am Go.Minster Go.Minster2
def itemB (i : Itm) : List Int := dotB i.dot ++ textB i.key.t ++ textB i.key.d
def stateB (v : List Int) (ex : List Dot) (L : List Itm) : List Int := (v.flatMap fun n => bes n 8) ++ bes (ex.length : Nat) 4 ++ ex.flatMap dotB ++ bes (L.length : Nat) 4 ++ L.flatMap itemB
theorem sl_one {v : AV} (h : v.one = true) : acells v = some [v] := by cases v <;> first | rfl | cases h
theorem absl_s1 {v : AV} (h : v.one = true) : absl T Y_s__uint8 1 [(0, v)] = some [v] := by
 simp [absl, u_s__uint8, z_s_uint8, zr_s_uint8, afill, wrs, sl_one h, sl_one (show (AV.slc none 0 0 true).one = true from rfl), rep]
theorem absl_s2 {v w : AV} (h : v.one = true) (h' : w.one = true) : absl T Y_s__uint8 2 [(0, v), (1, w)] = some [v, w] := by
 simp [absl, u_s__uint8, z_s_uint8, zr_s_uint8, afill, wrs, sl_one h, sl_one h', sl_one (show (AV.slc none 0 0 true).one = true from rfl), rep]
theorem absl_s3 {u v w : AV} (h0 : u.one = true) (h : v.one = true) (h' : w.one = true) : absl T Y_s__uint8 3 [(0, u), (1, v), (2, w)] = some [u, v, w] := by
 simp [absl, u_s__uint8, z_s_uint8, zr_s_uint8, afill, wrs, sl_one h0, sl_one h, sl_one h', sl_one (show (AV.slc none 0 0 true).one = true from rfl), rep]
theorem OutV.rebase2 {s0 s s' : AS} {c : Nat} {l : List Int} (h : OutV s0 s c l) (e : Ext s s') : ∃ L, OutV (s'.less L) s' c l ∧ (∀ y ∈ L, s0.h y = none) ∧ (∀ y ∈ L, s.h y ≠ none) ∧ Ext s0 (s'.less L) := by
 obtain ⟨h1, h2, v, h3, h4, h5⟩ := h
 have hn : ∀ y ∈ c :: labOf v, s0.h y = none := by
  intro y hy
  rcases List.mem_cons.1 hy with rfl | hy
  ·exact h2
  ·exact (h5 y hy).1
 refine ⟨c :: labOf v, ⟨s'.less_ext _, by rw [AS.less_h, if_pos (by simp)], v, h3.ext e, h4.ext e, fun la hla => ⟨by rw [AS.less_h, if_pos (by simp [hla])], (h5 la hla).2⟩⟩, hn, ?_, AS.less_of (h1.trans e) hn⟩
 intro y hy
 rcases List.mem_cons.1 hy with rfl | hy
 ·rw [h3]; simp
 ·exact h4.there y hy
theorem GroN.keepL {α : Type} {f : α → List AV} {sz : Nat} {s0 s : AS} {v : AV} {l : List α} {L : List Nat} (hf : ∀ x, (f x).length = sz) (h : GroN f sz [] s0 s v l) (hL : ∀ y ∈ L, s0.h y ≠ none) : Sl f sz (s.less L) v l :=
 (h.gro.mut (s.less_mut L) fun x hx hm => hL x hm (h.new x hx)).sl hf
theorem flat_lenI {α : Type} {f : α → List Int} {n : Nat} (h : ∀ x, (f x).length = n) : ∀ l : List α, (l.flatMap f).length = l.length * n
 | [] => by simp
 | a :: l => by rw [List.flatMap_cons, List.length_append, h, flat_lenI h l, List.length_cons, Nat.add_mul]; omega
theorem reg_ok {d : Dot} (h : d.may = true) : 0 ≤ d.r ∧ d.r ≤ 255 := by have := Dot.may_iff.1 h; omega
theorem conv_bytes {s : AS} (hw : WFs s) (t : List UInt8) {K : AV → AS → Prop} (hK : ∀ v s', Byts s' v (strB t) → Ext s s' → WFs s' → K v s') : Bd2 (aconvert T Y_string Y_s_uint8 (.str t) s) K := by
 have Fr := hw.new (o := .cells (t.map fun c => .int .u8 c.toNat) 1 false) rfl
 refine ⟨.slc (some (s.nl, 0)) t.length t.length false, s.new (.cells (t.map fun c => .int .u8 c.toNat) 1 false), by simp [aconvert, u_string, u_s_uint8, u_uint8], hK _ _ ?_ Fr.ext Fr.wf⟩
 have := SlAt.mk (s := s.new (.cells (t.map fun c => .int .u8 c.toNat) 1 false)) (la := s.nl) (o := 0) (n := t.length) (c := t.length) (e := false) (sz := 1) (cs := (strB t).flatMap byC) ⟨_, _, Fr.at⟩ (by rw [by_len, strB_len]) (by rw [strB_flat, List.drop_zero]; exact List.take_of_length_le (by simp)) (Nat.le_refl _)
 show SlAt _ _ _ _ (strB t).length
 rw [strB_len]; exact this
section
variable {F : List Nat} {s : AS} {p : Nat} {x : OSet} {B : Nat}
set_option maxRecDepth 100000 in
set_option maxHeartbeats 1000000 in
theorem State_ok (h : SetF F s p x) (o : OOk x B) (hB : B ≤ 1000) : ACalls Tryz.prog F_views_State [.ptr (some (p, 0))] s fun v s' => ∃ I, Items x I ∧ Byts s' v (stateB x.v x.ex (liveI I)) ∧ Ext s s' := by
 have hex := o.exlen
 refine q_views_State _ _ _ ?_
 refine ACalls.use (Ctx_ok h) ?_
 rintro v1 s2 ⟨q, rfl, hq, g, e2⟩ w2
 refine ⟨_, rfl, _, aeqPtrNil u_p_ctx_Ctx _, bsplit.no rfl (NewQ.intro w2 rfl fun l5 s6 F6 => ?_)⟩
 have O6 : OutV s2 s6 l5 [] := ⟨F6.ext, F6.no, .slc none 0 0 true, F6.own, Gro.nil, by simp [labOf]⟩
 refine ACalls.use (ctx_Vector_ok (g.at.ext F6.ext)) ?_
 rintro v7 s8 ⟨rfl, e8⟩ w8
 refine ⟨_, rfl, ?_⟩
 refine ACalls.use (Vector_ok x.v o.ok.v.len s8) ?_
 rintro v10 s11 g11 w11
 have e11 := e8.trans g11.chg.ext
 refine ACalls.use (ctx_Extra_ok (g.at.ext (F6.ext.trans e11)) (by omega)) ?_
 rintro v12 s13 g13 w13
 refine ⟨_, (g13.sl dotC_len).lenB u_s_Dot _, ?_⟩
 refine ACalls.use (State3_ok x.ex.length (by omega) s13) ?_
 rintro v15 s16 g16 w16
 have e16 := g13.chg.ext.trans g16.chg.ext
 refine ⟨_, absl_s2 g11.isSlc.2 g16.isSlc.2, NewQ.intro w16 rfl fun l18 s19 F19 => ?_⟩
 have E19 := (e11.trans e16).trans F19.ext
 let L0 : List (AV × List Int) := [(v10, x.v.flatMap fun n => bes n 8), (v15, bes (x.ex.length : Nat) 4)]
 have hVl : (x.v.flatMap fun n => bes n 8).length = 128 := by
  rw [List.length_flatMap]
  have : (List.map (fun a => (bes a 8).length) x.v) = List.map (fun _ => 8) x.v := by simp [bes_len]
  rw [this, List.map_const', List.sum_replicate_nat, o.ok.v.len]
 have hL0 : lenS L0 = 132 := by simp only [lenS, L0, List.map_cons, List.map_nil, List.sum_cons, List.sum_nil, hVl, bes_len]; rfl
 refine ACalls.use (State1_ok (O6.ext E19) (L := L0) (SlAt.mk F19.own.at (by simp [L0]) (by simp [L0]) (by simp [L0])) ?_ (by simp [L0]) (by simp only [hL0, List.length_nil]; omega)) ?_
 ·intro p hp
  rcases List.mem_cons.1 hp with rfl | hp
  ·exact (g11.sl byC_len).ext (e16.trans F19.ext)
  ·obtain rfl := List.mem_singleton.1 hp
   exact (g16.sl byC_len).ext F19.ext
 rintro v20 s21 ⟨rfl, O21⟩ w21
 have hH : [] ++ L0.flatMap Prod.snd = (x.v.flatMap fun n => bes n 8) ++ bes (x.ex.length : Nat) 4 := by simp [L0]
 rw [hH] at O21
 have hHl : ((x.v.flatMap fun n => bes n 8) ++ bes (x.ex.length : Nat) 4).length = 132 := by rw [List.length_append, hVl, bes_len]
 generalize hHd : (x.v.flatMap fun n => bes n 8) ++ bes (x.ex.length : Nat) 4 = H at O21 hHl
 have hdl : ∀ l : List Dot, (l.flatMap dotB).length = l.length * 9 := fun l => flat_lenI dotB_len l
 refine ⟨rfl, fun vs s' => vs = [] ∧ WFs s' ∧ OutV s2 s' l5 (H ++ x.ex.flatMap dotB), ?_, ?_⟩
 rotate_left
 ·refine ACalls.use (ctx_Extra_ok (g.at.ext O21.e) (by omega)) ?_
  rintro v71 s72 g72 w72
  obtain ⟨Lb, Ob, hb1, hb2, eb⟩ := O21.rebase2 g72.chg.ext
  have sEx : Dots (s72.less Lb) v71 x.ex := GroN.keepL dotC_len g72 hb2
  refine ⟨_, sEx.lenB u_s_Dot _, fun m vs s' => ∃ i : Nat, vs = [.int .i64 (i : Nat)] ∧ i ≤ x.ex.length ∧ m = x.ex.length - i ∧ WFs s' ∧ OutV (s72.less Lb) s' l5 (H ++ (x.ex.take i).flatMap dotB), x.ex.length, ⟨0, rfl, by omega, rfl, w72, by simpa using Ob⟩, ?_⟩
  rintro m n s78 ⟨i, hin, hi, rfl, w78, O78⟩
  simp only [List.cons.injEq, AV.int.injEq, true_and, and_true] at hin
  subst hin
  refine bsplit.dec (fun hlt => ?_) (fun hge => ?_)
  rotate_left
  ·rw [List.take_of_length_le (by omega)] at O78
   exact ⟨rfl, w78, ⟨eb.trans O78.e, F6.no, by obtain ⟨_, _, v, k1, k2, k3⟩ := O78; exact ⟨v, k1, k2, fun la hla => ⟨eb.none (k3 la hla).1, (k3 la hla).2⟩⟩⟩⟩
  obtain ⟨d, hd⟩ := get_lt (l := x.ex) (i := i) (by omega)
  have hdm := o.ok.m d (List.mem_of_getElem? hd)
  have step := List.take_add_one (l := x.ex) (i := i)
  rw [hd, Option.toList_some] at step
  obtain ⟨la, oa, k8, k9⟩ := sEx.ix (by decide) dotC_len u_s_Dot z_Dot hd
  refine ⟨la, oa, k8 _, _, (k9 _ O78.e).2, NewSt w78 rfl rfl rfl fun l82 s84 F84 => ⟨_, F84.own.at.rdc (by simp [dotC]), ?_⟩⟩
  refine ACalls.use (State2_ok d (reg_ok hdm) s84) ?_
  rintro v86 s87 g87 w87
  refine ⟨_, absl_s1 g87.isSlc.2, NewQ.intro w87 rfl fun l89 s90 F90 => ?_⟩
  have hlen := hdl (x.ex.take i)
  have htl := List.length_take_le i x.ex
  refine ACalls.use (State1_ok (O78.ext ((F84.ext.trans g87.chg.ext).trans F90.ext)) (L := [(v86, dotB d)]) (SlAt.mk F90.own.at (by simp) (by simp) (by simp)) ?_ (by simp) (by simp only [lenS, List.map_cons, List.map_nil, List.sum_cons, List.sum_nil, dotB_len, List.length_append, hHl, hlen]; omega)) ?_
  ·intro p hp
   obtain rfl := List.mem_singleton.1 hp
   exact (g87.sl byC_len).ext F90.ext
  rintro v91 s92 ⟨rfl, O92⟩ w92
  refine ⟨rfl, x.ex.length - (i + 1), by omega, i + 1, by rw [wrap_i (by omega)]; rfl, by omega, rfl, w92, ?_⟩
  rw [step, List.flatMap_append, ← List.append_assoc]
  simpa using O92
 rintro s23 ⟨_, w23, O23⟩
 have E23 : Ext s s23 := e2.trans O23.e
 refine ACalls.use (Items_okN (h.ext E23) o hB) ?_
 rintro v24 s25 ⟨I, hI, hN⟩ w25
 have hIl := hI.len o
 refine ACalls.use (SI.DeleteFunc_okN (P := fun i => i.gone) hN (by omega) fun i s' e w => State4_ok i s') ?_
 rintro v26 s27 ⟨e27, hK⟩ w27
 have s26 := hK.sl
 have hLl : (liveI I).length ≤ I.length := List.length_filter_le _ _
 have hLeq : (I.filter fun i => !i.gone) = liveI I := rfl
 rw [hLeq] at hK s26
 refine ⟨_, s26.lenB u_s_Item _, ?_⟩
 refine ACalls.use (State3_ok (liveI I).length (by omega) s27) ?_
 rintro v29 s30 g30 w30
 refine ⟨_, absl_s1 g30.isSlc.2, NewQ.intro w30 rfl fun l32 s33 F33 => ?_⟩
 have e33 := (e27.trans g30.chg.ext).trans F33.ext
 have e27' := g30.chg.ext.trans F33.ext
 have hAl : (H ++ x.ex.flatMap dotB).length ≤ 10000 := by rw [List.length_append, hHl, hdl]; omega
 obtain ⟨Lb, Ob, hb1, hb2, eb⟩ := O23.rebase2 e33
 have sL : Sl itemC 5 (s33.less Lb) v26 (liveI I) := hK _ Lb (e27'.mut.trans (s33.less_mut Lb)) hb2
 refine ACalls.use (State1_ok Ob (L := [(v29, bes ((liveI I).length : Nat) 4)]) (SlAt.mk F33.own.at (by simp) (by simp) (by simp)) ?_ (by simp) (by simp only [lenS, List.map_cons, List.map_nil, List.sum_cons, List.sum_nil, bes_len]; omega)) ?_
 ·intro p hp
  obtain rfl := List.mem_singleton.1 hp
  exact (g30.sl byC_len).ext F33.ext
 rintro v34 s35 ⟨rfl, O35⟩ w35
 have hk : ∀ j ∈ liveI I, j.dot.may = true ∧ j.key.t.length ≤ 32 ∧ j.key.d.length ≤ 32 := by
  intro j hj
  have h1 := ((liveI_mem hI j).1 hj).2
  obtain ⟨h2, h3⟩ := o.lv _ _ h1
  refine ⟨has_may h2, ?_⟩
  simp only [Key.may, nameOk, Bool.and_eq_true, decide_eq_true_eq] at h3
  omega
 have hil : ∀ l : List Itm, (∀ j ∈ l, j ∈ liveI I) → (l.flatMap itemB).length ≤ l.length * 77 := by
  intro l
  induction l with
  | nil => simp
  | cons a l ih =>
   intro hl
   have := ih fun j hj => hl j (by simp [hj])
   have h1 := hk a (hl a (by simp))
   simp only [List.flatMap_cons, List.length_append, List.length_cons, itemB, dotB_len, textB_len] at this ⊢
   omega
 simp only [List.flatMap_cons, List.flatMap_nil, List.append_nil] at O35
 have hCl : (H ++ x.ex.flatMap dotB ++ bes ((liveI I).length : Nat) 4).length ≤ 10004 := by rw [List.length_append, bes_len]; omega
 generalize hC : H ++ x.ex.flatMap dotB ++ bes ((liveI I).length : Nat) 4 = C at O35 hCl
 refine ⟨rfl, _, sL.lenB u_s_Item _, fun m vs s' => ∃ i : Nat, vs = [.int .i64 (i : Nat)] ∧ i ≤ (liveI I).length ∧ m = (liveI I).length - i ∧ WFs s' ∧ OutV (s33.less Lb) s' l5 (C ++ ((liveI I).take i).flatMap itemB), (liveI I).length, ⟨0, rfl, by omega, rfl, w35, by simpa using O35⟩, ?_⟩
 rintro m n s41 ⟨i, hin, hi, rfl, w41, O41⟩
 simp only [List.cons.injEq, AV.int.injEq, true_and, and_true] at hin
 subst hin
 refine bsplit.dec (fun hlt => ?_) (fun hge => ?_)
 rotate_left
 ·rw [List.take_of_length_le (by omega)] at O41
  obtain ⟨v, k1, k2⟩ := O41.get
  refine ⟨v, k1, I, hI, ?_, e2.trans (eb.trans O41.e)⟩
  rw [← hC, ← hHd] at k2
  exact k2
 obtain ⟨j, hj⟩ := get_lt (l := liveI I) (i := i) (by omega)
 obtain ⟨hjm, hjt, hjd⟩ := hk j (List.mem_of_getElem? hj)
 have step := List.take_add_one (l := liveI I) (i := i)
 rw [hj, Option.toList_some] at step
 obtain ⟨la, oa, k8, k9⟩ := sL.ix (by decide) itemC_len u_s_Item z_Item hj
 refine ⟨la, oa, k8 _, _, (k9 _ O41.e).2, NewSt w41 rfl rfl rfl fun l45 s47 F47 => ⟨j.key.t, by rw [F47.own.at.rd1]; rfl, ?_⟩⟩
 refine conv_bytes F47.wf j.key.t fun v49 s50 b50 e50 w50 => ?_
 refine ACalls.use (Blob_ok b50 (by rw [strB_len]; omega)) ?_
 rintro r51 s52 ⟨v53, rfl, g52⟩ w52
 rw [strB_len] at g52
 have E52 := e50.trans g52.chg.ext
 refine ⟨_, _, rfl, j.key.d, by rw [(F47.own.ext E52).at.rd1]; rfl, ?_⟩
 refine conv_bytes w52 j.key.d fun v56 s57 b57 e57 w57 => ?_
 refine ACalls.use (Blob_ok b57 (by rw [strB_len]; omega)) ?_
 rintro r58 s59 ⟨v60, rfl, g59⟩ w59
 rw [strB_len] at g59
 have E59 := e57.trans g59.chg.ext
 refine ⟨_, _, rfl, _, (F47.own.ext (E52.trans E59)).at.rdc (by simp [itemC]), ?_⟩
 refine ACalls.use (State2_ok j.dot (reg_ok hjm) s59) ?_
 rintro v63 s64 g64 w64
 refine ⟨_, absl_s3 g64.isSlc.2 g52.isSlc.2 g59.isSlc.2, NewQ.intro w64 rfl fun l66 s67 F67 => ?_⟩
 have hlen := hil ((liveI I).take i) fun j hj => List.mem_of_mem_take hj
 have htl := List.length_take_le i (liveI I)
 let L3 : List (AV × List Int) := [(v63, dotB j.dot), (v53, textB j.key.t), (v60, textB j.key.d)]
 have hL3 : lenS L3 ≤ 77 := by simp only [lenS, L3, List.map_cons, List.map_nil, List.sum_cons, List.sum_nil, dotB_len, textB_len]; omega
 have E67 := ((F47.ext.trans E52).trans E59).trans (g64.chg.ext.trans F67.ext)
 refine ACalls.use (State1_ok (O41.ext E67) (L := L3) (SlAt.mk F67.own.at (by simp [L3]) (by simp [L3]) (by simp [L3])) ?_ (by simp [L3]) (by rw [List.length_append]; omega)) ?_
 ·intro p hp
  rcases List.mem_cons.1 hp with rfl | hp
  ·exact (g64.sl byC_len).ext F67.ext
  ·rcases List.mem_cons.1 hp with rfl | hp
   ·exact (g52.sl byC_len).ext (E59.trans (g64.chg.ext.trans F67.ext))
   ·obtain rfl := List.mem_singleton.1 hp
    exact (g59.sl byC_len).ext (g64.chg.ext.trans F67.ext)
 rintro v68 s69 ⟨rfl, O69⟩ w69
 refine ⟨rfl, (liveI I).length - (i + 1), by omega, i + 1, by rw [wrap_i (by omega)]; rfl, by omega, rfl, w69, ?_⟩
 rw [step, List.flatMap_append, ← List.append_assoc]
 simpa [L3, itemB] using O69
end
end Go.Proofs.YtoklmpkpeanloaaGreat
end

section
namespace Go.Proofs.YtoklmpkpeanloaaGreat
open Go.Am Go.Minster Go.Minster2
theorem byteAt_val {n : Int} (h : 0 ≤ n) {sh : Nat} (hs : sh ≤ 64) : byteAt n sh = n / 2 ^ sh % 256 := by
 unfold byteAt
 rw [IntKind.wrap_u8, Nat.min_eq_left (show sh ≤ IntKind.bits .u64 from hs), Int.fdiv_eq_ediv_of_nonneg _ (Int.le_of_lt (Int.pow_pos (by decide)))]
theorem byteAt_in (n : Int) (sh : Nat) : 0 ≤ byteAt n sh ∧ byteAt n sh < 256 := by unfold byteAt; rw [IntKind.wrap_u8]; omega
theorem bes_get (n : Int) {k i : Nat} (h : i < k) : (bes n k)[i]? = some (byteAt n (8 * (k - 1 - i))) := by
 simp [bes, h]
theorem bes_at {n n' : Int} {k : Nat} (h : bes n k = bes n' k) {i : Nat} (hi : i < k) : byteAt n (8 * (k - 1 - i)) = byteAt n' (8 * (k - 1 - i)) := by
 have := congrArg (fun l => l[i]?) h
 simp only [bes_get _ hi, Option.some.injEq] at this
 exact this
theorem bes8_inj {n n' : Int} (h : 0 ≤ n ∧ n < 18446744073709551616) (h' : 0 ≤ n' ∧ n' < 18446744073709551616) (e : bes n 8 = bes n' 8) : n = n' := by
 have e0 := bes_at e (i := 0) (by omega)
 have e1 := bes_at e (i := 1) (by omega)
 have e2 := bes_at e (i := 2) (by omega)
 have e3 := bes_at e (i := 3) (by omega)
 have e4 := bes_at e (i := 4) (by omega)
 have e5 := bes_at e (i := 5) (by omega)
 have e6 := bes_at e (i := 6) (by omega)
 have e7 := bes_at e (i := 7) (by omega)
 rw [byteAt_val h.1 (by omega), byteAt_val h'.1 (by omega)] at e0 e1 e2 e3 e4 e5 e6 e7
 simp only [Nat.reduceSub, Nat.reduceMul, Int.reducePow] at e0 e1 e2 e3 e4 e5 e6 e7
 omega
theorem bes4_inj {n n' : Int} (h : 0 ≤ n ∧ n < 4294967296) (h' : 0 ≤ n' ∧ n' < 4294967296) (e : bes n 4 = bes n' 4) : n = n' := by
 have e0 := bes_at e (i := 0) (by omega)
 have e1 := bes_at e (i := 1) (by omega)
 have e2 := bes_at e (i := 2) (by omega)
 have e3 := bes_at e (i := 3) (by omega)
 rw [byteAt_val h.1 (by omega), byteAt_val h'.1 (by omega)] at e0 e1 e2 e3
 simp only [Nat.reduceSub, Nat.reduceMul, Int.reducePow] at e0 e1 e2 e3
 omega
theorem bes2_inj {n n' : Int} (h : 0 ≤ n ∧ n < 65536) (h' : 0 ≤ n' ∧ n' < 65536) (e : bes n 2 = bes n' 2) : n = n' := by
 have e0 := bes_at e (i := 0) (by omega)
 have e1 := bes_at e (i := 1) (by omega)
 rw [byteAt_val h.1 (by omega), byteAt_val h'.1 (by omega)] at e0 e1
 simp only [Nat.reduceSub, Nat.reduceMul, Int.reducePow] at e0 e1
 omega
theorem bes_in (n : Int) (k : Nat) : ∀ b ∈ bes n k, 0 ≤ b ∧ b < 256 := by
 intro b hb
 obtain ⟨i, _, rfl⟩ := List.mem_map.1 hb
 exact byteAt_in _ _
theorem strB_inj : ∀ {t t' : List UInt8}, strB t = strB t' → t = t'
 | [], [], _ => rfl
 | [], _ :: _, h => by simp [strB] at h
 | _ :: _, [], h => by simp [strB] at h
 | a :: t, b :: t', h => by
  simp only [strB, List.map_cons, List.cons.injEq] at h
  have h1 : a.toNat = b.toNat := by omega
  rw [UInt8.toNat_inj.1 h1, strB_inj (t := t) (t' := t') h.2]
theorem strB_in (t : List UInt8) : ∀ b ∈ strB t, 0 ≤ b ∧ b < 256 := by
 intro b hb
 obtain ⟨c, _, rfl⟩ := List.mem_map.1 hb
 have := c.toNat_lt
 omega
theorem dotB_inj {d d' : Dot} (h : d.may = true) (h' : d'.may = true) (e : dotB d = dotB d') : d = d' := by
 have h1 := Dot.may_iff.1 h
 have h2 := Dot.may_iff.1 h'
 unfold dotB at e
 obtain ⟨e1, e2⟩ := List.cons.inj e
 rw [IntKind.wrap_u8, IntKind.wrap_u8] at e1
 have e3 := bes8_inj (by omega) (by omega) e2
 cases d; cases d'
 simp only at h1 h2 e1 e3
 rw [Dot.mk.injEq]
 exact ⟨by omega, e3⟩
theorem dotB_in (d : Dot) : ∀ b ∈ dotB d, 0 ≤ b ∧ b < 256 := by
 intro b hb
 rcases List.mem_cons.1 hb with rfl | hb
 ·rw [IntKind.wrap_u8]; omega
 ·exact bes_in _ _ b hb
theorem textB_pre {t t' : List UInt8} {A A' : List Int} (h : t.length < 65536) (h' : t'.length < 65536) (e : textB t ++ A = textB t' ++ A') : t = t' ∧ A = A' := by
 unfold textB at e
 rw [List.append_assoc, List.append_assoc] at e
 obtain ⟨e1, e2⟩ := List.append_inj e (by rw [bes_len, bes_len])
 have hl := bes2_inj (by omega) (by omega) e1
 obtain ⟨e3, e4⟩ := List.append_inj e2 (by rw [strB_len, strB_len]; omega)
 exact ⟨strB_inj e3, e4⟩
theorem textB_in (t : List UInt8) : ∀ b ∈ textB t, 0 ≤ b ∧ b < 256 := by
 intro b hb
 rcases List.mem_append.1 hb with hb | hb
 ·exact bes_in _ _ b hb
 ·exact strB_in _ b hb
structure ItemS (i : Itm) : Prop where
 d : i.dot.may = true
 g : i.gone = false
 t : i.key.t.length < 65536
 u : i.key.d.length < 65536
theorem itemB_pre {i j : Itm} {A A' : List Int} (h : ItemS i) (h' : ItemS j) (e : itemB i ++ A = itemB j ++ A') : i = j ∧ A = A' := by
 unfold itemB at e
 simp only [List.append_assoc] at e
 obtain ⟨e1, e2⟩ := List.append_inj e (by rw [dotB_len, dotB_len])
 obtain ⟨e3, e4⟩ := textB_pre h.t h'.t e2
 obtain ⟨e5, e6⟩ := textB_pre h.u h'.u e4
 have hd := dotB_inj h.d h'.d e1
 have hg : i.gone = j.gone := by rw [h.g, h'.g]
 refine ⟨?_, e6⟩
 cases i with | mk a b c => cases j with | mk a' b' c' =>
  cases b; cases b'
  simp only at hd e3 e5 hg
  subst hd e3 e5 hg
  rfl
theorem items_inj : ∀ {L M : List Itm}, (∀ i ∈ L, ItemS i) → (∀ i ∈ M, ItemS i) → L.length = M.length → L.flatMap itemB = M.flatMap itemB → L = M
 | [], [], _, _, _, _ => rfl
 | [], _ :: _, _, _, h, _ => by simp at h
 | _ :: _, [], _, _, h, _ => by simp at h
 | i :: L, j :: M, h1, h2, hl, e => by
  simp only [List.flatMap_cons] at e
  obtain ⟨e1, e2⟩ := itemB_pre (h1 i (by simp)) (h2 j (by simp)) e
  rw [e1, items_inj (fun i hi => h1 i (by simp [hi])) (fun i hi => h2 i (by simp [hi])) (by simpa using hl) e2]
theorem dots_inj : ∀ {L M : List Dot}, (∀ i ∈ L, i.may = true) → (∀ i ∈ M, i.may = true) → L.length = M.length → L.flatMap dotB = M.flatMap dotB → L = M
 | [], [], _, _, _, _ => rfl
 | [], _ :: _, _, _, h, _ => by simp at h
 | _ :: _, [], _, _, h, _ => by simp at h
 | i :: L, j :: M, h1, h2, hl, e => by
  simp only [List.flatMap_cons] at e
  obtain ⟨e1, e2⟩ := List.append_inj e (by rw [dotB_len, dotB_len])
  rw [dotB_inj (h1 i (by simp)) (h2 j (by simp)) e1, dots_inj (fun i hi => h1 i (by simp [hi])) (fun i hi => h2 i (by simp [hi])) (by simpa using hl) e2]
theorem vecs_inj : ∀ {v w : List Int}, (∀ n ∈ v, 0 ≤ n ∧ n < 18446744073709551616) → (∀ n ∈ w, 0 ≤ n ∧ n < 18446744073709551616) → v.length = w.length → (v.flatMap fun n => bes n 8) = (w.flatMap fun n => bes n 8) → v = w
 | [], [], _, _, _, _ => rfl
 | [], _ :: _, _, _, h, _ => by simp at h
 | _ :: _, [], _, _, h, _ => by simp at h
 | a :: v, b :: w, h1, h2, hl, e => by
  simp only [List.flatMap_cons] at e
  obtain ⟨e1, e2⟩ := List.append_inj e (by rw [bes_len, bes_len])
  rw [bes8_inj (h1 a (by simp)) (h2 b (by simp)) e1, vecs_inj (fun i hi => h1 i (by simp [hi])) (fun i hi => h2 i (by simp [hi])) (by simpa using hl) e2]
theorem stateB_inj {v v' : List Int} {ex ex' : List Dot} {L L' : List Itm} (hv : ∀ n ∈ v, 0 ≤ n ∧ n < 18446744073709551616) (hv' : ∀ n ∈ v', 0 ≤ n ∧ n < 18446744073709551616) (hl : v.length = v'.length) (he : ∀ d ∈ ex, d.may = true) (he' : ∀ d ∈ ex', d.may = true) (hn : ex.length < 2 ^ 30) (hn' : ex'.length < 2 ^ 30)
  (hL : ∀ i ∈ L, ItemS i) (hL' : ∀ i ∈ L', ItemS i) (hm : L.length < 2 ^ 30) (hm' : L'.length < 2 ^ 30) (e : stateB v ex L = stateB v' ex' L') : v = v' ∧ ex = ex' ∧ L = L' := by
 unfold stateB at e
 simp only [List.append_assoc] at e
 obtain ⟨e1, e2⟩ := List.append_inj e (by rw [flat_lenI (f := fun n => bes n 8) (n := 8) (fun n => bes_len n 8), flat_lenI (f := fun n => bes n 8) (n := 8) (fun n => bes_len n 8), hl])
 obtain ⟨e3, e4⟩ := List.append_inj e2 (by rw [bes_len, bes_len])
 have h1 := bes4_inj (by omega) (by omega) e3
 obtain ⟨e5, e6⟩ := List.append_inj e4 (by rw [flat_lenI dotB_len, flat_lenI dotB_len]; omega)
 obtain ⟨e7, e8⟩ := List.append_inj e6 (by rw [bes_len, bes_len])
 have h2 := bes4_inj (by omega) (by omega) e7
 exact ⟨vecs_inj hv hv' hl e1, dots_inj he he' (by omega) e5, items_inj hL hL' (by omega) e8⟩
theorem stateB_in (v : List Int) (ex : List Dot) (L : List Itm) : ∀ b ∈ stateB v ex L, 0 ≤ b ∧ b < 256 := by
 intro b hb
 simp only [stateB, List.mem_append, List.mem_flatMap] at hb
 rcases hb with (((⟨n, _, h⟩ | h) | ⟨d, _, h⟩) | h) | ⟨i, _, h⟩
 ·exact bes_in _ _ b h
 ·exact bes_in _ _ b h
 ·exact dotB_in _ b h
 ·exact bes_in _ _ b h
 ·simp only [itemB, List.mem_append] at h
  rcases h with (h | h) | h
  ·exact dotB_in _ b h
  ·exact textB_in _ b h
  ·exact textB_in _ b h
theorem liveS {x : OSet} {B : Nat} (o : OOk x B) {I : List Itm} (hI : Items x I) : ∀ i ∈ liveI I, ItemS i := by
 intro i hi
 obtain ⟨h1, h2⟩ := (liveI_mem hI i).1 hi
 obtain ⟨h3, h4⟩ := o.lv _ _ h2
 simp only [Key.may, nameOk, Bool.and_eq_true, decide_eq_true_eq] at h4
 exact ⟨has_may h3, h1, by omega, by omega⟩
end Go.Proofs.YtoklmpkpeanloaaGreat
end

section
set_option maxRecDepth 100000
set_option maxHeartbeats 4000000
namespace Go.Proofs.YtoklmpkpeanloaaGreat
open Go.Am
def Q_law19iViewsStates (a0 : AV) (a1 : AV) (s : AS) (R : AV → AS → Prop) : Prop :=
 JoinQ fun J1 =>
 (∀ b2 : Bool, ∀ s3 : AS, J1 [(.bool b2)] s3 →
 bsplit b2
 (ACalls Tryz.prog F_law19iknown [] s3 fun v4 s5 => ∃ b6 : Bool, v4 = .bool b6 ∧ (R (.bool b6) s5))
 (ACalls Tryz.prog F_views_Function [a0] s3 fun v7 s8 => ∃ p9 : Option (Nat × Nat), ∃ n10 : Int, v7 = .tup [(.ptr p9), (.int .i64 n10)] ∧ (ACalls Tryz.prog F_law19imay [a0] s8 fun v11 s12 => ∃ b13 : Bool, v11 = .bool b13 ∧ (bsplit (!b13)
 (bsplit ((n10 : Int) == 2) (RdO (aeq T 100 Y_p_orset_Set (.ptr p9) (.ptr none)) fun b14 => bsplit b14 (ACalls Tryz.prog F_law19iknown [] s12 fun v15 s16 => ∃ b17 : Bool, v15 = .bool b17 ∧ (R (.bool b17) s16)) (R (.bool false) s12)) (R (.bool false) s12))
 (RdG (abuild T Y_minsterref07iSet []) fun g18 => One1 g18 (NewQ (.cells g18 0 false) s12 fun l19 s20 => JoinQ fun J21 =>
 (∀ s22 : AS, J21 [] s22 →
 DrawQ fun S V => bsplit ((n10 : Int) != 0) (∀ s23 : AS, Ext s22 s23 → WFs s23 → (True) → R (.bool false) s23) ((∀ s25 : AS, Ext s22 s25 → WFs s25 → (True) → ACalls Tryz.prog F_views_State [(.ptr p9)] s25 fun v26 s27 => (Ext s25 s27 ∧ S 4 [(.func F_views_State []), (.ptr p9)] v26 s27 ∧ V 4 [(.func F_views_State []), (.ptr p9)] v26)) ∧ (∃ v, V 4 [(.func F_views_State []), (.ptr p9)] v) ∧ ∀ v28 : AV, V 4 [(.func F_views_State []), (.ptr p9)] v28 → (∀ s29 : AS, Ext s22 s29 → WFs s29 → (S 4 [(.func F_views_State []), (.ptr p9)] v28 s29 ∧ True) → RdS ((aconvert T Y_s_uint8 Y_string v28 s29).map (·.1)) fun x30 => (Ext s29 s29 ∧ S 5 [v28] (.str x30) s29 ∧ V 5 [v28] (.str x30))) ∧ (∃ v, V 5 [v28] v) ∧ ∀ v31 : AV, V 5 [v28] v31 → ∃ x32 : List UInt8, v31 = .str x32 ∧ ((∀ s33 : AS, Ext s22 s33 → WFs s33 → (S 4 [(.func F_views_State []), (.ptr p9)] v28 s33 ∧ True) → ACalls Tryz.prog F_law19istate [(.ptr (some (l19, 0)))] s33 fun v34 s35 => (Ext s33 s35 ∧ S 7 [(.func F_law19istate []), (.ptr (some (l19, 0)))] v34 s35 ∧ V 7 [(.func F_law19istate []), (.ptr (some (l19, 0)))] v34)) ∧ (∃ v, V 7 [(.func F_law19istate []), (.ptr (some (l19, 0)))] v) ∧ ∀ v36 : AV, V 7 [(.func F_law19istate []), (.ptr (some (l19, 0)))] v36 → (∀ s37 : AS, Ext s22 s37 → WFs s37 → (S 4 [(.func F_views_State []), (.ptr p9)] v28 s37 ∧ (S 7 [(.func F_law19istate []), (.ptr (some (l19, 0)))] v36 s37 ∧ True)) → RdS ((aconvert T Y_s_uint8 Y_string v36 s37).map (·.1)) fun x38 => (Ext s37 s37 ∧ S 8 [v36] (.str x38) s37 ∧ V 8 [v36] (.str x38))) ∧ (∃ v, V 8 [v36] v) ∧ ∀ v39 : AV, V 8 [v36] v39 → ∃ x40 : List UInt8, v39 = .str x40 ∧ (∀ s41 : AS, Ext s22 s41 → WFs s41 → (S 4 [(.func F_views_State []), (.ptr p9)] v28 s41 ∧ (S 5 [v28] (.str x32) s41 ∧ (S 7 [(.func F_law19istate []), (.ptr (some (l19, 0)))] v36 s41 ∧ (S 8 [v36] (.str x40) s41 ∧ True)))) → bsplit (!((x32 : List UInt8) == x40))
 (R (.bool false) s41)
 (JoinQ fun J43 =>
 (∀ s44 : AS, J43 [] s44 →
 DrawQ fun S V => (∀ s45 : AS, Ext s44 s45 → WFs s45 → (True) → ACalls Tryz.prog F_views_State [(.ptr p9)] s45 fun v46 s47 => (Ext s45 s47 ∧ S 1 [(.func F_views_State []), (.ptr p9)] v46 s47 ∧ V 1 [(.func F_views_State []), (.ptr p9)] v46)) ∧ (∃ v, V 1 [(.func F_views_State []), (.ptr p9)] v) ∧ ∀ v48 : AV, V 1 [(.func F_views_State []), (.ptr p9)] v48 → (∀ s49 : AS, Ext s44 s49 → WFs s49 → (S 1 [(.func F_views_State []), (.ptr p9)] v48 s49 ∧ True) → RdS ((aconvert T Y_s_uint8 Y_string v48 s49).map (·.1)) fun x50 => (Ext s49 s49 ∧ S 2 [v48] (.str x50) s49 ∧ V 2 [v48] (.str x50))) ∧ (∃ v, V 2 [v48] v) ∧ ∀ v51 : AV, V 2 [v48] v51 → ∃ x52 : List UInt8, v51 = .str x52 ∧ ((∀ s53 : AS, Ext s44 s53 → WFs s53 → (S 1 [(.func F_views_State []), (.ptr p9)] v48 s53 ∧ True) → ACalls Tryz.prog F_law19istate [(.ptr (some (l19, 0)))] s53 fun v54 s55 => (Ext s53 s55 ∧ S 4 [(.func F_law19istate []), (.ptr (some (l19, 0)))] v54 s55 ∧ V 4 [(.func F_law19istate []), (.ptr (some (l19, 0)))] v54)) ∧ (∃ v, V 4 [(.func F_law19istate []), (.ptr (some (l19, 0)))] v) ∧ ∀ v56 : AV, V 4 [(.func F_law19istate []), (.ptr (some (l19, 0)))] v56 → (∀ s57 : AS, Ext s44 s57 → WFs s57 → (S 1 [(.func F_views_State []), (.ptr p9)] v48 s57 ∧ (S 4 [(.func F_law19istate []), (.ptr (some (l19, 0)))] v56 s57 ∧ True)) → RdS ((aconvert T Y_s_uint8 Y_string v56 s57).map (·.1)) fun x58 => (Ext s57 s57 ∧ S 5 [v56] (.str x58) s57 ∧ V 5 [v56] (.str x58))) ∧ (∃ v, V 5 [v56] v) ∧ ∀ v59 : AV, V 5 [v56] v59 → ∃ x60 : List UInt8, v59 = .str x60 ∧ (∀ s61 : AS, Ext s44 s61 → WFs s61 → (S 1 [(.func F_views_State []), (.ptr p9)] v48 s61 ∧ (S 2 [v48] (.str x52) s61 ∧ (S 4 [(.func F_law19istate []), (.ptr (some (l19, 0)))] v56 s61 ∧ (S 5 [v56] (.str x60) s61 ∧ True)))) → bsplit (!((x52 : List UInt8) == x60))
 (R (.bool false) s61)
 (ACalls Tryz.prog F_law19istate [(.ptr (some (l19, 0)))] s61 fun v63 s64 => ACalls Tryz.prog F_views_Of [v63] s64 fun v65 s66 => ∃ p67 : Option (Nat × Nat), ∃ n68 : Int, v65 = .tup [(.ptr p67), (.int .i64 n68)] ∧ (DrawQ fun S V => bsplit ((n68 : Int) != 0) (∀ s69 : AS, Ext s66 s69 → WFs s69 → (True) → R (.bool false) s69) ((∀ s71 : AS, Ext s66 s71 → WFs s71 → (True) → ACalls Tryz.prog F_orset_Set_Tombs [(.ptr p67)] s71 fun v72 s73 => (Ext s71 s73 ∧ S 4 [(.func F_orset_Set_Tombs []), (.ptr p67)] v72 s73 ∧ V 4 [(.func F_orset_Set_Tombs []), (.ptr p67)] v72)) ∧ (∃ v, V 4 [(.func F_orset_Set_Tombs []), (.ptr p67)] v) ∧ ∀ v74 : AV, V 4 [(.func F_orset_Set_Tombs []), (.ptr p67)] v74 → RdI .i64 (alenB T Y_s_Dot v74 s66) fun n75 => bsplit (decide ((n75 : Int) > 0)) (∀ s76 : AS, Ext s66 s76 → WFs s76 → (S 4 [(.func F_orset_Set_Tombs []), (.ptr p67)] v74 s76 ∧ True) → R (.bool false) s76) ((∀ s78 : AS, Ext s66 s78 → WFs s78 → (S 4 [(.func F_orset_Set_Tombs []), (.ptr p67)] v74 s78 ∧ True) → ACalls Tryz.prog F_views_State [(.ptr p67)] s78 fun v79 s80 => (Ext s78 s80 ∧ S 10 [(.func F_views_State []), (.ptr p67)] v79 s80 ∧ V 10 [(.func F_views_State []), (.ptr p67)] v79)) ∧ (∃ v, V 10 [(.func F_views_State []), (.ptr p67)] v) ∧ ∀ v81 : AV, V 10 [(.func F_views_State []), (.ptr p67)] v81 → (∀ s82 : AS, Ext s66 s82 → WFs s82 → (S 4 [(.func F_orset_Set_Tombs []), (.ptr p67)] v74 s82 ∧ (S 10 [(.func F_views_State []), (.ptr p67)] v81 s82 ∧ True)) → RdS ((aconvert T Y_s_uint8 Y_string v81 s82).map (·.1)) fun x83 => (Ext s82 s82 ∧ S 11 [v81] (.str x83) s82 ∧ V 11 [v81] (.str x83))) ∧ (∃ v, V 11 [v81] v) ∧ ∀ v84 : AV, V 11 [v81] v84 → ∃ x85 : List UInt8, v84 = .str x85 ∧ ((∀ s86 : AS, Ext s66 s86 → WFs s86 → (S 4 [(.func F_orset_Set_Tombs []), (.ptr p67)] v74 s86 ∧ (S 10 [(.func F_views_State []), (.ptr p67)] v81 s86 ∧ True)) → ACalls Tryz.prog F_law19istate [(.ptr (some (l19, 0)))] s86 fun v87 s88 => (Ext s86 s88 ∧ S 13 [(.func F_law19istate []), (.ptr (some (l19, 0)))] v87 s88 ∧ V 13 [(.func F_law19istate []), (.ptr (some (l19, 0)))] v87)) ∧ (∃ v, V 13 [(.func F_law19istate []), (.ptr (some (l19, 0)))] v) ∧ ∀ v89 : AV, V 13 [(.func F_law19istate []), (.ptr (some (l19, 0)))] v89 → (∀ s90 : AS, Ext s66 s90 → WFs s90 → (S 4 [(.func F_orset_Set_Tombs []), (.ptr p67)] v74 s90 ∧ (S 10 [(.func F_views_State []), (.ptr p67)] v81 s90 ∧ (S 13 [(.func F_law19istate []), (.ptr (some (l19, 0)))] v89 s90 ∧ True))) → RdS ((aconvert T Y_s_uint8 Y_string v89 s90).map (·.1)) fun x91 => (Ext s90 s90 ∧ S 14 [v89] (.str x91) s90 ∧ V 14 [v89] (.str x91))) ∧ (∃ v, V 14 [v89] v) ∧ ∀ v92 : AV, V 14 [v89] v92 → ∃ x93 : List UInt8, v92 = .str x93 ∧ (∀ s94 : AS, Ext s66 s94 → WFs s94 → (S 4 [(.func F_orset_Set_Tombs []), (.ptr p67)] v74 s94 ∧ (S 10 [(.func F_views_State []), (.ptr p67)] v81 s94 ∧ (S 11 [v81] (.str x85) s94 ∧ (S 13 [(.func F_law19istate []), (.ptr (some (l19, 0)))] v89 s94 ∧ (S 14 [v89] (.str x93) s94 ∧ True))))) → bsplit (!((x85 : List UInt8) == x93))
 (R (.bool false) s94)
 (ACalls Tryz.prog F_orset_Set_Items [(.ptr p67)] s94 fun v96 s97 => ACalls Tryz.prog F_ref07iSet_Live [(.ptr (some (l19, 0)))] s97 fun v98 s99 => ACalls Tryz.prog F_ref07iSameItems [v96, v98] s99 fun v100 s101 => ∃ b102 : Bool, v100 = .bool b102 ∧ (bsplit b102 (ACalls Tryz.prog F_law19iknown [] s101 fun v103 s104 => ∃ b105 : Bool, v103 = .bool b105 ∧ (R (.bool b105) s104)) (R (.bool false) s101)))))))))))) ∧
 (LoopQ fun I106 m107 => I106 m107 [(.int .i64 0)] s41 ∧
 ∀ m108 : Nat, ∀ n109 : Int, ∀ s110 : AS, I106 m108 [(.int .i64 n109)] s110 →
 RdI .i64 (alenB T Y_s_Dot a1 s110) fun n111 => bsplit (decide ((n109 : Int) < n111))
 (IxQ (aindexAddr T Y_s_Dot a1 (.int .i64 n109)) fun l112 o113 => RdL (rdc s110 l112 o113 2) fun g114 => ACalls Tryz.prog F_orset_Set_Collect [(.ptr p9), (.agg g114)] s110 fun v115 s116 => ∃ n117 : Int, v115 = .int .i64 n117 ∧ (∃ m', m' < m108 ∧ I106 m' [(.int .i64 (IntKind.wrap .i64 (n109 + 1)))] s116))
 (J43 [] s110))))))) ∧
 (LoopQ fun I118 m119 => I118 m119 [(.int .i64 0)] s20 ∧
 ∀ m120 : Nat, ∀ n121 : Int, ∀ s122 : AS, I118 m120 [(.int .i64 n121)] s122 →
 RdI .i64 (alenB T Y_s_Item a0 s122) fun n123 => bsplit (decide ((n121 : Int) < n123))
 (IxQ (aindexAddr T Y_s_Item a0 (.int .i64 n121)) fun l124 o125 => RdL (rdc s122 l124 o125 5) fun g126 => ACalls Tryz.prog F_ref07iSet_See [(.ptr (some (l19, 0))), (.agg g126)] s122 fun v127 s128 => ∃ b129 : Bool, v127 = .bool b129 ∧ (∃ m', m' < m120 ∧ I118 m' [(.int .i64 (IntKind.wrap .i64 (n121 + 1)))] s128))
 (J21 [] s122)))))))) ∧
 (RdI .i64 (alenB T Y_s_Item a0 s) fun n130 => bsplit (decide ((n130 : Int) > 150)) (J1 [(.bool true)] s) (RdI .i64 (alenB T Y_s_Dot a1 s) fun n131 => J1 [(.bool (decide ((n131 : Int) > 150)))] s))
def A_law19iViewsStates : QA := (.seq .leaf (.seq (.join [(18, .bool)] [(11, 18)] .leaf (.cond (.seq .leaf .leaf) .leaf)) (.seq .leaf (.seq (.seq .leaf (.cond (.seq .leaf .leaf) .leaf)) (.seq .leaf (.join [] [(8, 8), (39, 50)] (.seq .leaf (.wrap (.loop [(8, .int .i64)] [(8, 8), (39, 50)] (.seq (.seq .leaf (.cond .leaf .leaf)) (.seq (.wrap .leaf) .leaf))))) (.seq (.seq (.drawH 9 [[], [], [], [], [], [4], [], [4], [4, 7]] [4, 5, 7, 8]) (.cond (.seq .leaf .leaf) .leaf)) (.join [] [(9, 9), (62, 73)] (.seq .leaf (.wrap (.loop [(9, .int .i64)] [(9, 9), (62, 73)] (.seq (.seq .leaf (.cond .leaf .leaf)) (.seq (.wrap .leaf) .leaf))))) (.seq (.seq (.drawH 6 [[], [], [1], [], [1], [1, 4]] [1, 2, 4, 5]) (.cond (.seq .leaf .leaf) .leaf)) (.seq .leaf (.seq (.seq (.drawH 15 [[], [], [], [], [], [], [], [], [], [], [4], [4, 10], [], [4, 10], [4, 10, 13]] [4, 10, 11, 13, 14]) (.cond (.seq .leaf .leaf) .leaf)) (.seq .leaf .leaf))))))))))))
theorem q_law19iViewsStates (a0 : AV) (a1 : AV) (s : AS) (R : AV → AS → Prop) (h : Q_law19iViewsStates a0 a1 s R) : ACalls Tryz.prog F_law19iViewsStates [a0, a1] s R :=
 ACalls.q (n := 112) (rs := [.tmp 4]) (A := A_law19iViewsStates) hT hmx Tryz.func12 (by kernel_rfl) rfl rfl rfl (by kernel_rfl) (by kernel_rfl) h
def Q_views_Of (a0 : AV) (s : AS) (R : AV → AS → Prop) : Prop :=
 ACalls Tryz.prog F_wire_Read [a0] s fun v1 s2 => ∃ p3 : Option (Nat × Nat), v1 = .ptr p3 ∧ (ACalls Tryz.prog F_wire_Reader_Vector [(.ptr p3)] s2 fun v4 s5 => ∃ g6 : List AV, v4 = .agg g6 ∧ (NewQ (.cells [.int .u64 0, .int .u64 0, .int .u64 0, .int .u64 0, .int .u64 0, .int .u64 0, .int .u64 0, .int .u64 0, .int .u64 0, .int .u64 0, .int .u64 0, .int .u64 0, .int .u64 0, .int .u64 0, .int .u64 0, .int .u64 0] 0 false) s5 fun l7 s8 => OkC (some 16) g6 (StQ (awr s8 l7 0 g6) fun s9 => JoinQ fun J10 =>
 (∀ v11 : AV, ∀ s12 : AS, J10 [v11] s12 →
 JoinQ fun J13 =>
 (∀ v14 : AV, ∀ s15 : AS, J13 [v14] s15 →
 ACalls Tryz.prog F_wire_Reader_End [(.ptr p3)] s15 fun v16 s17 => ∃ n18 : Int, v16 = .int .i64 n18 ∧ (bsplit ((n18 : Int) != 0)
 (R (.tup [(.ptr none), (.int .i64 4)]) s17)
 (RdL (rdc s17 l7 0 16) fun g19 => ACalls Tryz.prog F_ctx_Of [(.agg g19), v11] s17 fun v20 s21 => ∃ p22 : Option (Nat × Nat), ∃ n23 : Int, v20 = .tup [(.ptr p22), (.int .i64 n23)] ∧ (bsplit ((n23 : Int) != 0)
 (R (.tup [(.ptr none), (.int .i64 4)]) s21)
 (ACalls Tryz.prog F_orset_Of [(.ptr p22), v14] s21 fun v24 s25 => ∃ p26 : Option (Nat × Nat), ∃ n27 : Int, v24 = .tup [(.ptr p26), (.int .i64 n27)] ∧ (JoinQ fun J28 =>
 (∀ b29 : Bool, ∀ s30 : AS, J28 [(.bool b29)] s30 →
 bsplit b29
 (R (.tup [(.ptr none), (.int .i64 4)]) s30)
 (R (.tup [(.ptr p26), (.int .i64 0)]) s30)) ∧
 (bsplit ((n27 : Int) != 0) (J28 [(.bool true)] s25) (ACalls Tryz.prog F_views_State [(.ptr p26)] s25 fun v31 s32 => ACalls Tryz.prog F_bytes_Equal [v31, a0] s32 fun v33 s34 => ∃ b35 : Bool, v33 = .bool b35 ∧ (J28 [(.bool (!b35))] s34))))))))) ∧
 (ACalls Tryz.prog F_wire_Reader_Number [(.ptr p3), (.int .i64 4)] s12 fun v36 s37 => ∃ n38 : Int, v36 = .int .u64 n38 ∧ (LoopQ fun I39 m40 => I39 m40 [(.slc none 0 0 true), (.int .u64 n38)] s37 ∧
 ∀ m41 : Nat, ∀ v42 : AV, ∀ n43 : Int, ∀ s44 : AS, I39 m41 [v42, (.int .u64 n43)] s44 →
 bsplit (decide ((n43 : Int) > 0)) (ACalls Tryz.prog F_wire_Reader_Failed [(.ptr p3)] s44 fun v45 s46 => ∃ b47 : Bool, v45 = .bool b47 ∧ (bsplit (!b47)
 (ACalls Tryz.prog F_wire_Reader_Dot [(.ptr p3)] s46 fun v48 s49 => ∃ g50 : List AV, v48 = .agg g50 ∧ (NewQ (.cells [.int .i64 0, .int .u64 0] 0 false) s49 fun l51 s52 => OkC (some 2) g50 (StQ (awr s52 l51 0 g50) fun s53 => ACalls Tryz.prog F_wire_Reader_Blob [(.ptr p3)] s53 fun v54 s55 => RdS ((aconvert T Y_s_uint8 Y_string v54 s55).map (·.1)) fun x56 => DrawM s55 fun X C c S V => RdL (rdc s55 l51 0 2) fun g58 => (∀ s57 : AS, X s55 s57 → WFs s57 → RdL (rdc s57 l51 0 2) fun g59 => (((.agg g59) : AV) = (.agg g58))) ∧ ((∀ s60 : AS, X s55 s60 → WFs s60 → (True) → c s60 → ACalls Tryz.prog F_wire_Reader_Blob [(.ptr p3)] s60 fun v61 s62 => ((X s60 s62 ∧ C 4 [(.func F_wire_Reader_Blob []), (.ptr p3)] v61 s62) ∧ S 4 [(.func F_wire_Reader_Blob []), (.ptr p3)] v61 s62 ∧ V 4 [(.func F_wire_Reader_Blob []), (.ptr p3)] v61)) ∧ (∃ v, V 4 [(.func F_wire_Reader_Blob []), (.ptr p3)] v) ∧ ∀ v63 : AV, V 4 [(.func F_wire_Reader_Blob []), (.ptr p3)] v63 → (∀ s64 : AS, X s55 s64 → WFs s64 → (S 4 [(.func F_wire_Reader_Blob []), (.ptr p3)] v63 s64 ∧ True) → RdS ((aconvert T Y_s_uint8 Y_string v63 s64).map (·.1)) fun x65 => (Ext s64 s64 ∧ S 5 [v63] (.str x65) s64 ∧ V 5 [v63] (.str x65))) ∧ (∃ v, V 5 [v63] v) ∧ ∀ v66 : AV, V 5 [v63] v66 → ∃ x67 : List UInt8, v66 = .str x67 ∧ (RdG (abuild T Y_Key [(0, (.str x56)), (1, (.str x67))]) fun g68 => RdG (abuild T Y_Item [(0, (.agg g58)), (1, (.agg g68))]) fun g69 => (∀ s70 : AS, X s55 s70 → WFs s70 → (S 4 [(.func F_wire_Reader_Blob []), (.ptr p3)] v63 s70 ∧ (S 5 [v63] (.str x67) s70 ∧ True)) → RdL (absl T Y_s_Item 1 [(0, (.agg g69))]) fun g71 => NewQ (.cells g71 0 false) s70 fun l72 s73 => (Ext s70 s73 ∧ S 8 [(.agg g69)] (.slc (some (l72, 0)) 1 1 true) s73 ∧ V 8 [(.agg g69)] (.slc (some (l72, 0)) 1 1 true))) ∧ (∃ v, V 8 [(.agg g69)] v) ∧ ∀ v74 : AV, V 8 [(.agg g69)] v74 → ∀ s75 : AS, X s55 s75 → WFs s75 → (S 4 [(.func F_wire_Reader_Blob []), (.ptr p3)] v63 s75 ∧ (S 5 [v63] (.str x67) s75 ∧ (S 8 [(.agg g69)] v74 s75 ∧ True))) → C 4 [(.func F_wire_Reader_Blob []), (.ptr p3)] v63 s75 → Bd2 (aappend T Y_s_Item Y_s_Item v42 v74 s75) fun v76 s77 => ∃ m', m' < m41 ∧ I39 m' [v76, (.int .u64 (IntKind.wrap .u64 (n43 - 1)))] s77)))))
 (J13 [v42] s46))) (J13 [v42] s44)))) ∧
 (ACalls Tryz.prog F_wire_Reader_Number [(.ptr p3), (.int .i64 4)] s9 fun v78 s79 => ∃ n80 : Int, v78 = .int .u64 n80 ∧ (LoopQ fun I81 m82 => I81 m82 [(.slc none 0 0 true), (.int .u64 n80)] s79 ∧
 ∀ m83 : Nat, ∀ v84 : AV, ∀ n85 : Int, ∀ s86 : AS, I81 m83 [v84, (.int .u64 n85)] s86 →
 bsplit (decide ((n85 : Int) > 0)) (ACalls Tryz.prog F_wire_Reader_Failed [(.ptr p3)] s86 fun v87 s88 => ∃ b89 : Bool, v87 = .bool b89 ∧ (bsplit (!b89)
 (ACalls Tryz.prog F_wire_Reader_Dot [(.ptr p3)] s88 fun v90 s91 => ∃ g92 : List AV, v90 = .agg g92 ∧ (RdL (absl T Y_s_Dot 1 [(0, (.agg g92))]) fun g93 => NewQ (.cells g93 0 false) s91 fun l94 s95 => Bd2 (aappend T Y_s_Dot Y_s_Dot v84 (.slc (some (l94, 0)) 1 1 true) s95) fun v96 s97 => ∃ m', m' < m83 ∧ I81 m' [v96, (.int .u64 (IntKind.wrap .u64 (n85 - 1)))] s97))
 (J10 [v84] s88))) (J10 [v84] s86))))))
def A_views_Of : QA := (.seq .leaf (.seq .leaf (.seq .leaf (.seq .leaf (.join [(6, .any)] [(6, 7), (19, 34)] (.seq .leaf (.wrap (.loop [(6, .any), (7, .int .u64)] [(6, 7), (21, 34)] (.seq (.seq .leaf (.cond .leaf .leaf)) (.seq (.wrap .leaf) .leaf))))) (.seq .leaf (.join [(8, .any)] [(8, 11), (35, 60)] (.seq .leaf (.wrap (.loop [(8, .any), (9, .int .u64)] [(8, 11), (37, 60)] (.seq (.seq .leaf (.cond .leaf .leaf)) (.seq (.wrap (.seq .leaf (.seq .leaf (.drawM [0, 1, 2, 3, 4, 5, 6, 7, 8] [9, 10] [[], [], [], [], [], [4], [], [], [4, 5]] [4, 5, 8] [4])))) .leaf))))) (.seq (.seq .leaf (.cond (.seq .leaf .leaf) .leaf)) (.seq .leaf (.seq (.seq .leaf (.cond (.seq .leaf .leaf) .leaf)) (.seq .leaf (.seq (.join [(86, .bool)] [(78, 86)] .leaf (.cond (.seq .leaf .leaf) .leaf)) (.seq .leaf .leaf)))))))))))))
theorem q_views_Of (a0 : AV) (s : AS) (R : AV → AS → Prop) (h : Q_views_Of a0 s R) : ACalls Tryz.prog F_views_Of [a0] s R :=
 ACalls.q (n := 88) (rs := [.tmp 2, .tmp 3]) (A := A_views_Of) hT hmx Tryz.func43 (by kernel_rfl) rfl rfl rfl (by kernel_rfl) (by kernel_rfl) h
def Q_wire_Read (a0 : AV) (s : AS) (R : AV → AS → Prop) : Prop :=
 ACalls Tryz.prog F_slices_Clone__s_byte_byte [a0] s fun v1 s2 => RdG (abuild T Y_wire_Reader [(0, v1), (1, (.bool true)), (2, (.bool true))]) fun g3 => One1 g3 (NewQ (.cells g3 0 false) s2 fun l4 s5 => R (.ptr (some (l4, 0))) s5)
def A_wire_Read : QA := (.seq .leaf (.seq .leaf .leaf))
theorem q_wire_Read (a0 : AV) (s : AS) (R : AV → AS → Prop) (h : Q_wire_Read a0 s R) : ACalls Tryz.prog F_wire_Read [a0] s R :=
 ACalls.q (n := 7) (rs := [.tmp 2]) (A := A_wire_Read) hT hmx Tryz.func98 (by kernel_rfl) rfl rfl rfl (by kernel_rfl) (by kernel_rfl) h
def Q_wire_Reader_Vector (a0 : Option (Nat × Nat)) (s : AS) (R : AV → AS → Prop) : Prop :=
 NewQ (.cells [.int .u64 0, .int .u64 0, .int .u64 0, .int .u64 0, .int .u64 0, .int .u64 0, .int .u64 0, .int .u64 0, .int .u64 0, .int .u64 0, .int .u64 0, .int .u64 0, .int .u64 0, .int .u64 0, .int .u64 0, .int .u64 0] 0 false) s fun l1 s2 => ACalls Tryz.prog F_wire_Reader_take [(.ptr a0), (.int .i64 128)] s2 fun v3 s4 => ∃ v5 : AV, ∃ b6 : Bool, v3 = .tup [v5, (.bool b6)] ∧ (ACalls Tryz.prog F_wire_Read [v5] s4 fun v7 s8 => ∃ p9 : Option (Nat × Nat), v7 = .ptr p9 ∧ (NewQ (.cells [(.ptr none)] 0 false) s8 fun l10 s11 => StQ (awr s11 l10 0 [(.ptr p9)]) fun s12 => LoopQ fun I13 m14 => I13 m14 [(.int .i64 0)] s12 ∧
 ∀ m15 : Nat, ∀ n16 : Int, ∀ s17 : AS, I13 m15 [(.int .i64 n16)] s17 →
 bsplit (decide ((n16 : Int) < 16))
 (ACalls Tryz.prog F_wire_Reader_Vector_1 [(.ptr (some (l10, 0)))] s17 fun v18 s19 => ∃ n20 : Int, v18 = .int .u64 n20 ∧ (IxQ (aindexAddr T Y_Vector (.ptr (some (l1, 0))) (.int .i64 n16)) fun l21 o22 => StQ (awr s19 l21 o22 [(.int .u64 n20)]) fun s23 => ∃ m', m' < m15 ∧ I13 m' [(.int .i64 (IntKind.wrap .i64 (n16 + 1)))] s23))
 (RdL (rdc s17 l1 0 16) fun g24 => OkC (some 16) g24 (StQ (awr s17 l1 0 g24) fun s25 => RdL (rdc s25 l1 0 16) fun g26 => R (.agg g26) s25))))
def A_wire_Reader_Vector : QA := (.seq .leaf (.seq .leaf (.seq .leaf (.seq .leaf (.seq (.seq .leaf (.wrap (.loop [(16, .int .i64)] [(7, 7), (16, 23)] (.seq .leaf (.seq (.cond .leaf .leaf) (.seq (.wrap (.seq .leaf .leaf)) .leaf)))))) (.seq .leaf .leaf))))))
theorem q_wire_Reader_Vector (a0 : Option (Nat × Nat)) (s : AS) (R : AV → AS → Prop) (h : Q_wire_Reader_Vector a0 s R) : ACalls Tryz.prog F_wire_Reader_Vector [(.ptr a0)] s R :=
 ACalls.q (n := 25) (rs := [.cell 2 105]) (A := A_wire_Reader_Vector) hT hmx Tryz.func99 (by kernel_rfl) rfl rfl rfl (by kernel_rfl) (by kernel_rfl) h
def Q_wire_Reader_Number (a0 : Option (Nat × Nat)) (a1 : Int) (s : AS) (R : AV → AS → Prop) : Prop :=
 JoinQ fun J1 =>
 (∀ n2 : Int, ∀ s3 : AS, J1 [(.int .i64 n2)] s3 →
 ACalls Tryz.prog F_wire_Reader_take [(.ptr a0), (.int .i64 n2)] s3 fun v4 s5 => ∃ v6 : AV, ∃ b7 : Bool, v4 = .tup [v6, (.bool b7)] ∧ (ACalls Tryz.prog F_wire_Get [v6] s5 fun v8 s9 => ∃ n10 : Int, ∃ n11 : Int, v8 = .tup [(.int .u64 n10), (.int .i64 n11)] ∧ (R (.int .u64 n10) s9))) ∧
 (bsplit (decide ((a1 : Int) < 1)) (J1 [(.int .i64 (-1))] s) (bsplit (decide ((a1 : Int) > 8))
 (J1 [(.int .i64 (-1))] s)
 (J1 [(.int .i64 a1)] s)))
def A_wire_Reader_Number : QA := (.seq .leaf (.join [(1, .int .i64)] [(1, 1), (9, 14)] (.seq .leaf (.cond .leaf .leaf)) (.seq .leaf (.seq .leaf (.seq .leaf .leaf)))))
theorem q_wire_Reader_Number (a0 : Option (Nat × Nat)) (a1 : Int) (s : AS) (R : AV → AS → Prop) (h : Q_wire_Reader_Number a0 a1 s R) : ACalls Tryz.prog F_wire_Reader_Number [(.ptr a0), (.int .i64 a1)] s R :=
 ACalls.q (n := 27) (rs := [.tmp 4]) (A := A_wire_Reader_Number) hT hmx Tryz.func100 (by kernel_rfl) rfl rfl rfl (by kernel_rfl) (by kernel_rfl) h
def Q_wire_Reader_Failed (a0 : Option (Nat × Nat)) (s : AS) (R : AV → AS → Prop) : Prop :=
 RdO (aeq T 100 Y_p_wire_Reader (.ptr a0) (.ptr none)) fun b1 => bsplit b1 (R (.bool true) s) (AsSome a0 fun l2 o3 => RdB (rd1 s l2 (o3 + 1)) fun b4 => R (.bool (!b4)) s)
def A_wire_Reader_Failed : QA := (.seq .leaf (.seq .leaf .leaf))
theorem q_wire_Reader_Failed (a0 : Option (Nat × Nat)) (s : AS) (R : AV → AS → Prop) (h : Q_wire_Reader_Failed a0 s R) : ACalls Tryz.prog F_wire_Reader_Failed [(.ptr a0)] s R :=
 ACalls.q (n := 12) (rs := [.tmp 2]) (A := A_wire_Reader_Failed) hT hmx Tryz.func101 (by kernel_rfl) rfl rfl rfl (by kernel_rfl) (by kernel_rfl) h
def Q_wire_Reader_Dot (a0 : Option (Nat × Nat)) (s : AS) (R : AV → AS → Prop) : Prop :=
 NewQ (.cells [.int .i64 0, .int .u64 0] 0 false) s fun l1 s2 => ACalls Tryz.prog F_wire_Reader_take [(.ptr a0), (.int .i64 9)] s2 fun v3 s4 => ∃ v5 : AV, ∃ b6 : Bool, v3 = .tup [v5, (.bool b6)] ∧ (ACalls Tryz.prog F_wire_Read [v5] s4 fun v7 s8 => ∃ p9 : Option (Nat × Nat), v7 = .ptr p9 ∧ (ACalls Tryz.prog F_wire_Reader_Number [(.ptr p9), (.int .i64 1)] s8 fun v10 s11 => ∃ n12 : Int, v10 = .int .u64 n12 ∧ (ACalls Tryz.prog F_wire_Reader_Number [(.ptr p9), (.int .i64 8)] s11 fun v13 s14 => ∃ n15 : Int, v13 = .int .u64 n15 ∧ (RdG (abuild T Y_Dot [(0, (.int .i64 (IntKind.wrap .i64 n12))), (1, (.int .u64 n15))]) fun g16 => OkC (some 2) g16 (StQ (awr s14 l1 0 g16) fun s17 => RdL (rdc s17 l1 0 2) fun g18 => R (.agg g18) s17)))))
def A_wire_Reader_Dot : QA := (.seq .leaf (.seq .leaf (.seq .leaf (.seq .leaf .leaf))))
theorem q_wire_Reader_Dot (a0 : Option (Nat × Nat)) (s : AS) (R : AV → AS → Prop) (h : Q_wire_Reader_Dot a0 s R) : ACalls Tryz.prog F_wire_Reader_Dot [(.ptr a0)] s R :=
 ACalls.q (n := 19) (rs := [.cell 2 29]) (A := A_wire_Reader_Dot) hT hmx Tryz.func102 (by kernel_rfl) rfl rfl rfl (by kernel_rfl) (by kernel_rfl) h
def Q_wire_Reader_Blob (a0 : Option (Nat × Nat)) (s : AS) (R : AV → AS → Prop) : Prop :=
 ACalls Tryz.prog F_wire_Reader_Number [(.ptr a0), (.int .i64 2)] s fun v1 s2 => ∃ n3 : Int, v1 = .int .u64 n3 ∧ (ACalls Tryz.prog F_wire_Reader_Bytes [(.ptr a0), (.int .i64 (IntKind.wrap .i64 n3))] s2 fun v4 s5 => R v4 s5)
def A_wire_Reader_Blob : QA := (.seq .leaf (.seq .leaf .leaf))
theorem q_wire_Reader_Blob (a0 : Option (Nat × Nat)) (s : AS) (R : AV → AS → Prop) (h : Q_wire_Reader_Blob a0 s R) : ACalls Tryz.prog F_wire_Reader_Blob [(.ptr a0)] s R :=
 ACalls.q (n := 8) (rs := [.tmp 2]) (A := A_wire_Reader_Blob) hT hmx Tryz.func103 (by kernel_rfl) rfl rfl rfl (by kernel_rfl) (by kernel_rfl) h
def Q_wire_Reader_End (a0 : Option (Nat × Nat)) (s : AS) (R : AV → AS → Prop) : Prop :=
 JoinQ fun J1 =>
 (∀ b2 : Bool, ∀ s3 : AS, J1 [(.bool b2)] s3 →
 bsplit b2
 (R (.int .i64 1) s3)
 (ACalls Tryz.prog F_wire_Reader_Failed [(.ptr a0)] s3 fun v4 s5 => ∃ b6 : Bool, v4 = .bool b6 ∧ (bsplit b6 (R (.int .i64 4) s5) (AsSome a0 fun l7 o8 => RdA (rd1 s5 l7 o8) fun v9 => RdI .i64 (alenB T Y_s_uint8 v9 s5) fun n10 => bsplit (decide ((n10 : Int) > 0))
 (R (.int .i64 4) s5)
 (R (.int .i64 0) s5))))) ∧
 (RdO (aeq T 100 Y_p_wire_Reader (.ptr a0) (.ptr none)) fun b11 => bsplit b11 (J1 [(.bool true)] s) (AsSome a0 fun l12 o13 => RdB (rd1 s l12 (o13 + 2)) fun b14 => J1 [(.bool (!b14))] s))
def A_wire_Reader_End : QA := (.seq .leaf (.seq (.wrap (.join [(3, .bool)] [(3, 12)] .leaf (.cond (.seq .leaf .leaf) (.seq .leaf (.cond (.seq .leaf .leaf) .leaf))))) (.seq .leaf .leaf)))
theorem q_wire_Reader_End (a0 : Option (Nat × Nat)) (s : AS) (R : AV → AS → Prop) (h : Q_wire_Reader_End a0 s R) : ACalls Tryz.prog F_wire_Reader_End [(.ptr a0)] s R :=
 ACalls.q (n := 24) (rs := [.tmp 2]) (A := A_wire_Reader_End) hT hmx Tryz.func104 (by kernel_rfl) rfl rfl rfl (by kernel_rfl) (by kernel_rfl) h
def Q_wire_Reader_take (a0 : Option (Nat × Nat)) (a1 : Int) (s : AS) (R : AV → AS → Prop) : Prop :=
 ACalls Tryz.prog F_wire_Reader_Failed [(.ptr a0)] s fun v1 s2 => ∃ b3 : Bool, v1 = .bool b3 ∧ (bsplit b3
 (R (.tup [(.slc none 0 0 true), (.bool false)]) s2)
 (JoinQ fun J4 =>
 (∀ b5 : Bool, ∀ s6 : AS, J4 [(.bool b5)] s6 →
 bsplit b5
 (RdG (abuild T Y_wire_Reader [(2, (.bool true))]) fun g7 => AsSome a0 fun l8 o9 => OkC (some 3) g7 (StQ (awr s6 l8 o9 g7) fun s10 => R (.tup [(.slc none 0 0 true), (.bool false)]) s10))
 (AsSome a0 fun l11 o12 => RdA (rd1 s6 l11 o12) fun v13 => RdA (aslice T Y_s_uint8 v13 none (some (.int .i64 a1)) (some (.int .i64 a1))) fun v14 => AsSome a0 fun l15 o16 => RdA (rd1 s6 l15 o16) fun v17 => RdA (aslice T Y_s_uint8 v17 (some (.int .i64 a1)) none none) fun v18 => AsSome a0 fun l19 o20 => qstore T Y_s_uint8 s6 l19 o20 v18 fun s21 => R (.tup [v14, (.bool true)]) s21)) ∧
 (bsplit (decide ((a1 : Int) < 0)) (J4 [(.bool true)] s2) (AsSome a0 fun l22 o23 => RdA (rd1 s2 l22 o23) fun v24 => RdI .i64 (alenB T Y_s_uint8 v24 s2) fun n25 => J4 [(.bool (decide ((a1 : Int) > n25)))] s2))))
def A_wire_Reader_take : QA := (.seq .leaf (.seq (.wrap (.seq .leaf (.cond (.seq .leaf .leaf) (.join [(10, .bool)] [(10, 21)] .leaf (.cond (.seq .leaf (.seq .leaf .leaf)) .leaf))))) (.seq .leaf (.seq .leaf (.seq .leaf .leaf)))))
theorem q_wire_Reader_take (a0 : Option (Nat × Nat)) (a1 : Int) (s : AS) (R : AV → AS → Prop) (h : Q_wire_Reader_take a0 a1 s R) : ACalls Tryz.prog F_wire_Reader_take [(.ptr a0), (.int .i64 a1)] s R :=
 ACalls.q (n := 42) (rs := [.tmp 4, .tmp 5]) (A := A_wire_Reader_take) hT hmx Tryz.func150 (by kernel_rfl) rfl rfl rfl (by kernel_rfl) (by kernel_rfl) h
def Q_wire_Reader_Vector_1 (c0 : Option (Nat × Nat)) (s : AS) (R : AV → AS → Prop) : Prop :=
 AsSome c0 fun l1 o2 => RdP (rd1 s l1 o2) fun p3 => ACalls Tryz.prog F_wire_Reader_Number [(.ptr p3), (.int .i64 8)] s fun v4 s5 => ∃ n6 : Int, v4 = .int .u64 n6 ∧ (R (.int .u64 n6) s5)
def A_wire_Reader_Vector_1 : QA := (.seq .leaf (.seq .leaf .leaf))
theorem q_wire_Reader_Vector_1 (c0 : Option (Nat × Nat)) (s : AS) (R : AV → AS → Prop) (h : Q_wire_Reader_Vector_1 c0 s R) : ACalls Tryz.prog F_wire_Reader_Vector_1 [(.ptr c0)] s R :=
 ACalls.q (n := 4) (rs := [.tmp 1]) (A := A_wire_Reader_Vector_1) hT hmx Tryz.func151 (by kernel_rfl) rfl rfl rfl (by kernel_rfl) (by kernel_rfl) h
def Q_wire_Get (a0 : AV) (s : AS) (R : AV → AS → Prop) : Prop :=
 JoinQ fun J1 =>
 (∀ b2 : Bool, ∀ s3 : AS, J1 [(.bool b2)] s3 →
 bsplit b2
 (R (.tup [(.int .u64 0), (.int .i64 2)]) s3)
 (JoinQ fun J4 =>
 (∀ n5 : Int, ∀ s6 : AS, J4 [(.int .u64 n5)] s6 →
 R (.tup [(.int .u64 n5), (.int .i64 0)]) s6) ∧
 (RdI .i64 (alenB T Y_s_uint8 a0 s3) fun n7 => LoopQ fun I8 m9 => I8 m9 [(.int .u64 0), (.int .i64 0)] s3 ∧
 ∀ m10 : Nat, ∀ n11 : Int, ∀ n12 : Int, ∀ s13 : AS, I8 m10 [(.int .u64 n11), (.int .i64 n12)] s13 →
 bsplit (decide ((n12 : Int) < n7))
 (IxQ (aindexAddr T Y_s_uint8 a0 (.int .i64 n12)) fun l14 o15 => RdI .u8 (rd1 s13 l14 o15) fun n16 => NN 8 (RdA (abinInt .or .u64 (IntKind.wrap .u64 (n11 * 2 ^ min (Int.toNat 8) (IntKind.bits .u64))) (IntKind.wrap .u64 n16)) fun v17 => isK (.int .u64) v17 fun v18 => ∃ m', m' < m10 ∧ I8 m' [v18, (.int .i64 (IntKind.wrap .i64 (n12 + 1)))] s13))
 (J4 [(.int .u64 n11)] s13)))) ∧
 (RdI .i64 (alenB T Y_s_uint8 a0 s) fun n19 => bsplit (decide ((n19 : Int) < 1)) (J1 [(.bool true)] s) (RdI .i64 (alenB T Y_s_uint8 a0 s) fun n20 => J1 [(.bool (decide ((n20 : Int) > 8)))] s))
def A_wire_Get : QA := (.seq .leaf (.seq (.join [(14, .bool)] [(7, 14)] .leaf (.cond (.seq .leaf .leaf) .leaf)) (.seq .leaf (.join [(4, .int .u64)] [(4, 4), (6, 6), (15, 26)] (.seq .leaf (.wrap (.loop [(4, .int .u64), (17, .int .i64)] [(4, 4), (6, 6), (17, 26)] (.seq .leaf (.seq (.cond .leaf .leaf) (.seq (.wrap (.seq .leaf .leaf)) .leaf)))))) (.seq .leaf .leaf)))))
theorem q_wire_Get (a0 : AV) (s : AS) (R : AV → AS → Prop) (h : Q_wire_Get a0 s R) : ACalls Tryz.prog F_wire_Get [a0] s R :=
 ACalls.q (n := 28) (rs := [.tmp 2, .tmp 3]) (A := A_wire_Get) hT hmx Tryz.func152 (by kernel_rfl) rfl rfl rfl (by kernel_rfl) (by kernel_rfl) h
def Q_wire_Reader_Bytes (a0 : Option (Nat × Nat)) (a1 : Int) (s : AS) (R : AV → AS → Prop) : Prop :=
 ACalls Tryz.prog F_wire_Reader_take [(.ptr a0), (.int .i64 a1)] s fun v1 s2 => ∃ v3 : AV, ∃ b4 : Bool, v1 = .tup [v3, (.bool b4)] ∧ (R v3 s2)
def A_wire_Reader_Bytes : QA := (.seq .leaf (.seq .leaf (.seq .leaf .leaf)))
theorem q_wire_Reader_Bytes (a0 : Option (Nat × Nat)) (a1 : Int) (s : AS) (R : AV → AS → Prop) (h : Q_wire_Reader_Bytes a0 a1 s R) : ACalls Tryz.prog F_wire_Reader_Bytes [(.ptr a0), (.int .i64 a1)] s R :=
 ACalls.q (n := 14) (rs := [.tmp 4]) (A := A_wire_Reader_Bytes) hT hmx Tryz.func153 (by kernel_rfl) rfl rfl rfl (by kernel_rfl) (by kernel_rfl) h
end Go.Proofs.YtoklmpkpeanloaaGreat
end

section
namespace Go.Proofs.YtoklmpkpeanloaaGreat
open Go.Am Go.Minster Go.Minster2
/-! ### numbers of bytes -/
def InB (l : List Int) : Prop := ∀ x ∈ l, 0 ≤ x ∧ x < 256
theorem InB.take {l : List Int} (h : InB l) (n : Nat) : InB (l.take n) := fun x hx => h x (List.mem_of_mem_take hx)
theorem InB.drop {l : List Int} (h : InB l) (n : Nat) : InB (l.drop n) := fun x hx => h x (List.mem_of_mem_drop hx)
theorem InB.nil : InB [] := by simp [InB]
def numB (l : List Int) : Int := l.foldl (fun n x => n * 256 + x) 0
theorem numB_snoc (l : List Int) (x : Int) : numB (l ++ [x]) = numB l * 256 + x := by simp [numB]
theorem numB_in : ∀ (l : List Int) (n : Nat), InB l → l.length ≤ n → 0 ≤ numB l ∧ numB l < 256 ^ n := by
 intro l
 induction hl : l.length generalizing l with
 | zero =>
  intro n _ _
  obtain rfl := List.length_eq_zero_iff.1 hl
  exact ⟨by simp [numB], by simp only [numB, List.foldl_nil]; exact Int.pow_pos (by decide)⟩
 | succ k ih =>
  intro n h hn
  obtain ⟨m, x, rfl⟩ : ∃ m x, l = m ++ [x] := ⟨l.dropLast, l.getLast (by intro e; subst e; simp at hl), (List.dropLast_concat_getLast _).symm⟩
  have hk : m.length = k := by simpa using hl
  obtain ⟨n', rfl⟩ : ∃ n', n = n' + 1 := ⟨n - 1, by omega⟩
  have := ih m hk n' (fun y hy => h y (by simp [hy])) (by omega)
  have hx := h x (by simp)
  rw [numB_snoc, Int.pow_succ]
  exact ⟨by omega, by omega⟩
theorem or_byte {a x : Int} (ha : 0 ≤ a ∧ a < 256 ^ 7) (hx : 0 ≤ x ∧ x < 256) : abinInt .or .u64 (IntKind.wrap .u64 (a * 2 ^ min (Int.toNat 8) (IntKind.bits .u64))) (IntKind.wrap .u64 x) = some (.int .u64 (a * 256 + x)) := by
 have e1 : (2 : Int) ^ min (Int.toNat 8) (IntKind.bits .u64) = 256 := by decide
 have e7 : (256 : Int) ^ 7 = 72057594037927936 := by decide
 rw [e7] at ha
 rw [e1, wrap_u (by omega), wrap_u (by omega)]
 obtain ⟨A, rfl⟩ := Int.eq_ofNat_of_zero_le ha.1
 obtain ⟨X, rfl⟩ := Int.eq_ofNat_of_zero_le hx.1
 have h1 : (BitVec.ofInt (IntKind.bits .u64) ((A : Int) * 256)).toNat = 2 ^ 8 * A := by
  rw [BitVec.toNat_ofInt]
  have : ((2 ^ (IntKind.bits .u64) : Nat) : Int) = 18446744073709551616 := by decide
  rw [this]; omega
 have h2 : (BitVec.ofInt (IntKind.bits .u64) (X : Int)).toNat = X := by
  rw [BitVec.toNat_ofInt]
  have : ((2 ^ (IntKind.bits .u64) : Nat) : Int) = 18446744073709551616 := by decide
  rw [this]; omega
 simp only [abinInt, BitVec.toNat_or, h1, h2]
 rw [← Nat.two_pow_add_eq_or_of_lt (show X < 2 ^ 8 by omega), wrap_u (by omega)]
 congr 2; omega
def getN (l : List Int) : Int := if 1 ≤ l.length ∧ l.length ≤ 8 then numB l else 0
theorem getN_in {l : List Int} (h : InB l) : 0 ≤ getN l ∧ getN l ≤ 18446744073709551615 := by
 unfold getN
 split
 ·rename_i hc
  have := numB_in l 8 h hc.2
  have e : (256 : Int) ^ 8 = 18446744073709551616 := by decide
  omega
 ·omega
theorem Get_ok {s : AS} {v : AV} {l : List Int} (h : Byts s v l) (hb : InB l) : ACalls Tryz.prog F_wire_Get [v] s fun r s' => s' = s ∧ ∃ c, r = .tup [.int .u64 (getN l), .int .i64 c] := by
 refine q_wire_Get _ _ _ ⟨fun vs s' => s' = s ∧ vs = [.bool (decide (¬ (1 ≤ l.length ∧ l.length ≤ 8)))], ?_, _, h.lenB u_s_uint8 _, bsplit.dec (fun h1 => ⟨rfl, ?_⟩) (fun h1 => ⟨_, h.lenB u_s_uint8 _, rfl, ?_⟩)⟩
 rotate_left
 ·rw [decide_eq_true (by omega)]
 ·congr 2
  apply decide_eq_decide.2
  omega
 rintro b s3 ⟨rfl, hb2⟩
 obtain rfl : b = decide (¬ (1 ≤ l.length ∧ l.length ≤ 8)) := AV.bool.inj (List.cons.inj hb2).1
 refine bsplit.dec (fun hc => ⟨rfl, 2, ?_⟩) (fun hc => ?_)
 ·rw [show getN l = 0 from if_neg hc]
 have hc : 1 ≤ l.length ∧ l.length ≤ 8 := Classical.not_not.1 hc
 refine ⟨fun vs s' => s' = s3 ∧ vs = [.int .u64 (numB l)], ?_, _, h.lenB u_s_uint8 _, fun m vs s' => ∃ i : Nat, vs = [.int .u64 (numB (l.take i)), .int .i64 (i : Nat)] ∧ i ≤ l.length ∧ m = l.length - i ∧ s' = s3, l.length, ⟨0, rfl, by omega, rfl, rfl⟩, ?_⟩
 ·rintro n s6 ⟨rfl, hn⟩
  obtain rfl : n = numB l := by simpa using hn
  exact ⟨rfl, 0, by rw [show getN l = numB l from if_pos hc]⟩
 rintro m n11 n12 s13 ⟨i, hin, hi, rfl, rfl⟩
 simp only [List.cons.injEq, AV.int.injEq, true_and, and_true] at hin
 obtain ⟨rfl, rfl⟩ := hin
 refine bsplit.dec (fun hlt => ?_) (fun hge => ?_)
 ·obtain ⟨x, hx⟩ := get_lt (l := l) (i := i) (by omega)
  obtain ⟨la, o, k8, k9⟩ := h.ix (by decide) byC_len u_s_uint8 z_uint8 hx
  have step := List.take_add_one (l := l) (i := i)
  rw [hx, Option.toList_some] at step
  have hn := numB_in (l.take i) 7 (hb.take i) (by rw [List.length_take]; omega)
  refine ⟨la, o, k8 _, x, (k9 _ (Ext.refl _)).1 0 (by decide), by omega, _, or_byte hn (hb x (List.mem_of_getElem? hx)), l.length - (i + 1), by omega, i + 1, ?_, by omega, rfl, rfl⟩
  rw [step, numB_snoc, wrap_i (by omega)]; rfl
 ·rw [List.take_of_length_le (by omega)]
  exact ⟨rfl, rfl⟩
/-! ### readers, plainly: what is left; none: it has failed -/
abbrev RO := Option (List Int)
def RO.fit (o : RO) (n : Int) : Bool := match o with
 | some B => decide (0 ≤ n ∧ n ≤ B.length)
 | none => false
def RO.take (o : RO) (n : Int) : List Int := if o.fit n then (o.getD []).take n.toNat else []
def RO.left (o : RO) (n : Int) : RO := if o.fit n then o.map fun B => B.drop n.toNat else none
def RO.numR (o : RO) (k : Int) : Int := getN (o.take k)
def RO.blobR (o : RO) : List Int := (o.left 2).take (o.numR 2)
def RO.blobL (o : RO) : RO := (o.left 2).left (o.numR 2)
def RO.dotR (o : RO) : Dot := ⟨IntKind.wrap .i64 (RO.numR (some (o.take 9)) 1), RO.numR (RO.left (some (o.take 9)) 1) 8⟩
def vecN (B : RO) : Nat → List Int
 | 0 => []
 | n + 1 => RO.numR B 8 :: vecN (B.left 8) n
def RO.vecR (o : RO) : List Int := vecN (some (o.take 128)) 16
def RO.In (o : RO) : Prop := ∀ B, o = some B → InB B
theorem RO.In.getD {o : RO} (h : o.In) : InB (o.getD []) := by
 cases o with
 | none => exact InB.nil
 | some B => exact h B rfl
theorem RO.In.take {o : RO} (h : o.In) (n : Int) : InB (o.take n) := by
 unfold RO.take
 split
 ·exact h.getD.take _
 ·exact InB.nil
theorem RO.In.left {o : RO} (h : o.In) (n : Int) : (o.left n).In := by
 intro B hB
 unfold RO.left at hB
 split at hB
 ·cases o with
  | none => cases hB
  | some A => obtain rfl := Option.some.inj hB; exact (h A rfl).drop _
 ·cases hB
/-! ### a reader in memory -/
structure RdrAt (s : AS) (p : Nat) (o : RO) : Prop where
 inb : o.In
 mem : ∃ v, Am.Own s p [v, .bool o.isSome, .bool true] ∧ Byts s v (o.getD [])
def NoB (s : AS) (q : Nat) : Prop := ∀ (C : List AV), At s q C → ∀ (k : Nat) (x : Int), C[k]? ≠ some (AV.int .u8 x)
theorem NoB.own {s : AS} {q : Nat} {C : List AV} (h : At s q C) (hC : ∀ v ∈ C, ∀ x, v ≠ AV.int .u8 x) : NoB s q := by
 intro C' h' k x he
 rw [h'.inj h] at he
 exact hC _ (List.mem_of_getElem? he) x rfl
theorem SlAt.nu8 {s : AS} {v : AV} {n sz : Nat} {cs : List AV} (h : SlAt s v sz cs n) (x : Int) : v ≠ AV.int .u8 x := by
 rcases h with ⟨rfl, _⟩ | ⟨a, c, e, rfl, _⟩ <;> exact fun h => by cases h
theorem Byts.mutN {s s' : AS} {v : AV} {l : List Int} {L : List Nat} (h : Byts s v l) (m : Mut L s s') (hL : ∀ q ∈ L, NoB s q) : Byts s' v l :=
 Sl.mut h m byC_len (by decide) fun q hq C hC x _ k c hc he => hL q hq C hC k x (by rw [he, ← hc]; rfl)
section
variable {s s' : AS} {p : Nat} {o : RO}
theorem RdrAt.noB (h : RdrAt s p o) : NoB s p := by
 obtain ⟨_, v, h1, h2⟩ := h
 refine NoB.own h1.at fun w hw x => ?_
 simp only [List.mem_cons, List.not_mem_nil, or_false] at hw
 rcases hw with rfl | rfl | rfl
 ·exact SlAt.nu8 h2 x
 ·exact fun h => by cases h
 ·exact fun h => by cases h
theorem RdrAt.there (h : RdrAt s p o) : s.h p ≠ none := by
 obtain ⟨_, v, h1, _⟩ := h
 rw [h1]; simp
theorem RdrAt.mut {L : List Nat} (h : RdrAt s p o) (m : Mut L s s') (hp : p ∉ L) (hL : ∀ q ∈ L, NoB s q) : RdrAt s' p o := by
 obtain ⟨h0, v, h1, h2⟩ := h
 exact ⟨h0, v, h1.mut m hp, h2.mutN m hL⟩
theorem RdrAt.ext (h : RdrAt s p o) (e : Ext s s') : RdrAt s' p o := h.mut (L := []) e.mut (by simp) (by simp)
theorem Failed_ok (h : RdrAt s p o) : ACalls Tryz.prog F_wire_Reader_Failed [.ptr (some (p, 0))] s fun r s' => r = .bool (!o.isSome) ∧ s' = s := by
 obtain ⟨_, v, h1, _⟩ := h
 exact q_wire_Reader_Failed _ _ _ ⟨_, aeqPtrNil u_p_wire_Reader _, bsplit.no rfl ⟨o.isSome, by rw [h1.at.rd1]; rfl, rfl, rfl⟩⟩
theorem pl_Rdr : places T Y_wire_Reader = some [(0, 1), (1, 1), (2, 1)] := by kernel_rfl
theorem rdr_zero : abuild T Y_wire_Reader [(2, .bool true)] = some (.agg [.slc none 0 0 true, .bool false, .bool true]) := by kernel_rfl
theorem rdr_build {w : AV} (hw : w.one = true) : abuild T Y_wire_Reader [(0, w), (1, .bool true), (2, .bool true)] = some (.agg [w, .bool true, .bool true]) := by
 rw [abuild_pl pl_Rdr zr_wire_Reader rfl]
 have e0 := afill_step (pl := fun i => [(0, 1), (1, 1), (2, 1)][i]?) (pre := []) (mid := [.slc none 0 0 true]) (post := [.bool false, .bool false]) (c := [w]) (i := 0) (sz := 1) (v := w) (rest := [(1, .bool true), (2, .bool true)]) rfl (acells_1 hw) rfl rfl
 have e1 := afill_step (pl := fun i => [(0, 1), (1, 1), (2, 1)][i]?) (pre := [w]) (mid := [.bool false]) (post := [.bool false]) (c := [.bool true]) (i := 1) (sz := 1) (v := .bool true) (rest := [(2, .bool true)]) rfl rfl rfl rfl
 have e2 := afill_step (pl := fun i => [(0, 1), (1, 1), (2, 1)][i]?) (pre := [w, .bool true]) (mid := [.bool false]) (post := []) (c := [.bool true]) (i := 2) (sz := 1) (v := .bool true) (rest := []) rfl rfl rfl rfl
 exact congrArg (Option.map AV.agg) (e0.trans (e1.trans e2))
theorem take_ok (h : RdrAt s p o) (n : Int) : ACalls Tryz.prog F_wire_Reader_take [.ptr (some (p, 0)), .int .i64 n] s fun r s' => Mut [p] s s' ∧ RdrAt s' p (o.left n) ∧ ∃ v, r = .tup [v, .bool (o.fit n)] ∧ Byts s' v (o.take n) := by
 refine ACalls.pre fun hw => q_wire_Reader_take _ _ _ _ ?_
 refine ACalls.use (Failed_ok h) ?_
 rintro v1 s2 ⟨rfl, rfl⟩ w2
 obtain ⟨hin, v, h1, h2⟩ := id h
 cases o with
 | none => exact ⟨_, rfl, bsplit.yes rfl ⟨Mut.refl _ _, h, _, rfl, Sl.nil⟩⟩
 | some B =>
  simp only [Option.isSome_some, Option.getD_some] at h1 h2
  refine ⟨_, rfl, bsplit.no rfl ⟨fun vs s' => s' = s2 ∧ vs = [.bool (!RO.fit (some B) n)], ?_, ?_⟩⟩
  rotate_left
  ·refine bsplit.dec (fun hn => ⟨rfl, ?_⟩) (fun hn => ⟨v, by rw [h1.at.rd1]; rfl, _, h2.lenB u_s_uint8 _, rfl, ?_⟩)
   ·rw [show RO.fit (some B) n = false from decide_eq_false (by omega)]; rfl
   ·congr 2
    unfold RO.fit
    rw [← decide_not, decide_eq_decide]
    omega
  rintro b s6 ⟨rfl, hb⟩
  obtain rfl : b = !RO.fit (some B) n := AV.bool.inj (List.cons.inj hb).1
  refine bsplit.mk (fun hf => ?_) (fun hf => ?_)
  ·have hf : RO.fit (some B) n = false := by simpa using hf
   refine ⟨_, rdr_zero, ⟨rfl, rfl⟩, StQ.own w2 h1 (by simp) fun s10 P => ⟨P.mut, ⟨hin.left n, .slc none 0 0 true, ?_, ?_⟩, _, by rw [hf], ?_⟩⟩
   ·simp only [RO.left, hf, Bool.false_eq_true, if_false]; exact P.at
   ·simp only [RO.left, hf, Bool.false_eq_true, if_false]; exact Sl.nil
   ·simp only [RO.take, hf, Bool.false_eq_true, if_false]; exact Sl.nil
  ·have hf : RO.fit (some B) n = true := by simpa using hf
   have hn : 0 ≤ n ∧ n ≤ B.length := by simpa [RO.fit] using hf
   obtain ⟨k, rfl⟩ := Int.eq_ofNat_of_zero_le hn.1
   obtain ⟨v14, e14, b14⟩ := Sl.head byC_len u_s_uint8 z_uint8 h2 (i := k) (by omega) .i64
   obtain ⟨v18, e18, b18⟩ := Sl.rest byC_len u_s_uint8 z_uint8 h2 (i := k) (by omega) .i64
   refine ⟨v, by rw [h1.at.rd1]; rfl, v14, e14, v, by rw [h1.at.rd1]; rfl, v18, e18, ?_⟩
   refine qstore_one (SlAt.one b18) z_s_uint8 (StQ.own w2 h1 (by simp) fun s21 P => ?_)
   have hN : ∀ q ∈ [p], NoB s6 q := by
    intro q hq
    obtain rfl := List.mem_singleton.1 hq
    exact h.noB
   refine ⟨P.mut, ⟨hin.left _, v18, ?_, ?_⟩, v14, by rw [hf], ?_⟩
   ·simp only [RO.left, hf, if_true]; exact P.at
   ·simp only [RO.left, hf, if_true, Option.map_some, Option.getD_some, Int.toNat_natCast]; exact Byts.mutN b18 P.mut hN
   ·simp only [RO.take, hf, if_true, Option.getD_some, Int.toNat_natCast]; exact Byts.mutN b14 P.mut hN
theorem Number_ok (h : RdrAt s p o) {k : Int} (hk : 1 ≤ k ∧ k ≤ 8) : ACalls Tryz.prog F_wire_Reader_Number [.ptr (some (p, 0)), .int .i64 k] s fun r s' => r = .int .u64 (o.numR k) ∧ Mut [p] s s' ∧ RdrAt s' p (o.left k) := by
 refine q_wire_Reader_Number _ _ _ _ ⟨fun vs s' => s' = s ∧ vs = [.int .i64 k], ?_, bsplit.dec (fun h => absurd h (by omega)) (fun _ => bsplit.dec (fun h => absurd h (by omega)) (fun _ => ⟨rfl, rfl⟩))⟩
 rintro n s3 ⟨rfl, hn⟩
 obtain rfl : n = k := by simpa using hn
 refine ACalls.use (take_ok h n) ?_
 rintro v4 s5 ⟨m5, r5, v6, rfl, b6⟩ w5
 refine ⟨_, _, rfl, ?_⟩
 refine ACalls.use (Get_ok b6 (h.inb.take n)) ?_
 rintro v8 s9 ⟨rfl, c, rfl⟩ w9
 exact ⟨_, _, rfl, rfl, m5, r5⟩
theorem Bytes_ok (h : RdrAt s p o) (n : Int) : ACalls Tryz.prog F_wire_Reader_Bytes [.ptr (some (p, 0)), .int .i64 n] s fun r s' => Mut [p] s s' ∧ RdrAt s' p (o.left n) ∧ Byts s' r (o.take n) := by
 refine q_wire_Reader_Bytes _ _ _ _ ?_
 refine ACalls.use (take_ok h n) ?_
 rintro v4 s5 ⟨m5, r5, v6, rfl, b6⟩ w5
 exact ⟨_, _, rfl, m5, r5, b6⟩
theorem numR_in (h : o.In) (k : Int) : 0 ≤ o.numR k ∧ o.numR k ≤ 18446744073709551615 := getN_in (h.take k)
theorem num2_in (h : o.In) : 0 ≤ o.numR 2 ∧ o.numR 2 < 65536 := by
 unfold RO.numR getN
 split
 ·have hl : (o.take 2).length ≤ 2 := by
   unfold RO.take
   split
   ·rw [List.length_take]; omega
   ·simp
  have := numB_in (o.take 2) 2 (h.take 2) hl
  have e : (256 : Int) ^ 2 = 65536 := by decide
  omega
 ·omega
theorem RBlob_ok (h : RdrAt s p o) : ACalls Tryz.prog F_wire_Reader_Blob [.ptr (some (p, 0))] s fun r s' => Mut [p] s s' ∧ RdrAt s' p o.blobL ∧ Byts s' r o.blobR := by
 refine q_wire_Reader_Blob _ _ _ ?_
 refine ACalls.use (Number_ok h (k := 2) (by omega)) ?_
 rintro v1 s2 ⟨rfl, m2, r2⟩ w2
 have hn := num2_in h.inb
 refine ⟨_, rfl, ?_⟩
 rw [wrap_i (by omega)]
 refine ACalls.use (Bytes_ok r2 (o.numR 2)) ?_
 rintro v4 s5 ⟨m5, r5, b5⟩ w5
 exact ⟨m2.trans m5, r5, b5⟩
theorem End_ok (h : RdrAt s p o) : ACalls Tryz.prog F_wire_Reader_End [.ptr (some (p, 0))] s fun r s' => s' = s ∧ r = .int .i64 (if o = some [] then 0 else 4) := by
 obtain ⟨hin, v, h1, h2⟩ := id h
 refine q_wire_Reader_End _ _ _ ⟨fun vs s' => s' = s ∧ vs = [.bool false], ?_, _, aeqPtrNil u_p_wire_Reader _, bsplit.no rfl ⟨true, by rw [h1.at.rd1]; rfl, rfl, rfl⟩⟩
 rintro b s3 ⟨rfl, hb⟩
 obtain rfl : b = false := by simpa using hb
 refine bsplit.no rfl ?_
 refine ACalls.use (Failed_ok h) ?_
 rintro v4 s5 ⟨rfl, rfl⟩ w5
 refine ⟨_, rfl, ?_⟩
 cases o with
 | none => exact bsplit.yes rfl ⟨rfl, by rw [if_neg (by simp)]⟩
 | some B =>
  refine bsplit.no rfl ⟨v, by rw [h1.at.rd1]; rfl, _, h2.lenB u_s_uint8 _, bsplit.dec (fun hp => ⟨rfl, ?_⟩) (fun hp => ⟨rfl, ?_⟩)⟩
  ·rw [if_neg]
   rintro h; obtain rfl := Option.some.inj h
   simp at hp
  ·rw [if_pos]
   have : B = [] := List.length_eq_zero_iff.1 (by simp only [Option.getD_some] at hp; omega)
   rw [this]
end
theorem bclone_ok {s : AS} {v : AV} {l : List Int} (hl : Byts s v l) (hn : l.length ≤ 2 ^ 30) : ACalls Tryz.prog F_slices_Clone__s_byte_byte [v] s fun r s' => BytN s s' r l := by
 refine ACalls.pre fun hw => q_slices_Clone__s_byte_byte _ _ _ ?_
 have main : RdL (absl T Y_s_uint8 0 []) fun g2 => NewQ (.cells g2 0 false) s fun l3 s4 => Bd2 (aappend T Y_s_uint8 Y_s_uint8 (.slc (some (l3, 0)) 0 0 true) v s4) fun v5 s6 => BytN s s6 v5 l := by
  refine ⟨_, absl_nil sl_s_uint8, NewQ.intro hw rfl fun l3 s4 F => ?_⟩
  refine GroN.appendS sl_s_uint8 byC_len byC_one F.wf (GroN.start (M := []) F.ext.mut) (by simp) (hl.ext F.ext) (by simpa using hn) u_s_uint8 fun v' s' g _ _ => ?_
  simpa using g
 rcases hl with ⟨rfl, _, hnil⟩ | ⟨a, c, e, rfl, hlen, h3⟩
 ·refine ⟨_, eqQ_emp_nil u_s_uint8 _ _ _ _, bsplit.no rfl main⟩
 ·refine ⟨_, eqQ_slc_nil u_s_uint8 _ _ _ _ _ _ _ _, bsplit.mk (fun h => ?_) (fun _ => main)⟩
  have : a = none := by simpa using h
  subst this
  have : l = [] := by
   rcases h3 with h3 | ⟨la, o, C, h, _⟩
   ·exact List.length_eq_zero_iff.1 h3
   ·cases h
  subst this
  exact GroN.nil
theorem Read_ok {s : AS} {v : AV} {l : List Int} (hl : Byts s v l) (hb : InB l) (hn : l.length ≤ 2 ^ 30) : ACalls Tryz.prog F_wire_Read [v] s fun r s' => ∃ p, r = .ptr (some (p, 0)) ∧ s.h p = none ∧ RdrAt s' p (some l) ∧ Ext s s' := by
 refine q_wire_Read _ _ _ ?_
 refine ACalls.use (bclone_ok hl hn) ?_
 rintro v1 s2 g w2
 have h1 := g.isSlc.2
 refine ⟨_, rdr_build h1, ?_, NewQ.intro w2 rfl fun l4 s5 F5 => ⟨l4, rfl, g.chg.ext.none F5.no, ⟨?_, v1, F5.own, (g.sl byC_len).ext F5.ext⟩, g.chg.ext.trans F5.ext⟩⟩
 ·simp [h1]
 ·intro B hB; obtain rfl := Option.some.inj hB; exact hb
section
variable {s : AS} {p : Nat} {o : RO}
theorem fit_le {n : Nat} : (o.take n).length ≤ n := by
 unfold RO.take
 split
 ·rw [List.length_take]; omega
 ·simp
theorem RDot_ok (h : RdrAt s p o) : ACalls Tryz.prog F_wire_Reader_Dot [.ptr (some (p, 0))] s fun r s' => r = .agg (dotC o.dotR) ∧ Mut [p] s s' ∧ RdrAt s' p (o.left 9) := by
 refine ACalls.pre fun hw => q_wire_Reader_Dot _ _ _ (NewQ.intro hw rfl fun l1 s2 F2 => ?_)
 refine ACalls.use (take_ok (h.ext F2.ext) 9) ?_
 rintro v3 s4 ⟨m4, r4, v5, rfl, b5⟩ w4
 have hpl : l1 ≠ p := by rintro rfl; exact h.there F2.no
 refine ⟨_, _, rfl, ?_⟩
 have hlen : (o.take 9).length ≤ 9 := fit_le (n := 9)
 refine ACalls.use (Read_ok b5 (h.inb.take 9) (by omega)) ?_
 rintro v7 s8 ⟨q, rfl, hq, rq, e8⟩ w8
 refine ⟨_, rfl, ?_⟩
 refine ACalls.use (Number_ok rq (k := 1) (by omega)) ?_
 rintro v10 s11 ⟨rfl, m11, rq11⟩ w11
 refine ⟨_, rfl, ?_⟩
 refine ACalls.use (Number_ok rq11 (k := 8) (by omega)) ?_
 rintro v13 s14 ⟨rfl, m14, rq14⟩ w14
 refine ⟨_, rfl, _, dot_build2 _ _, ⟨rfl, rfl⟩, ?_⟩
 have hqp : p ≠ q := by rintro rfl; exact r4.there hq
 have hql : l1 ≠ q := by
  rintro rfl
  have := m4.1 l1 _ (by simpa using hpl) F2.at
  rw [this] at hq; cases hq
 have a14 : Am.Own s14 l1 [.int .i64 0, .int .u64 0] := (((F2.own.mut m4 (by simpa using hpl)).ext e8).mut m11 (by simpa using hql)).mut m14 (by simpa using hql)
 have rp14 : RdrAt s14 p (o.left 9) := ((r4.ext e8).mut m11 (by simpa using hqp) (by intro x hx; obtain rfl := List.mem_singleton.1 hx; exact rq.noB)).mut m14 (by simpa using hqp) (by intro x hx; obtain rfl := List.mem_singleton.1 hx; exact rq11.noB)
 refine StQ.own w14 a14 (by simp [dotC]) fun s17 P => ⟨dotC o.dotR, ?_, rfl, ?_, ?_⟩
 ·exact At.rdc (cs := dotC o.dotR) ⟨_, _, P.at⟩ (by simp [dotC])
 ·have hsq : s.h q = none := by
   cases hs : s.h q with
   | none => rfl
   | some ob =>
    have := m4.1 q ob (by simpa using Ne.symm hqp) (F2.ext.1 _ _ hs)
    rw [this] at hq; cases hq
  have m1 : Mut [p] s s4 := F2.ext.mut.trans m4
  have m2 := (m1.trans e8.mut).new m11 (by intro x hx; obtain rfl := List.mem_singleton.1 hx; exact .inr hsq)
  have m3 := m2.new m14 (by intro x hx; obtain rfl := List.mem_singleton.1 hx; exact .inr hsq)
  exact m3.new P.mut (by intro x hx; obtain rfl := List.mem_singleton.1 hx; exact .inr F2.no)
 ·refine rp14.mut P.mut (by simpa using Ne.symm hpl) ?_
  intro x hx; obtain rfl := List.mem_singleton.1 hx
  exact NoB.own a14.at (by intro w hw x; simp only [List.mem_cons, List.not_mem_nil, or_false] at hw; rcases hw with rfl | rfl <;> exact fun h => by cases h)
end
end Go.Proofs.YtoklmpkpeanloaaGreat
end

section
namespace Go.Proofs.YtoklmpkpeanloaaGreat
open Go.Am Go.Minster Go.Minster2
def leftN : RO → Nat → RO
 | B, 0 => B
 | B, n + 1 => leftN (B.left 8) n
theorem leftN_succ : ∀ (n : Nat) (B : RO), leftN B (n + 1) = (leftN B n).left 8
 | 0, B => rfl
 | n + 1, B => by rw [leftN, leftN_succ n, leftN]
theorem vecN_succ : ∀ (n : Nat) (B : RO), vecN B (n + 1) = vecN B n ++ [(leftN B n).numR 8]
 | 0, B => rfl
 | n + 1, B => by rw [vecN, vecN_succ n, vecN, leftN]; rfl
theorem vecN_len : ∀ (n : Nat) (B : RO), (vecN B n).length = n
 | 0, _ => rfl
 | n + 1, B => by rw [vecN, List.length_cons, vecN_len n]
theorem vecN_in : ∀ (n : Nat) {B : RO}, B.In → ∀ x ∈ vecN B n, 0 ≤ x ∧ x ≤ 18446744073709551615
 | 0, _, _, x, hx => by cases hx
 | n + 1, B, h, x, hx => by
  rcases List.mem_cons.1 hx with rfl | hx
  ·exact numR_in h 8
  ·exact vecN_in n (h.left 8) x hx
theorem vecR_in {o : RO} (h : o.In) : VIn o.vecR := ⟨vecN_len _ _, vecN_in 16 (fun B hB => by obtain rfl := Option.some.inj hB; exact h.take 128)⟩
theorem wrs_vec (l : List Int) (m : Nat) (x : Int) : wrs ((l ++ List.replicate (m + 1) 0).map (AV.int .u64)) l.length [.int .u64 x] = ((l ++ [x]) ++ List.replicate m 0).map (AV.int .u64) := by
 rw [wrs_one]
 simp [List.replicate_succ, List.set_append]
section
variable {s : AS} {p : Nat} {o : RO}
theorem Vector1_ok {c q : Nat} (hc : At s c [.ptr (some (q, 0))]) (h : RdrAt s q o) : ACalls Tryz.prog F_wire_Reader_Vector_1 [.ptr (some (c, 0))] s fun r s' => r = .int .u64 (o.numR 8) ∧ Mut [q] s s' ∧ RdrAt s' q (o.left 8) := by
 refine q_wire_Reader_Vector_1 _ _ _ ⟨_, by rw [hc.rd1]; rfl, ?_⟩
 refine ACalls.use (Number_ok h (k := 8) (by omega)) ?_
 rintro v s' ⟨rfl, h1, h2⟩ _
 exact ⟨_, rfl, rfl, h1, h2⟩
theorem RVector_ok (h : RdrAt s p o) : ACalls Tryz.prog F_wire_Reader_Vector [.ptr (some (p, 0))] s fun r s' => r = .agg (o.vecR.map (.int .u64)) ∧ Mut [p] s s' ∧ RdrAt s' p (o.left 128) := by
 refine ACalls.pre fun hw => q_wire_Reader_Vector _ _ _ (NewQ.intro hw rfl fun l1 s2 F2 => ?_)
 refine ACalls.use (take_ok (h.ext F2.ext) 128) ?_
 rintro v3 s4 ⟨m4, r4, v5, rfl, b5⟩ w4
 have hpl : l1 ≠ p := by rintro rfl; exact h.there F2.no
 refine ⟨_, _, rfl, ?_⟩
 have hlen : (o.take 128).length ≤ 128 := fit_le (n := 128)
 refine ACalls.use (Read_ok b5 (h.inb.take 128) (by omega)) ?_
 rintro v7 s8 ⟨q, rfl, hq, rq, e8⟩ w8
 refine ⟨_, rfl, NewQ.intro w8 rfl fun l10 s11 F11 => StQ.own F11.wf F11.own (by simp) fun s12 P12 => ?_⟩
 have hqp : p ≠ q := by rintro rfl; exact r4.there hq
 have hl1 : Am.Own s4 l1 (zeros.map (.int .u64)) := F2.own.mut m4 (by simpa using hpl)
 have hql : l1 ≠ q := by rintro rfl; rw [hl1] at hq; cases hq
 have hl18 := hl1.ext e8
 have hl10 : l10 ≠ l1 := by
  rintro rfl
  have := F11.no
  rw [hl18] at this; cases this
 have h10q : l10 ≠ q := by rintro rfl; exact rq.there F11.no
 have h10p : l10 ≠ p := by rintro rfl; exact (r4.ext e8).there F11.no
 have n10 : NoB s11 l10 := NoB.own F11.own.at (by intro w hw x; obtain rfl := List.mem_singleton.1 hw; exact fun h => by cases h)
 have a12 : Am.Own s12 l1 (zeros.map (.int .u64)) := (hl18.ext F11.ext).mut P12.mut (by simpa using Ne.symm hl10)
 have rq12 : RdrAt s12 q (some (o.take 128)) := (rq.ext F11.ext).mut P12.mut (by simpa using Ne.symm h10q) (by intro x hx; obtain rfl := List.mem_singleton.1 hx; exact n10)
 have rp12 : RdrAt s12 p (o.left 128) := ((r4.ext e8).ext F11.ext).mut P12.mut (by simpa using Ne.symm h10p) (by intro x hx; obtain rfl := List.mem_singleton.1 hx; exact n10)
 have c12 : Am.Own s12 l10 [.ptr (some (q, 0))] := P12.at
 have hsq : s.h q = none := by
  cases hs : s.h q with
  | none => rfl
  | some ob =>
   have := m4.1 q ob (by simpa using Ne.symm hqp) (F2.ext.1 _ _ hs)
   rw [this] at hq; cases hq
 have hs10 : s.h l10 = none := by
  cases hs : s.h l10 with
  | none => rfl
  | some ob =>
   have := e8.1 _ _ (m4.1 l10 ob (by simpa using h10p) (F2.ext.1 _ _ hs))
   rw [F11.no] at this; cases this
 have m12 : Mut [p] s s12 := (((F2.ext.mut.trans m4).trans e8.mut).trans F11.ext.mut).new P12.mut (by intro x hx; obtain rfl := List.mem_singleton.1 hx; exact .inr hs10)
 refine ⟨fun m vs s' => ∃ i : Nat, vs = [.int .i64 (i : Nat)] ∧ i ≤ 16 ∧ m = 16 - i ∧ WFs s' ∧ Mut [p] s s' ∧ Am.Own s' l1 ((vecN (some (o.take 128)) i ++ List.replicate (16 - i) 0).map (.int .u64)) ∧ Am.Own s' l10 [.ptr (some (q, 0))] ∧ RdrAt s' q (leftN (some (o.take 128)) i) ∧ RdrAt s' p (o.left 128), 16, ⟨0, rfl, by omega, rfl, P12.wf, m12, a12, c12, rq12, rp12⟩, ?_⟩
 rintro m n s17 ⟨i, hin, hi, rfl, w17, m17, a17, c17, rq17, rp17⟩
 simp only [List.cons.injEq, AV.int.injEq, true_and, and_true] at hin
 subst hin
 refine bsplit.dec (fun hlt => ?_) (fun hge => ?_)
 ·refine ACalls.use (Vector1_ok c17.at rq17) ?_
  rintro v18 s19 ⟨rfl, m19, rq19⟩ w19
  have a19 := a17.mut m19 (by simpa using hql)
  have hx := vix (l := l1) (o := 0) (i := (i : Nat)) (by omega)
  simp only [Int.toNat_natCast, Nat.mul_one, Nat.zero_add] at hx
  have e16 : 16 - i = (16 - (i + 1)) + 1 := by omega
  rw [e16] at a19
  refine ⟨_, rfl, _, _, hx, StQ.own w19 a19 (by simp [vecN_len]) fun s23 P => ⟨16 - (i + 1), by omega, i + 1, by rw [wrap_i (by omega)]; rfl, by omega, rfl, P.wf, ?_, ?_, ?_, ?_, ?_⟩⟩
  ·exact (m17.new m19 (by intro x hx; obtain rfl := List.mem_singleton.1 hx; exact .inr hsq)).new P.mut (by intro x hx; obtain rfl := List.mem_singleton.1 hx; exact .inr F2.no)
  ·have := P.at
   rw [vecN_succ]
   have hv := wrs_vec (vecN (some (o.take 128)) i) (16 - (i + 1)) ((leftN (some (o.take 128)) i).numR 8)
   rw [vecN_len] at hv
   rw [hv] at this
   exact this
  ·exact (c17.mut m19 (by simpa using h10q)).mut P.mut (by simpa using hl10)
  ·rw [leftN_succ]
   refine rq19.mut P.mut (by simpa using Ne.symm hql) ?_
   intro x hx; obtain rfl := List.mem_singleton.1 hx
   exact NoB.own a19.at (by intro w hw x; obtain ⟨n, _, rfl⟩ := List.mem_map.1 hw; exact fun h => by cases h)
  ·refine (rp17.mut m19 (by simpa using hqp) (by intro x hx; obtain rfl := List.mem_singleton.1 hx; exact rq17.noB)).mut P.mut (by simpa using Ne.symm hpl) ?_
   intro x hx; obtain rfl := List.mem_singleton.1 hx
   exact NoB.own a19.at (by intro w hw x; obtain ⟨n, _, rfl⟩ := List.mem_map.1 hw; exact fun h => by cases h)
 ·obtain rfl : i = 16 := by omega
  simp only [Nat.sub_self, List.replicate_zero, List.append_nil] at a17
  have hl : ((vecN (some (o.take 128)) 16).map (AV.int .u64)).length = 16 := by simp [vecN_len]
  have h1 := ints_one .u64 (vecN (some (o.take 128)) 16)
  have n17 : NoB s17 l1 := NoB.own a17.at (by intro w hw x; obtain ⟨n, _, rfl⟩ := List.mem_map.1 hw; exact fun h => by cases h)
  have hR : (vecN (some (o.take 128)) 16).map (AV.int .u64) = o.vecR.map (.int .u64) := rfl
  generalize (vecN (some (o.take 128)) 16).map (AV.int .u64) = C at a17 hl h1 hR
  have ht : ∀ D : List AV, D.length = 16 → (D.drop 0).take 16 = D := fun D hD => by rw [List.drop_zero, List.take_of_length_le (by omega)]
  refine ⟨C, by rw [a17.at.rdc (by omega), ht C hl], ⟨h1, by rw [hl]⟩, StQ.own w17 a17 (by omega) fun s25 P => ?_⟩
  have hP := P.at
  rw [wrs_all rfl] at hP
  refine ⟨C, by rw [At.rdc ⟨_, _, hP⟩ (by omega), ht C hl], by rw [hR], ?_, ?_⟩
  ·exact m17.new P.mut (by intro x hx; obtain rfl := List.mem_singleton.1 hx; exact .inr F2.no)
  ·refine rp17.mut P.mut (by simpa using Ne.symm hpl) ?_
   intro x hx; obtain rfl := List.mem_singleton.1 hx
   exact n17
end
/-! ### what is read of what was written -/
theorem bes_step (n : Int) (hn : 0 ≤ n) (k : Nat) (hk : k ≤ 7) : bes n (k + 1) = bes (n / 256) k ++ [n % 256] := by
 apply List.ext_getElem?
 intro i
 by_cases h1 : i < k
 ·rw [bes_get _ (by omega), List.getElem?_append_left (by rw [bes_len]; exact h1), bes_get _ h1, byteAt_val hn (by omega), byteAt_val (by omega) (by omega)]
  rw [Int.ediv_ediv_of_nonneg (by decide), show (256 : Int) * 2 ^ (8 * (k - 1 - i)) = 2 ^ (8 * (k + 1 - 1 - i)) by
   rw [show 8 * (k + 1 - 1 - i) = 8 + 8 * (k - 1 - i) by omega, Int.pow_add]; rfl]
 ·by_cases h2 : i = k
  ·subst h2
   rw [bes_get _ (by omega), List.getElem?_append_right (by rw [bes_len]; omega), bes_len, Nat.sub_self, byteAt_val hn (by omega)]
   simp
  ·rw [List.getElem?_eq_none (by rw [bes_len]; omega), List.getElem?_eq_none (by simp [bes_len]; omega)]
theorem numB_bes : ∀ (k : Nat) (n : Int), k ≤ 8 → 0 ≤ n → n < 256 ^ k → numB (bes n k) = n
 | 0, n, _, h0, h1 => by
  have : n = 0 := by simp at h1; omega
  subst this; rfl
 | k + 1, n, hk, h0, h1 => by
  rw [Int.pow_succ] at h1
  rw [bes_step n h0 k (by omega), numB_snoc, numB_bes k (n / 256) (by omega) (by omega) (by omega)]
  omega
theorem getN_bes {k : Nat} (hk : 1 ≤ k ∧ k ≤ 8) {n : Int} (h0 : 0 ≤ n) (h1 : n < 256 ^ k) : getN (bes n k) = n := by
 unfold getN
 rw [bes_len, if_pos hk, numB_bes k n hk.2 h0 h1]
theorem p256_8 : (256 : Int) ^ 8 = 18446744073709551616 := by decide
theorem p256_2 : (256 : Int) ^ 2 = 65536 := by decide
theorem take_app {A B : List Int} {n : Int} (h : n = A.length) : RO.take (some (A ++ B)) n = A ∧ RO.left (some (A ++ B)) n = some B := by
 subst h
 have hf : RO.fit (some (A ++ B)) A.length = true := by simp [RO.fit]; omega
 constructor
 ·simp [RO.take, hf]
 ·simp [RO.left, hf]
theorem num_app {k : Nat} (hk : 1 ≤ k ∧ k ≤ 8) {n : Int} (h0 : 0 ≤ n) (h1 : n < 256 ^ k) (B : List Int) : RO.numR (some (bes n k ++ B)) k = n ∧ RO.left (some (bes n k ++ B)) k = some B := by
 obtain ⟨a, b⟩ := take_app (A := bes n k) (B := B) (n := k) (by rw [bes_len])
 exact ⟨by rw [RO.numR, a, getN_bes hk h0 h1], b⟩
theorem dot_app {d : Dot} (h : d.may = true) (B : List Int) : RO.dotR (some (dotB d ++ B)) = d ∧ RO.left (some (dotB d ++ B)) 9 = some B := by
 obtain ⟨a, b⟩ := take_app (A := dotB d) (B := B) (n := 9) (by rw [dotB_len]; rfl)
 refine ⟨?_, b⟩
 have hd := Dot.may_iff.1 h
 have e : dotB d = [IntKind.wrap .u8 d.r] ++ bes d.c 8 := rfl
 have hr : IntKind.wrap .u8 d.r = d.r := by rw [IntKind.wrap_u8]; omega
 obtain ⟨c1, c2⟩ := take_app (A := [IntKind.wrap .u8 d.r]) (B := bes d.c 8) (n := 1) rfl
 unfold RO.dotR
 rw [a, e, c2]
 have n1 : RO.numR (some ([IntKind.wrap .u8 d.r] ++ bes d.c 8)) 1 = d.r := by
  rw [RO.numR, c1, hr]
  simp [getN, numB]
 have n2 := (num_app (k := 8) (by omega) (n := d.c) (by omega) (by rw [p256_8]; omega) []).1
 rw [List.append_nil] at n2
 rw [n1, show RO.numR (some (bes d.c 8)) 8 = d.c from n2, wrap_i (by omega)]
theorem blob_app {l B : List Int} (h : l.length < 65536) : RO.blobR (some (bes (l.length : Nat) 2 ++ (l ++ B))) = l ∧ RO.blobL (some (bes (l.length : Nat) 2 ++ (l ++ B))) = some B := by
 obtain ⟨a, b⟩ := num_app (k := 2) (by omega) (n := (l.length : Nat)) (by omega) (by rw [p256_2]; omega) (l ++ B)
 obtain ⟨c, d⟩ := take_app (A := l) (B := B) (n := (l.length : Nat)) rfl
 have a' : RO.numR (some (bes (l.length : Nat) 2 ++ (l ++ B))) 2 = (l.length : Nat) := a
 have b' : RO.left (some (bes (l.length : Nat) 2 ++ (l ++ B))) 2 = some (l ++ B) := b
 exact ⟨by rw [RO.blobR, a', b', c], by rw [RO.blobL, a', b', d]⟩
theorem vecN_app : ∀ (v : List Int), (∀ x ∈ v, 0 ≤ x ∧ x ≤ 18446744073709551615) → ∀ B, vecN (some ((v.flatMap fun n => bes n 8) ++ B)) v.length = v
 | [], _, _ => rfl
 | x :: v, h, B => by
  have hx := h x (by simp)
  obtain ⟨a, b⟩ := num_app (k := 8) (by omega) (n := x) (by omega) (by rw [p256_8]; omega) ((v.flatMap fun n => bes n 8) ++ B)
  rw [List.flatMap_cons, List.append_assoc, List.length_cons, vecN]
  have a' : RO.numR (some (bes x 8 ++ ((v.flatMap fun n => bes n 8) ++ B))) 8 = x := a
  have b' : RO.left (some (bes x 8 ++ ((v.flatMap fun n => bes n 8) ++ B))) 8 = some ((v.flatMap fun n => bes n 8) ++ B) := b
  rw [a', b', vecN_app v (fun y hy => h y (by simp [hy])) B]
theorem vec_app {v : List Int} (h : VIn v) (B : List Int) : RO.vecR (some ((v.flatMap fun n => bes n 8) ++ B)) = v ∧ RO.left (some ((v.flatMap fun n => bes n 8) ++ B)) 128 = some B := by
 have hl : (v.flatMap fun n => bes n 8).length = 128 := by rw [flat_lenI (f := fun n => bes n 8) (n := 8) (fun n => bes_len n 8), h.len]
 obtain ⟨a, b⟩ := take_app (A := v.flatMap fun n => bes n 8) (B := B) (n := 128) (by rw [hl]; rfl)
 refine ⟨?_, b⟩
 have := vecN_app v h.rng []
 rw [List.append_nil, h.len] at this
 rw [RO.vecR, a, this]
theorem toB_strB : ∀ t : List UInt8, toB (strB t) = t
 | [] => rfl
 | a :: t => by
  have := toB_strB t
  simp only [toB, strB, List.map_cons, List.map_map, Int.toNat_natCast, List.cons.injEq] at this ⊢
  exact ⟨UInt8.ofNat_toNat, this⟩
theorem conv_strE {s : AS} {v : AV} {l : List Int} (h : Byts s v l) : (aconvert T Y_s_uint8 Y_string v s).map (·.1) = some (.str (toB l)) := by
 by_cases hz : l = []
 ·subst hz
  rcases h with ⟨rfl, h2, h3⟩ | ⟨a, c, e, rfl, ⟨h1, h2⟩, h3⟩
  ·simp [aconvert, u_s_uint8, u_string, u_uint8, toB]
  ·rcases a with _ | ⟨la, o⟩ <;> simp [aconvert, u_s_uint8, u_string, u_uint8, toB]
 ·exact conv_str h hz
end Go.Proofs.YtoklmpkpeanloaaGreat
end

section
namespace Go.Proofs.YtoklmpkpeanloaaGreat
open Go.Am Go.Minster Go.Minster2
def zeroB : List Int := List.replicate 136 0
theorem zeroB_eq : stateB zeros [] (liveI []) = zeroB := by decide +kernel
theorem make136 (s : AS) : amakeSlice T Y_s_uint8 (.int .i64 136) (.int .i64 136) s = some (.slc (some (s.nl, 0)) 136 136 true, s.new (.cells (rep 136 [.int .u8 0]) 0 false)) := by
 simp only [amakeSlice, u_s_uint8, z_uint8, b_uint8, zr_uint8, Option.bind_some]
 rw [show acells (.int .u8 0) = some [AV.int .u8 0] from rfl, Option.bind_some, if_pos ⟨by decide, by decide, by decide, by decide, rfl⟩]
 rfl
set_option maxRecDepth 100000 in
theorem known19_ok (s : AS) : ACalls Tryz.prog F_law19iknown [] s fun v s' => v = .bool true ∧ Ext s s' := by
 have hz : zeroB ≠ [] := by simp [zeroB]
 refine q_law19iknown _ _ ⟨fun n _ v s' => (n = 0 → ∃ p F, v = .ptr (some (p, 0)) ∧ SetF F s' p OSet.zero) ∧ ((n = 1 ∨ n = 3) → Byts s' v zeroB), fun n _ v => (n = 0 → ∃ p, v = .ptr p) ∧ ((n = 2 ∨ n = 4) → v = .str (toB zeroB)), ?_, fun s1 e1 w1 _ => ?_, ⟨.ptr none, fun _ => ⟨_, rfl⟩, by simp⟩, fun v5 hv5 => ?_⟩
 ·rintro n k v s s' e ⟨h1, h2⟩
  exact ⟨fun hn => by obtain ⟨p, F, g1, g2⟩ := h1 hn; exact ⟨p, F, g1, g2.ext e⟩, fun hn => (h2 hn).ext e⟩
 ·refine (New_ok s1).mono ?_
  rintro v s3 ⟨p, F, rfl, h1, h2, h3, e3⟩
  exact ⟨_, rfl, e3, ⟨fun _ => ⟨p, F, rfl, h1⟩, by simp⟩, fun _ => ⟨_, rfl⟩, by simp⟩
 obtain ⟨p6, rfl⟩ := hv5.1 rfl
 refine ⟨p6, rfl, fun s7 e7 w7 hS => ?_, ⟨.undef, by simp⟩, fun v10 _ => ⟨fun s11 e11 w11 hS => ?_, ⟨.str (toB zeroB), by simp⟩, fun v13 hv13 => ?_⟩⟩
 ·obtain ⟨p, F, hp, hF⟩ := hS.1.1 rfl
  obtain rfl : p6 = some (p, 0) := by simpa using hp
  refine (State_ok hF OOk.zero (by omega)).mono ?_
  rintro v s9 ⟨I, hI, hb, e9⟩
  obtain rfl := hI.uniq Items.zero
  rw [show stateB OSet.zero.v OSet.zero.ex (liveI []) = zeroB from zeroB_eq] at hb
  exact ⟨e9, ⟨by simp, fun _ => hb⟩, by simp⟩
 ·have hb := hS.2.1.2 (.inl rfl)
  exact ⟨toB zeroB, conv_str hb hz, Ext.refl _, ⟨by simp, by simp⟩, by simp⟩
 obtain rfl := hv13.2 (.inl rfl)
 refine ⟨_, rfl, fun s15 e15 w15 _ => ?_, ⟨.undef, by simp⟩, fun v18 _ => ⟨fun s19 e19 w19 hS => ?_, ⟨.str (toB zeroB), by simp⟩, fun v21 hv21 => ?_⟩⟩
 ·have Fr := w15.new (o := .cells (rep 136 [.int .u8 0]) 0 false) rfl
  refine ⟨_, _, make136 s15, Fr.ext, ⟨by simp, fun _ => ?_⟩, by simp⟩
  exact SlAt.mk (n := 136) (c := 136) ⟨_, _, Fr.at⟩ (by rfl) (by rfl) (by omega)
 ·have hb := hS.1.2 (.inr rfl)
  exact ⟨toB zeroB, conv_str hb hz, Ext.refl _, ⟨by simp, by simp⟩, by simp⟩
 obtain rfl := hv21.2 (.inr rfl)
 exact ⟨_, rfl, fun s23 e23 w23 _ => ⟨by simp, e23⟩⟩
theorem kn19 (s' : AS) : ACalls Tryz.prog F_law19iknown [] s' fun v4 s5 => ∃ b6 : Bool, v4 = .bool b6 ∧ (AV.bool b6 = .bool true) := by
 refine (known19_ok s').mono ?_
 rintro v s' ⟨rfl, _⟩
 exact ⟨_, rfl, rfl⟩
theorem may19_ok {s : AS} {v : AV} {l : List Itm} (h : Sl itemC 5 s v l) (hn : l.length ≤ 2 ^ 30) : ACalls Tryz.prog F_law19imay [v] s fun r s' => r = .bool (l.all Itm.may) ∧ Ext s s' := by
 refine ACalls.pre fun hw => q_law19imay _ _ _ ⟨fun m vs s' => ∃ i : Nat, vs = [.int .i64 (i : Nat)] ∧ i ≤ l.length ∧ m = l.length - i ∧ Ext s s' ∧ WFs s' ∧ (l.take i).all Itm.may = true, l.length, ⟨0, rfl, by omega, rfl, Ext.refl _, hw, by simp⟩, ?_⟩
 rintro m n s5 ⟨i, hin, hi, rfl, e5, w5, hall⟩
 simp only [List.cons.injEq, AV.int.injEq, true_and, and_true] at hin
 subst hin
 refine ⟨_, h.lenB u_s_Item _, bsplit.dec (fun hlt => ?_) (fun hge => ?_)⟩
 ·obtain ⟨j, hj⟩ := get_lt (l := l) (i := i) (by omega)
  obtain ⟨la, oa, k8, k9⟩ := h.ix (by decide) itemC_len u_s_Item z_Item hj
  have step := List.take_add_one (l := l) (i := i)
  rw [hj, Option.toList_some] at step
  refine ⟨la, oa, k8 _, _, (k9 _ e5).2, ?_⟩
  refine ACalls.use (ref07May_ok j _) ?_
  rintro v s11 ⟨rfl, e11⟩ w11
  refine ⟨_, rfl, bsplit.mk (fun hb => ⟨?_, e5.trans e11⟩) (fun hb => ⟨l.length - (i + 1), by omega, i + 1, by rw [wrap_i (by omega)]; rfl, by omega, rfl, e5.trans e11, w11, ?_⟩)⟩
  ·have : l.all Itm.may = false := by
    rw [List.all_eq_false]
    exact ⟨j, List.mem_of_getElem? hj, by simpa using hb⟩
   rw [this]
  ·rw [step, List.all_append, hall]
   simpa using hb
 ·rw [List.take_of_length_le (by omega)] at hall
  rw [hall]; exact ⟨rfl, e5⟩
theorem Function_ok {s : AS} {v : AV} {l : List Itm} (h : Sl itemC 5 s v l) (hn : l.length ≤ 1000) (hm : ∀ i ∈ l, i.may = true) : ACalls Tryz.prog F_views_Function [v] s fun r s' => ∃ p F x, r = .tup [.ptr (some (p, 0)), .int .i64 0] ∧ x = (OSet.zero.sees l).2 ∧ SetO s s' F p x l.length ∧ Ext s s' := by
 refine q_views_Function _ _ _ ?_
 refine ACalls.use (New_ok s) ?_
 rintro v1 s2 ⟨p, F, rfl, h1, h2, h3, e2⟩ w2
 refine ⟨_, rfl, ?_⟩
 have S0 : SetO s s2 F p OSet.zero 0 := ⟨h1, OOk.zero, h2, h3⟩
 refine ACalls.use (S0.See e2 (h.ext e2) (by omega) hm) ?_
 rintro v4 s5 ⟨rfl, m5, e5, F', x', hx', S1, _⟩ w5
 refine ⟨_, _, rfl, bsplit.no rfl ⟨p, F', x', rfl, hx', ?_, e5⟩⟩
 rw [Nat.zero_add] at S1
 exact S1
theorem Function_bad {s : AS} {v : AV} {l : List Itm} (h : Sl itemC 5 s v l) (hn : l.length ≤ 1000) (hm : ¬ ∀ i ∈ l, i.may = true) : ACalls Tryz.prog F_views_Function [v] s fun r s' => r = .tup [.ptr none, .int .i64 2] ∧ Ext s s' := by
 refine q_views_Function _ _ _ ?_
 refine ACalls.use (New_ok s) ?_
 rintro v1 s2 ⟨p, F, rfl, h1, h2, h3, e2⟩ w2
 refine ⟨_, rfl, ?_⟩
 refine ACalls.use (See_bad h1 (h.ext e2) (by omega) hm) ?_
 rintro v4 s5 ⟨rfl, e5⟩ w5
 exact ⟨_, _, rfl, bsplit.yes rfl ⟨rfl, e2.trans e5⟩⟩
/-! ### what is live in one alone -/
section
variable {F F' : List Nat} {s : AS} {p p' : Nat} {x y : OSet} {B : Nat}
end
/-! ### the reference's -/
structure RefN (s0 s : AS) (q : Nat) (x : OSet) : Prop where
 e : Ext s0 s
 mem : ∃ G, RefO G s q x ∧ (∀ z ∈ G, s0.h z = none) ∧ ∀ z ∈ G, s.h z ≠ none
section
variable {s0 s s' : AS} {q : Nat} {x : OSet}
theorem RefN.see {B : Nat} (h : RefN s0 s q x) (o : OOk x B) (hB : B ≤ 1000) (i : Itm) (hi : i.may = true) : ACalls Tryz.prog F_ref07iSet_See [.ptr (some (q, 0)), .agg (itemC i)] s fun r s' => r = .bool (x.see i).1 ∧ RefN s0 s' q (x.see i).2 := by
 obtain ⟨h1, G, h2, h3, h4⟩ := h
 refine (ref_See_ok h2 o hB h4 i hi).mono ?_
 rintro r s' ⟨rfl, m, G', hR, hn, ht⟩
 refine ⟨rfl, Ext.wr h1 (h3 q h2.qF) m, G', hR, fun z hz => ?_, ht⟩
 rcases hn z hz with h | h
 ·exact h3 z h
 ·exact h1.none h
theorem RefN.zero (hw : WFs s) {l : Nat} (F : Fresh s s' l (.cells (zeros.map (.int .u64) ++ [.slc none 0 0 true, .slc none 0 0 true]) 0 false)) : RefN s s' l OSet.zero :=
 ⟨F.ext, [l], ⟨COk.zero, (fun y hy => by cases hy), .slc none 0 0 true, .slc none 0 0 true, [], F.own, ⟨rfl, by simp, Gro.nil⟩, ⟨rfl, by simp, Gro.nil⟩, Items.zero, by simp, by simp [labOf], by simp [labOf]⟩, fun z hz => by obtain rfl := List.mem_singleton.1 hz; exact F.no, fun z hz => by obtain rfl := List.mem_singleton.1 hz; rw [F.at]; simp⟩
theorem sees_loop {v : AV} {l : List Itm} (hl : Sl itemC 5 s0 v l) (hn : l.length ≤ 1000) (hm : ∀ i ∈ l, i.may = true) (w : WFs s) (h : RefN s0 s q OSet.zero) {J : List AV → AS → Prop} (hJ : ∀ s', WFs s' → RefN s0 s' q (OSet.zero.sees l).2 → J [] s') :
  LoopQ fun I m => I m [(.int .i64 0)] s ∧ ∀ m' : Nat, ∀ n : Int, ∀ s : AS, I m' [(.int .i64 n)] s →
   RdI .i64 (alenB T Y_s_Item v s) fun n' => bsplit (decide ((n : Int) < n'))
    (IxQ (aindexAddr T Y_s_Item v (.int .i64 n)) fun l o => RdL (rdc s l o 5) fun g => ACalls Tryz.prog F_ref07iSet_See [(.ptr (some (q, 0))), (.agg g)] s fun v s' => ∃ b : Bool, v = .bool b ∧ (∃ m'', m'' < m' ∧ I m'' [(.int .i64 (IntKind.wrap .i64 (n + 1)))] s'))
    (J [] s) := by
 refine ⟨fun m vs s' => ∃ i : Nat, vs = [.int .i64 (i : Nat)] ∧ i ≤ l.length ∧ m = l.length - i ∧ WFs s' ∧ RefN s0 s' q (OSet.zero.sees (l.take i)).2, l.length, ⟨0, rfl, by omega, rfl, w, h⟩, ?_⟩
 rintro m n s2 ⟨i, hin, hi, rfl, w2, R2⟩
 simp only [List.cons.injEq, AV.int.injEq, true_and, and_true] at hin
 subst hin
 refine ⟨_, hl.lenB u_s_Item _, bsplit.dec (fun hlt => ?_) (fun hge => ?_)⟩
 ·obtain ⟨j, hj⟩ := get_lt (l := l) (i := i) (by omega)
  obtain ⟨la, oa, k8, k9⟩ := hl.ix (by decide) itemC_len u_s_Item z_Item hj
  have ok : OOk (OSet.zero.sees (l.take i)).2 (0 + (l.take i).length) := OOk.zero.sees _ fun j hj => hm j (List.mem_of_mem_take hj)
  have htl := List.length_take_le i l
  refine ⟨la, oa, k8 _, _, (k9 _ R2.e).2, ?_⟩
  refine ACalls.use (R2.see ok (by omega) j (hm j (List.mem_of_getElem? hj))) ?_
  rintro v s3 ⟨rfl, R3⟩ w3
  exact ⟨_, rfl, l.length - (i + 1), by omega, i + 1, by rw [wrap_i (by omega)]; rfl, by omega, rfl, w3, by rw [sees_take hj]; exact R3⟩
 ·rw [List.take_of_length_le (by omega)] at R2
  exact hJ s2 w2 R2
end
end Go.Proofs.YtoklmpkpeanloaaGreat
end

section
namespace Go.Proofs.YtoklmpkpeanloaaGreat
open Go.Am Go.Minster Go.Minster2
/-! ### plainly -/
def dotsR : Nat → RO → List Dot × RO
 | 0, o => ([], o)
 | _ + 1, none => ([], none)
 | n + 1, some B => (RO.dotR (some B) :: (dotsR n (RO.left (some B) 9)).1, (dotsR n (RO.left (some B) 9)).2)
def itemR (o : RO) : Itm := ⟨o.dotR, ⟨toB (o.left 9).blobR, toB (o.left 9).blobL.blobR⟩, false⟩
def itemL (o : RO) : RO := (o.left 9).blobL.blobL
def itemsR : Nat → RO → List Itm × RO
 | 0, o => ([], o)
 | _ + 1, none => ([], none)
 | n + 1, some B => (itemR (some B) :: (itemsR n (itemL (some B))).1, (itemsR n (itemL (some B))).2)
theorem left_none (n : Int) : RO.left none n = none := rfl
theorem left_len {B B' : List Int} {n : Int} (h : RO.left (some B) n = some B') : 0 ≤ n ∧ B'.length + n.toNat = B.length := by
 unfold RO.left at h
 split at h
 ·rename_i hf
  have hn : 0 ≤ n ∧ n ≤ B.length := by simpa [RO.fit] using hf
  obtain rfl := Option.some.inj h
  refine ⟨hn.1, ?_⟩
  rw [List.length_drop]; omega
 ·cases h
theorem blobL_len {o : RO} {B' : List Int} (h : o.blobL = some B') : ∃ B, o = some B ∧ B'.length + 2 ≤ B.length := by
 cases o with
 | none => simp [RO.blobL, left_none] at h
 | some B =>
  refine ⟨B, rfl, ?_⟩
  unfold RO.blobL at h
  cases h1 : RO.left (some B) 2 with
  | none => rw [h1] at h; simp [left_none] at h
  | some A =>
   rw [h1] at h
   have := left_len h1
   have := left_len h
   omega
theorem itemL_len {B B' : List Int} (h : itemL (some B) = some B') : B'.length + 13 ≤ B.length := by
 unfold itemL at h
 obtain ⟨A, h1, h2⟩ := blobL_len h
 obtain ⟨A', h3, h4⟩ := blobL_len h1
 have := left_len h3
 omega
theorem dotsR_none (n : Nat) : dotsR n none = ([], none) := by cases n <;> rfl
theorem itemsR_none (n : Nat) : itemsR n none = ([], none) := by cases n <;> rfl
theorem dotsR_len : ∀ (n : Nat) (B : List Int), (dotsR n (some B)).1.length * 9 ≤ B.length + 9
 | 0, B => by simp [dotsR]
 | n + 1, B => by
  simp only [dotsR]
  cases h : RO.left (some B) 9 with
  | none => simp [dotsR_none]
  | some A =>
   have h1 := left_len h
   have h2 := dotsR_len n A
   simp only [List.length_cons]
   omega
theorem itemsR_len : ∀ (n : Nat) (B : List Int), (itemsR n (some B)).1.length * 13 ≤ B.length + 13
 | 0, B => by simp [itemsR]
 | n + 1, B => by
  simp only [itemsR]
  cases h : itemL (some B) with
  | none => simp [itemsR_none]
  | some A =>
   have h1 := itemL_len h
   have h2 := itemsR_len n A
   simp only [List.length_cons]
   omega
theorem dotsR_left : ∀ (n : Nat) (o : RO) {B : List Int}, (dotsR n o).2 = some B → ∃ A, o = some A ∧ B.length ≤ A.length
 | 0, o, B, h => ⟨B, h, Nat.le_refl _⟩
 | n + 1, none, B, h => by cases h
 | n + 1, some A, B, h => by
  obtain ⟨C, h1, h2⟩ := dotsR_left n _ h
  have := left_len h1
  exact ⟨A, rfl, by omega⟩
theorem dots_app : ∀ (l : List Dot), (∀ d ∈ l, d.may = true) → ∀ B, dotsR l.length (some (l.flatMap dotB ++ B)) = (l, some B)
 | [], _, B => rfl
 | d :: l, h, B => by
  obtain ⟨a, b⟩ := dot_app (h d (by simp)) (l.flatMap dotB ++ B)
  have ih := dots_app l (fun x hx => h x (by simp [hx])) B
  rw [List.flatMap_cons, List.append_assoc, List.length_cons, dotsR, a, b, ih]
theorem textB_app (t : List UInt8) (B : List Int) : textB t ++ B = bes ((strB t).length : Nat) 2 ++ (strB t ++ B) := by
 unfold textB; rw [strB_len, List.append_assoc]
theorem item_app {i : Itm} (h : ItemS i) (B : List Int) : itemR (some (itemB i ++ B)) = i ∧ itemL (some (itemB i ++ B)) = some B := by
 obtain ⟨a, b⟩ := dot_app h.d (textB i.key.t ++ (textB i.key.d ++ B))
 obtain ⟨c1, c2⟩ := blob_app (l := strB i.key.t) (B := textB i.key.d ++ B) (by rw [strB_len]; exact h.t)
 obtain ⟨d1, d2⟩ := blob_app (l := strB i.key.d) (B := B) (by rw [strB_len]; exact h.u)
 rw [← textB_app] at c1 c2 d1 d2
 have e : itemB i ++ B = dotB i.dot ++ (textB i.key.t ++ (textB i.key.d ++ B)) := by simp [itemB]
 rw [e]
 constructor
 ·unfold itemR
  rw [a, b, c1, c2, d1, toB_strB, toB_strB]
  obtain ⟨d, k, g⟩ := i
  have := h.g
  simp only at this
  subst this
  rfl
 ·unfold itemL
  rw [b, c2, d2]
theorem items_app : ∀ (l : List Itm), (∀ i ∈ l, ItemS i) → ∀ B, itemsR l.length (some (l.flatMap itemB ++ B)) = (l, some B)
 | [], _, B => rfl
 | i :: l, h, B => by
  obtain ⟨a, b⟩ := item_app (h i (by simp)) (l.flatMap itemB ++ B)
  have ih := items_app l (fun x hx => h x (by simp [hx])) B
  rw [List.flatMap_cons, List.append_assoc, List.length_cons, itemsR, a, b, ih]
def decV (b : List Int) : List Int := RO.vecR (some b)
def dec1 (b : List Int) : RO := RO.left (some b) 128
def decE (b : List Int) : List Dot := (dotsR ((dec1 b).numR 4).toNat ((dec1 b).left 4)).1
def dec2 (b : List Int) : RO := (dotsR ((dec1 b).numR 4).toNat ((dec1 b).left 4)).2
def decL (b : List Int) : List Itm := (itemsR ((dec2 b).numR 4).toNat ((dec2 b).left 4)).1
def dec3 (b : List Int) : RO := (itemsR ((dec2 b).numR 4).toNat ((dec2 b).left 4)).2
theorem dec_state {v : List Int} {ex : List Dot} {L : List Itm} (hv : VIn v) (he : ∀ d ∈ ex, d.may = true) (hn : ex.length < 2 ^ 30) (hL : ∀ i ∈ L, ItemS i) (hm : L.length < 2 ^ 30) :
  decV (stateB v ex L) = v ∧ decE (stateB v ex L) = ex ∧ decL (stateB v ex L) = L ∧ dec3 (stateB v ex L) = some [] := by
 have e4 : (256 : Int) ^ 4 = 4294967296 := by decide
 have hs : stateB v ex L = (v.flatMap fun n => bes n 8) ++ (bes (ex.length : Nat) 4 ++ (ex.flatMap dotB ++ (bes (L.length : Nat) 4 ++ (L.flatMap itemB ++ [])))) := by simp [stateB]
 obtain ⟨a1, a2⟩ := vec_app hv (bes (ex.length : Nat) 4 ++ (ex.flatMap dotB ++ (bes (L.length : Nat) 4 ++ (L.flatMap itemB ++ []))))
 obtain ⟨b1, b2⟩ := num_app (k := 4) (by omega) (n := (ex.length : Nat)) (by omega) (by omega) (ex.flatMap dotB ++ (bes (L.length : Nat) 4 ++ (L.flatMap itemB ++ [])))
 have c := dots_app ex he (bes (L.length : Nat) 4 ++ (L.flatMap itemB ++ []))
 obtain ⟨d1, d2⟩ := num_app (k := 4) (by omega) (n := (L.length : Nat)) (by omega) (by omega) (L.flatMap itemB ++ [])
 have f := items_app L hL []
 have g1 : dec1 (stateB v ex L) = some (bes (ex.length : Nat) 4 ++ (ex.flatMap dotB ++ (bes (L.length : Nat) 4 ++ (L.flatMap itemB ++ [])))) := by rw [dec1, hs, a2]
 have b1' : RO.numR (some (bes (ex.length : Nat) 4 ++ (ex.flatMap dotB ++ (bes (L.length : Nat) 4 ++ (L.flatMap itemB ++ []))))) 4 = (ex.length : Nat) := b1
 have b2' : RO.left (some (bes (ex.length : Nat) 4 ++ (ex.flatMap dotB ++ (bes (L.length : Nat) 4 ++ (L.flatMap itemB ++ []))))) 4 = some (ex.flatMap dotB ++ (bes (L.length : Nat) 4 ++ (L.flatMap itemB ++ []))) := b2
 have d1' : RO.numR (some (bes (L.length : Nat) 4 ++ (L.flatMap itemB ++ []))) 4 = (L.length : Nat) := d1
 have d2' : RO.left (some (bes (L.length : Nat) 4 ++ (L.flatMap itemB ++ []))) 4 = some (L.flatMap itemB ++ []) := d2
 have gd : dotsR ((dec1 (stateB v ex L)).numR 4).toNat ((dec1 (stateB v ex L)).left 4) = (ex, some (bes (L.length : Nat) 4 ++ (L.flatMap itemB ++ []))) := by
  rw [g1, b1', b2', Int.toNat_natCast, c]
 have g2 : dec2 (stateB v ex L) = some (bes (L.length : Nat) 4 ++ (L.flatMap itemB ++ [])) := by rw [dec2, gd]
 have gi : itemsR ((dec2 (stateB v ex L)).numR 4).toNat ((dec2 (stateB v ex L)).left 4) = (L, some []) := by
  rw [g2, d1', d2', Int.toNat_natCast, f]
 refine ⟨?_, by rw [decE, gd], by rw [decL, gi], by rw [dec3, gi]⟩
 rw [decV, hs, a1]
theorem decE_len (b : List Int) : (decE b).length * 9 ≤ b.length + 9 := by
 unfold decE
 cases h : (dec1 b).left 4 with
 | none => rw [dotsR_none]; simp
 | some B =>
  have h1 := dotsR_len ((dec1 b).numR 4).toNat B
  cases h2 : dec1 b with
  | none => rw [h2] at h; simp [left_none] at h
  | some A =>
   rw [h2] at h
   have h3 := left_len h
   have h4 := left_len h2
   rw [h2] at h1
   omega
theorem decL_len (b : List Int) : (decL b).length * 13 ≤ b.length + 13 := by
 unfold decL
 cases h : (dec2 b).left 4 with
 | none => rw [itemsR_none]; simp
 | some B =>
  have h1 := itemsR_len ((dec2 b).numR 4).toNat B
  cases h2 : dec2 b with
  | none => rw [h2] at h; simp [left_none] at h
  | some A =>
   rw [h2] at h h1
   have h3 := left_len h
   obtain ⟨C, h4, h5⟩ := dotsR_left _ _ h2
   cases h6 : dec1 b with
   | none => rw [h6] at h4; simp [left_none] at h4
   | some D =>
    rw [h6] at h4
    have h7 := left_len h4
    have h8 := left_len h6
    omega
theorem OfOk.ok {v : List Int} {ex : List Dot} (hv : VIn v) (h : OfOk v ex) : COk v ex ∧ Gap v ex := by
 have hget : ∀ d ∈ ex, ∃ i, ex[i]? = some d := fun d hd => List.mem_iff_getElem?.1 hd
 refine ⟨⟨⟨hv.len, fun x hx => ⟨(hv.rng x hx).1, h.hv x hx⟩⟩, ?_, fun d hd => ?_⟩, fun d hd => ?_⟩
 ·have key : ∀ (l : List Dot), (∀ (i : Nat) x y, l[i + 1]? = some x → l[i]? = some y → y.lt x = true) → Rising l := by
   intro l
   induction l with
   | nil => intro _; exact List.Pairwise.nil
   | cons a l ih =>
    intro hl
    have ihl := ih fun i x y h1 h2 => hl (i + 1) x y (by simpa using h1) (by simpa using h2)
    refine List.pairwise_cons.2 ⟨?_, ihl⟩
    cases l with
    | nil => simp
    | cons b l =>
     have hab := hl 0 b a rfl rfl
     intro x hx
     rcases List.mem_cons.1 hx with rfl | hx
     ·exact hab
     ·exact Dot.lt_trans hab ((List.pairwise_cons.1 ihl).1 x hx)
  exact key ex fun i x y h1 h2 => (h.hl (i + 1) x h1).2.1 y (by omega) (by simpa using h2)
 ·obtain ⟨i, hi⟩ := hget d hd; exact (h.hl i d hi).1
 ·obtain ⟨i, hi⟩ := hget d hd; exact (h.hl i d hi).2.2
end Go.Proofs.YtoklmpkpeanloaaGreat
end

section
namespace Go.Proofs.YtoklmpkpeanloaaGreat
open Go.Am Go.Minster Go.Minster2
def Wr (s : AS) (p : Nat) : Prop := ∃ C, At s p C ∧ ∀ v ∈ C, ∀ x, v ≠ .int .u8 x
theorem Wr.noB {s : AS} {p : Nat} (h : Wr s p) : NoB s p := by obtain ⟨C, h1, h2⟩ := h; exact NoB.own h1 h2
theorem Wr.ext {s s' : AS} {p : Nat} (h : Wr s p) (e : Ext s s') : Wr s' p := by obtain ⟨C, h1, h2⟩ := h; exact ⟨C, h1.ext e, h2⟩
theorem RdrAt.wr {s : AS} {p : Nat} {o : RO} (h : RdrAt s p o) : Wr s p := by
 obtain ⟨_, v, h1, h2⟩ := h
 refine ⟨_, h1.at, fun w hw x => ?_⟩
 simp only [List.mem_cons, List.not_mem_nil, or_false] at hw
 rcases hw with rfl | rfl | rfl
 ·exact SlAt.nu8 h2 x
 ·exact fun h => by cases h
 ·exact fun h => by cases h
def RX (p : Nat) (s s' : AS) : Prop := Mut [p] s s' ∧ (Wr s p → Wr s' p)
theorem RX.ext {p : Nat} {s s' : AS} (e : Ext s s') : RX p s s' := ⟨e.mut, fun h => h.ext e⟩
theorem RX.trans {p : Nat} {a b c : AS} (h : RX p a b) (h' : RX p b c) : RX p a c := ⟨h.1.trans h'.1, fun w => h'.2 (h.2 w)⟩
theorem Gro.noB {α : Type} {f : α → List AV} {sz : Nat} (hf : ∀ x, ∀ c ∈ f x, ∀ y, c ≠ .int .u8 y) {s : AS} {v : AV} {l : List α} (h : Gro f sz s v l) : ∀ q ∈ labOf v, NoB s q := by
 rcases h with ⟨_, a, rfl⟩ | ⟨la, rfl, hla⟩
 ·intro q hq; rcases a with _ | ⟨l, o⟩ <;> simp [labOf] at hq
 ·intro q hq
  obtain rfl : q = la := by simpa [labOf] using hq
  refine NoB.own ⟨_, _, hla⟩ fun w hw x => ?_
  obtain ⟨y, _, hy⟩ := List.mem_flatMap.1 hw
  exact hf y w hy x
theorem dotC_nu (x : Dot) : ∀ c ∈ dotC x, ∀ y, c ≠ .int .u8 y := by
 intro c hc y
 simp only [dotC, List.mem_cons, List.not_mem_nil, or_false] at hc
 rcases hc with rfl | rfl <;> exact fun h => by cases h
theorem itemC_nu (x : Itm) : ∀ c ∈ itemC x, ∀ y, c ≠ .int .u8 y := by
 intro c hc y
 simp only [itemC, dotC, keyC, List.cons_append, List.nil_append, List.mem_cons, List.not_mem_nil, or_false] at hc
 rcases hc with rfl | rfl | rfl | rfl | rfl <;> exact fun h => by cases h
theorem bEqual_ok {s : AS} {v w : AV} {a b : List Int} (ha : Byts s v a) (hb : Byts s w b) (ia : InB a) (ib : InB b) : ACalls Tryz.prog F_bytes_Equal [v, w] s fun r s' => s' = s ∧ r = .bool (decide (a = b)) := by
 refine q_bytes_Equal _ _ _ _ ⟨_, conv_strE ha, _, conv_strE hb, rfl, ?_⟩
 congr 1
 rw [Bool.eq_iff_iff, beq_iff_eq, decide_eq_true_eq]
 exact ⟨fun h => toB_inj ia ib h, fun h => by rw [h]⟩
structure OfS (s s' : AS) (p : Nat) (b : List Int) (x : OSet) (I : List Itm) : Prop where
 ok : OOk x 1000
 items : Items x I
 tomb : ∀ d, x.tomb d = false
 bytes : stateB x.v x.ex (liveI I) = b
 mem : ∃ F, SetF F s' p x ∧ (∀ y ∈ F, s.h y = none) ∧ ∀ y ∈ F, s'.h y ≠ none
theorem goods {v : List Int} {ex : List Dot} {L : List Itm} {x : OSet} (P : OfP v ex L x) (g : Good v ex L) (hris : Rising (L.map Itm.dot)) {I : List Itm} (hI : Items x I) : I = L :=
 iris_uniq hI.ris hris fun i => by rw [hI.mem, P.item g]
set_option maxRecDepth 100000 in
set_option maxHeartbeats 2000000 in
theorem viewsOf_ok {s : AS} {a : AV} {b : List Int} (hb : Byts s a b) (inb : InB b) (hn : b.length ≤ 2 ^ 20) (h1 : (decE b).length + (decL b).length ≤ 1000) :
  ACalls Tryz.prog F_views_Of [a] s fun r s' => Ext s s' ∧ ((r = .tup [.ptr none, .int .i64 4] ∧ ∀ v ex L, VIn v → OfOk v ex → Good v ex L → (∀ i ∈ L, ItemS i) → Rising (L.map Itm.dot) → ex.length < 2 ^ 30 → L.length < 2 ^ 30 → b ≠ stateB v ex L) ∨
   ∃ p x I, r = .tup [.ptr (some (p, 0)), .int .i64 0] ∧ OfS s s' p b x I) := by
 refine q_views_Of _ _ _ ?_
 refine ACalls.use (Read_ok hb inb (by omega)) ?_
 rintro v1 s2 ⟨p, rfl, hp, r2, e2⟩ w2
 refine ⟨_, rfl, ?_⟩
 refine ACalls.use (RVector_ok r2) ?_
 rintro v4 s5 ⟨rfl, m5, r5⟩ w5
 have hvl : (RO.vecR (some b)).length = 16 := vecN_len _ _
 refine ⟨_, rfl, NewSt w5 (by simp [hvl]) rfl (ints_one _ _) fun l7 s9 F9 => ?_⟩
 have E5 : Ext s s5 := Ext.wr e2 hp m5
 have E9 := E5.trans F9.ext
 have r9 : RdrAt s9 p (dec1 b) := r5.ext F9.ext
 have a9 : Am.Own s9 l7 ((decV b).map (.int .u64)) := F9.own
 have h7 : s.h l7 = none := E5.none F9.no
 have h7p : l7 ≠ p := by rintro rfl; exact r5.there F9.no
 have inV : VIn (decV b) := vecR_in (o := some b) fun B hB => by obtain rfl := Option.some.inj hB; exact inb
 refine ⟨fun vs s' => ∃ v, vs = [v] ∧ WFs s' ∧ Ext s s' ∧ Gro dotC 2 s' v (decE b) ∧ (∀ la ∈ labOf v, s.h la = none ∧ la ≠ p ∧ la ≠ l7) ∧ RdrAt s' p (dec2 b) ∧ Am.Own s' l7 ((decV b).map (.int .u64)), ?_, ?_⟩
 rotate_left
 ·
  refine ACalls.use (Number_ok r9 (k := 4) (by omega)) ?_
  rintro v82 s83 ⟨rfl, m83, r83⟩ w83
  have E83 : Ext s s83 := Ext.wr E9 hp m83
  have a83 := a9.mut m83 (by simpa using h7p)
  have hN := numR_in r9.inb 4
  obtain ⟨N, hNe⟩ := Int.eq_ofNat_of_zero_le hN.1
  refine ⟨_, rfl, fun m vs s' => ∃ (k : Nat) (v : AV) (l : List Dot) (o : RO), vs = [v, .int .u64 (k : Nat)] ∧ k = m ∧ k ≤ N ∧ WFs s' ∧ GroN dotC 2 [p] s83 s' v l ∧ RdrAt s' p o ∧ dotsR N ((dec1 b).left 4) = (l ++ (dotsR k o).1, (dotsR k o).2), N, ⟨N, _, [], _, by rw [hNe], rfl, Nat.le_refl _, w83, GroN.nil, r83, by simp⟩, ?_⟩
  have hE : ∀ l x o, dotsR N ((dec1 b).left 4) = (l ++ x, o) → decE b = l ++ x ∧ dec2 b = o := by
   intro l x o h
   have eN : ((dec1 b).numR 4).toNat = N := by rw [hNe, Int.toNat_natCast]
   exact ⟨by rw [decE, eN, h], by rw [dec2, eN, h]⟩
  rintro m v88 n89 s90 ⟨k, v, l, o, hin, rfl, hkN, w90, g90, r90, hd⟩
  simp only [List.cons.injEq, AV.int.injEq, true_and, and_true] at hin
  obtain ⟨rfl, rfl⟩ := hin
  have hlab : ∀ {s' : AS} {v : AV} {l : List Dot}, GroN dotC 2 [p] s83 s' v l → ∀ la ∈ labOf v, s.h la = none ∧ la ≠ p ∧ la ≠ l7 := by
   intro s' v l g la hla
   have := g.new la hla
   refine ⟨E83.none this, ?_, ?_⟩
   ·rintro rfl; exact r83.there this
   ·rintro rfl; rw [a83] at this; cases this
  have out : (dotsR k o).1 = [] → dec2 b = o → ∃ v, [v88] = [v] ∧ WFs s90 ∧ Ext s s90 ∧ Gro dotC 2 s90 v (decE b) ∧ (∀ la ∈ labOf v, s.h la = none ∧ la ≠ p ∧ la ≠ l7) ∧ RdrAt s90 p (dec2 b) ∧ Am.Own s90 l7 ((decV b).map (.int .u64)) := by
   intro h1 h2
   refine ⟨v88, rfl, w90, Ext.wr E83 hp g90.chg, ?_, hlab g90, by rw [h2]; exact r90, a83.mut g90.chg (by simpa using h7p)⟩
   have := (hE _ _ _ hd).1
   rw [h1, List.append_nil] at this
   rw [this]; exact g90.gro
  refine bsplit.dec (fun hk => ?_) (fun hk => ?_)
  rotate_left
  ·obtain rfl : k = 0 := by omega
   exact out rfl (hE _ _ _ hd).2
  refine ACalls.use (Failed_ok r90) ?_
  rintro v91 s92 ⟨rfl, rfl⟩ w92
  refine ⟨_, rfl, ?_⟩
  cases o with
  | none =>
   refine bsplit.no rfl ?_
   have h2 := (hE _ _ _ hd).2
   rw [dotsR_none] at h2
   exact out (by rw [dotsR_none]) h2
  | some B =>
   refine bsplit.yes rfl ?_
   obtain ⟨k', rfl⟩ : ∃ k', k = k' + 1 := ⟨k - 1, by omega⟩
   refine ACalls.use (RDot_ok r90) ?_
   rintro v94 s95 ⟨rfl, m95, r95⟩ w95
   have hM : ∀ x ∈ [p], s83.h x ≠ none := by intro x hx; obtain rfl := List.mem_singleton.1 hx; exact r83.there
   have g95 := g90.wr hM m95
   have hl := decE_len b
   have hd1 := (hE _ _ _ hd).1
   have hll : l.length ≤ (decE b).length := by rw [hd1]; simp
   refine ⟨_, rfl, ?_⟩
   refine GroN.append1 sl_s_Dot dotC_len dotC_one w95 g95 (by intro x hx; obtain rfl := List.mem_singleton.1 hx; exact r95.there) (RO.dotR (some B)) (by omega) fun v' s' g' w' m' => ?_
   refine ⟨k', by omega, k', v', _, RO.left (some B) 9, ?_, rfl, by omega, w', g', ?_, ?_⟩
   ·rw [show (((k' + 1 : Nat) : Int) - 1) = (k' : Nat) by omega, wrap_u (by omega)]
   ·exact r95.mut m' (fun hm => (hlab g95 p hm).2.1 rfl) (Gro.noB dotC_nu g95.gro)
   ·rw [hd]; simp [dotsR]
 rintro v11 s12 ⟨v, hv, w12, e12, g12, hla12, r12, a12⟩
 obtain rfl : v11 = v := by simpa using hv
 refine ⟨fun vs s' => ∃ v, vs = [v] ∧ WFs s' ∧ Ext s s' ∧ Sl itemC 5 s' v (decL b) ∧ Dots s' v11 (decE b) ∧ RdrAt s' p (dec3 b) ∧ Am.Own s' l7 ((decV b).map (.int .u64)), ?_, ?_⟩
 rotate_left
 ·
  refine ACalls.use (Number_ok r12 (k := 4) (by omega)) ?_
  rintro v36 s37 ⟨rfl, m37, r37⟩ w37
  have E37 : Ext s s37 := Ext.wr e12 hp m37
  have a37 := a12.mut m37 (by simpa using h7p)
  have g37 := g12.mut m37 (fun la hla => by simpa using (hla12 la hla).2.1)
  have hN := numR_in r12.inb 4
  obtain ⟨N, hNe⟩ := Int.eq_ofNat_of_zero_le hN.1
  refine ⟨_, rfl, fun m vs s' => ∃ (k : Nat) (v : AV) (l : List Itm) (o : RO), vs = [v, .int .u64 (k : Nat)] ∧ k = m ∧ k ≤ N ∧ WFs s' ∧ GroN itemC 5 [p] s37 s' v l ∧ RdrAt s' p o ∧ itemsR N ((dec2 b).left 4) = (l ++ (itemsR k o).1, (itemsR k o).2), N, ⟨N, _, [], _, by rw [hNe], rfl, Nat.le_refl _, w37, GroN.nil, r37, by simp⟩, ?_⟩
  have hE : ∀ l x o, itemsR N ((dec2 b).left 4) = (l ++ x, o) → decL b = l ++ x ∧ dec3 b = o := by
   intro l x o h
   have eN : ((dec2 b).numR 4).toNat = N := by rw [hNe, Int.toNat_natCast]
   exact ⟨by rw [decL, eN, h], by rw [dec3, eN, h]⟩
  rintro m v42 n43 s44 ⟨k, v, l, o, hin, rfl, hkN, w44, g44, r44, hd⟩
  simp only [List.cons.injEq, AV.int.injEq, true_and, and_true] at hin
  obtain ⟨rfl, rfl⟩ := hin
  have hnp : ∀ {s' : AS} {v : AV} {l : List Itm}, GroN itemC 5 [p] s37 s' v l → p ∉ labOf v := fun g hm => r37.there (g.new p hm)
  have out : (itemsR k o).1 = [] → dec3 b = o → ∃ v, [v42] = [v] ∧ WFs s44 ∧ Ext s s44 ∧ Sl itemC 5 s44 v (decL b) ∧ Dots s44 v11 (decE b) ∧ RdrAt s44 p (dec3 b) ∧ Am.Own s44 l7 ((decV b).map (.int .u64)) := by
   intro h1 h2
   refine ⟨v42, rfl, w44, Ext.wr E37 hp g44.chg, ?_, (g37.mut g44.chg fun la hla => by simpa using (hla12 la hla).2.1).sl dotC_len, by rw [h2]; exact r44, a37.mut g44.chg (by simpa using h7p)⟩
   have := (hE _ _ _ hd).1
   rw [h1, List.append_nil] at this
   rw [this]; exact g44.sl itemC_len
  refine bsplit.dec (fun hk => ?_) (fun hk => ?_)
  rotate_left
  ·obtain rfl : k = 0 := by omega
   exact out rfl (hE _ _ _ hd).2
  refine ACalls.use (Failed_ok r44) ?_
  rintro v45 s46 ⟨rfl, rfl⟩ w46
  refine ⟨_, rfl, ?_⟩
  cases o with
  | none =>
   refine bsplit.no rfl ?_
   have h2 := (hE _ _ _ hd).2
   rw [itemsR_none] at h2
   exact out (by rw [itemsR_none]) h2
  | some B =>
   refine bsplit.yes rfl ?_
   obtain ⟨k', rfl⟩ : ∃ k', k = k' + 1 := ⟨k - 1, by omega⟩
   refine ACalls.use (RDot_ok r44) ?_
   rintro v48 s49 ⟨rfl, m49, r49⟩ w49
   have hM : ∀ x ∈ [p], s37.h x ≠ none := by intro x hx; obtain rfl := List.mem_singleton.1 hx; exact r37.there
   have g49 := g44.wr hM m49
   refine ⟨_, rfl, NewSt w49 rfl rfl rfl fun l51 s53 F53 => ?_⟩
   have h51 : l51 ≠ p := by rintro rfl; exact r49.there F53.no
   refine ACalls.use (RBlob_ok (r49.ext F53.ext)) ?_
   rintro v54 s55 ⟨m55, r55, b55⟩ w55
   have g55 := (g49.step F53.ext).wr hM m55
   have a55 := F53.own.mut m55 (by simpa using h51)
   refine ⟨_, conv_strE b55, ?_⟩
   have hD : dotC (RO.dotR (some B)) ++ keyC ⟨toB (RO.left (some B) 9).blobR, toB (RO.left (some B) 9).blobL.blobR⟩ ++ [AV.bool false] = itemC (itemR (some B)) := rfl
   refine ⟨RX p, fun _ _ _ s => RdrAt s p (itemL (some B)), fun s => RdrAt s p (RO.left (some B) 9).blobL, fun n _ v s => (n = 4 → Wr s p ∧ Byts s v (RO.left (some B) 9).blobL.blobR) ∧ (n = 8 → ∃ la, v = .slc (some (la, 0)) 1 1 true ∧ la ≠ p ∧ At s la (itemC (itemR (some B)))), fun n _ v => (n = 5 → v = .str (toB (RO.left (some B) 9).blobL.blobR)) ∧ (n = 8 → ∃ la, v = .slc (some (la, 0)) 1 1 true), fun _ _ e => RX.ext e, fun _ _ _ => RX.trans, fun _ _ _ s s' e h => h.ext e, ?_, fun s s' e h => h.ext e, r55, ?_⟩
   ·rintro n ks v s s' hx ⟨g1, g2⟩
    refine ⟨fun hn => ⟨hx.2 (g1 hn).1, (g1 hn).2.mutN hx.1 fun q hq => by obtain rfl := List.mem_singleton.1 hq; exact (g1 hn).1.noB⟩, fun hn => ?_⟩
    obtain ⟨la, q1, q2, q3⟩ := g2 hn
    exact ⟨la, q1, q2, q3.mut hx.1 (by simpa using q2)⟩
   refine ⟨_, a55.at.rdc (by simp [dotC]), fun s57 x57 _ => ⟨_, (a55.mut x57.1 (by simpa using h51)).at.rdc (by simp [dotC]), rfl⟩, fun s60 x60 w60 _ hph => ?_, ⟨.undef, by simp⟩, fun v63 _ => ⟨fun s64 x64 w64 hS => ?_, ⟨_, fun _ => rfl, by simp⟩, fun v66 hv66 => ?_⟩⟩
   ·refine (RBlob_ok hph).mono ?_
    rintro r s62 ⟨m62, r62, b62⟩
    exact ⟨⟨⟨m62, fun _ => r62.wr⟩, r62⟩, ⟨fun _ => ⟨r62.wr, b62⟩, by simp⟩, by simp, by simp⟩
   ·exact ⟨_, conv_strE (hS.1.1 rfl).2, Ext.refl _, ⟨by simp, by simp⟩, fun _ => rfl, by simp⟩
   obtain rfl := hv66.1 rfl
   refine ⟨_, rfl, _, key_build _ _, _, ?_, fun s70 x70 w70 _ => ⟨_, absl_agg sl_s_Item (itemC_len (itemR (some B))) (itemC_one _), NewQ.intro w70 rfl fun l72 s73 F73 => ⟨F73.ext, ⟨by simp, fun _ => ⟨l72, rfl, ?_, F73.own.at⟩⟩, by simp, fun _ => ⟨l72, rfl⟩⟩⟩, ⟨.slc (some (0, 0)) 1 1 true, by simp, fun _ => ⟨0, rfl⟩⟩, fun v74 hv74 s75 x75 w75 hS hph => ?_⟩
   ·exact build_item _ _
   ·rintro rfl
    obtain ⟨C, ⟨g, ro, hC⟩, _⟩ := x70.2 r55.wr
    rw [F73.no] at hC; cases hC
   obtain ⟨la, rfl, hlp, hla⟩ := hS.2.2.1.2 rfl
   have r75 := hph
   have g75 := g55.wr hM x75.1
   have hl := decL_len b
   have hd1 := (hE _ _ _ hd).1
   have hll : l.length ≤ (decL b).length := by rw [hd1]; simp
   refine GroN.appendS sl_s_Item itemC_len itemC_one w75 g75 (by intro x hx; obtain rfl := List.mem_singleton.1 hx; exact r75.there) (xs := [itemR (some B)]) (SlAt.mk hla (by simp [itemC_len]) (by simpa using List.take_of_length_le (Nat.le_of_eq (itemC_len _)))) (by simp; omega) u_s_Item fun v' s' g' w' m' => ?_
   refine ⟨k', by omega, k', v', _, itemL (some B), ?_, rfl, by omega, w', g', ?_, ?_⟩
   ·rw [show (((k' + 1 : Nat) : Int) - 1) = (k' : Nat) by omega, wrap_u (by omega)]
   ·exact r75.mut m' (hnp g75) (Gro.noB itemC_nu g75.gro)
   ·rw [hd]; simp [itemsR]
 rintro v14 s15 ⟨v, hv, w15, e15, sL, sE, r15, a15⟩
 obtain rfl : v14 = v := by simpa using hv
 have hdec : ∀ v ex L, VIn v → OfOk v ex → (∀ i ∈ L, ItemS i) → ex.length < 2 ^ 30 → L.length < 2 ^ 30 → b = stateB v ex L → decV b = v ∧ decE b = ex ∧ decL b = L ∧ dec3 b = some [] := by
  intro v ex L g1 g2 g3 g4 g5 he
  rw [he]
  exact dec_state g1 (g2.ok g1).1.m g4 g3 g5
 refine ACalls.use (End_ok r15) ?_
 rintro v16 s17 ⟨rfl, rfl⟩ w17
 refine ⟨_, rfl, ?_⟩
 by_cases hend : dec3 b = some []
 rotate_left
 ·rw [if_neg hend]
  refine bsplit.yes rfl ⟨e15, .inl ⟨rfl, fun v ex L g1 g2 g3 g4 g5 g6 g7 he => ?_⟩⟩
  exact hend (hdec v ex L g1 g2 g4 g6 g7 he).2.2.2
 rw [if_pos hend]
 refine bsplit.no rfl ⟨_, a15.at.rdc (by simp [inV.len]), ?_⟩
 have ht : (((decV b).map (AV.int .u64)).drop 0).take 16 = (decV b).map (AV.int .u64) := by rw [List.drop_zero, List.take_of_length_le (by simp [inV.len])]
 rw [ht]
 refine ACalls.use (ctx_Of_ok inV sE (by omega)) ?_
 rintro v20 s21 ⟨e21, ⟨hno, rfl⟩ | ⟨hok, q, hq, rfl, hC, _⟩⟩ w21
 ·refine ⟨_, _, rfl, bsplit.yes rfl ⟨e15.trans e21, .inl ⟨rfl, fun v ex L g1 g2 g3 g4 g5 g6 g7 he => ?_⟩⟩⟩
  obtain ⟨d1, d2, _, _⟩ := hdec v ex L g1 g2 g4 g6 g7 he
  exact hno (by rw [d1, d2]; exact g2)
 obtain ⟨cok, gap⟩ := hok.ok inV
 refine ⟨_, _, rfl, bsplit.no rfl ?_⟩
 refine ACalls.use (Of_ok hC cok gap (by omega) (sL.ext e21) (by omega)) ?_
 rintro v24 s25 ⟨e25, ⟨hno, rfl⟩ | ⟨hg, pu, F, x, rfl, P, hS, hF1, hF2⟩⟩ w25
 ·refine ⟨_, _, rfl, fun vs s' => s' = s25 ∧ vs = [.bool true], ?_, bsplit.yes rfl ⟨rfl, rfl⟩⟩
  rintro b29 s30 ⟨rfl, hb⟩
  obtain rfl : b29 = true := by simpa using hb
  refine bsplit.yes rfl ⟨(e15.trans e21).trans e25, .inl ⟨rfl, fun v ex L g1 g2 g3 g4 g5 g6 g7 he => ?_⟩⟩
  obtain ⟨d1, d2, d3, _⟩ := hdec v ex L g1 g2 g4 g6 g7 he
  exact hno (by rw [d1, d2, d3]; exact g3)
 have E25 := (e15.trans e21).trans e25
 have oX : OOk x 1000 := (P.ok hg cok gap (B := (decE b).length + (decL b).length) ⟨decE b ++ (decL b).map Itm.dot, by simp, fun d hd => by simpa using hd⟩).mono h1
 refine ⟨_, _, rfl, fun vs s' => WFs s' ∧ Ext s25 s' ∧ ∃ I, Items x I ∧ vs = [.bool (!decide (stateB x.v x.ex (liveI I) = b))], ?_, bsplit.no rfl ?_⟩
 rotate_left
 ·refine ACalls.use (State_ok hS oX (by omega)) ?_
  rintro v31 s32 ⟨I, hI, hB, e32⟩ w32
  refine ACalls.use (bEqual_ok hB (hb.ext (E25.trans e32)) (stateB_in _ _ _) inb) ?_
  rintro v33 s34 ⟨rfl, rfl⟩ w34
  exact ⟨_, rfl, w34, e32, I, hI, rfl⟩
 rintro b29 s30 ⟨w30, e30, I, hI, hb'⟩
 obtain rfl : b29 = _ := by simpa using hb'
 refine bsplit.mk (fun h => ⟨E25.trans e30, .inl ⟨rfl, fun v ex L g1 g2 g3 g4 g5 g6 g7 he => ?_⟩⟩) (fun h => ⟨E25.trans e30, .inr ⟨pu, x, I, rfl, oX, hI, ?_, ?_, F, hS.ext e30, fun y hy => (e15.trans e21).none (hF1 y hy), fun y hy hn => hF2 y hy (e30.none hn)⟩⟩)
 ·obtain ⟨d1, d2, d3, _⟩ := hdec v ex L g1 g2 g4 g6 g7 he
  simp only [Bool.not_eq_true', decide_eq_false_iff_not] at h
  apply h
  rw [d3] at P hg
  obtain rfl := goods P hg g5 hI
  rw [P.v, P.ex, d1, d2, show liveI I = I from List.filter_eq_self.2 fun i hi => by simp [(g4 i hi).g]]
  exact he.symm
 ·intro d
  cases hq : x.tomb d with
  | false => rfl
  | true =>
   have := (P.tomb d).1 hq
   have hgone : ∀ (n : Nat) (o : RO), ∀ i ∈ (itemsR n o).1, i.gone = false := by
    intro n
    induction n with
    | zero => intro o i hi; cases hi
    | succ n ih =>
     intro o i hi
     cases o with
     | none => cases hi
     | some B =>
      rcases List.mem_cons.1 hi with rfl | hi
      ·rfl
      ·exact ih _ i hi
   have h2 := hgone _ _ _ this
   simp [goneI] at h2
 ·simpa using h
end Go.Proofs.YtoklmpkpeanloaaGreat
end

section
namespace Go.Proofs.YtoklmpkpeanloaaGreat
open Go.Am Go.Minster Go.Minster2
theorem all_may {l : List Itm} (h : l.all Itm.may = true) : ∀ i ∈ l, i.may = true := by simpa using h
end Go.Proofs.YtoklmpkpeanloaaGreat
end

section
namespace Go.Proofs.YtoklmpkpeanloaaGreat
open Go.Am Go.Minster Go.Minster2
def BigB (o : AO) : Prop := ∃ l : List Int, o = .cells (l.flatMap byC) 1 false ∧ 100 ≤ l.length
def XB (s s' : AS) : Prop := (∀ l o, s.h l = some o → s'.h l = some o ∨ BigB o) ∧ s.nl ≤ s'.nl
theorem XB.ext {s s' : AS} (e : Ext s s') : XB s s' := ⟨fun l o h => .inl (e.1 l o h), e.2⟩
theorem XB.trans {a b c : AS} (h : XB a b) (h' : XB b c) : XB a c := by
 refine ⟨fun l o ho => ?_, Nat.le_trans h.2 h'.2⟩
 rcases h.1 l o ho with h1 | h1
 ·exact h'.1 l o h1
 ·exact .inr h1
theorem XB.mut {s s' : AS} {v : AV} {l : List Int} (h : Gro byC 1 s v l) (hl : 100 ≤ l.length) (m : Mut (labOf v) s s') : XB s s' := by
 refine ⟨fun x o ho => ?_, m.2⟩
 by_cases hx : x ∈ labOf v
 ·rcases h with ⟨rfl, _⟩ | ⟨la, rfl, hla⟩
  ·simp at hl
  ·obtain rfl : x = la := by simpa [labOf] using hx
   rw [hla] at ho
   obtain rfl := Option.some.inj ho
   exact .inr ⟨l, rfl, hl⟩
 ·exact .inl (m.1 x o hx ho)
theorem XB.small {s s' : AS} {v : AV} {l : List Int} (x : XB s s') (h : Gro byC 1 s v l) (hl : l.length < 100) : Gro byC 1 s' v l := by
 rcases h with h | ⟨la, rfl, hla⟩
 ·exact .inl h
 ·rcases x.1 la _ hla with h1 | ⟨l', he, hl'⟩
  ·exact .inr ⟨la, rfl, h1⟩
  ·exfalso
   have := congrArg (fun o => match o with | AO.cells c _ _ => c.length | _ => 0) he
   simp only [by_len] at this
   omega
theorem XB.items {s s' : AS} {v : AV} {l : List Itm} (x : XB s s') (h : Gro itemC 5 s v l) : Gro itemC 5 s' v l := by
 rcases h with h | ⟨la, rfl, hla⟩
 ·exact .inl h
 ·rcases x.1 la _ hla with h1 | ⟨l', he, hl'⟩
  ·exact .inr ⟨la, rfl, h1⟩
  ·simp at he
theorem vix16 {l o i : Nat} (h : i < 16) : aindexAddr T Y_a16iuint64 (.ptr (some (l, o))) (.int .i64 (i : Nat)) = some (.ptr (some (l, o + i))) := by
 have := vix' (l := l) (o := o) (i := (i : Nat)) (by omega)
 rw [this]; simp
section
variable {s : AS}
set_option maxRecDepth 100000 in
set_option maxHeartbeats 1000000 in
theorem lawState_ok {G : List Nat} {q : Nat} {x : OSet} {B : Nat} (h : RefO G s q x) (o : OOk x B) (hB : B ≤ 1000) : ACalls Tryz.prog F_law19istate [.ptr (some (q, 0))] s fun v s' => ∃ I, Items x I ∧ Byts s' v (stateB x.v x.ex (liveI I)) ∧ Ext s s' := by
 have hexl := o.exlen
 have hvl := o.ok.v.len
 obtain ⟨_, _, w, iw, I0, a, ⟨b1, b2, b3⟩, _⟩ := id h
 have hlen : ∀ l : List Int, (l.flatMap fun n => bes n 8).length = l.length * 8 := fun l => flat_lenI (f := fun n => bes n 8) (n := 8) (fun n => bes_len n 8) l
 have hdl : ∀ l : List Dot, (l.flatMap dotB).length = l.length * 9 := fun l => flat_lenI dotB_len l
 refine ACalls.pre fun hw => q_law19istate _ _ _ ?_
 refine ⟨fun vs s' => ∃ v, vs = [v] ∧ WFs s' ∧ BytN s s' v (x.v.flatMap fun n => bes n 8), ?_, fun m vs s' => ∃ (i : Nat) (v : AV), vs = [v, .int .i64 (i : Nat)] ∧ i ≤ 16 ∧ i + m = 16 ∧ WFs s' ∧ BytN s s' v ((x.v.take i).flatMap fun n => bes n 8), 16, ⟨0, _, rfl, by omega, rfl, hw, by simpa using GroN.nil⟩, ?_⟩
 rotate_left
 ·rintro m v83 n84 s85 ⟨i, v, hin, hi, hm, w85, g85⟩
  simp only [List.cons.injEq, AV.int.injEq, true_and, and_true] at hin
  obtain ⟨rfl, rfl⟩ := hin
  refine bsplit.dec (fun hlt => ?_) (fun hge => ?_)
  ·obtain ⟨n, hn⟩ := get_lt (l := x.v) (i := i) (by omega)
   have step := List.take_add_one (l := x.v) (i := i)
   rw [hn, Option.toList_some] at step
   refine ⟨_, _, vix16 (by omega), n, ?_, ?_⟩
   ·rw [(a.ext g85.chg.ext).at.rd1, Nat.zero_add, List.getElem?_append_left (by simp; omega), List.getElem?_map, hn]; rfl
   refine ACalls.use (number_ok n 8 (by omega) s85) ?_
   rintro v91 s92 g92 w92
   refine byts_append w92 (g85.step g92.chg.ext) (by simp) (g92.sl byC_len) (by rw [bes_len, hlen]; have := List.length_take_le i x.v; omega) fun v' s' g' w' _ => ?_
   refine ⟨16 - (i + 1), by omega, i + 1, v', by rw [wrap_i (by omega)]; rfl, by omega, by omega, w', ?_⟩
   rw [step, List.flatMap_append]
   simpa using g'
  ·rw [List.take_of_length_le (by omega)] at g85
   exact ⟨_, rfl, w85, g85⟩
 rintro v2 s3 ⟨v, hv, w3, g3⟩
 obtain rfl : v2 = v := by simpa using hv
 have hq16 : ∀ {s' : AS}, Ext s s' → rd1 s' q (0 + 16) = some w := by
  intro s' e
  rw [(a.ext e).at.rd1]
  have : (x.v.map (AV.int .u64)).length = 16 := by simp [hvl]
  rw [List.getElem?_append_right (by omega), this]; rfl
 have sw : ∀ {s' : AS}, Ext s s' → Dots s' w x.ex := fun e => (b3.ext e).sl dotC_len
 refine ⟨w, hq16 g3.chg.ext, _, (sw g3.chg.ext).lenB u_s_Dot _, ?_⟩
 dsimp only
 rw [wrap_u (by omega)]
 refine ACalls.use (number_ok _ 4 (by omega) s3) ?_
 rintro v8 s9 g9 w9
 refine byts_append w9 (g3.step g9.chg.ext) (by simp) (g9.sl byC_len) (by rw [bes_len, hlen]; omega) fun v10 s11 g11 w11 _ => ?_
 have hHl : ((x.v.flatMap fun n => bes n 8) ++ bes (x.ex.length : Nat) 4).length = 132 := by rw [List.length_append, hlen, bes_len, hvl]
 generalize hHd : (x.v.flatMap fun n => bes n 8) ++ bes (x.ex.length : Nat) 4 = H at g11 hHl
 refine ⟨fun vs s' => ∃ v, vs = [v] ∧ WFs s' ∧ BytN s s' v (H ++ x.ex.flatMap dotB), ?_, fun m vs s' => ∃ (i : Nat) (v : AV), vs = [v, .int .i64 (i : Nat)] ∧ i ≤ x.ex.length ∧ i + m = x.ex.length ∧ WFs s' ∧ BytN s s' v (H ++ (x.ex.take i).flatMap dotB), x.ex.length, ⟨0, _, rfl, by omega, by omega, w11, by simpa using g11⟩, ?_⟩
 rotate_left
 ·rintro m v63 n64 s65 ⟨i, v, hin, hi, hm, w65, g65⟩
  simp only [List.cons.injEq, AV.int.injEq, true_and, and_true] at hin
  obtain ⟨rfl, rfl⟩ := hin
  have e65 := g65.chg.ext
  refine ⟨w, hq16 e65, _, (sw e65).lenB u_s_Dot _, bsplit.dec (fun hlt => ?_) (fun hge => ?_)⟩
  ·obtain ⟨d, hd⟩ := get_lt (l := x.ex) (i := i) (by omega)
   have step := List.take_add_one (l := x.ex) (i := i)
   rw [hd, Option.toList_some] at step
   obtain ⟨la, oa, k8, k9⟩ := (sw e65).ix (by decide) dotC_len u_s_Dot z_Dot hd
   refine ⟨w, hq16 e65, la, oa, k8 _, _, (k9 _ (Ext.refl _)).2, ?_⟩
   refine ACalls.use (lawDot_ok d s65) ?_
   rintro v76 s77 g77 w77
   refine byts_append w77 (g65.step g77.chg.ext) (by simp) (g77.sl byC_len) (by rw [dotB_len, List.length_append, hHl, hdl]; have := List.length_take_le i x.ex; omega) fun v' s' g' w' _ => ?_
   refine ⟨x.ex.length - (i + 1), by omega, i + 1, v', by rw [wrap_i (by omega)]; rfl, by omega, by omega, w', ?_⟩
   rw [step, List.flatMap_append, ← List.append_assoc]
   simpa using g'
  ·rw [List.take_of_length_le (by omega)] at g65
   exact ⟨_, rfl, w65, g65⟩
 rintro v13 s14 ⟨v, hv, w14, g14⟩
 obtain rfl : v13 = v := by simpa using hv
 refine ACalls.use (ref_Live_ok (h.ext g14.chg.ext) o hB) ?_
 rintro v15 s16 ⟨I, hI, g16⟩ w16
 have hIl := hI.len o
 have hLl : (liveI I).length ≤ I.length := List.length_filter_le _ _
 refine ⟨_, (g16.sl itemC_len).lenB u_s_Item _, ?_⟩
 dsimp only
 rw [wrap_u (by omega)]
 refine ACalls.use (number_ok _ 4 (by omega) s16) ?_
 rintro v18 s19 g19 w19
 have hAl : (H ++ x.ex.flatMap dotB).length ≤ 10000 := by rw [List.length_append, hHl, hdl]; omega
 refine byts_append w19 ((g14.step g16.chg.ext).step g19.chg.ext) (by simp) (g19.sl byC_len) (by rw [bes_len]; omega) fun v20 s21 g21 w21 m21 => ?_
 have hC1 : 100 ≤ (H ++ x.ex.flatMap dotB ++ bes ((liveI I).length : Nat) 4).length := by rw [List.length_append, List.length_append, hHl]; omega
 have hCl : (H ++ x.ex.flatMap dotB ++ bes ((liveI I).length : Nat) 4).length ≤ 10004 := by rw [List.length_append, bes_len]; omega
 have x21 : XB s19 s21 := XB.mut ((g14.step g16.chg.ext).step g19.chg.ext).gro (by rw [List.length_append, hHl]; omega) m21
 have hv15 : Gro itemC 5 s21 v15 (liveI I) := x21.items (g16.gro.ext g19.chg.ext)
 generalize hCd : H ++ x.ex.flatMap dotB ++ bes ((liveI I).length : Nat) 4 = D at g21 hC1 hCl
 have hk : ∀ j ∈ liveI I, j.dot.may = true ∧ j.key.t.length ≤ 32 ∧ j.key.d.length ≤ 32 := by
  intro j hj
  have h1 := ((liveI_mem hI j).1 hj).2
  obtain ⟨h2, h3⟩ := o.lv _ _ h1
  refine ⟨has_may h2, ?_⟩
  simp only [Key.may, nameOk, Bool.and_eq_true, decide_eq_true_eq] at h3
  omega
 have hil : ∀ l : List Itm, (∀ j ∈ l, j ∈ liveI I) → (l.flatMap itemB).length ≤ l.length * 77 := by
  intro l
  induction l with
  | nil => simp
  | cons a l ih =>
   intro hl
   have := ih fun j hj => hl j (by simp [hj])
   have h1 := hk a (hl a (by simp))
   simp only [List.flatMap_cons, List.length_append, List.length_cons, itemB, dotB_len, textB_len] at this ⊢
   omega
 refine ⟨fun m vs s' => ∃ (i : Nat) (v : AV), vs = [v, .int .i64 (i : Nat)] ∧ i ≤ (liveI I).length ∧ i + m = (liveI I).length ∧ WFs s' ∧ BytN s s' v (D ++ ((liveI I).take i).flatMap itemB) ∧ Gro itemC 5 s' v15 (liveI I), (liveI I).length, ⟨0, _, rfl, by omega, by omega, w21, by simpa using g21, hv15⟩, ?_⟩
 rintro m v25 n26 s27 ⟨i, v, hin, hi, hm, w27, g27, i27⟩
 simp only [List.cons.injEq, AV.int.injEq, true_and, and_true] at hin
 obtain ⟨rfl, rfl⟩ := hin
 refine ⟨_, (i27.sl itemC_len).lenB u_s_Item _, bsplit.dec (fun hlt => ?_) (fun hge => ?_)⟩
 rotate_left
 ·rw [List.take_of_length_le (by omega)] at g27
  refine ⟨I, hI, ?_, g27.chg.ext⟩
  have := g27.sl byC_len
  rw [← hCd, ← hHd] at this
  exact this
 obtain ⟨j, hj⟩ := get_lt (l := liveI I) (i := i) (by omega)
 obtain ⟨hjm, hjt, hjd⟩ := hk j (List.mem_of_getElem? hj)
 have step := List.take_add_one (l := liveI I) (i := i)
 rw [hj, Option.toList_some] at step
 obtain ⟨la, oa, k8, k9⟩ := (i27.sl itemC_len).ix (by decide) itemC_len u_s_Item z_Item hj
 have rdx : ∀ {s' : AS}, XB s27 s' → (∀ k, k < 5 → rd1 s' la (oa + k) = (itemC j)[k]?) ∧ rdc s' la oa 5 = some (itemC j) := by
  intro s' hx
  obtain ⟨la', oa', k8', k9'⟩ := ((hx.items i27).sl itemC_len).ix (by decide) itemC_len u_s_Item z_Item hj
  have e := (k8 .i64).symm.trans (k8' .i64)
  simp only [Option.some.injEq, AV.ptr.injEq, Prod.mk.injEq] at e
  obtain ⟨rfl, rfl⟩ := e
  exact k9' _ (Ext.refl _)
 have hD : 100 ≤ (D ++ ((liveI I).take i).flatMap itemB).length := by rw [List.length_append]; omega
 have hD2 : (D ++ ((liveI I).take i).flatMap itemB).length ≤ 90000 := by
  have := hil ((liveI I).take i) fun j hj => List.mem_of_mem_take hj
  have := List.length_take_le i (liveI I)
  rw [List.length_append]; omega
 have hstep : D ++ ((liveI I).take (i + 1)).flatMap itemB = D ++ ((liveI I).take i).flatMap itemB ++ dotB j.dot ++ textB j.key.t ++ textB j.key.d := by
  rw [step]; simp [itemB]
 generalize D ++ ((liveI I).take i).flatMap itemB = E at g27 hD hD2 hstep
 refine ⟨XB, fun n _ v s' => (n = 7 → BytN s s' v (E ++ dotB j.dot)) ∧ (n = 15 → BytN s s' v (E ++ dotB j.dot ++ textB j.key.t)), fun s' => BytN s s' v25 E, fun n _ v s' => (n = 6 → Gro byC 1 s' v (dotB j.dot)) ∧ (n = 14 → Gro byC 1 s' v (textB j.key.t)), fun _ _ _ => True, fun _ _ e => XB.ext e, fun _ _ _ => XB.trans, fun n k v s1 s2 e h => ⟨fun hn => (h.1 hn).step e, fun hn => (h.2 hn).step e⟩, fun n k v s1 s2 x h => ⟨fun hn => x.small (h.1 hn) (by rw [dotB_len]; omega), fun hn => x.small (h.2 hn) (by rw [textB_len]; omega)⟩, fun s1 s2 e h => h.step e, g27, ?_⟩
 have hd2 : ∀ {s' : AS}, XB s27 s' → rdc s' la oa 2 = some (dotC j.dot) := fun hx => rdc_pre (rdx hx).2 (by decide)
 refine ⟨la, oa, k8 _, _, hd2 (XB.ext (Ext.refl _)), fun s31 x31 _ => ⟨_, hd2 x31, rfl⟩, fun s34 x34 w34 _ => ?_, ⟨.undef, trivial⟩, fun v37 _ => ⟨fun s38 x38 w38 hS g38 => ?_, ⟨.undef, trivial⟩, fun v41 _ => ?_⟩⟩
 ·refine (lawDot_ok j.dot s34).mono ?_
  intro v35 s36 g
  exact ⟨g.chg.ext, ⟨fun _ => g.gro, by simp⟩, trivial⟩
 ·refine byts_append w38 g38 (by simp) ((hS.1.1 rfl).sl byC_len) (by rw [dotB_len]; omega) fun v' s' g' w' m' => ⟨⟨XB.mut g38.gro hD m', fun _ => g', by simp⟩, ⟨by simp, by simp⟩, trivial⟩
 refine ⟨la, oa, k8 _, j.key.t, by rw [(rdx (XB.ext (Ext.refl _))).1 2 (by decide)]; rfl, fun s44 x44 _ => ⟨j.key.t, by rw [(rdx x44).1 2 (by decide)]; rfl, rfl⟩, fun s47 x47 w47 _ => ?_, ⟨.undef, trivial⟩, fun v50 _ => ⟨fun s51 x51 w51 hS g51 => ?_, ⟨.undef, trivial⟩, fun v54 _ => ?_⟩⟩
 ·refine (lawText_ok j.key.t (by omega) s47).mono ?_
  intro v48 s49 g
  exact ⟨g.chg.ext, ⟨by simp, fun _ => g.gro⟩, trivial⟩
 ·have g51 := g51.1 rfl
  refine byts_append w51 g51 (by simp) ((hS.2.2.1.2 rfl).sl byC_len) (by rw [textB_len, List.length_append, dotB_len]; omega) fun v' s' g' w' m' => ⟨⟨XB.mut g51.gro (by rw [List.length_append]; omega) m', by simp, fun _ => g'⟩, ⟨by simp, by simp⟩, trivial⟩
 refine ⟨la, oa, k8 _, j.key.d, by rw [(rdx (XB.ext (Ext.refl _))).1 3 (by decide)]; rfl, fun s57 x57 _ => ⟨j.key.d, by rw [(rdx x57).1 3 (by decide)]; rfl, rfl⟩, fun s60 x60 w60 hS g60 => ?_⟩
 have g60 := g60.2 rfl
 refine ACalls.use (lawText_ok j.key.d (by omega) s60) ?_
 rintro v61 s62 g62 w62
 have g62' := g60.step g62.chg.ext
 refine byts_append w62 g62' (by simp) (g62.sl byC_len) (by rw [textB_len, List.length_append, List.length_append, dotB_len, textB_len]; omega) fun v' s' g' w' m' => ?_
 have x64 : XB s27 s' := (x60.trans (XB.ext g62.chg.ext)).trans (XB.mut g62'.gro (by rw [List.length_append, List.length_append]; omega) m')
 refine ⟨(liveI I).length - (i + 1), by omega, i + 1, v', by rw [wrap_i (by omega)]; rfl, by omega, by omega, w', ?_, x64.items i27⟩
 rw [hstep]; exact g'
end
end Go.Proofs.YtoklmpkpeanloaaGreat
end

section
namespace Go.Proofs.YtoklmpkpeanloaaGreat
open Go.Am Go.Minster Go.Minster2
noncomputable def OSet.its (x : OSet) : List Itm := Classical.epsilon fun I => Items x I
theorem its_eq {x : OSet} {I : List Itm} (h : Items x I) : x.its = I := (Classical.epsilon_spec (p := fun I => Items x I) ⟨I, h⟩).uniq h
noncomputable def stB (x : OSet) : List Int := stateB x.v x.ex (liveI x.its)
theorem stB_eq {x : OSet} {I : List Itm} (h : Items x I) : stateB x.v x.ex (liveI I) = stB x := by rw [stB, its_eq h]
theorem stB_in (x : OSet) : InB (stB x) := stateB_in _ _ _
theorem stB_ne (x : OSet) : stB x ≠ [] := by
 intro h
 have := congrArg List.length h
 simp only [stB, stateB, List.length_append, bes_len, List.length_nil] at this
 omega
theorem liveI_same {x y : OSet} (hl : y.live = x.live) {I J : List Itm} (hI : Items x I) (hJ : Items y J) : liveI J = liveI I := by
 refine iris_uniq (List.Pairwise.sublist (List.Sublist.map _ List.filter_sublist) hJ.ris) (List.Pairwise.sublist (List.Sublist.map _ List.filter_sublist) hI.ris) fun i => ?_
 rw [liveI_mem hI, liveI_mem hJ, hl]
theorem liveI_good {x : OSet} {B : Nat} (o : OOk x B) {I : List Itm} (h : Items x I) : Good x.v x.ex (liveI I) ∧ Rising ((liveI I).map Itm.dot) := by
 have hr : Rising ((liveI I).map Itm.dot) := List.Pairwise.sublist (List.Sublist.map _ List.filter_sublist) h.ris
 refine ⟨⟨fun j hj => ?_, rising_nodup hr⟩, hr⟩
 obtain ⟨h1, h2⟩ := (liveI_mem h j).1 hj
 obtain ⟨h3, h4⟩ := o.lv _ _ h2
 exact ⟨by simp [Itm.may, has_may h3, h1, h4], h3⟩
theorem stB_len {x : OSet} {B : Nat} (o : OOk x B) (hB : B ≤ 1000) {I : List Itm} (h : Items x I) : (stB x).length ≤ 2 ^ 20 := by
 have hexl := o.exlen
 have hIl := h.len o
 have hLl : (liveI I).length ≤ I.length := List.length_filter_le _ _
 rw [← stB_eq h]
 have hk : ∀ j ∈ liveI I, j.key.t.length ≤ 32 ∧ j.key.d.length ≤ 32 := by
  intro j hj
  have h1 := ((liveI_mem h j).1 hj).2
  obtain ⟨h2, h3⟩ := o.lv _ _ h1
  simp only [Key.may, nameOk, Bool.and_eq_true, decide_eq_true_eq] at h3
  omega
 have hil : ∀ l : List Itm, (∀ j ∈ l, j ∈ liveI I) → (l.flatMap itemB).length ≤ l.length * 77 := by
  intro l
  induction l with
  | nil => simp
  | cons a l ih =>
   intro hl
   have := ih fun j hj => hl j (by simp [hj])
   have h1 := hk a (hl a (by simp))
   simp only [List.flatMap_cons, List.length_append, List.length_cons, itemB, dotB_len, textB_len] at this ⊢
   omega
 have h1 := hil (liveI I) fun j hj => hj
 have h2 : (x.v.flatMap fun n => bes n 8).length = x.v.length * 8 := flat_lenI (f := fun n => bes n 8) (n := 8) (fun n => bes_len n 8) x.v
 have h3 : (x.ex.flatMap dotB).length = x.ex.length * 9 := flat_lenI dotB_len x.ex
 have h4 := o.ok.v.len
 simp only [stateB, List.length_append, bes_len, h2, h3, h4]
 omega
theorem itm_may_bad {l : List Itm} (h : ¬ l.all Itm.may = true) : ¬ ∀ i ∈ l, i.may = true := fun hh => h (by simpa using hh)
set_option maxRecDepth 100000 in
set_option maxHeartbeats 2000000 in
theorem viewsStates_ok {s : AS} {lv cv : AV} {l : List Itm} {ds : List Dot} (hl : Sl itemC 5 s lv l) (hd : Dots s cv ds) : ACalls Tryz.prog F_law19iViewsStates [lv, cv] s fun r s' => r = .bool true := by
 refine ACalls.pre fun hw => q_law19iViewsStates _ _ _ _ ?_
 refine ⟨fun vs s' => s' = s ∧ ∃ b, vs = [.bool b] ∧ (b = false → l.length ≤ 150 ∧ ds.length ≤ 150), ?_, ?_⟩
 rotate_left
 ·exact ⟨_, hl.lenB u_s_Item _, bsplit.dec (fun _ => ⟨rfl, _, rfl, by simp⟩) (fun h1 => ⟨_, hd.lenB u_s_Dot _, rfl, _, rfl, fun h2 => ⟨by omega, by simp at h2; omega⟩⟩)⟩
 rintro b s3 ⟨rfl, b', hb', hsm⟩
 obtain rfl : b = b' := by simpa using hb'
 refine bsplit.mk (fun hb => kn19 _) (fun hb => ?_)
 obtain ⟨hn1, hn2⟩ := hsm hb
 by_cases hm : l.all Itm.may = true
 rotate_left
 ·refine ACalls.use (Function_bad hl (by omega) (itm_may_bad hm)) ?_
  rintro v7 s8 ⟨rfl, e8⟩ w8
  refine ⟨_, _, rfl, ?_⟩
  refine ACalls.use (may19_ok (hl.ext e8) (by omega)) ?_
  rintro v11 s12 ⟨rfl, e12⟩ w12
  refine ⟨_, rfl, bsplit.yes (by simpa using hm) (bsplit.yes rfl ⟨_, aeqPtrNil u_p_orset_Set _, bsplit.yes rfl (kn19 _)⟩)⟩
 refine ACalls.use (Function_ok hl (by omega) (all_may hm)) ?_
 rintro v7 s8 ⟨p, F, x, rfl, hx, S1, e8⟩ w8
 refine ⟨_, _, rfl, ?_⟩
 refine ACalls.use (may19_ok (hl.ext e8) (by omega)) ?_
 rintro v11 s12 ⟨rfl, e12⟩ w12
 refine ⟨_, rfl, bsplit.no (by simpa using hm) ⟨_, build_ref7, by decide, NewQ.intro w12 rfl fun q s20 F20 => ?_⟩⟩
 have E12 := e8.trans e12
 have R20 : RefN s12 s20 q OSet.zero := RefN.zero w12 F20
 refine ⟨fun vs s' => vs = [] ∧ WFs s' ∧ RefN s12 s' q (OSet.zero.sees l).2, ?_, sees_loop (J := fun vs s' => vs = [] ∧ WFs s' ∧ RefN s12 s' q (OSet.zero.sees l).2) (hl.ext E12) (by omega) (all_may hm) F20.wf R20 fun s' w R => ⟨rfl, w, R⟩⟩
 rintro s22 ⟨_, w22, R22⟩
 rw [← hx] at R22
 have P22 : Pair2 s3 s22 p q x x l.length := by
  obtain ⟨e22, G, h2, h3, h4⟩ := R22
  refine ⟨E12.trans e22, F, G, (S1.ext e12).ext e22, h2, fun z hz => E12.none (h3 z hz), h4, fun z hz hg => ?_⟩
  have := (S1.ext e12).there z hz
  exact this (h3 z hg)
 have o1 := S1.ok
 have hN1 : stB x ≠ [] := stB_ne x
 refine ⟨fun n _ v s' => (n = 4 → Byts s' v (stB x) ∧ ∃ I, Items x I) ∧ (n = 7 → Byts s' v (stB x)), fun n _ v => (n = 5 ∨ n = 8) → v = .str (toB (stB x)), fun n _ v s1 s2 e h => ⟨fun hn => ⟨(h.1 hn).1.ext e, (h.1 hn).2⟩, fun hn => (h.2 hn).ext e⟩, bsplit.no rfl ⟨fun s25 e25 w25 _ => ?_, ⟨.undef, by simp⟩, fun v28 _ => ⟨fun s29 e29 w29 hS => ⟨_, conv_str (hS.1.1 rfl).1 hN1, Ext.refl _, ⟨by simp, by simp⟩, fun _ => rfl⟩, ⟨_, fun _ => rfl⟩, fun v31 hv31 => ?_⟩⟩⟩
 ·obtain ⟨e, F', G', A, R, _, _, _⟩ := P22.ext e25
  refine (State_ok A.set A.ok (by omega)).mono ?_
  rintro v s'' ⟨I, hI, hb, e''⟩
  rw [stB_eq hI] at hb
  exact ⟨e'', ⟨fun _ => ⟨hb, I, hI⟩, by simp⟩, by simp⟩
 obtain rfl := hv31 (.inl rfl)
 refine ⟨_, rfl, fun s33 e33 w33 _ => ?_, ⟨.undef, by simp⟩, fun v36 _ => ⟨fun s37 e37 w37 hS => ⟨_, conv_str (hS.2.1.2 rfl) hN1, Ext.refl _, ⟨by simp, by simp⟩, fun _ => rfl⟩, ⟨_, fun _ => rfl⟩, fun v39 hv39 => ?_⟩⟩
 ·obtain ⟨e, F', G', A, R, _, _, _⟩ := P22.ext e33
  refine (lawState_ok R o1 (by omega)).mono ?_
  rintro v s'' ⟨I, hI, hb, e''⟩
  rw [stB_eq hI] at hb
  exact ⟨e'', ⟨by simp, fun _ => hb⟩, by simp⟩
 obtain rfl := hv39 (.inr rfl)
 refine ⟨_, rfl, fun s41 e41 w41 hS => bsplit.no (by simp) ?_⟩
 obtain ⟨_, I, hI⟩ := hS.1.1 rfl
 have P41 := P22.ext e41
 refine ⟨fun vs s' => vs = [] ∧ WFs s' ∧ ∃ x', Pair2 s3 s' p q x' x l.length ∧ x'.v = x.v ∧ x'.ex = x.ex ∧ x'.live = x.live, ?_, fun m vs s' => ∃ i : Nat, vs = [.int .i64 (i : Nat)] ∧ i ≤ ds.length ∧ i + m = ds.length ∧ WFs s' ∧ ∃ x', Pair2 s3 s' p q x' x l.length ∧ x'.v = x.v ∧ x'.ex = x.ex ∧ x'.live = x.live, ds.length, ⟨0, rfl, by omega, by omega, w41, x, P41, rfl, rfl, rfl⟩, ?_⟩
 rotate_left
 ·rintro m n s110 ⟨i, hin, hi, hmi, w110, x', P, g1, g2, g3⟩
  simp only [List.cons.injEq, AV.int.injEq, true_and, and_true] at hin
  subst hin
  have hd110 := hd.ext P.e
  refine ⟨_, hd110.lenB u_s_Dot _, bsplit.dec (fun hlt => ?_) (fun hge => ⟨rfl, w110, x', P, g1, g2, g3⟩)⟩
  obtain ⟨d, hdd⟩ := get_lt (l := ds) (i := i) (by omega)
  obtain ⟨la, oa, k8, k9⟩ := hd110.ix (by decide) dotC_len u_s_Dot z_Dot hdd
  refine ⟨la, oa, k8 _, _, (k9 _ (Ext.refl _)).2, ?_⟩
  refine ACalls.use (P.Collect d) ?_
  rintro v115 s116 ⟨x2, hx2, rfl, P2, _⟩ w116
  refine ⟨_, rfl, ds.length - (i + 1), by omega, i + 1, by rw [wrap_i (by omega)]; rfl, by omega, by omega, w116, x2, P2, ?_⟩
  rw [hx2]
  split
  ·exact ⟨g1, g2, g3⟩
  ·exact ⟨g1, g2, g3⟩
 rintro s44 ⟨_, w44, x', P44, g1, g2, g3⟩
 refine ⟨fun n _ v s' => (n = 1 ∨ n = 4) → Byts s' v (stB x), fun n _ v => (n = 2 ∨ n = 5) → v = .str (toB (stB x)), fun n _ v s1 s2 e h hn => (h hn).ext e, fun s45 e45 w45 _ => ?_, ⟨.undef, by simp⟩, fun v48 _ => ⟨fun s49 e49 w49 hS => ⟨_, conv_str (hS.1 (.inl rfl)) hN1, Ext.refl _, by simp, fun _ => rfl⟩, ⟨_, fun _ => rfl⟩, fun v51 hv51 => ?_⟩⟩
 ·obtain ⟨e, F', G', A, R, _, _, _⟩ := P44.ext e45
  refine (State_ok A.set A.ok (by omega)).mono ?_
  rintro v s'' ⟨J, hJ, hb, e''⟩
  rw [g1, g2, liveI_same g3 hI hJ, stB_eq hI] at hb
  exact ⟨e'', fun _ => hb, by simp⟩
 obtain rfl := hv51 (.inl rfl)
 refine ⟨_, rfl, fun s53 e53 w53 _ => ?_, ⟨.undef, by simp⟩, fun v56 _ => ⟨fun s57 e57 w57 hS => ⟨_, conv_str (hS.2.1 (.inr rfl)) hN1, Ext.refl _, by simp, fun _ => rfl⟩, ⟨_, fun _ => rfl⟩, fun v59 hv59 => ?_⟩⟩
 ·obtain ⟨e, F', G', A, R, _, _, _⟩ := P44.ext e53
  refine (lawState_ok R o1 (by omega)).mono ?_
  rintro v s'' ⟨I', hI', hb, e''⟩
  rw [stB_eq hI'] at hb
  exact ⟨e'', fun _ => hb, by simp⟩
 obtain rfl := hv59 (.inr rfl)
 refine ⟨_, rfl, fun s61 e61 w61 _ => bsplit.no (by simp) ?_⟩
 have P61 := P44.ext e61
 have hR : ∀ {s' : AS}, Ext s61 s' → ∃ G', RefO G' s' q x := fun e => by
  obtain ⟨_, F', G', A, R, _⟩ := P61.ext e
  exact ⟨G', R⟩
 obtain ⟨G1, R1⟩ := hR (Ext.refl _)
 refine ACalls.use (lawState_ok R1 o1 (by omega)) ?_
 rintro v63 s64 ⟨I', hI', hb64, e64⟩ w64
 rw [stB_eq hI'] at hb64
 have hexl := o1.exlen
 have hIl := hI.len o1
 have hLl : (liveI I).length ≤ I.length := List.length_filter_le _ _
 have hV : VIn x.v := ⟨o1.ok.v.len, fun n hn => by have := o1.ok.v.rng n hn; omega⟩
 have hdec := dec_state hV o1.ok.m (by omega) (liveS o1 hI) (by omega)
 rw [stB_eq hI] at hdec
 refine ACalls.use (viewsOf_ok hb64 (stB_in x) (stB_len o1 (by omega) hI) (by rw [hdec.2.1, hdec.2.2.1]; omega)) ?_
 obtain ⟨hg, hr⟩ := liveI_good o1 hI
 rintro v65 s66 ⟨e66, ⟨rfl, hno⟩ | ⟨r, z, J, rfl, O⟩⟩ w66
 ·exact absurd (stB_eq hI).symm (hno x.v x.ex (liveI I) hV (ofOk o1.ok o1.gap) hg (liveS o1 hI) hr (by omega) (by omega))
 obtain ⟨Fz, hz, _, _⟩ := O.mem
 have hJl := O.items.len O.ok
 have hzx := O.ok.exlen
 have hzst : stB z = stB x := by rw [← stB_eq O.items, O.bytes]
 refine ⟨_, _, rfl, fun n _ v s' => (n = 10 ∨ n = 13) → Byts s' v (stB x), fun n _ v => ((n = 11 ∨ n = 14) → v = .str (toB (stB x))) ∧ (n = 4 → ∀ s', alenB T Y_s_Dot v s' = some (.int .i64 (0 : Nat))), fun n _ v s1 s2 e h hn => (h hn).ext e, bsplit.no rfl ⟨fun s71 e71 w71 _ => ?_, ⟨.slc none 0 0 true, by simp, fun _ s' => Sl.lenB u_s_Dot (f := dotC) (sz := 2) (s := s') Sl.nil s'⟩, fun v74 hv74 => ⟨_, hv74.2 rfl _, bsplit.no rfl ⟨fun s78 e78 w78 _ => ?_, ⟨.undef, by simp, by simp⟩, fun v81 _ => ⟨fun s82 e82 w82 hS => ⟨_, conv_str (hS.2.1 (.inl rfl)) hN1, Ext.refl _, by simp, fun _ => rfl, by simp⟩, ⟨_, fun _ => rfl, by simp⟩, fun v84 hv84 => ?_⟩⟩⟩⟩⟩
 ·refine (Tombs_ok (hz.ext e71) ?_).mono ?_
  ·have := (hz.bnd O.ok).1; omega
  rintro v s' ⟨L, hA, _, hL, _⟩
  have : L = [] := by
   cases L with
   | nil => rfl
   | cons d L =>
    have := (hL d).1 (by simp)
    rw [O.tomb d] at this; cases this
  subst this
  have hs := hA.dots
  exact ⟨hA.1, by simp, by simp, fun _ s'' => hs.lenB u_s_Dot s''⟩
 ·refine (State_ok (hz.ext e78) O.ok (by omega)).mono ?_
  rintro v s' ⟨J', hJ', hb, e'⟩
  rw [stB_eq hJ', hzst] at hb
  exact ⟨e', fun _ => hb, by simp, by simp⟩
 obtain rfl := hv84.1 (.inl rfl)
 refine ⟨_, rfl, fun s86 e86 w86 _ => ?_, ⟨.undef, by simp, by simp⟩, fun v89 _ => ⟨fun s90 e90 w90 hS => ⟨_, conv_str (hS.2.2.1 (.inr rfl)) hN1, Ext.refl _, by simp, fun _ => rfl, by simp⟩, ⟨_, fun _ => rfl, by simp⟩, fun v92 hv92 => ?_⟩⟩
 ·obtain ⟨G2, R2⟩ := hR (e64.trans (e66.trans e86))
  refine (lawState_ok R2 o1 (by omega)).mono ?_
  rintro v s'' ⟨I2, hI2, hb, e''⟩
  rw [stB_eq hI2] at hb
  exact ⟨e'', fun _ => hb, by simp, by simp⟩
 obtain rfl := hv92.1 (.inr rfl)
 refine ⟨_, rfl, fun s94 e94 w94 _ => bsplit.no (by simp) ?_⟩
 refine ACalls.use (Items_ok (hz.ext e94) O.ok (by omega)) ?_
 rintro v96 s97 ⟨J', hJ', sJ, e97⟩ w97
 obtain rfl := hJ'.uniq O.items
 obtain ⟨G3, R3⟩ := hR (e64.trans (e66.trans (e94.trans e97)))
 refine ACalls.use (ref_Live_ok R3 o1 (by omega)) ?_
 rintro v98 s99 ⟨I3, hI3, g99⟩ w99
 obtain rfl := hI3.uniq hI
 have hall : liveI J' = J' := by
  refine List.filter_eq_self.2 fun i hi => ?_
  have := (O.items.mem i).1 hi
  unfold OSet.item at this
  cases hgo : i.gone with
  | false => rfl
  | true => rw [hgo] at this; rw [O.tomb] at this; cases this.1
 have hEq : J' = liveI I3 := by
  have h1 := O.bytes
  rw [← stB_eq hI3] at h1
  have h2 := stateB_inj (fun n hn => by have := O.ok.ok.v.rng n hn; omega) (fun n hn => by have := o1.ok.v.rng n hn; omega) (by rw [O.ok.ok.v.len, o1.ok.v.len]) O.ok.ok.m o1.ok.m (by omega) (by omega) (liveS O.ok O.items) (liveS o1 hI3) (by rw [hall]; omega) (by omega) h1
  rw [hall] at h2
  exact h2.2.2
 refine ACalls.use (SameItems_ok (sJ.ext g99.chg.ext) (g99.sl itemC_len) (by omega)) ?_
 rintro v100 s101 ⟨rfl, rfl⟩ w101
 exact ⟨_, rfl, bsplit.yes (by simpa using hEq) (kn19 _)⟩
end Go.Proofs.YtoklmpkpeanloaaGreat
end
