/-
  A part of the proof: an abstract machine over the model, and contracts of functions of this program over it.
-/
import Derived.KernelRfl
import Derived.Test.YtoklmpkpeanloaaGreatP4
set_option linter.unusedVariables false
set_option linter.unusedSimpArgs false
set_option linter.unusedSectionVars false
section
namespace Go.Am
section
variable {T : TT} {t el : TypeId} {sz by_ : Nat} (ht : SlTy T t el sz by_)
include ht
end
end Go.Am
namespace Go.Proofs.YtoklmpkpeanloaaGreat
open Go.Am Go.Minster Go.Minster2
def byC (n : Int) : List AV := [.int .u8 n]
theorem byC_len (n : Int) : (byC n).length = 1 := rfl
theorem byC_one (n : Int) : (byC n).all AV.one = true := rfl
theorem sl_s_uint8 : SlTy T Y_s_uint8 Y_uint8 1 1 := ⟨u_s_uint8, z_uint8, b_uint8, ⟨_, _, zr_uint8, rfl, rfl⟩, by decide, by decide⟩
theorem by_len (l : List Int) : (l.flatMap byC).length = l.length * 1 := flat_len byC_len l
abbrev Byts (s : AS) (v : AV) (l : List Int) : Prop := Sl byC 1 s v l
abbrev BytN (s0 s : AS) (v : AV) (l : List Int) : Prop := GroN byC 1 [] s0 s v l
def BRoom (s : AS) (v : AV) (n : Nat) (l : List Int) (lo : Option Nat) : Prop :=
 match lo with
 | none => v = .slc none 0 0 true ∧ n = 0 ∧ l = []
 | some lo => v = .slc (some (lo, 0)) l.length n false ∧ l.length ≤ n ∧ ∃ rest, s.h lo = some (.cells (l.flatMap byC ++ rest) 1 false) ∧ rest.length = (n - l.length) * 1
theorem BRoom.app {s : AS} {v x : AV} {n : Nat} {l xs : List Int} {lo : Nat} (h : BRoom s v n l (some lo)) (hw : WFs s) (hx : Sl byC 1 s x xs) (hn : l.length + xs.length ≤ n) (hb : n ≤ 2 ^ 30)
  {K : AV → AS → Prop} (hk : ∀ v' s', BRoom s' v' n (l ++ xs) (some lo) → WFs s' → Mut [lo] s s' → K v' s') : Bd2 (aappend T Y_s_uint8 Y_s_uint8 v x s) K := by
 obtain ⟨rfl, hle, rest, hobj, hr⟩ := h
 obtain ⟨hsrc, hlen⟩ := SlAt.src sl_s_uint8 hx
 have e := aappend_core sl_s_uint8 (base := some (lo, 0)) (len := l.length) (cap := n) (ex := false) u_s_uint8 hlen hsrc (by rw [by_len]) (by omega)
 rw [if_pos hn] at e
 by_cases h0 : xs.flatMap byC = []
 ·have hxs : xs = [] := by
   have := congrArg List.length h0
   rw [by_len] at this
   exact List.length_eq_zero_iff.1 (by simp only [List.length_nil] at this; omega)
  subst hxs
  simp only [List.flatMap_nil, if_true] at e
  exact ⟨_, _, e, hk _ _ ⟨by simp, by simpa using hle, rest, by simpa using hobj, by simpa using hr⟩ hw (Mut.refl _ _)⟩
 ·simp only [if_neg h0] at e
  have hP := hw.put hobj (o := .cells (wrs (l.flatMap byC ++ rest) (0 + l.length * 1) (xs.flatMap byC)) 1 false) rfl
  have ea : awr s lo (0 + l.length * 1) (xs.flatMap byC) = some (s.put lo (.cells (wrs (l.flatMap byC ++ rest) (0 + l.length * 1) (xs.flatMap byC)) 1 false)) := by
   simp only [awr, hobj]
   rw [if_pos (by rw [List.length_append, by_len, by_len, hr]; omega)]
  rw [ea] at e
  refine ⟨_, _, e, hk _ _ ⟨by simp, by simpa using hn, rest.drop (xs.flatMap byC).length, ?_, ?_⟩ hP.wf hP.mut⟩
  ·rw [hP.at, Nat.zero_add, ← by_len l, wrs_app _ _ _ (by rw [by_len, hr]; omega), List.flatMap_append]
  ·rw [List.length_drop, by_len, hr, List.length_append]; omega
theorem BRoom.app' {s : AS} {v x : AV} {n : Nat} {l xs : List Int} {lo : Option Nat} (h : BRoom s v n l lo) (hw : WFs s) (hx : Sl byC 1 s x xs) (hn : l.length + xs.length ≤ n) (hb : n ≤ 2 ^ 30)
  {K : AV → AS → Prop} (hk : ∀ v' s', BRoom s' v' n (l ++ xs) lo → WFs s' → Mut lo.toList s s' → K v' s') : Bd2 (aappend T Y_s_uint8 Y_s_uint8 v x s) K := by
 cases lo with
 | some lo => exact BRoom.app h hw hx hn hb hk
 | none =>
  obtain ⟨rfl, rfl, rfl⟩ := h
  obtain rfl : xs = [] := by simpa using hn
  obtain ⟨hsrc, hlen⟩ := SlAt.src sl_s_uint8 hx
  have e := aappend_core sl_s_uint8 (base := none) (len := 0) (cap := 0) (ex := true) u_s_uint8 hlen hsrc (by simp) (by simp)
  simp only [List.length_nil, Nat.le_refl, if_true] at e
  exact ⟨_, _, e, hk _ _ ⟨rfl, rfl, rfl⟩ hw (Mut.refl _ _)⟩
theorem blit_append {s : AS} (hw : WFs s) {l0 : Nat} {i : Int} (h0 : At s l0 (byC i)) {v : AV} {l : List Int} (hl : Byts s v l) (hz : l ≠ []) (hb : l.length ≤ 2 ^ 29) {K : AV → AS → Prop} (hK : ∀ v' s', BytN s s' v' (i :: l) → WFs s' → K v' s') : Bd2 (aappend T Y_s_uint8 Y_s_uint8 (.slc (some (l0, 0)) 1 1 true) v s) K := by
 obtain ⟨hsrc, hlen⟩ := SlAt.src sl_s_uint8 hl
 have e := aappend_core sl_s_uint8 (base := some (l0, 0)) (len := 1) (cap := 1) (ex := true) u_s_uint8 hlen hsrc (by rw [flat_len byC_len]) (by omega)
 have h1 : Sl byC 1 s (.slc (some (l0, 0)) 1 1 true) [i] := SlAt.mk h0 (by simp [byC]) (by simp [byC])
 have hpos : 0 < l.length := List.length_pos_iff.2 hz
 rw [if_neg (by omega)] at e
 have hs1 := (SlAt.src sl_s_uint8 h1).1
 simp only [List.length_cons, List.length_nil, Nat.zero_add] at hs1
 rw [hs1] at e
 simp only [Option.bind_some, if_true] at e
 rw [show 1 + l.length = (i :: l).length by simp; omega] at e
 have Fr := hw.new (o := .cells ([i].flatMap byC ++ l.flatMap byC) 1 false) rfl
 refine ⟨_, _, e, hK _ _ ⟨.inr ⟨s.nl, rfl, ?_⟩, Fr.ext.mut, fun la hla => ?_⟩ Fr.wf⟩
 ·have := Fr.at
  simpa using this
 ·obtain rfl : la = s.nl := by simpa [labOf] using hla
  exact hw.none
def strB (t : List UInt8) : List Int := t.map fun c => (c.toNat : Int)
theorem strB_len (t : List UInt8) : (strB t).length = t.length := by simp [strB]
theorem strB_flat (t : List UInt8) : (strB t).flatMap byC = t.map fun c => AV.int .u8 c.toNat := by
 induction t with
 | nil => rfl
 | cons a t ih => simp only [strB, List.map_cons, List.flatMap_cons, byC] at ih ⊢; rw [ih]; rfl
def toB (l : List Int) : List UInt8 := l.map fun n => UInt8.ofNat n.toNat
theorem abytes_flat (l : List Int) : abytes (l.flatMap byC) = some (toB l) := by
 induction l with
 | nil => rfl
 | cons a l ih =>
  simp only [List.flatMap_cons, byC, List.cons_append, List.nil_append, abytes, ih, toB, List.map_cons, Option.map_some]
theorem conv_str {s : AS} {v : AV} {l : List Int} (h : Byts s v l) (hz : l ≠ []) : (aconvert T Y_s_uint8 Y_string v s).map (·.1) = some (.str (toB l)) := by
 have hp : 0 < l.length := List.length_pos_iff.2 hz
 rcases h with ⟨rfl, h2, h3⟩ | ⟨a, c, e, rfl, ⟨h1, h2⟩, h3⟩
 ·omega
 ·rcases h3 with h3 | ⟨la, o, C, rfl, hC, h3⟩
  ·omega
  ·have hn : o + l.length ≤ C.length := by
    have := congrArg List.length h3
    rw [List.length_take, List.length_drop, h1] at this
    omega
   have hr : rdc s la o l.length = some (l.flatMap byC) := by
    rw [hC.rdc hn, ← h3, Nat.mul_one]
   simp [aconvert, u_s_uint8, u_string, u_uint8, hr, abytes_flat]
/-! ### numbers -/
def byteAt (n : Int) (sh : Nat) : Int := IntKind.wrap .u8 (Int.fdiv n (2 ^ min sh (IntKind.bits .u64)))
def bes (n : Int) (k : Nat) : List Int := (List.range k).map fun i => byteAt n (8 * (k - 1 - i))
theorem bes_len (n : Int) (k : Nat) : (bes n k).length = k := by simp [bes]
theorem absl_byte (n : Int) : absl T Y_s_uint8 1 [(0, .int .u8 n)] = some [.int .u8 n] := absl_one sl_s_uint8 rfl rfl
theorem byte_append {M : List Nat} {s0 s : AS} (hw : WFs s) {v : AV} {l : List Int} (h : GroN byC 1 M s0 s v l) (hM : ∀ x ∈ M, s.h x ≠ none) (n : Int) (hb : l.length + 1 ≤ 2 ^ 30) {K : AV → AS → Prop} (hK : ∀ v' s', GroN byC 1 M s0 s' v' (l ++ [n]) → WFs s' → Mut (labOf v) s s' → K v' s') : RdL (absl T Y_s_uint8 1 [(0, .int .u8 n)]) fun g => NewQ (.cells g 0 false) s fun la s1 => Bd2 (aappend T Y_s_uint8 Y_s_uint8 v (.slc (some (la, 0)) 1 1 true) s1) K :=
 GroN.append1s (f := fun n : Int => AV.int .u8 n) sl_s_uint8 rfl (fun _ => rfl) hw h hM n hb hK
theorem byts_append {M : List Nat} {s0 s : AS} (hw : WFs s) {v x : AV} {l xs : List Int} (h : GroN byC 1 M s0 s v l) (hM : ∀ x ∈ M, s.h x ≠ none) (hx : Byts s x xs) (hb : l.length + xs.length ≤ 2 ^ 30) {K : AV → AS → Prop} (hK : ∀ v' s', GroN byC 1 M s0 s' v' (l ++ xs) → WFs s' → Mut (labOf v) s s' → K v' s') : Bd2 (aappend T Y_s_uint8 Y_s_uint8 v x s) K :=
 GroN.appendS sl_s_uint8 byC_len byC_one hw h hM hx hb u_s_uint8 hK
theorem Put_ok (n : Int) (k : Nat) (hk : 1 ≤ k ∧ k ≤ 8) (hn : k < 8 → Int.fdiv n (2 ^ min (8 * k) (IntKind.bits .u64)) = 0) (s : AS) :
  ACalls Tryz.prog F_wire_Put [.int .u64 n, .int .i64 (k : Nat)] s fun r s' => ∃ v, r = .tup [v, .int .i64 0] ∧ BytN s s' v (bes n k) := by
 refine ACalls.pre fun hw => q_wire_Put _ _ _ _ ⟨fun vs s' => vs = [.bool false] ∧ s' = s, ?_, bsplit.dec (fun h => absurd h (by omega)) (fun _ => bsplit.dec (fun h => absurd h (by omega)) (fun _ => bsplit.dec (fun h => ⟨?_, ?_, rfl⟩) (fun _ => ⟨rfl, rfl⟩)))⟩
 ·rintro b s3 ⟨hb, rfl⟩
  obtain rfl : b = false := by simpa using hb
  refine bsplit.no rfl ⟨fun vs s' => ∃ v, vs = [v] ∧ BytN s3 s' v (bes n k), ?_, fun m vs s' => ∃ (i : Nat) (v : AV), vs = [v, .int .i64 (i : Nat)] ∧ i ≤ k ∧ m = k - i ∧ WFs s' ∧ BytN s3 s' v ((List.range i).map fun j => byteAt n (8 * (k - 1 - j))), k, ⟨0, _, rfl, by omega, rfl, hw, by simpa using GroN.nil⟩, ?_⟩
  ·rintro v5 s6 ⟨v, hv, g⟩
   obtain rfl : v5 = v := by simpa using hv
   exact ⟨_, rfl, g⟩
  ·rintro m v10 n11 s12 ⟨i, v', hin, hi, rfl, w12, g12⟩
   simp only [List.cons.injEq, AV.int.injEq, true_and, and_true] at hin
   obtain ⟨rfl, rfl⟩ := hin
   refine bsplit.dec (fun hlt => ?_) (fun hge => ?_)
   ·have e1 : IntKind.wrap .i64 (8 * (IntKind.wrap .i64 ((IntKind.wrap .i64 ((k : Int) - 1)) - (i : Int)))) = ((8 * (k - 1 - i) : Nat) : Int) := by
     rw [wrap_i (n := (k : Int) - 1) (by omega), wrap_i (n := (k : Int) - 1 - i) (by omega), wrap_i (by omega)]; omega
    rw [e1]
    refine ⟨by omega, ?_⟩
    rw [Int.toNat_natCast]
    refine byte_append w12 g12 (by simp) (byteAt n (8 * (k - 1 - i))) (by simp; omega) fun v' s' g' w' _ => ?_
    refine ⟨k - (i + 1), by omega, i + 1, v', by rw [wrap_i (by omega)]; rfl, by omega, rfl, w', ?_⟩
    rw [List.range_succ, List.map_append]
    exact g'
   ·obtain rfl : i = k := by omega
    exact ⟨v10, rfl, g12⟩
 ·rw [wrap_i (by omega)]; omega
 ·rw [show IntKind.wrap .i64 (8 * (k : Int)) = ((8 * k : Nat) : Int) by rw [wrap_i (by omega)]; omega, Int.toNat_natCast, hn (by omega)]
  rfl
/-! ### dots, texts -/
def dotB (d : Dot) : List Int := IntKind.wrap .u8 d.r :: bes d.c 8
def textB (t : List UInt8) : List Int := bes (t.length : Nat) 2 ++ strB t
theorem dotB_len (d : Dot) : (dotB d).length = 9 := by simp [dotB, bes_len]
theorem textB_len (t : List UInt8) : (textB t).length = 2 + t.length := by simp [textB, bes_len, strB_len]
theorem bes_ne (n : Int) {k : Nat} (hk : 1 ≤ k) : bes n k ≠ [] := fun h => by have := congrArg List.length h; rw [bes_len] at this; simp at this; omega
theorem wireDot_ok (d : Dot) (hd : 0 ≤ d.r ∧ d.r ≤ 255) (s : AS) : ACalls Tryz.prog F_wire_Dot [.agg (dotC d)] s fun r s' => ∃ v, r = .tup [v, .int .i64 0] ∧ BytN s s' v (dotB d) := by
 refine ACalls.pre fun hw => q_wire_Dot _ _ _ ⟨rfl, NewQ.intro hw rfl fun l1 s2 F2 => ?_⟩
 have c2 := F2.own.at
 refine ⟨fun vs s' => vs = [.bool false] ∧ s' = s2, ?_, d.r, by rw [c2.rd1]; rfl, bsplit.dec (fun h => absurd h (by omega)) (fun _ => ⟨d.r, by rw [c2.rd1]; rfl, by simp; omega, rfl⟩)⟩
 rintro b s5 ⟨hb, rfl⟩
 obtain rfl : b = false := by simpa using hb
 refine bsplit.no rfl ⟨d.c, by rw [c2.rd1]; rfl, ?_⟩
 refine ACalls.use (Put_ok d.c 8 (by omega) (by omega) s5) ?_
 rintro r s8 ⟨v9, rfl, g8⟩ w8
 have e8 := g8.chg.ext
 refine ⟨_, _, rfl, d.r, by rw [(c2.ext e8).rd1]; rfl, _, absl_byte _, NewQ.intro w8 rfl fun l13 s14 F14 => ?_⟩
 refine blit_append F14.wf F14.own.at ((g8.sl byC_len).ext F14.ext) (bes_ne _ (by omega)) (by rw [bes_len]; omega) fun v' s' g' w' => ⟨v', rfl, ?_⟩
 exact ⟨g'.gro, (F2.ext.trans (e8.trans F14.ext)).mut.trans g'.chg, fun la hla => F2.ext.none (e8.none (F14.ext.none (g'.new la hla)))⟩
theorem small_shift {n : Nat} (h : n < 2 ^ 16) : Int.fdiv (n : Int) (2 ^ min (8 * 2) (IntKind.bits .u64)) = 0 := by
 rw [show min (8 * 2) (IntKind.bits .u64) = 16 from rfl]
 rw [Int.fdiv_eq_ediv_of_nonneg _ (by decide)]
 omega
theorem Blob_ok {s : AS} {v : AV} {l : List Int} (h : Byts s v l) (hn : l.length ≤ 65535) : ACalls Tryz.prog F_wire_Blob [v] s fun r s' => ∃ v, r = .tup [v, .int .i64 0] ∧ BytN s s' v (bes (l.length : Nat) 2 ++ l) := by
 refine ACalls.pre fun hw => q_wire_Blob _ _ _ ⟨_, h.lenB u_s_uint8 _, bsplit.dec (fun hh => absurd hh (by omega)) (fun _ => ⟨_, h.lenB u_s_uint8 _, ?_⟩)⟩
 dsimp only
 rw [wrap_u (by omega)]
 refine ACalls.use (Put_ok _ 2 (by omega) (fun _ => small_shift (by omega)) s) ?_
 rintro r s4 ⟨v5, rfl, g4⟩ w4
 refine ⟨_, _, rfl, ?_⟩
 exact byts_append w4 g4 (by simp) (h.ext g4.chg.ext) (by rw [bes_len]; omega) fun v' s' g' w' _ => ⟨v', rfl, g'⟩
end Go.Proofs.YtoklmpkpeanloaaGreat
end

section
namespace Go.Proofs.YtoklmpkpeanloaaGreat
open Go.Am Go.Minster Go.Minster2
theorem Grow_ok (N : Nat) (hN : N ≤ 2 ^ 28) (s : AS) : ACalls Tryz.prog F_slices_Grow__s_byte_byte [.slc none 0 0 true, .int .i64 (N : Nat)] s fun v s' => ∃ lo, BRoom s' v N [] lo ∧ Ext s s' ∧ ∀ l ∈ lo.toList, s.h l = none := by
 refine ACalls.pre fun hw => q_slices_Grow__s_byte_byte _ _ _ _ (bsplit.dec (fun h => absurd h (by omega)) (fun _ => ?_))
 refine ⟨0, by simp [acapB, u_s_uint8], 0, by simp [alenB, u_s_uint8], ?_⟩
 have e1 : IntKind.wrap .i64 ((N : Int) - (IntKind.wrap .i64 (0 - 0))) = (N : Nat) := by rw [show IntKind.wrap .i64 (0 - 0) = 0 from rfl, wrap_i (by omega)]; omega
 dsimp only
 rw [e1]
 refine bsplit.dec (fun hp => ?_) (fun hz => ?_)
 ·have hpos : 0 < N := by omega
  have ha : aappend T Y_s_uint8 Y_int (.slc none 0 0 true) (.int .i64 (N : Nat)) s = some (.slc (some (s.nl, 0)) N N false, s.new (.cells (rep N [.int .u8 0]) 1 false)) := by
   simp only [aappend, u_s_uint8, u_int, if_true, aappendZ, z_uint8, b_uint8, zr_uint8, Option.bind_some, acells, List.length_cons, List.length_nil, Int.toNat_natCast, Nat.zero_add]
   rw [show (if (AV.int IntKind.u8 0).cells.all AV.one = true then some (AV.int IntKind.u8 0).cells else none) = some [AV.int .u8 0] from rfl, Option.bind_some, if_neg (by simp only [List.length_cons, List.length_nil]; omega)]
   simp [asrc]
  have Fr := hw.new (o := .cells (rep N [.int .u8 0]) 1 false) rfl
  refine ⟨0, by simp [acapB, u_s_uint8], .slc none 0 0 true, by simp [aslice, u_s_uint8, z_uint8, abounds, aopt, ahigh, abound1], _, _, ha, 0, by simp [alenB, u_s_uint8], .slc (some (s.nl, 0)) 0 N false, ?_, some s.nl, ⟨rfl, by simp, rep N [.int .u8 0], by simpa using Fr.at, by simp [rep]⟩, Fr.ext, ?_⟩
  ·have : ¬ N = 0 := by omega
   simp [aslice, u_s_uint8, z_uint8, abounds, aopt, ahigh, abound1, this]
  ·intro l hl
   obtain rfl : l = s.nl := by simpa using hl
   exact hw.none
 ·obtain rfl : N = 0 := by omega
  exact ⟨none, ⟨rfl, rfl, rfl⟩, Ext.refl _, by simp⟩
abbrev prC : AV × List Int → List AV := fun p => [p.1]
theorem prC_len (p : AV × List Int) : (prC p).length = 1 := rfl
def lenS (L : List (AV × List Int)) : Nat := (L.map fun p => p.2.length).sum
theorem lenS_take {L : List (AV × List Int)} {i : Nat} {p : AV × List Int} (h : L[i]? = some p) : lenS (L.take (i + 1)) = lenS (L.take i) + p.2.length := by
 unfold lenS
 rw [List.take_add_one, h, Option.toList_some, List.map_append, List.sum_append]; simp
theorem lenS_le (L : List (AV × List Int)) (i : Nat) : lenS (L.take i) ≤ lenS L := by
 have : lenS L = lenS (L.take i) + lenS (L.drop i) := by
  unfold lenS
  rw [← List.sum_append, ← List.map_append, List.take_append_drop]
 omega
theorem lenS_flat (L : List (AV × List Int)) : (L.flatMap Prod.snd).length = lenS L := by simp [lenS, List.length_flatMap]
theorem Concat_ok {s : AS} {a : AV} {L : List (AV × List Int)} (ha : Sl prC 1 s a L) (hL : ∀ p ∈ L, Byts s p.1 p.2) (hn : L.length ≤ 2 ^ 20) (hb : lenS L ≤ 2 ^ 28) : ACalls Tryz.prog F_slices_Concat__s_byte_byte [a] s fun v s' => BytN s s' v (L.flatMap Prod.snd) := by
 refine ACalls.pre fun hw => q_slices_Concat__s_byte_byte _ _ _ ⟨fun vs s' => s' = s ∧ vs = [.int .i64 (lenS L : Nat)], ?_, _, ha.lenB u_s__uint8 _, fun m vs s' => ∃ i : Nat, vs = [.int .i64 (lenS (L.take i) : Nat), .int .i64 (i : Nat)] ∧ i ≤ L.length ∧ m = L.length - i ∧ s' = s, L.length, ⟨0, by simp [lenS], by omega, rfl, rfl⟩, ?_⟩
 rotate_left
 ·rintro m n22 n23 s24 ⟨i, hin, hi, rfl, rfl⟩
  simp only [List.cons.injEq, AV.int.injEq, true_and, and_true] at hin
  obtain ⟨rfl, rfl⟩ := hin
  refine bsplit.dec (fun hlt => ?_) (fun hge => ?_)
  ·obtain ⟨p, hp⟩ := get_lt (l := L) (i := i) (by omega)
   obtain ⟨la, o, k8, k9⟩ := ha.ix (by decide) prC_len u_s__uint8 z_s_uint8 hp
   have hs := lenS_take hp
   have hle := lenS_le L (i + 1)
   refine ⟨la, o, k8 _, p.1, (k9 _ (Ext.refl _)).1 0 (by decide), _, (hL p (List.mem_of_getElem? hp)).lenB u_s_uint8 _, ?_⟩
   dsimp only
   rw [wrap_i (n := (lenS (L.take i) : Int) + p.2.length) (by omega)]
   refine bsplit.dec (fun h => absurd h (by omega)) (fun _ => ⟨L.length - (i + 1), by omega, i + 1, ?_, by omega, rfl, rfl⟩)
   rw [wrap_i (by omega), hs]; rfl
  ·rw [List.take_of_length_le (by omega)]
   exact ⟨rfl, rfl⟩
 rintro n2 s3 ⟨rfl, hn2⟩
 obtain rfl : n2 = (lenS L : Nat) := by simpa using hn2
 refine ACalls.use (Grow_ok (lenS L) hb s3) ?_
 rintro v4 s5 ⟨lo, hR, e5, hlo⟩ w5
 refine ⟨_, ha.lenB u_s__uint8 _, fun m vs s' => ∃ (i : Nat) (v : AV), vs = [v, .int .i64 (i : Nat)] ∧ i ≤ L.length ∧ m = L.length - i ∧ WFs s' ∧ Ext s3 s' ∧ BRoom s' v (lenS L) ((L.take i).flatMap Prod.snd) lo, L.length, ⟨0, v4, rfl, by omega, rfl, w5, e5, by simpa using hR⟩, ?_⟩
 rintro m v10 n11 s12 ⟨i, v', hin, hi, rfl, w12, e12, hR12⟩
 simp only [List.cons.injEq, AV.int.injEq, true_and, and_true] at hin
 obtain ⟨rfl, rfl⟩ := hin
 refine bsplit.dec (fun hlt => ?_) (fun hge => ?_)
 ·obtain ⟨p, hp⟩ := get_lt (l := L) (i := i) (by omega)
  obtain ⟨la, o, k8, k9⟩ := ha.ix (by decide) prC_len u_s__uint8 z_s_uint8 hp
  have hs := lenS_take hp
  have hle := lenS_le L (i + 1)
  have step := List.take_add_one (l := L) (i := i)
  rw [hp, Option.toList_some] at step
  refine ⟨la, o, k8 _, p.1, (k9 _ e12).1 0 (by decide), ?_⟩
  refine BRoom.app' hR12 w12 ((hL p (List.mem_of_getElem? hp)).ext e12) (by rw [lenS_flat]; omega) (by omega) fun v' s' hR' w' m' => ?_
  refine ⟨L.length - (i + 1), by omega, i + 1, v', by rw [wrap_i (by omega)]; rfl, by omega, rfl, w', Ext.wrL e12 hlo m', ?_⟩
  rw [step, List.flatMap_append]
  simpa using hR'
 ·rw [List.take_of_length_le (by omega)] at hR12
  cases lo with
  | none =>
   obtain ⟨rfl, hN, hl0⟩ := hR12
   rw [hl0]
   exact ⟨Gro.nil, e12.mut, by simp [labOf]⟩
  | some lo =>
   obtain ⟨rfl, _, rest, hobj, hr⟩ := hR12
   rw [lenS_flat, Nat.sub_self, Nat.zero_mul] at hr
   obtain rfl := List.length_eq_zero_iff.1 hr
   rw [List.append_nil] at hobj
   refine ⟨.inr ⟨lo, by rw [lenS_flat], hobj⟩, e12.mut, fun la hla => ?_⟩
   obtain rfl : la = lo := by simpa [labOf] using hla
   exact hlo la (by simp)
theorem Join_ok {s : AS} {a : AV} {L : List (AV × List Int)} (ha : Sl prC 1 s a L) (hL : ∀ p ∈ L, Byts s p.1 p.2) (hn : L.length ≤ 2 ^ 20) (hb : lenS L ≤ 2 ^ 28) : ACalls Tryz.prog F_wire_Join [a] s fun v s' => BytN s s' v (L.flatMap Prod.snd) := by
 refine q_wire_Join _ _ _ ?_
 refine (Concat_ok ha hL hn hb).mono ?_
 exact fun v s' h => h
theorem qstore_slc {s : AS} {l o : Nat} {a : Option (Nat × Nat)} {n c : Nat} {e : Bool} {K : AS → Prop} : qstore T Y_s_uint8 s l o (.slc a n c e) K = StQ (awr s l o [.slc a n c e]) K := by
 simp only [qstore, z_s_uint8]; rfl
/-! ### a variable that holds a row of bytes of one's own -/
structure OutV (s0 s : AS) (c : Nat) (l : List Int) : Prop where
 e : Ext s0 s
 cn : s0.h c = none
 mem : ∃ v, Am.Own s c [v] ∧ Gro byC 1 s v l ∧ ∀ la ∈ labOf v, s0.h la = none ∧ la ≠ c
section
variable {s0 s s' : AS} {c : Nat} {l : List Int}
theorem OutV.ext (h : OutV s0 s c l) (e : Ext s s') : OutV s0 s' c l := by
 obtain ⟨h1, h2, v, h3, h4, h5⟩ := h
 exact ⟨h1.trans e, h2, v, h3.ext e, h4.ext e, h5⟩
theorem State1_ok (h : OutV s0 s c l) {a : AV} {L : List (AV × List Int)} (ha : Sl prC 1 s a L) (hL : ∀ p ∈ L, Byts s p.1 p.2) (hn : L.length ≤ 2 ^ 20) (hb : l.length + lenS L ≤ 2 ^ 28) :
  ACalls Tryz.prog F_views_State_1 [a, .ptr (some (c, 0))] s fun r s' => r = .tup [] ∧ OutV s0 s' c (l ++ L.flatMap Prod.snd) := by
 obtain ⟨h1, h2, v, h3, h4, h5⟩ := h
 refine q_views_State_1 _ _ _ _ ⟨fun z _ v s' => Byts s' v (L.flatMap Prod.snd), fun _ _ _ => True, fun _ _ _ _ _ e h => h.ext e, v, by rw [h3.at.rd1]; rfl, fun s4 e4 w4 _ => ?_, ⟨.undef, trivial⟩, fun v7 _ s8 e8 w8 hS => ?_⟩
 ·refine (Join_ok (ha.ext e4) (fun p hp => (hL p hp).ext e4) hn (by omega)).mono ?_
  intro v5 s6 g
  exact ⟨g.chg.ext, g.sl byC_len, trivial⟩
 obtain ⟨v', s', k1, k2, k3, k4, k5⟩ := Gro.append sl_s_uint8 byC_len byC_one w8 (h4.ext e8) hS.1 (by rw [lenS_flat]; omega) u_s_uint8
 have c8 := h3.ext e8
 have hcl : c ∉ labOf v := fun hm => (h5 c hm).2 rfl
 have c9 : Am.Own s' c [v] := c8.mut k3 hcl
 refine ⟨v', s', k1, ?_⟩
 have hv1 : ∀ la ∈ labOf v', s0.h la = none ∧ la ≠ c := by
  intro la hla
  rcases k5 la hla with h6 | h6
  ·exact h5 la h6
  ·refine ⟨h1.none (e8.none h6), ?_⟩
   rintro rfl
   rw [c8] at h6; cases h6
 have E' : Ext s0 s' := Ext.wrL (h1.trans e8) (fun x hx => (h5 x hx).1) k3
 have fin : StQ (awr s' c 0 [v']) fun s14 => (AV.tup [] = AV.tup []) ∧ OutV s0 s14 c (l ++ L.flatMap Prod.snd) := by
  refine StQ.own k4 c9 (by simp) fun s14 P => ⟨rfl, Ext.wr E' h2 P.mut, h2, v', ?_, ?_, hv1⟩
  ·have := P.at
   exact this
  ·exact k2.mut P.mut fun la hla hm => (hv1 la hla).2 (by simpa using hm)
 show qstore T Y_s_uint8 s' c 0 v' _
 rcases k2 with ⟨_, a', rfl⟩ | ⟨la, rfl, _⟩
 ·rw [qstore_slc]; exact fin
 ·rw [qstore_slc]; exact fin
theorem OutV.get (h : OutV s0 s c l) : ∃ v, rd1 s c 0 = some v ∧ Byts s v l := by
 obtain ⟨h1, h2, v, h3, h4, h5⟩ := h
 exact ⟨v, by rw [h3.at.rd1]; rfl, h4.sl byC_len⟩
end
theorem State2_ok (d : Dot) (hd : 0 ≤ d.r ∧ d.r ≤ 255) (s : AS) : ACalls Tryz.prog F_views_State_2 [.agg (dotC d)] s fun v s' => BytN s s' v (dotB d) := by
 refine ACalls.pre fun hw => q_views_State_2 _ _ _ ⟨rfl, NewQ.intro hw rfl fun l1 s2 F2 => ⟨_, F2.own.at.rdc (by simp [dotC]), ?_⟩⟩
 refine ACalls.use (wireDot_ok d hd s2) ?_
 rintro r s5 ⟨v, rfl, g⟩ _
 exact ⟨_, _, rfl, g.gro, F2.ext.mut.trans g.chg, fun la hla => F2.ext.none (g.new la hla)⟩
theorem State3_ok (n : Nat) (hn : n < 2 ^ 30) (s : AS) : ACalls Tryz.prog F_views_State_3 [.int .i64 (n : Nat)] s fun v s' => BytN s s' v (bes (n : Nat) 4) := by
 refine q_views_State_3 _ _ _ ?_
 unfold Q_views_State_3
 rw [wrap_u (by omega)]
 refine (Put_ok _ 4 (by omega) (fun _ => ?_) s).mono ?_
 ·rw [show min (8 * 4) (IntKind.bits .u64) = 32 from rfl, Int.fdiv_eq_ediv_of_nonneg _ (by decide)]
  omega
 ·rintro r s2 ⟨v, rfl, g⟩
  exact ⟨_, _, rfl, g⟩
theorem State4_ok (i : Itm) (s : AS) : ACalls Tryz.prog F_views_State_4 [.agg (itemC i)] s fun v s' => v = .bool i.gone ∧ Ext s s' := by
 refine ACalls.pre fun hw => q_views_State_4 _ _ _ ⟨rfl, NewQ.intro hw rfl fun l1 s2 F2 => ⟨i.gone, by rw [F2.own.at.rd1]; rfl, rfl, F2.ext⟩⟩
theorem Vector_ok (v : List Int) (hv : v.length = 16) (s : AS) : ACalls Tryz.prog F_wire_Vector [.agg (v.map (.int .u64))] s fun r s' => BytN s s' r (v.flatMap fun n => bes n 8) := by
 refine ACalls.pre fun hw => q_wire_Vector _ _ _ ⟨?_, NewQ.intro hw rfl fun l1 s2 F2 => ⟨v.map (.int .u64), ?_, fun m vs s' => ∃ (i : Nat) (r : AV), vs = [r, .int .i64 (i : Nat)] ∧ i ≤ 16 ∧ m = 16 - i ∧ WFs s' ∧ BytN s2 s' r ((v.take i).flatMap fun n => bes n 8), 16, ⟨0, _, rfl, by omega, rfl, F2.wf, by simpa using GroN.nil⟩, ?_⟩⟩
 ·simp [List.all_eq_true, AV.one]
 ·rw [F2.own.at.rdc (by simp [hv])]
  simp [hv, List.take_of_length_le]
 ·rintro m v7 n8 s9 ⟨i, r, hin, hi, rfl, w9, g9⟩
  simp only [List.cons.injEq, AV.int.injEq, true_and, and_true] at hin
  obtain ⟨rfl, rfl⟩ := hin
  refine bsplit.dec (fun hlt => ?_) (fun hge => ?_)
  ·obtain ⟨n, hn⟩ := get_lt (l := v) (i := i) (by omega)
   have step := List.take_add_one (l := v) (i := i)
   rw [hn, Option.toList_some] at step
   refine ⟨n, ?_, ?_⟩
   ·rw [aix_vec hv (by omega), List.getD_eq_getElem?_getD, hn]; rfl
   refine ACalls.use (Put_ok n 8 (by omega) (by omega) s9) ?_
   rintro q s12 ⟨v13, rfl, g12⟩ w12
   have hlen : ((v.take i).flatMap fun n => bes n 8).length ≤ 16 * 8 := by
    rw [List.length_flatMap]
    have : (List.map (fun a => (bes a 8).length) (v.take i)) = List.map (fun _ => 8) (v.take i) := by simp [bes_len]
    rw [this, List.map_const', List.sum_replicate_nat, List.length_take]
    have : min i v.length ≤ 16 := by omega
    omega
   refine ⟨_, _, rfl, byts_append w12 (g9.step g12.chg.ext) (by simp) (g12.sl byC_len) (by rw [bes_len]; omega) fun v' s' g' w' _ => ?_⟩
   refine ⟨16 - (i + 1), by omega, i + 1, v', by rw [wrap_i (by omega)]; rfl, by omega, rfl, w', ?_⟩
   rw [step, List.flatMap_append]
   simpa using g'
  ·rw [List.take_of_length_le (by omega)] at g9
   exact ⟨g9.gro, F2.ext.mut.trans g9.chg, fun la hla => F2.ext.none (g9.new la hla)⟩
end Go.Proofs.YtoklmpkpeanloaaGreat
end

section
namespace Go.Proofs.YtoklmpkpeanloaaGreat
open Go.Am Go.Minster Go.Minster2
def itemB (i : Itm) : List Int := dotB i.dot ++ textB i.key.t ++ textB i.key.d
def stateB (v : List Int) (ex : List Dot) (L : List Itm) : List Int := (v.flatMap fun n => bes n 8) ++ bes (ex.length : Nat) 4 ++ ex.flatMap dotB ++ bes (L.length : Nat) 4 ++ L.flatMap itemB
theorem sl_one {v : AV} (h : v.one = true) : acells v = some [v] := by cases v <;> first | rfl | cases h
theorem absl_s1 {v : AV} (h : v.one = true) : absl T Y_s__uint8 1 [(0, v)] = some [v] := by
 simp [absl, u_s__uint8, z_s_uint8, zr_s_uint8, afill, wrs, sl_one h, sl_one (show (AV.slc none 0 0 true).one = true from rfl), rep]
theorem absl_s2 {v w : AV} (h : v.one = true) (h' : w.one = true) : absl T Y_s__uint8 2 [(0, v), (1, w)] = some [v, w] := by
 simp [absl, u_s__uint8, z_s_uint8, zr_s_uint8, afill, wrs, sl_one h, sl_one h', sl_one (show (AV.slc none 0 0 true).one = true from rfl), rep]
theorem absl_s3 {u v w : AV} (h0 : u.one = true) (h : v.one = true) (h' : w.one = true) : absl T Y_s__uint8 3 [(0, u), (1, v), (2, w)] = some [u, v, w] := by
 simp [absl, u_s__uint8, z_s_uint8, zr_s_uint8, afill, wrs, sl_one h0, sl_one h, sl_one h', sl_one (show (AV.slc none 0 0 true).one = true from rfl), rep]
theorem OutV.rebase2 {s0 s s' : AS} {c : Nat} {l : List Int} (h : OutV s0 s c l) (e : Ext s s') : ∃ L, OutV (s'.less L) s' c l ∧ (∀ y ∈ L, s0.h y = none) ∧ (∀ y ∈ L, s.h y ≠ none) ∧ Ext s0 (s'.less L) := by
 obtain ⟨h1, h2, v, h3, h4, h5⟩ := h
 have hn : ∀ y ∈ c :: labOf v, s0.h y = none := by
  intro y hy
  rcases List.mem_cons.1 hy with rfl | hy
  ·exact h2
  ·exact (h5 y hy).1
 refine ⟨c :: labOf v, ⟨s'.less_ext _, by rw [AS.less_h, if_pos (by simp)], v, h3.ext e, h4.ext e, fun la hla => ⟨by rw [AS.less_h, if_pos (by simp [hla])], (h5 la hla).2⟩⟩, hn, ?_, AS.less_of (h1.trans e) hn⟩
 intro y hy
 rcases List.mem_cons.1 hy with rfl | hy
 ·rw [h3]; simp
 ·exact h4.there y hy
theorem GroN.keepL {α : Type} {f : α → List AV} {sz : Nat} {s0 s : AS} {v : AV} {l : List α} {L : List Nat} (hf : ∀ x, (f x).length = sz) (h : GroN f sz [] s0 s v l) (hL : ∀ y ∈ L, s0.h y ≠ none) : Sl f sz (s.less L) v l :=
 (h.gro.mut (s.less_mut L) fun x hx hm => hL x hm (h.new x hx)).sl hf
theorem flat_lenI {α : Type} {f : α → List Int} {n : Nat} (h : ∀ x, (f x).length = n) : ∀ l : List α, (l.flatMap f).length = l.length * n
 | [] => by simp
 | a :: l => by rw [List.flatMap_cons, List.length_append, h, flat_lenI h l, List.length_cons, Nat.add_mul]; omega
theorem reg_ok {d : Dot} (h : d.may = true) : 0 ≤ d.r ∧ d.r ≤ 255 := by have := Dot.may_iff.1 h; omega
theorem conv_bytes {s : AS} (hw : WFs s) (t : List UInt8) {K : AV → AS → Prop} (hK : ∀ v s', Byts s' v (strB t) → Ext s s' → WFs s' → K v s') : Bd2 (aconvert T Y_string Y_s_uint8 (.str t) s) K := by
 have Fr := hw.new (o := .cells (t.map fun c => .int .u8 c.toNat) 1 false) rfl
 refine ⟨.slc (some (s.nl, 0)) t.length t.length false, s.new (.cells (t.map fun c => .int .u8 c.toNat) 1 false), by simp [aconvert, u_string, u_s_uint8, u_uint8], hK _ _ ?_ Fr.ext Fr.wf⟩
 have := SlAt.mk (s := s.new (.cells (t.map fun c => .int .u8 c.toNat) 1 false)) (la := s.nl) (o := 0) (n := t.length) (c := t.length) (e := false) (sz := 1) (cs := (strB t).flatMap byC) ⟨_, _, Fr.at⟩ (by rw [by_len, strB_len]) (by rw [strB_flat, List.drop_zero]; exact List.take_of_length_le (by simp)) (Nat.le_refl _)
 show SlAt _ _ _ _ (strB t).length
 rw [strB_len]; exact this
section
variable {F : List Nat} {s : AS} {p : Nat} {x : OSet} {B : Nat}
set_option maxRecDepth 100000 in
set_option maxHeartbeats 1000000 in
theorem State_ok (h : SetF F s p x) (o : OOk x B) (hB : B ≤ 1000) : ACalls Tryz.prog F_views_State [.ptr (some (p, 0))] s fun v s' => ∃ I, Items x I ∧ Byts s' v (stateB x.v x.ex (liveI I)) ∧ Ext s s' := by
 have hex := o.exlen
 refine q_views_State _ _ _ ?_
 refine ACalls.use (Ctx_ok h) ?_
 rintro v1 s2 ⟨q, rfl, hq, g, e2⟩ w2
 refine ⟨_, rfl, _, aeqPtrNil u_p_ctx_Ctx _, bsplit.no rfl (NewQ.intro w2 rfl fun l5 s6 F6 => ?_)⟩
 have O6 : OutV s2 s6 l5 [] := ⟨F6.ext, F6.no, .slc none 0 0 true, F6.own, Gro.nil, by simp [labOf]⟩
 refine ACalls.use (ctx_Vector_ok (g.at.ext F6.ext)) ?_
 rintro v7 s8 ⟨rfl, e8⟩ w8
 refine ⟨_, rfl, ?_⟩
 refine ACalls.use (Vector_ok x.v o.ok.v.len s8) ?_
 rintro v10 s11 g11 w11
 have e11 := e8.trans g11.chg.ext
 refine ACalls.use (ctx_Extra_ok (g.at.ext (F6.ext.trans e11)) (by omega)) ?_
 rintro v12 s13 g13 w13
 refine ⟨_, (g13.sl dotC_len).lenB u_s_Dot _, ?_⟩
 refine ACalls.use (State3_ok x.ex.length (by omega) s13) ?_
 rintro v15 s16 g16 w16
 have e16 := g13.chg.ext.trans g16.chg.ext
 refine ⟨_, absl_s2 g11.isSlc.2 g16.isSlc.2, NewQ.intro w16 rfl fun l18 s19 F19 => ?_⟩
 have E19 := (e11.trans e16).trans F19.ext
 let L0 : List (AV × List Int) := [(v10, x.v.flatMap fun n => bes n 8), (v15, bes (x.ex.length : Nat) 4)]
 have hVl : (x.v.flatMap fun n => bes n 8).length = 128 := by
  rw [List.length_flatMap]
  have : (List.map (fun a => (bes a 8).length) x.v) = List.map (fun _ => 8) x.v := by simp [bes_len]
  rw [this, List.map_const', List.sum_replicate_nat, o.ok.v.len]
 have hL0 : lenS L0 = 132 := by simp only [lenS, L0, List.map_cons, List.map_nil, List.sum_cons, List.sum_nil, hVl, bes_len]; rfl
 refine ACalls.use (State1_ok (O6.ext E19) (L := L0) (SlAt.mk F19.own.at (by simp [L0]) (by simp [L0]) (by simp [L0])) ?_ (by simp [L0]) (by simp only [hL0, List.length_nil]; omega)) ?_
 ·intro p hp
  rcases List.mem_cons.1 hp with rfl | hp
  ·exact (g11.sl byC_len).ext (e16.trans F19.ext)
  ·obtain rfl := List.mem_singleton.1 hp
   exact (g16.sl byC_len).ext F19.ext
 rintro v20 s21 ⟨rfl, O21⟩ w21
 have hH : [] ++ L0.flatMap Prod.snd = (x.v.flatMap fun n => bes n 8) ++ bes (x.ex.length : Nat) 4 := by simp [L0]
 rw [hH] at O21
 have hHl : ((x.v.flatMap fun n => bes n 8) ++ bes (x.ex.length : Nat) 4).length = 132 := by rw [List.length_append, hVl, bes_len]
 generalize hHd : (x.v.flatMap fun n => bes n 8) ++ bes (x.ex.length : Nat) 4 = H at O21 hHl
 have hdl : ∀ l : List Dot, (l.flatMap dotB).length = l.length * 9 := fun l => flat_lenI dotB_len l
 refine ⟨rfl, fun vs s' => vs = [] ∧ WFs s' ∧ OutV s2 s' l5 (H ++ x.ex.flatMap dotB), ?_, ?_⟩
 rotate_left
 ·refine ACalls.use (ctx_Extra_ok (g.at.ext O21.e) (by omega)) ?_
  rintro v71 s72 g72 w72
  obtain ⟨Lb, Ob, hb1, hb2, eb⟩ := O21.rebase2 g72.chg.ext
  have sEx : Dots (s72.less Lb) v71 x.ex := GroN.keepL dotC_len g72 hb2
  refine ⟨_, sEx.lenB u_s_Dot _, fun m vs s' => ∃ i : Nat, vs = [.int .i64 (i : Nat)] ∧ i ≤ x.ex.length ∧ m = x.ex.length - i ∧ WFs s' ∧ OutV (s72.less Lb) s' l5 (H ++ (x.ex.take i).flatMap dotB), x.ex.length, ⟨0, rfl, by omega, rfl, w72, by simpa using Ob⟩, ?_⟩
  rintro m n s78 ⟨i, hin, hi, rfl, w78, O78⟩
  simp only [List.cons.injEq, AV.int.injEq, true_and, and_true] at hin
  subst hin
  refine bsplit.dec (fun hlt => ?_) (fun hge => ?_)
  rotate_left
  ·rw [List.take_of_length_le (by omega)] at O78
   exact ⟨rfl, w78, ⟨eb.trans O78.e, F6.no, by obtain ⟨_, _, v, k1, k2, k3⟩ := O78; exact ⟨v, k1, k2, fun la hla => ⟨eb.none (k3 la hla).1, (k3 la hla).2⟩⟩⟩⟩
  obtain ⟨d, hd⟩ := get_lt (l := x.ex) (i := i) (by omega)
  have hdm := o.ok.m d (List.mem_of_getElem? hd)
  have step := List.take_add_one (l := x.ex) (i := i)
  rw [hd, Option.toList_some] at step
  obtain ⟨la, oa, k8, k9⟩ := sEx.ix (by decide) dotC_len u_s_Dot z_Dot hd
  refine ⟨la, oa, k8 _, _, (k9 _ O78.e).2, NewSt w78 rfl rfl rfl fun l82 s84 F84 => ⟨_, F84.own.at.rdc (by simp [dotC]), ?_⟩⟩
  refine ACalls.use (State2_ok d (reg_ok hdm) s84) ?_
  rintro v86 s87 g87 w87
  refine ⟨_, absl_s1 g87.isSlc.2, NewQ.intro w87 rfl fun l89 s90 F90 => ?_⟩
  have hlen := hdl (x.ex.take i)
  have htl := List.length_take_le i x.ex
  refine ACalls.use (State1_ok (O78.ext ((F84.ext.trans g87.chg.ext).trans F90.ext)) (L := [(v86, dotB d)]) (SlAt.mk F90.own.at (by simp) (by simp) (by simp)) ?_ (by simp) (by simp only [lenS, List.map_cons, List.map_nil, List.sum_cons, List.sum_nil, dotB_len, List.length_append, hHl, hlen]; omega)) ?_
  ·intro p hp
   obtain rfl := List.mem_singleton.1 hp
   exact (g87.sl byC_len).ext F90.ext
  rintro v91 s92 ⟨rfl, O92⟩ w92
  refine ⟨rfl, x.ex.length - (i + 1), by omega, i + 1, by rw [wrap_i (by omega)]; rfl, by omega, rfl, w92, ?_⟩
  rw [step, List.flatMap_append, ← List.append_assoc]
  simpa using O92
 rintro s23 ⟨_, w23, O23⟩
 have E23 : Ext s s23 := e2.trans O23.e
 refine ACalls.use (Items_okN (h.ext E23) o hB) ?_
 rintro v24 s25 ⟨I, hI, hN⟩ w25
 have hIl := hI.len o
 refine ACalls.use (SI.DeleteFunc_okN (P := fun i => i.gone) hN (by omega) fun i s' e w => State4_ok i s') ?_
 rintro v26 s27 ⟨e27, hK⟩ w27
 have s26 := hK.sl
 have hLl : (liveI I).length ≤ I.length := List.length_filter_le _ _
 have hLeq : (I.filter fun i => !i.gone) = liveI I := rfl
 rw [hLeq] at hK s26
 refine ⟨_, s26.lenB u_s_Item _, ?_⟩
 refine ACalls.use (State3_ok (liveI I).length (by omega) s27) ?_
 rintro v29 s30 g30 w30
 refine ⟨_, absl_s1 g30.isSlc.2, NewQ.intro w30 rfl fun l32 s33 F33 => ?_⟩
 have e33 := (e27.trans g30.chg.ext).trans F33.ext
 have e27' := g30.chg.ext.trans F33.ext
 have hAl : (H ++ x.ex.flatMap dotB).length ≤ 10000 := by rw [List.length_append, hHl, hdl]; omega
 obtain ⟨Lb, Ob, hb1, hb2, eb⟩ := O23.rebase2 e33
 have sL : Sl itemC 5 (s33.less Lb) v26 (liveI I) := hK _ Lb (e27'.mut.trans (s33.less_mut Lb)) hb2
 refine ACalls.use (State1_ok Ob (L := [(v29, bes ((liveI I).length : Nat) 4)]) (SlAt.mk F33.own.at (by simp) (by simp) (by simp)) ?_ (by simp) (by simp only [lenS, List.map_cons, List.map_nil, List.sum_cons, List.sum_nil, bes_len]; omega)) ?_
 ·intro p hp
  obtain rfl := List.mem_singleton.1 hp
  exact (g30.sl byC_len).ext F33.ext
 rintro v34 s35 ⟨rfl, O35⟩ w35
 have hk : ∀ j ∈ liveI I, j.dot.may = true ∧ j.key.t.length ≤ 32 ∧ j.key.d.length ≤ 32 := by
  intro j hj
  have h1 := ((liveI_mem hI j).1 hj).2
  obtain ⟨h2, h3⟩ := o.lv _ _ h1
  refine ⟨has_may h2, ?_⟩
  simp only [Key.may, nameOk, Bool.and_eq_true, decide_eq_true_eq] at h3
  omega
 have hil : ∀ l : List Itm, (∀ j ∈ l, j ∈ liveI I) → (l.flatMap itemB).length ≤ l.length * 77 := by
  intro l
  induction l with
  | nil => simp
  | cons a l ih =>
   intro hl
   have := ih fun j hj => hl j (by simp [hj])
   have h1 := hk a (hl a (by simp))
   simp only [List.flatMap_cons, List.length_append, List.length_cons, itemB, dotB_len, textB_len] at this ⊢
   omega
 simp only [List.flatMap_cons, List.flatMap_nil, List.append_nil] at O35
 have hCl : (H ++ x.ex.flatMap dotB ++ bes ((liveI I).length : Nat) 4).length ≤ 10004 := by rw [List.length_append, bes_len]; omega
 generalize hC : H ++ x.ex.flatMap dotB ++ bes ((liveI I).length : Nat) 4 = C at O35 hCl
 refine ⟨rfl, _, sL.lenB u_s_Item _, fun m vs s' => ∃ i : Nat, vs = [.int .i64 (i : Nat)] ∧ i ≤ (liveI I).length ∧ m = (liveI I).length - i ∧ WFs s' ∧ OutV (s33.less Lb) s' l5 (C ++ ((liveI I).take i).flatMap itemB), (liveI I).length, ⟨0, rfl, by omega, rfl, w35, by simpa using O35⟩, ?_⟩
 rintro m n s41 ⟨i, hin, hi, rfl, w41, O41⟩
 simp only [List.cons.injEq, AV.int.injEq, true_and, and_true] at hin
 subst hin
 refine bsplit.dec (fun hlt => ?_) (fun hge => ?_)
 rotate_left
 ·rw [List.take_of_length_le (by omega)] at O41
  obtain ⟨v, k1, k2⟩ := O41.get
  refine ⟨v, k1, I, hI, ?_, e2.trans (eb.trans O41.e)⟩
  rw [← hC, ← hHd] at k2
  exact k2
 obtain ⟨j, hj⟩ := get_lt (l := liveI I) (i := i) (by omega)
 obtain ⟨hjm, hjt, hjd⟩ := hk j (List.mem_of_getElem? hj)
 have step := List.take_add_one (l := liveI I) (i := i)
 rw [hj, Option.toList_some] at step
 obtain ⟨la, oa, k8, k9⟩ := sL.ix (by decide) itemC_len u_s_Item z_Item hj
 refine ⟨la, oa, k8 _, _, (k9 _ O41.e).2, NewSt w41 rfl rfl rfl fun l45 s47 F47 => ⟨j.key.t, by rw [F47.own.at.rd1]; rfl, ?_⟩⟩
 refine conv_bytes F47.wf j.key.t fun v49 s50 b50 e50 w50 => ?_
 refine ACalls.use (Blob_ok b50 (by rw [strB_len]; omega)) ?_
 rintro r51 s52 ⟨v53, rfl, g52⟩ w52
 rw [strB_len] at g52
 have E52 := e50.trans g52.chg.ext
 refine ⟨_, _, rfl, j.key.d, by rw [(F47.own.ext E52).at.rd1]; rfl, ?_⟩
 refine conv_bytes w52 j.key.d fun v56 s57 b57 e57 w57 => ?_
 refine ACalls.use (Blob_ok b57 (by rw [strB_len]; omega)) ?_
 rintro r58 s59 ⟨v60, rfl, g59⟩ w59
 rw [strB_len] at g59
 have E59 := e57.trans g59.chg.ext
 refine ⟨_, _, rfl, _, (F47.own.ext (E52.trans E59)).at.rdc (by simp [itemC]), ?_⟩
 refine ACalls.use (State2_ok j.dot (reg_ok hjm) s59) ?_
 rintro v63 s64 g64 w64
 refine ⟨_, absl_s3 g64.isSlc.2 g52.isSlc.2 g59.isSlc.2, NewQ.intro w64 rfl fun l66 s67 F67 => ?_⟩
 have hlen := hil ((liveI I).take i) fun j hj => List.mem_of_mem_take hj
 have htl := List.length_take_le i (liveI I)
 let L3 : List (AV × List Int) := [(v63, dotB j.dot), (v53, textB j.key.t), (v60, textB j.key.d)]
 have hL3 : lenS L3 ≤ 77 := by simp only [lenS, L3, List.map_cons, List.map_nil, List.sum_cons, List.sum_nil, dotB_len, textB_len]; omega
 have E67 := ((F47.ext.trans E52).trans E59).trans (g64.chg.ext.trans F67.ext)
 refine ACalls.use (State1_ok (O41.ext E67) (L := L3) (SlAt.mk F67.own.at (by simp [L3]) (by simp [L3]) (by simp [L3])) ?_ (by simp [L3]) (by rw [List.length_append]; omega)) ?_
 ·intro p hp
  rcases List.mem_cons.1 hp with rfl | hp
  ·exact (g64.sl byC_len).ext F67.ext
  ·rcases List.mem_cons.1 hp with rfl | hp
   ·exact (g52.sl byC_len).ext (E59.trans (g64.chg.ext.trans F67.ext))
   ·obtain rfl := List.mem_singleton.1 hp
    exact (g59.sl byC_len).ext (g64.chg.ext.trans F67.ext)
 rintro v68 s69 ⟨rfl, O69⟩ w69
 refine ⟨rfl, (liveI I).length - (i + 1), by omega, i + 1, by rw [wrap_i (by omega)]; rfl, by omega, rfl, w69, ?_⟩
 rw [step, List.flatMap_append, ← List.append_assoc]
 simpa [L3, itemB] using O69
end
end Go.Proofs.YtoklmpkpeanloaaGreat
end

section
namespace Go.Proofs.YtoklmpkpeanloaaGreat
open Go.Am Go.Minster Go.Minster2
def zeroB : List Int := List.replicate 136 0
theorem zeroB_eq : stateB zeros [] (liveI []) = zeroB := by decide +kernel
theorem make136 (s : AS) : amakeSlice T Y_s_uint8 (.int .i64 136) (.int .i64 136) s = some (.slc (some (s.nl, 0)) 136 136 true, s.new (.cells (rep 136 [.int .u8 0]) 0 false)) := by
 simp only [amakeSlice, u_s_uint8, z_uint8, b_uint8, zr_uint8, Option.bind_some]
 rw [show acells (.int .u8 0) = some [AV.int .u8 0] from rfl, Option.bind_some, if_pos ⟨by decide, by decide, by decide, by decide, rfl⟩]
 rfl
set_option maxRecDepth 100000 in
theorem known19_ok (s : AS) : ACalls Tryz.prog F_law19iknown [] s fun v s' => v = .bool true ∧ Ext s s' := by
 have hz : zeroB ≠ [] := by simp [zeroB]
 refine q_law19iknown _ _ ⟨fun n _ v s' => (n = 0 → ∃ p F, v = .ptr (some (p, 0)) ∧ SetF F s' p OSet.zero) ∧ ((n = 1 ∨ n = 3) → Byts s' v zeroB), fun n _ v => (n = 0 → ∃ p, v = .ptr p) ∧ ((n = 2 ∨ n = 4) → v = .str (toB zeroB)), ?_, fun s1 e1 w1 _ => ?_, ⟨.ptr none, fun _ => ⟨_, rfl⟩, by simp⟩, fun v5 hv5 => ?_⟩
 ·rintro n k v s s' e ⟨h1, h2⟩
  exact ⟨fun hn => by obtain ⟨p, F, g1, g2⟩ := h1 hn; exact ⟨p, F, g1, g2.ext e⟩, fun hn => (h2 hn).ext e⟩
 ·refine (New_ok s1).mono ?_
  rintro v s3 ⟨p, F, rfl, h1, h2, h3, e3⟩
  exact ⟨_, rfl, e3, ⟨fun _ => ⟨p, F, rfl, h1⟩, by simp⟩, fun _ => ⟨_, rfl⟩, by simp⟩
 obtain ⟨p6, rfl⟩ := hv5.1 rfl
 refine ⟨p6, rfl, fun s7 e7 w7 hS => ?_, ⟨.undef, by simp⟩, fun v10 _ => ⟨fun s11 e11 w11 hS => ?_, ⟨.str (toB zeroB), by simp⟩, fun v13 hv13 => ?_⟩⟩
 ·obtain ⟨p, F, hp, hF⟩ := hS.1.1 rfl
  obtain rfl : p6 = some (p, 0) := by simpa using hp
  refine (State_ok hF OOk.zero (by omega)).mono ?_
  rintro v s9 ⟨I, hI, hb, e9⟩
  obtain rfl := hI.uniq Items.zero
  rw [show stateB OSet.zero.v OSet.zero.ex (liveI []) = zeroB from zeroB_eq] at hb
  exact ⟨e9, ⟨by simp, fun _ => hb⟩, by simp⟩
 ·have hb := hS.2.1.2 (.inl rfl)
  exact ⟨toB zeroB, conv_str hb hz, Ext.refl _, ⟨by simp, by simp⟩, by simp⟩
 obtain rfl := hv13.2 (.inl rfl)
 refine ⟨_, rfl, fun s15 e15 w15 _ => ?_, ⟨.undef, by simp⟩, fun v18 _ => ⟨fun s19 e19 w19 hS => ?_, ⟨.str (toB zeroB), by simp⟩, fun v21 hv21 => ?_⟩⟩
 ·have Fr := w15.new (o := .cells (rep 136 [.int .u8 0]) 0 false) rfl
  refine ⟨_, _, make136 s15, Fr.ext, ⟨by simp, fun _ => ?_⟩, by simp⟩
  exact SlAt.mk (n := 136) (c := 136) ⟨_, _, Fr.at⟩ (by rfl) (by rfl) (by omega)
 ·have hb := hS.1.2 (.inr rfl)
  exact ⟨toB zeroB, conv_str hb hz, Ext.refl _, ⟨by simp, by simp⟩, by simp⟩
 obtain rfl := hv21.2 (.inr rfl)
 exact ⟨_, rfl, fun s23 e23 w23 _ => ⟨by simp, e23⟩⟩
theorem kn19 (s' : AS) : ACalls Tryz.prog F_law19iknown [] s' fun v4 s5 => ∃ b6 : Bool, v4 = .bool b6 ∧ (AV.bool b6 = .bool true) := by
 refine (known19_ok s').mono ?_
 rintro v s' ⟨rfl, _⟩
 exact ⟨_, rfl, rfl⟩
/-! ### what is live in one alone -/
section
variable {F F' : List Nat} {s : AS} {p p' : Nat} {x y : OSet} {B : Nat}
end
/-! ### the reference's -/
section
variable {s0 s s' : AS} {q : Nat} {x : OSet}
end
end Go.Proofs.YtoklmpkpeanloaaGreat
end

section
set_option maxRecDepth 100000
set_option maxHeartbeats 4000000
namespace Go.Proofs.YtoklmpkpeanloaaGreat
open Go.Am
def Q_law19iViewsNil  (s : AS) (R : AV → AS → Prop) : Prop :=
 ACalls Tryz.prog F_views_Of [(.slc none 0 0 true)] s fun v1 s2 => ∃ p3 : Option (Nat × Nat), ∃ n4 : Int, v1 = .tup [(.ptr p3), (.int .i64 n4)] ∧ (ACalls Tryz.prog F_views_Diff [(.ptr none), (.ptr none)] s2 fun v5 s6 => ∃ v7 : AV, ∃ v8 : AV, v5 = .tup [v7, v8] ∧ (ACalls Tryz.prog F_views_State [(.ptr none)] s6 fun v9 s10 => RdI .i64 (alenB T Y_s_uint8 v9 s10) fun n11 => bsplit ((n11 : Int) == 0) (bsplit ((n4 : Int) == 4) (RdI .i64 (alenB T Y_s_Item v7 s10) fun n12 => bsplit ((n12 : Int) == 0) (RdI .i64 (alenB T Y_s_Item v8 s10) fun n13 => bsplit ((n13 : Int) == 0) (ACalls Tryz.prog F_views_Regions [(.ptr none)] s10 fun v14 s15 => RdI .i64 (alenB T Y_s__uint8 v14 s15) fun n16 => bsplit ((n16 : Int) == 0) (ACalls Tryz.prog F_views_Alike [(.ptr none)] s15 fun v17 s18 => ∃ b19 : Bool, v17 = .bool b19 ∧ (bsplit b19 (ACalls Tryz.prog F_law19iknown [] s18 fun v20 s21 => ∃ b22 : Bool, v20 = .bool b22 ∧ (R (.bool b22) s21)) (R (.bool false) s18))) (R (.bool false) s15)) (R (.bool false) s10)) (R (.bool false) s10)) (R (.bool false) s10)) (R (.bool false) s10)))
def A_law19iViewsNil : QA := (.seq .leaf (.seq .leaf (.seq .leaf (.seq .leaf .leaf))))
theorem q_law19iViewsNil  (s : AS) (R : AV → AS → Prop) (h : Q_law19iViewsNil  s R) : ACalls Tryz.prog F_law19iViewsNil [] s R :=
 ACalls.q (n := 41) (rs := [.tmp 0]) (A := A_law19iViewsNil) hT hmx Tryz.func6 (by kernel_rfl) rfl rfl rfl (by kernel_rfl) (by kernel_rfl) h
def Q_views_Of (a0 : AV) (s : AS) (R : AV → AS → Prop) : Prop :=
 ACalls Tryz.prog F_wire_Read [a0] s fun v1 s2 => ∃ p3 : Option (Nat × Nat), v1 = .ptr p3 ∧ (ACalls Tryz.prog F_wire_Reader_Vector [(.ptr p3)] s2 fun v4 s5 => ∃ g6 : List AV, v4 = .agg g6 ∧ (NewQ (.cells [.int .u64 0, .int .u64 0, .int .u64 0, .int .u64 0, .int .u64 0, .int .u64 0, .int .u64 0, .int .u64 0, .int .u64 0, .int .u64 0, .int .u64 0, .int .u64 0, .int .u64 0, .int .u64 0, .int .u64 0, .int .u64 0] 0 false) s5 fun l7 s8 => OkC (some 16) g6 (StQ (awr s8 l7 0 g6) fun s9 => JoinQ fun J10 =>
 (∀ v11 : AV, ∀ s12 : AS, J10 [v11] s12 →
 JoinQ fun J13 =>
 (∀ v14 : AV, ∀ s15 : AS, J13 [v14] s15 →
 ACalls Tryz.prog F_wire_Reader_End [(.ptr p3)] s15 fun v16 s17 => ∃ n18 : Int, v16 = .int .i64 n18 ∧ (bsplit ((n18 : Int) != 0)
 (R (.tup [(.ptr none), (.int .i64 4)]) s17)
 (RdL (rdc s17 l7 0 16) fun g19 => ACalls Tryz.prog F_ctx_Of [(.agg g19), v11] s17 fun v20 s21 => ∃ p22 : Option (Nat × Nat), ∃ n23 : Int, v20 = .tup [(.ptr p22), (.int .i64 n23)] ∧ (bsplit ((n23 : Int) != 0)
 (R (.tup [(.ptr none), (.int .i64 4)]) s21)
 (ACalls Tryz.prog F_orset_Of [(.ptr p22), v14] s21 fun v24 s25 => ∃ p26 : Option (Nat × Nat), ∃ n27 : Int, v24 = .tup [(.ptr p26), (.int .i64 n27)] ∧ (JoinQ fun J28 =>
 (∀ b29 : Bool, ∀ s30 : AS, J28 [(.bool b29)] s30 →
 bsplit b29
 (R (.tup [(.ptr none), (.int .i64 4)]) s30)
 (R (.tup [(.ptr p26), (.int .i64 0)]) s30)) ∧
 (bsplit ((n27 : Int) != 0) (J28 [(.bool true)] s25) (ACalls Tryz.prog F_views_State [(.ptr p26)] s25 fun v31 s32 => ACalls Tryz.prog F_bytes_Equal [v31, a0] s32 fun v33 s34 => ∃ b35 : Bool, v33 = .bool b35 ∧ (J28 [(.bool (!b35))] s34))))))))) ∧
 (ACalls Tryz.prog F_wire_Reader_Number [(.ptr p3), (.int .i64 4)] s12 fun v36 s37 => ∃ n38 : Int, v36 = .int .u64 n38 ∧ (LoopQ fun I39 m40 => I39 m40 [(.slc none 0 0 true), (.int .u64 n38)] s37 ∧
 ∀ m41 : Nat, ∀ v42 : AV, ∀ n43 : Int, ∀ s44 : AS, I39 m41 [v42, (.int .u64 n43)] s44 →
 bsplit (decide ((n43 : Int) > 0)) (ACalls Tryz.prog F_wire_Reader_Failed [(.ptr p3)] s44 fun v45 s46 => ∃ b47 : Bool, v45 = .bool b47 ∧ (bsplit (!b47)
 (ACalls Tryz.prog F_wire_Reader_Dot [(.ptr p3)] s46 fun v48 s49 => ∃ g50 : List AV, v48 = .agg g50 ∧ (NewQ (.cells [.int .i64 0, .int .u64 0] 0 false) s49 fun l51 s52 => OkC (some 2) g50 (StQ (awr s52 l51 0 g50) fun s53 => ACalls Tryz.prog F_wire_Reader_Blob [(.ptr p3)] s53 fun v54 s55 => RdS ((aconvert T Y_s_uint8 Y_string v54 s55).map (·.1)) fun x56 => DrawQ fun S V => RdL (rdc s55 l51 0 2) fun g57 => (∀ s58 : AS, Ext s55 s58 → WFs s58 → (True) → ACalls Tryz.prog F_wire_Reader_Blob [(.ptr p3)] s58 fun v59 s60 => (Ext s58 s60 ∧ S 4 [(.func F_wire_Reader_Blob []), (.ptr p3)] v59 s60 ∧ V 4 [(.func F_wire_Reader_Blob []), (.ptr p3)] v59)) ∧ (∃ v, V 4 [(.func F_wire_Reader_Blob []), (.ptr p3)] v) ∧ ∀ v61 : AV, V 4 [(.func F_wire_Reader_Blob []), (.ptr p3)] v61 → (∀ s62 : AS, Ext s55 s62 → WFs s62 → (S 4 [(.func F_wire_Reader_Blob []), (.ptr p3)] v61 s62 ∧ True) → RdS ((aconvert T Y_s_uint8 Y_string v61 s62).map (·.1)) fun x63 => (Ext s62 s62 ∧ S 5 [v61] (.str x63) s62 ∧ V 5 [v61] (.str x63))) ∧ (∃ v, V 5 [v61] v) ∧ ∀ v64 : AV, V 5 [v61] v64 → ∃ x65 : List UInt8, v64 = .str x65 ∧ (RdG (abuild T Y_Key [(0, (.str x56)), (1, (.str x65))]) fun g66 => RdG (abuild T Y_Item [(0, (.agg g57)), (1, (.agg g66))]) fun g67 => (∀ s68 : AS, Ext s55 s68 → WFs s68 → (S 4 [(.func F_wire_Reader_Blob []), (.ptr p3)] v61 s68 ∧ (S 5 [v61] (.str x65) s68 ∧ True)) → RdL (absl T Y_s_Item 1 [(0, (.agg g67))]) fun g69 => NewQ (.cells g69 0 false) s68 fun l70 s71 => (Ext s68 s71 ∧ S 8 [(.agg g67)] (.slc (some (l70, 0)) 1 1 true) s71 ∧ V 8 [(.agg g67)] (.slc (some (l70, 0)) 1 1 true))) ∧ (∃ v, V 8 [(.agg g67)] v) ∧ ∀ v72 : AV, V 8 [(.agg g67)] v72 → ∀ s73 : AS, Ext s55 s73 → WFs s73 → (S 4 [(.func F_wire_Reader_Blob []), (.ptr p3)] v61 s73 ∧ (S 5 [v61] (.str x65) s73 ∧ (S 8 [(.agg g67)] v72 s73 ∧ True))) → Bd2 (aappend T Y_s_Item Y_s_Item v42 v72 s73) fun v75 s76 => ∃ m', m' < m41 ∧ I39 m' [v75, (.int .u64 (IntKind.wrap .u64 (n43 - 1)))] s76))))
 (J13 [v42] s46))) (J13 [v42] s44)))) ∧
 (ACalls Tryz.prog F_wire_Reader_Number [(.ptr p3), (.int .i64 4)] s9 fun v77 s78 => ∃ n79 : Int, v77 = .int .u64 n79 ∧ (LoopQ fun I80 m81 => I80 m81 [(.slc none 0 0 true), (.int .u64 n79)] s78 ∧
 ∀ m82 : Nat, ∀ v83 : AV, ∀ n84 : Int, ∀ s85 : AS, I80 m82 [v83, (.int .u64 n84)] s85 →
 bsplit (decide ((n84 : Int) > 0)) (ACalls Tryz.prog F_wire_Reader_Failed [(.ptr p3)] s85 fun v86 s87 => ∃ b88 : Bool, v86 = .bool b88 ∧ (bsplit (!b88)
 (ACalls Tryz.prog F_wire_Reader_Dot [(.ptr p3)] s87 fun v89 s90 => ∃ g91 : List AV, v89 = .agg g91 ∧ (RdL (absl T Y_s_Dot 1 [(0, (.agg g91))]) fun g92 => NewQ (.cells g92 0 false) s90 fun l93 s94 => Bd2 (aappend T Y_s_Dot Y_s_Dot v83 (.slc (some (l93, 0)) 1 1 true) s94) fun v95 s96 => ∃ m', m' < m82 ∧ I80 m' [v95, (.int .u64 (IntKind.wrap .u64 (n84 - 1)))] s96))
 (J10 [v83] s87))) (J10 [v83] s85))))))
def A_views_Of : QA := (.seq .leaf (.seq .leaf (.seq .leaf (.seq .leaf (.join [(6, .any)] [(6, 7), (19, 34)] (.seq .leaf (.wrap (.loop [(6, .any), (7, .int .u64)] [(6, 7), (21, 34)] (.seq (.seq .leaf (.cond .leaf .leaf)) (.seq (.wrap .leaf) .leaf))))) (.seq .leaf (.join [(8, .any)] [(8, 11), (35, 60)] (.seq .leaf (.wrap (.loop [(8, .any), (9, .int .u64)] [(8, 11), (37, 60)] (.seq (.seq .leaf (.cond .leaf .leaf)) (.seq (.wrap (.seq .leaf (.seq .leaf (.drawH 9 [[], [], [], [], [], [4], [], [], [4, 5]] [4, 5, 8])))) .leaf))))) (.seq (.seq .leaf (.cond (.seq .leaf .leaf) .leaf)) (.seq .leaf (.seq (.seq .leaf (.cond (.seq .leaf .leaf) .leaf)) (.seq .leaf (.seq (.join [(86, .bool)] [(78, 86)] .leaf (.cond (.seq .leaf .leaf) .leaf)) (.seq .leaf .leaf)))))))))))))
theorem q_views_Of (a0 : AV) (s : AS) (R : AV → AS → Prop) (h : Q_views_Of a0 s R) : ACalls Tryz.prog F_views_Of [a0] s R :=
 ACalls.q (n := 88) (rs := [.tmp 2, .tmp 3]) (A := A_views_Of) hT hmx Tryz.func43 (by kernel_rfl) rfl rfl rfl (by kernel_rfl) (by kernel_rfl) h
def Q_views_Regions (a0 : Option (Nat × Nat)) (s : AS) (R : AV → AS → Prop) : Prop :=
 ACalls Tryz.prog F_world_World_Setup [(.ptr a0)] s fun v1 s2 => ∃ g3 : List AV, v1 = .agg g3 ∧ (RdI .i64 (g3[0]?) fun n4 => LoopQ fun I5 m6 => I5 m6 [(.slc none 0 0 true), (.int .i64 0)] s2 ∧
 ∀ m7 : Nat, ∀ v8 : AV, ∀ n9 : Int, ∀ s10 : AS, I5 m7 [v8, (.int .i64 n9)] s10 →
 bsplit (decide ((n9 : Int) < n4))
 (ACalls Tryz.prog F_world_World_Region [(.ptr a0), (.int .i64 (IntKind.wrap .i64 (n9 + 1)))] s10 fun v11 s12 => ∃ p13 : Option (Nat × Nat), ∃ b14 : Bool, v11 = .tup [(.ptr p13), (.bool b14)] ∧ (bsplit b14
 (ACalls Tryz.prog F_region_Region_Set [(.ptr p13)] s12 fun v15 s16 => ∃ p17 : Option (Nat × Nat), v15 = .ptr p17 ∧ (ACalls Tryz.prog F_views_State [(.ptr p17)] s16 fun v18 s19 => RdL (absl T Y_s__uint8 1 [(0, v18)]) fun g20 => NewQ (.cells g20 0 false) s19 fun l21 s22 => Bd2 (aappend T Y_s__uint8 Y_s__uint8 v8 (.slc (some (l21, 0)) 1 1 true) s22) fun v23 s24 => ∃ m', m' < m7 ∧ I5 m' [v23, (.int .i64 (IntKind.wrap .i64 (n9 + 1)))] s24))
 (∃ m', m' < m7 ∧ I5 m' [v8, (.int .i64 (IntKind.wrap .i64 (n9 + 1)))] s12)))
 (R v8 s10))
def A_views_Regions : QA := (.seq .leaf (.seq .leaf (.seq (.seq .leaf (.wrap (.loop [(3, .any), (10, .int .i64)] [(3, 6), (10, 27)] (.seq .leaf (.seq (.cond .leaf .leaf) (.seq (.wrap (.seq .leaf (.seq .leaf (.seq .leaf (.cond .leaf .leaf))))) .leaf)))))) (.seq .leaf .leaf))))
theorem q_views_Regions (a0 : Option (Nat × Nat)) (s : AS) (R : AV → AS → Prop) (h : Q_views_Regions a0 s R) : ACalls Tryz.prog F_views_Regions [(.ptr a0)] s R :=
 ACalls.q (n := 29) (rs := [.tmp 2]) (A := A_views_Regions) hT hmx Tryz.func46 (by kernel_rfl) rfl rfl rfl (by kernel_rfl) (by kernel_rfl) h
def Q_views_Alike (a0 : Option (Nat × Nat)) (s : AS) (R : AV → AS → Prop) : Prop :=
 ACalls Tryz.prog F_views_Regions [(.ptr a0)] s fun v1 s2 => NewQ (.cells [(.slc none 0 0 true)] 0 false) s2 fun l3 s4 => qstore T Y_s__uint8 s4 l3 0 v1 fun s5 => RdA (rd1 s5 l3 0) fun v6 => ACalls Tryz.prog F_slices_ContainsFunc__s__byte_s_byte [v6, (.func F_views_Alike_1 [(.ptr (some (l3, 0)))])] s5 fun v7 s8 => ∃ b9 : Bool, v7 = .bool b9 ∧ (R (.bool (!b9)) s8)
def A_views_Alike : QA := (.seq .leaf (.seq .leaf (.seq .leaf .leaf)))
theorem q_views_Alike (a0 : Option (Nat × Nat)) (s : AS) (R : AV → AS → Prop) (h : Q_views_Alike a0 s R) : ACalls Tryz.prog F_views_Alike [(.ptr a0)] s R :=
 ACalls.q (n := 10) (rs := [.tmp 2]) (A := A_views_Alike) hT hmx Tryz.func47 (by kernel_rfl) rfl rfl rfl (by kernel_rfl) (by kernel_rfl) h
def Q_wire_Read (a0 : AV) (s : AS) (R : AV → AS → Prop) : Prop :=
 ACalls Tryz.prog F_slices_Clone__s_byte_byte [a0] s fun v1 s2 => RdG (abuild T Y_wire_Reader [(0, v1), (1, (.bool true)), (2, (.bool true))]) fun g3 => One1 g3 (NewQ (.cells g3 0 false) s2 fun l4 s5 => R (.ptr (some (l4, 0))) s5)
def A_wire_Read : QA := (.seq .leaf (.seq .leaf .leaf))
theorem q_wire_Read (a0 : AV) (s : AS) (R : AV → AS → Prop) (h : Q_wire_Read a0 s R) : ACalls Tryz.prog F_wire_Read [a0] s R :=
 ACalls.q (n := 7) (rs := [.tmp 2]) (A := A_wire_Read) hT hmx Tryz.func98 (by kernel_rfl) rfl rfl rfl (by kernel_rfl) (by kernel_rfl) h
def Q_wire_Reader_Vector (a0 : Option (Nat × Nat)) (s : AS) (R : AV → AS → Prop) : Prop :=
 NewQ (.cells [.int .u64 0, .int .u64 0, .int .u64 0, .int .u64 0, .int .u64 0, .int .u64 0, .int .u64 0, .int .u64 0, .int .u64 0, .int .u64 0, .int .u64 0, .int .u64 0, .int .u64 0, .int .u64 0, .int .u64 0, .int .u64 0] 0 false) s fun l1 s2 => ACalls Tryz.prog F_wire_Reader_take [(.ptr a0), (.int .i64 128)] s2 fun v3 s4 => ∃ v5 : AV, ∃ b6 : Bool, v3 = .tup [v5, (.bool b6)] ∧ (ACalls Tryz.prog F_wire_Read [v5] s4 fun v7 s8 => ∃ p9 : Option (Nat × Nat), v7 = .ptr p9 ∧ (NewQ (.cells [(.ptr none)] 0 false) s8 fun l10 s11 => StQ (awr s11 l10 0 [(.ptr p9)]) fun s12 => LoopQ fun I13 m14 => I13 m14 [(.int .i64 0)] s12 ∧
 ∀ m15 : Nat, ∀ n16 : Int, ∀ s17 : AS, I13 m15 [(.int .i64 n16)] s17 →
 bsplit (decide ((n16 : Int) < 16))
 (ACalls Tryz.prog F_wire_Reader_Vector_1 [(.ptr (some (l10, 0)))] s17 fun v18 s19 => ∃ n20 : Int, v18 = .int .u64 n20 ∧ (IxQ (aindexAddr T Y_Vector (.ptr (some (l1, 0))) (.int .i64 n16)) fun l21 o22 => StQ (awr s19 l21 o22 [(.int .u64 n20)]) fun s23 => ∃ m', m' < m15 ∧ I13 m' [(.int .i64 (IntKind.wrap .i64 (n16 + 1)))] s23))
 (RdL (rdc s17 l1 0 16) fun g24 => OkC (some 16) g24 (StQ (awr s17 l1 0 g24) fun s25 => RdL (rdc s25 l1 0 16) fun g26 => R (.agg g26) s25))))
def A_wire_Reader_Vector : QA := (.seq .leaf (.seq .leaf (.seq .leaf (.seq .leaf (.seq (.seq .leaf (.wrap (.loop [(16, .int .i64)] [(7, 7), (16, 23)] (.seq .leaf (.seq (.cond .leaf .leaf) (.seq (.wrap (.seq .leaf .leaf)) .leaf)))))) (.seq .leaf .leaf))))))
theorem q_wire_Reader_Vector (a0 : Option (Nat × Nat)) (s : AS) (R : AV → AS → Prop) (h : Q_wire_Reader_Vector a0 s R) : ACalls Tryz.prog F_wire_Reader_Vector [(.ptr a0)] s R :=
 ACalls.q (n := 25) (rs := [.cell 2 105]) (A := A_wire_Reader_Vector) hT hmx Tryz.func99 (by kernel_rfl) rfl rfl rfl (by kernel_rfl) (by kernel_rfl) h
def Q_wire_Reader_Number (a0 : Option (Nat × Nat)) (a1 : Int) (s : AS) (R : AV → AS → Prop) : Prop :=
 JoinQ fun J1 =>
 (∀ n2 : Int, ∀ s3 : AS, J1 [(.int .i64 n2)] s3 →
 ACalls Tryz.prog F_wire_Reader_take [(.ptr a0), (.int .i64 n2)] s3 fun v4 s5 => ∃ v6 : AV, ∃ b7 : Bool, v4 = .tup [v6, (.bool b7)] ∧ (ACalls Tryz.prog F_wire_Get [v6] s5 fun v8 s9 => ∃ n10 : Int, ∃ n11 : Int, v8 = .tup [(.int .u64 n10), (.int .i64 n11)] ∧ (R (.int .u64 n10) s9))) ∧
 (bsplit (decide ((a1 : Int) < 1)) (J1 [(.int .i64 (-1))] s) (bsplit (decide ((a1 : Int) > 8))
 (J1 [(.int .i64 (-1))] s)
 (J1 [(.int .i64 a1)] s)))
def A_wire_Reader_Number : QA := (.seq .leaf (.join [(1, .int .i64)] [(1, 1), (9, 14)] (.seq .leaf (.cond .leaf .leaf)) (.seq .leaf (.seq .leaf (.seq .leaf .leaf)))))
theorem q_wire_Reader_Number (a0 : Option (Nat × Nat)) (a1 : Int) (s : AS) (R : AV → AS → Prop) (h : Q_wire_Reader_Number a0 a1 s R) : ACalls Tryz.prog F_wire_Reader_Number [(.ptr a0), (.int .i64 a1)] s R :=
 ACalls.q (n := 27) (rs := [.tmp 4]) (A := A_wire_Reader_Number) hT hmx Tryz.func100 (by kernel_rfl) rfl rfl rfl (by kernel_rfl) (by kernel_rfl) h
def Q_wire_Reader_Failed (a0 : Option (Nat × Nat)) (s : AS) (R : AV → AS → Prop) : Prop :=
 RdO (aeq T 100 Y_p_wire_Reader (.ptr a0) (.ptr none)) fun b1 => bsplit b1 (R (.bool true) s) (AsSome a0 fun l2 o3 => RdB (rd1 s l2 (o3 + 1)) fun b4 => R (.bool (!b4)) s)
def A_wire_Reader_Failed : QA := (.seq .leaf (.seq .leaf .leaf))
theorem q_wire_Reader_Failed (a0 : Option (Nat × Nat)) (s : AS) (R : AV → AS → Prop) (h : Q_wire_Reader_Failed a0 s R) : ACalls Tryz.prog F_wire_Reader_Failed [(.ptr a0)] s R :=
 ACalls.q (n := 12) (rs := [.tmp 2]) (A := A_wire_Reader_Failed) hT hmx Tryz.func101 (by kernel_rfl) rfl rfl rfl (by kernel_rfl) (by kernel_rfl) h
def Q_wire_Reader_End (a0 : Option (Nat × Nat)) (s : AS) (R : AV → AS → Prop) : Prop :=
 JoinQ fun J1 =>
 (∀ b2 : Bool, ∀ s3 : AS, J1 [(.bool b2)] s3 →
 bsplit b2
 (R (.int .i64 1) s3)
 (ACalls Tryz.prog F_wire_Reader_Failed [(.ptr a0)] s3 fun v4 s5 => ∃ b6 : Bool, v4 = .bool b6 ∧ (bsplit b6 (R (.int .i64 4) s5) (AsSome a0 fun l7 o8 => RdA (rd1 s5 l7 o8) fun v9 => RdI .i64 (alenB T Y_s_uint8 v9 s5) fun n10 => bsplit (decide ((n10 : Int) > 0))
 (R (.int .i64 4) s5)
 (R (.int .i64 0) s5))))) ∧
 (RdO (aeq T 100 Y_p_wire_Reader (.ptr a0) (.ptr none)) fun b11 => bsplit b11 (J1 [(.bool true)] s) (AsSome a0 fun l12 o13 => RdB (rd1 s l12 (o13 + 2)) fun b14 => J1 [(.bool (!b14))] s))
def A_wire_Reader_End : QA := (.seq .leaf (.seq (.wrap (.join [(3, .bool)] [(3, 12)] .leaf (.cond (.seq .leaf .leaf) (.seq .leaf (.cond (.seq .leaf .leaf) .leaf))))) (.seq .leaf .leaf)))
theorem q_wire_Reader_End (a0 : Option (Nat × Nat)) (s : AS) (R : AV → AS → Prop) (h : Q_wire_Reader_End a0 s R) : ACalls Tryz.prog F_wire_Reader_End [(.ptr a0)] s R :=
 ACalls.q (n := 24) (rs := [.tmp 2]) (A := A_wire_Reader_End) hT hmx Tryz.func104 (by kernel_rfl) rfl rfl rfl (by kernel_rfl) (by kernel_rfl) h
def Q_world_World_Setup (a0 : Option (Nat × Nat)) (s : AS) (R : AV → AS → Prop) : Prop :=
 NewQ (.cells [.int .i64 0, .int .i64 0, .int .i64 0, .slc none 0 0 true] 0 false) s fun l1 s2 => ACalls Tryz.prog F_world_World_there [(.ptr a0)] s2 fun v3 s4 => ∃ b5 : Bool, v3 = .bool b5 ∧ (bsplit (!b5)
 (RdG (abuild T Y_Setup []) fun g6 => OkC (some 4) g6 (StQ (awr s4 l1 0 g6) fun s7 => RdL (rdc s7 l1 0 4) fun g8 => R (.agg g8) s7))
 (AsSome a0 fun l9 o10 => RdL (rdc s4 l9 o10 4) fun g11 => NewQ (.cells [.int .i64 0, .int .i64 0, .int .i64 0, .slc none 0 0 true] 0 false) s4 fun l12 s13 => OkC (some 4) g11 (StQ (awr s13 l12 0 g11) fun s14 => RdA (rd1 s14 l12 3) fun v15 => ACalls Tryz.prog F_slices_Clone__s_byte_byte [v15] s14 fun v16 s17 => qstore T Y_s_uint8 s17 l12 3 v16 fun s18 => RdL (rdc s18 l12 0 4) fun g19 => OkC (some 4) g19 (StQ (awr s18 l1 0 g19) fun s20 => RdL (rdc s20 l1 0 4) fun g21 => R (.agg g21) s20))))
def A_world_World_Setup : QA := (.seq .leaf (.seq (.seq .leaf (.cond (.seq .leaf .leaf) .leaf)) (.seq .leaf (.seq .leaf (.seq .leaf .leaf)))))
theorem q_world_World_Setup (a0 : Option (Nat × Nat)) (s : AS) (R : AV → AS → Prop) (h : Q_world_World_Setup a0 s R) : ACalls Tryz.prog F_world_World_Setup [(.ptr a0)] s R :=
 ACalls.q (n := 17) (rs := [.cell 2 155]) (A := A_world_World_Setup) hT hmx Tryz.func118 (by kernel_rfl) rfl rfl rfl (by kernel_rfl) (by kernel_rfl) h
def Q_slices_ContainsFunc__s__byte_s_byte (a0 : AV) (a1 : AV) (s : AS) (R : AV → AS → Prop) : Prop :=
 ACalls Tryz.prog F_slices_IndexFunc__s__byte_s_byte [a0, a1] s fun v1 s2 => ∃ n3 : Int, v1 = .int .i64 n3 ∧ (R (.bool (decide ((n3 : Int) ≥ 0))) s2)
def A_slices_ContainsFunc__s__byte_s_byte : QA := (.seq .leaf (.seq .leaf .leaf))
theorem q_slices_ContainsFunc__s__byte_s_byte (a0 : AV) (a1 : AV) (s : AS) (R : AV → AS → Prop) (h : Q_slices_ContainsFunc__s__byte_s_byte a0 a1 s R) : ACalls Tryz.prog F_slices_ContainsFunc__s__byte_s_byte [a0, a1] s R :=
 ACalls.q (n := 9) (rs := [.tmp 4]) (A := A_slices_ContainsFunc__s__byte_s_byte) hT hmx Tryz.func121 (by kernel_rfl) rfl rfl rfl (by kernel_rfl) (by kernel_rfl) h
def Q_wire_Reader_take (a0 : Option (Nat × Nat)) (a1 : Int) (s : AS) (R : AV → AS → Prop) : Prop :=
 ACalls Tryz.prog F_wire_Reader_Failed [(.ptr a0)] s fun v1 s2 => ∃ b3 : Bool, v1 = .bool b3 ∧ (bsplit b3
 (R (.tup [(.slc none 0 0 true), (.bool false)]) s2)
 (JoinQ fun J4 =>
 (∀ b5 : Bool, ∀ s6 : AS, J4 [(.bool b5)] s6 →
 bsplit b5
 (RdG (abuild T Y_wire_Reader [(2, (.bool true))]) fun g7 => AsSome a0 fun l8 o9 => OkC (some 3) g7 (StQ (awr s6 l8 o9 g7) fun s10 => R (.tup [(.slc none 0 0 true), (.bool false)]) s10))
 (AsSome a0 fun l11 o12 => RdA (rd1 s6 l11 o12) fun v13 => RdA (aslice T Y_s_uint8 v13 none (some (.int .i64 a1)) (some (.int .i64 a1))) fun v14 => AsSome a0 fun l15 o16 => RdA (rd1 s6 l15 o16) fun v17 => RdA (aslice T Y_s_uint8 v17 (some (.int .i64 a1)) none none) fun v18 => AsSome a0 fun l19 o20 => qstore T Y_s_uint8 s6 l19 o20 v18 fun s21 => R (.tup [v14, (.bool true)]) s21)) ∧
 (bsplit (decide ((a1 : Int) < 0)) (J4 [(.bool true)] s2) (AsSome a0 fun l22 o23 => RdA (rd1 s2 l22 o23) fun v24 => RdI .i64 (alenB T Y_s_uint8 v24 s2) fun n25 => J4 [(.bool (decide ((a1 : Int) > n25)))] s2))))
def A_wire_Reader_take : QA := (.seq .leaf (.seq (.wrap (.seq .leaf (.cond (.seq .leaf .leaf) (.join [(10, .bool)] [(10, 21)] .leaf (.cond (.seq .leaf (.seq .leaf .leaf)) .leaf))))) (.seq .leaf (.seq .leaf (.seq .leaf .leaf)))))
theorem q_wire_Reader_take (a0 : Option (Nat × Nat)) (a1 : Int) (s : AS) (R : AV → AS → Prop) (h : Q_wire_Reader_take a0 a1 s R) : ACalls Tryz.prog F_wire_Reader_take [(.ptr a0), (.int .i64 a1)] s R :=
 ACalls.q (n := 42) (rs := [.tmp 4, .tmp 5]) (A := A_wire_Reader_take) hT hmx Tryz.func150 (by kernel_rfl) rfl rfl rfl (by kernel_rfl) (by kernel_rfl) h
def Q_wire_Reader_Vector_1 (c0 : Option (Nat × Nat)) (s : AS) (R : AV → AS → Prop) : Prop :=
 AsSome c0 fun l1 o2 => RdP (rd1 s l1 o2) fun p3 => ACalls Tryz.prog F_wire_Reader_Number [(.ptr p3), (.int .i64 8)] s fun v4 s5 => ∃ n6 : Int, v4 = .int .u64 n6 ∧ (R (.int .u64 n6) s5)
def A_wire_Reader_Vector_1 : QA := (.seq .leaf (.seq .leaf .leaf))
theorem q_wire_Reader_Vector_1 (c0 : Option (Nat × Nat)) (s : AS) (R : AV → AS → Prop) (h : Q_wire_Reader_Vector_1 c0 s R) : ACalls Tryz.prog F_wire_Reader_Vector_1 [(.ptr c0)] s R :=
 ACalls.q (n := 4) (rs := [.tmp 1]) (A := A_wire_Reader_Vector_1) hT hmx Tryz.func151 (by kernel_rfl) rfl rfl rfl (by kernel_rfl) (by kernel_rfl) h
def Q_wire_Get (a0 : AV) (s : AS) (R : AV → AS → Prop) : Prop :=
 JoinQ fun J1 =>
 (∀ b2 : Bool, ∀ s3 : AS, J1 [(.bool b2)] s3 →
 bsplit b2
 (R (.tup [(.int .u64 0), (.int .i64 2)]) s3)
 (JoinQ fun J4 =>
 (∀ n5 : Int, ∀ s6 : AS, J4 [(.int .u64 n5)] s6 →
 R (.tup [(.int .u64 n5), (.int .i64 0)]) s6) ∧
 (RdI .i64 (alenB T Y_s_uint8 a0 s3) fun n7 => LoopQ fun I8 m9 => I8 m9 [(.int .u64 0), (.int .i64 0)] s3 ∧
 ∀ m10 : Nat, ∀ n11 : Int, ∀ n12 : Int, ∀ s13 : AS, I8 m10 [(.int .u64 n11), (.int .i64 n12)] s13 →
 bsplit (decide ((n12 : Int) < n7))
 (IxQ (aindexAddr T Y_s_uint8 a0 (.int .i64 n12)) fun l14 o15 => RdI .u8 (rd1 s13 l14 o15) fun n16 => NN 8 (RdA (abinInt .or .u64 (IntKind.wrap .u64 (n11 * 2 ^ min (Int.toNat 8) (IntKind.bits .u64))) (IntKind.wrap .u64 n16)) fun v17 => isK (.int .u64) v17 fun v18 => ∃ m', m' < m10 ∧ I8 m' [v18, (.int .i64 (IntKind.wrap .i64 (n12 + 1)))] s13))
 (J4 [(.int .u64 n11)] s13)))) ∧
 (RdI .i64 (alenB T Y_s_uint8 a0 s) fun n19 => bsplit (decide ((n19 : Int) < 1)) (J1 [(.bool true)] s) (RdI .i64 (alenB T Y_s_uint8 a0 s) fun n20 => J1 [(.bool (decide ((n20 : Int) > 8)))] s))
def A_wire_Get : QA := (.seq .leaf (.seq (.join [(14, .bool)] [(7, 14)] .leaf (.cond (.seq .leaf .leaf) .leaf)) (.seq .leaf (.join [(4, .int .u64)] [(4, 4), (6, 6), (15, 26)] (.seq .leaf (.wrap (.loop [(4, .int .u64), (17, .int .i64)] [(4, 4), (6, 6), (17, 26)] (.seq .leaf (.seq (.cond .leaf .leaf) (.seq (.wrap (.seq .leaf .leaf)) .leaf)))))) (.seq .leaf .leaf)))))
theorem q_wire_Get (a0 : AV) (s : AS) (R : AV → AS → Prop) (h : Q_wire_Get a0 s R) : ACalls Tryz.prog F_wire_Get [a0] s R :=
 ACalls.q (n := 28) (rs := [.tmp 2, .tmp 3]) (A := A_wire_Get) hT hmx Tryz.func152 (by kernel_rfl) rfl rfl rfl (by kernel_rfl) (by kernel_rfl) h
def Q_world_World_there (a0 : Option (Nat × Nat)) (s : AS) (R : AV → AS → Prop) : Prop :=
 RdO (aeq T 100 Y_p_world_World (.ptr a0) (.ptr none)) fun b1 => bsplit (!b1) (AsSome a0 fun l2 o3 => RdP (rd1 s l2 (o3 + 6)) fun p4 => RdO (aeq T 100 Y_p_net_Net (.ptr p4) (.ptr none)) fun b5 => R (.bool (!b5)) s) (R (.bool false) s)
def A_world_World_there : QA := (.seq .leaf (.seq .leaf .leaf))
theorem q_world_World_there (a0 : Option (Nat × Nat)) (s : AS) (R : AV → AS → Prop) (h : Q_world_World_there a0 s R) : ACalls Tryz.prog F_world_World_there [(.ptr a0)] s R :=
 ACalls.q (n := 12) (rs := [.tmp 2]) (A := A_world_World_there) hT hmx Tryz.func156 (by kernel_rfl) rfl rfl rfl (by kernel_rfl) (by kernel_rfl) h
def Q_slices_IndexFunc__s__byte_s_byte (a0 : AV) (a1 : AV) (s : AS) (R : AV → AS → Prop) : Prop :=
 RdI .i64 (alenB T Y_s__uint8 a0 s) fun n1 => LoopQ fun I2 m3 => I2 m3 [(.int .i64 0)] s ∧
 ∀ m4 : Nat, ∀ n5 : Int, ∀ s6 : AS, I2 m4 [(.int .i64 n5)] s6 →
 bsplit (decide ((n5 : Int) < n1))
 (IxQ (aindexAddr T Y_s__uint8 a0 (.int .i64 n5)) fun l7 o8 => RdA (rd1 s6 l7 o8) fun v9 => ACallV Tryz.prog a1 [v9] s6 fun v10 s11 => ∃ b12 : Bool, v10 = .bool b12 ∧ (bsplit b12
 (R (.int .i64 n5) s11)
 (∃ m', m' < m4 ∧ I2 m' [(.int .i64 (IntKind.wrap .i64 (n5 + 1)))] s11)))
 (R (.int .i64 (-1)) s6)
def A_slices_IndexFunc__s__byte_s_byte : QA := (.seq .leaf (.seq (.seq .leaf (.wrap (.loop [(8, .int .i64)] [(4, 5), (8, 18)] (.seq .leaf (.seq (.cond .leaf .leaf) (.seq (.wrap (.seq .leaf (.seq .leaf (.cond (.seq .leaf .leaf) .leaf)))) .leaf)))))) (.seq .leaf .leaf)))
theorem q_slices_IndexFunc__s__byte_s_byte (a0 : AV) (a1 : AV) (s : AS) (R : AV → AS → Prop) (h : Q_slices_IndexFunc__s__byte_s_byte a0 a1 s R) : ACalls Tryz.prog F_slices_IndexFunc__s__byte_s_byte [a0, a1] s R :=
 ACalls.q (n := 19) (rs := [.tmp 4]) (A := A_slices_IndexFunc__s__byte_s_byte) hT hmx Tryz.func158 (by kernel_rfl) rfl rfl rfl (by kernel_rfl) (by kernel_rfl) h
end Go.Proofs.YtoklmpkpeanloaaGreat
end

section
set_option maxRecDepth 100000
set_option maxHeartbeats 4000000
namespace Go.Proofs.YtoklmpkpeanloaaGreat
open Go.Am
end Go.Proofs.YtoklmpkpeanloaaGreat
end

section
namespace Go.Proofs.YtoklmpkpeanloaaGreat
open Go.Am Go.Minster Go.Minster2 Go.ChangeShapes Go.WideShapes Go.ChangeAt Go.RowKit
def NoSet (s : AS) (p : Option (Nat × Nat)) : Prop := p = none ∨ ∃ l, p = some (l, 0) ∧ At s l [.ptr none, .map none, .map none]
section
variable {s s' : AS} {p : Option (Nat × Nat)}
theorem there_no (h : NoSet s p) : ACalls Tryz.prog F_orset_Set_there [.ptr p] s fun r s' => r = .bool false ∧ s' = s := by
 rcases h with rfl | ⟨l, rfl, h⟩
 ·exact q_orset_Set_there _ _ _ ⟨_, aeqPtrNil u_p_orset_Set _, bsplit.no rfl ⟨rfl, rfl⟩⟩
 ·exact q_orset_Set_there _ _ _ ⟨_, aeqPtrNil u_p_orset_Set _, bsplit.yes rfl ⟨_, by rw [h.rd1]; rfl, _, aeqPtrNil u_p_ctx_Ctx _, rfl, rfl⟩⟩
theorem Items_no (h : NoSet s p) : ACalls Tryz.prog F_orset_Set_Items [.ptr p] s fun r s' => r = .slc none 0 0 true ∧ Ext s s' := by
 refine q_orset_Set_Items _ _ _ ?_
 refine ACalls.use (there_no h) ?_
 rintro v s4 ⟨rfl, rfl⟩ _
 exact ⟨_, rfl, bsplit.yes rfl ⟨rfl, Ext.refl _⟩⟩
theorem Ctx_no (h : NoSet s p) : ACalls Tryz.prog F_orset_Set_Ctx [.ptr p] s fun r s' => r = .ptr none ∧ Ext s s' := by
 refine q_orset_Set_Ctx _ _ _ ?_
 refine ACalls.use (there_no h) ?_
 rintro v s4 ⟨rfl, rfl⟩ _
 exact ⟨_, rfl, bsplit.yes rfl ⟨rfl, Ext.refl _⟩⟩
end
end Go.Proofs.YtoklmpkpeanloaaGreat
end

section
namespace Go.Proofs.YtoklmpkpeanloaaGreat
open Go.Am Go.Minster Go.Minster2 Go.ChangeShapes Go.WideShapes Go.ChangeAt Go.RowKit
/-! ### readers in which nothing is left -/
def RdrE (s : AS) (p : Nat) (b : Bool) : Prop := Am.Own s p [.slc none 0 0 true, .bool b, .bool true]
theorem build_rdr : abuild T Y_wire_Reader [(2, .bool true)] = some (.agg [.slc none 0 0 true, .bool false, .bool true]) := by kernel_rfl
theorem build_rdr0 : abuild T Y_wire_Reader [(0, .slc none 0 0 true), (1, .bool true), (2, .bool true)] = some (.agg [.slc none 0 0 true, .bool true, .bool true]) := by kernel_rfl
section
variable {s : AS} {p : Nat} {b : Bool}
theorem Failed_no (h : RdrE s p b) : ACalls Tryz.prog F_wire_Reader_Failed [.ptr (some (p, 0))] s fun r s' => r = .bool (!b) ∧ s' = s :=
 q_wire_Reader_Failed _ _ _ ⟨_, aeqPtrNil u_p_wire_Reader _, bsplit.no rfl ⟨b, by rw [h.at.rd1]; rfl, rfl, rfl⟩⟩
theorem take_no (h : RdrE s p b) (k : Int) (hk : 0 < k) : ACalls Tryz.prog F_wire_Reader_take [.ptr (some (p, 0)), .int .i64 k] s fun r s' => r = .tup [.slc none 0 0 true, .bool false] ∧ RdrE s' p false ∧ Mut [p] s s' := by
 refine ACalls.pre fun hw => q_wire_Reader_take _ _ _ _ ?_
 refine ACalls.use (Failed_no h) ?_
 rintro v s2 ⟨rfl, rfl⟩ w2
 refine ⟨_, rfl, bsplit.mk (fun hb => ?_) (fun hb => ?_)⟩
 ·obtain rfl : b = false := by simpa using hb
  exact ⟨rfl, h, Mut.refl _ _⟩
 refine ⟨fun vs s' => vs = [.bool true] ∧ s' = s2, ?_, bsplit.dec (fun h => absurd h (by omega)) (fun _ => ⟨.slc none 0 0 true, by rw [h.at.rd1]; rfl, 0, by simp [alenB, u_s_uint8], by simp; omega, rfl⟩)⟩
 rintro b5 s6 ⟨hb5, rfl⟩
 obtain rfl : b5 = true := by simpa using hb5
 refine bsplit.yes rfl ⟨_, build_rdr, ⟨rfl, rfl⟩, StQ.own w2 h (by simp) fun s10 P => ⟨rfl, ?_, P.mut⟩⟩
 exact P.at
theorem Get_no (s : AS) : ACalls Tryz.prog F_wire_Get [.slc none 0 0 true] s fun r s' => r = .tup [.int .u64 0, .int .i64 2] ∧ s' = s := by
 refine q_wire_Get _ _ _ ⟨fun vs s' => vs = [.bool true] ∧ s' = s, ?_, 0, by simp [alenB, u_s_uint8], bsplit.yes (by decide) ⟨rfl, rfl⟩⟩
 rintro b s3 ⟨hb, rfl⟩
 obtain rfl : b = true := by simpa using hb
 exact bsplit.yes rfl ⟨rfl, rfl⟩
theorem Number_no (h : RdrE s p b) (k : Nat) (hk : 1 ≤ k ∧ k ≤ 8) : ACalls Tryz.prog F_wire_Reader_Number [.ptr (some (p, 0)), .int .i64 (k : Nat)] s fun r s' => r = .int .u64 0 ∧ RdrE s' p false ∧ Mut [p] s s' := by
 refine q_wire_Reader_Number _ _ _ _ ⟨fun vs s' => vs = [.int .i64 (k : Nat)] ∧ s' = s, ?_, bsplit.dec (fun h => absurd h (by omega)) (fun _ => bsplit.dec (fun h => absurd h (by omega)) (fun _ => ⟨rfl, rfl⟩))⟩
 rintro n s3 ⟨hn, rfl⟩
 obtain rfl : n = (k : Nat) := by simpa using hn
 refine ACalls.use (take_no h _ (by omega)) ?_
 rintro v s5 ⟨rfl, h5, m5⟩ w5
 refine ⟨_, _, rfl, ?_⟩
 refine ACalls.use (Get_no s5) ?_
 rintro v s9 ⟨rfl, rfl⟩ w9
 exact ⟨_, _, rfl, rfl, h5, m5⟩
theorem End_no (h : RdrE s p false) : ACalls Tryz.prog F_wire_Reader_End [.ptr (some (p, 0))] s fun r s' => r = .int .i64 4 ∧ s' = s := by
 refine q_wire_Reader_End _ _ _ ⟨fun vs s' => vs = [.bool false] ∧ s' = s, ?_, _, aeqPtrNil u_p_wire_Reader _, bsplit.no rfl ⟨true, by rw [h.at.rd1]; rfl, rfl, rfl⟩⟩
 rintro b s3 ⟨hb, rfl⟩
 obtain rfl : b = false := by simpa using hb
 refine bsplit.no rfl ?_
 refine ACalls.use (Failed_no h) ?_
 rintro v s5 ⟨rfl, rfl⟩ w5
 exact ⟨_, rfl, bsplit.yes rfl ⟨rfl, rfl⟩⟩
end
theorem Clone_no (s : AS) : ACalls Tryz.prog F_slices_Clone__s_byte_byte [.slc none 0 0 true] s fun r s' => r = .slc none 0 0 true ∧ s' = s :=
 q_slices_Clone__s_byte_byte _ _ _ ⟨_, eqQ_slc_nil u_s_uint8 _ _ _ _ _ _ _ _, bsplit.yes rfl ⟨rfl, rfl⟩⟩
theorem Read_no (s : AS) : ACalls Tryz.prog F_wire_Read [.slc none 0 0 true] s fun r s' => ∃ p, r = .ptr (some (p, 0)) ∧ s.h p = none ∧ RdrE s' p true ∧ Ext s s' := by
 refine q_wire_Read _ _ _ ?_
 refine ACalls.use (Clone_no s) ?_
 rintro v s2 ⟨rfl, rfl⟩ w2
 exact ⟨_, build_rdr0, by decide, NewQ.intro w2 rfl fun l4 s5 F5 => ⟨l4, rfl, F5.no, F5.own, F5.ext⟩⟩
set_option maxRecDepth 100000 in
theorem RVector_no {s : AS} {p : Nat} (h : RdrE s p true) : ACalls Tryz.prog F_wire_Reader_Vector [.ptr (some (p, 0))] s fun r s' => ∃ cs, r = .agg cs ∧ cs.length = 16 ∧ cs.all AV.one = true ∧ RdrE s' p false := by
 refine ACalls.pre fun hw => q_wire_Reader_Vector _ _ _ (NewQ.intro hw rfl fun l1 s2 F2 => ?_)
 have hpl : l1 ≠ p := by
  rintro rfl
  have := F2.no
  unfold RdrE at h
  rw [h] at this; cases this
 refine ACalls.use (take_no (Own.ext h F2.ext) 128 (by omega)) ?_
 rintro v3 s4 ⟨rfl, h4, m4⟩ w4
 have o4 := F2.own.mut m4 (by simpa using hpl)
 refine ⟨_, _, rfl, ?_⟩
 refine ACalls.use (Read_no s4) ?_
 rintro v7 s8 ⟨p9, rfl, hp9, h8, e8⟩ w8
 refine ⟨_, rfl, NewQ.intro w8 rfl fun l10 s11 F11 => StQ.own F11.wf F11.own (by simp) fun s12 P12 => ?_⟩
 have h11 : RdrE s11 p9 true := Own.ext h8 F11.ext
 have hp10 : p9 ≠ l10 := by
  rintro rfl
  have := F11.no
  unfold RdrE at h8
  rw [h8] at this; cases this
 have hl10 : l1 ≠ l10 := by
  rintro rfl
  have := F11.no
  rw [(o4.ext e8)] at this; cases this
 have hpp10 : p ≠ l10 := by
  rintro rfl
  have := F11.no
  have h4' := Own.ext h4 e8
  rw [h4'] at this; cases this
 have hp9p : p9 ≠ p := by
  rintro rfl
  have h4' : s4.h p9 = some _ := h4
  rw [hp9] at h4'; cases h4'
 have hp91 : p9 ≠ l1 := by
  rintro rfl
  have o4' : s4.h p9 = some _ := o4
  rw [hp9] at o4'; cases o4'
 have o12 : Am.Own s12 l1 _ := ((o4.ext e8).ext F11.ext).mut P12.mut (by simpa using hl10)
 have h12 : RdrE s12 p9 true := Own.mut h11 P12.mut (by simpa using hp10)
 have q12 : RdrE s12 p false := Own.mut (Own.ext (Own.ext h4 e8) F11.ext) P12.mut (by simpa using hpp10)
 have c12 : Am.Own s12 l10 [.ptr (some (p9, 0))] := P12.at
 refine ⟨fun m vs s' => ∃ (i : Nat) (cs : List AV) (b : Bool), vs = [.int .i64 (i : Nat)] ∧ i ≤ 16 ∧ m = 16 - i ∧ WFs s' ∧ Am.Own s' l1 cs ∧ cs.length = 16 ∧ cs.all AV.one = true ∧ RdrE s' p9 b ∧ RdrE s' p false ∧ Am.Own s' l10 [.ptr (some (p9, 0))], 16, ⟨0, _, true, rfl, by omega, rfl, P12.wf, o12, rfl, rfl, h12, q12, c12⟩, ?_⟩
 rintro m n s17 ⟨i, cs, b, hin, hi, rfl, w17, o17, hc1, hc2, h17, q17, c17⟩
 simp only [List.cons.injEq, AV.int.injEq, true_and, and_true] at hin
 subst hin
 refine bsplit.dec (fun hlt => ?_) (fun hge => ?_)
 ·have hv : ACalls Tryz.prog F_wire_Reader_Vector_1 [.ptr (some (l10, 0))] s17 fun r s' => r = .int .u64 0 ∧ RdrE s' p9 false ∧ Mut [p9] s17 s' := by
   refine q_wire_Reader_Vector_1 _ _ _ ⟨some (p9, 0), by rw [c17.at.rd1]; rfl, ?_⟩
   refine ACalls.use (Number_no h17 8 (by omega)) ?_
   rintro v s5 ⟨rfl, h5, m5⟩ _
   exact ⟨_, rfl, rfl, h5, m5⟩
  refine ACalls.use hv ?_
  rintro v18 s19 ⟨rfl, h19, m19⟩ w19
  have o19 := o17.mut m19 (by simpa using hp91.symm)
  have q19 : RdrE s19 p false := Own.mut q17 m19 (by simpa using hp9p.symm)
  have c19 := c17.mut m19 (by simpa using hp10.symm)
  refine ⟨_, rfl, l1, 0 + ((i : Int)).toNat * 1, vix (by omega), ?_⟩
  refine StQ.own w19 o19 (by simp only [List.length_cons, List.length_nil, Int.toNat_natCast]; omega) fun s23 P23 => ?_
  refine ⟨16 - (i + 1), by omega, i + 1, _, false, by rw [wrap_i (by omega)]; rfl, by omega, rfl, P23.wf, P23.at, ?_, ?_, Own.mut h19 P23.mut (by simpa using hp91), Own.mut q19 P23.mut (by simpa using hpl.symm), c19.mut P23.mut (by simpa using hl10.symm)⟩
  ·simp [wrs, hc1]
  ·simp only [wrs, List.all_eq_true] at hc2 ⊢
   intro x hx
   rcases List.mem_or_eq_of_mem_set hx with h | h
   ·exact hc2 x h
   ·rw [h]; rfl
 ·have r17 : rdc s17 l1 0 16 = some cs := by
   rw [o17.at.rdc (by omega), List.drop_zero, List.take_of_length_le (by omega)]
  refine ⟨cs, r17, ⟨hc2, by rw [hc1]⟩, StQ.own w17 o17 (by omega) fun s25 P25 => ?_⟩
  have hw0 : wrs cs 0 cs = cs := wrs_all0 rfl
  have a25 : Am.Own s25 l1 cs := by have := P25.at; rw [hw0] at this; exact this
  refine ⟨cs, ?_, cs, rfl, hc1, hc2, Own.mut q17 P25.mut (by simpa using hpl.symm)⟩
  rw [a25.at.rdc (by omega), List.drop_zero, List.take_of_length_le (by omega)]
set_option maxRecDepth 100000 in
theorem ViewsOf_no (s : AS) : ACalls Tryz.prog F_views_Of [.slc none 0 0 true] s fun r s' => r = .tup [.ptr none, .int .i64 4] := by
 refine q_views_Of _ _ _ ?_
 refine ACalls.use (Read_no s) ?_
 rintro v1 s2 ⟨p, rfl, hp, h2, e2⟩ w2
 refine ⟨_, rfl, ?_⟩
 refine ACalls.use (RVector_no h2) ?_
 rintro v4 s5 ⟨cs, rfl, hc1, hc2, h5⟩ w5
 refine ⟨_, rfl, ?_⟩
 refine NewSt w5 hc1 rfl hc2 fun l7 s9 F9 => ?_
 have h9 : RdrE s9 p false := Own.ext h5 F9.ext
 have c9 : At s9 l7 cs := F9.own.at
 have hpl : l7 ≠ p := by
  rintro rfl
  have := F9.no
  unfold RdrE at h5
  rw [h5] at this; cases this
 refine ⟨fun vs s' => ∃ v, vs = [v] ∧ RdrE s' p false, ?_, ?_⟩
 rotate_left
 ·refine ACalls.use (Number_no h9 4 (by omega)) ?_
  rintro v74 s75 ⟨rfl, h75, m75⟩ w75
  refine ⟨_, rfl, fun m vs s' => vs = [.slc none 0 0 true, .int .u64 0] ∧ s' = s75, 0, ⟨rfl, rfl⟩, ?_⟩
  rintro m v n s82 ⟨hin, rfl⟩
  simp only [List.cons.injEq, AV.int.injEq, true_and, and_true] at hin
  obtain ⟨rfl, rfl⟩ := hin
  exact bsplit.no (by decide) ⟨_, rfl, h75⟩
 rintro v11 s12 ⟨_, _, h12⟩
 refine ⟨fun vs s' => ∃ v, vs = [v] ∧ RdrE s' p false, ?_, ?_⟩
 rotate_left
 ·refine ACalls.use (Number_no h12 4 (by omega)) ?_
  rintro v36 s37 ⟨rfl, h37, m37⟩ w37
  refine ⟨_, rfl, fun m vs s' => vs = [.slc none 0 0 true, .int .u64 0] ∧ s' = s37, 0, ⟨rfl, rfl⟩, ?_⟩
  rintro m v n s82 ⟨hin, rfl⟩
  simp only [List.cons.injEq, AV.int.injEq, true_and, and_true] at hin
  obtain ⟨rfl, rfl⟩ := hin
  exact bsplit.no (by decide) ⟨_, rfl, h37⟩
 rintro v14 s15 ⟨_, _, h15⟩
 refine ACalls.use (End_no h15) ?_
 rintro v16 s17 ⟨rfl, rfl⟩ w17
 exact ⟨_, rfl, bsplit.yes rfl rfl⟩
/-! ### sets, worlds that are not there -/
theorem IndexFunc_no (g : FuncId) (cap : List AV) (s : AS) : ACalls Tryz.prog F_slices_IndexFunc__s_Item_Item [.slc none 0 0 true, .func g cap] s fun r s' => r = .int .i64 (-1) ∧ s' = s := by
 refine q_slices_IndexFunc__s_Item_Item _ _ _ _ ⟨0, by simp [alenB, u_s_Item], fun m vs s' => vs = [.int .i64 0] ∧ s' = s, 0, ⟨rfl, rfl⟩, ?_⟩
 rintro m n s6 ⟨hin, rfl⟩
 obtain rfl : n = 0 := by simpa using hin
 exact bsplit.no (by decide) ⟨rfl, rfl⟩
theorem DeleteFunc_no (g : FuncId) (cap : List AV) (s : AS) : ACalls Tryz.prog F_slices_DeleteFunc__s_Item_Item [.slc none 0 0 true, .func g cap] s fun r s' => r = .slc none 0 0 true ∧ s' = s := by
 refine q_slices_DeleteFunc__s_Item_Item _ _ _ _ ?_
 refine ACalls.use (IndexFunc_no g cap s) ?_
 rintro v s2 ⟨rfl, rfl⟩ w2
 exact ⟨_, rfl, bsplit.yes rfl ⟨rfl, rfl⟩⟩
theorem Diff1_no (s : AS) : ACalls Tryz.prog F_views_Diff_1 [.ptr none, .meth F_orset_Set_Live [.ptr none] []] s fun r s' => r = .slc none 0 0 true := by
 refine ACalls.pre fun hw => q_views_Diff_1 _ _ _ _ ?_
 unfold Q_views_Diff_1 qcells
 dsimp only
 refine NewQ.intro hw rfl fun l1 s2 F2 => ?_
 refine ACalls.use (Items_no (.inl rfl)) ?_
 rintro v s4 ⟨rfl, e4⟩ w4
 refine ACalls.use (DeleteFunc_no _ _ s4) ?_
 rintro v s6 ⟨rfl, rfl⟩ w6
 rfl
theorem State_no (s : AS) : ACalls Tryz.prog F_views_State [.ptr none] s fun r s' => r = .slc none 0 0 true := by
 refine q_views_State _ _ _ ?_
 refine ACalls.use (Ctx_no (.inl rfl)) ?_
 rintro v s2 ⟨rfl, e2⟩ w2
 exact ⟨_, rfl, _, aeqPtrNil u_p_ctx_Ctx _, bsplit.yes rfl rfl⟩
theorem build_setup : abuild T Y_Setup [] = some (.agg [.int .i64 0, .int .i64 0, .int .i64 0, .slc none 0 0 true]) := by kernel_rfl
theorem wthere_no (s : AS) : ACalls Tryz.prog F_world_World_there [.ptr none] s fun r s' => r = .bool false ∧ s' = s :=
 q_world_World_there _ _ _ ⟨_, aeqPtrNil u_p_world_World _, bsplit.no rfl ⟨rfl, rfl⟩⟩
theorem Setup_no (s : AS) : ACalls Tryz.prog F_world_World_Setup [.ptr none] s fun r s' => r = .agg [.int .i64 0, .int .i64 0, .int .i64 0, .slc none 0 0 true] := by
 refine ACalls.pre fun hw => q_world_World_Setup _ _ _ (NewQ.intro hw rfl fun l1 s2 F2 => ?_)
 refine ACalls.use (wthere_no s2) ?_
 rintro v s4 ⟨rfl, rfl⟩ w4
 refine ⟨_, rfl, bsplit.yes rfl ⟨_, build_setup, ⟨rfl, rfl⟩, StQ.own w4 F2.own (by simp) fun s7 P => ⟨_, ?_, rfl⟩⟩⟩
 have a7 : At s7 l1 [.int .i64 0, .int .i64 0, .int .i64 0, .slc none 0 0 true] := ⟨_, _, P.at⟩
 rw [a7.rdc (by simp)]
 rfl
theorem Regions_no (s : AS) : ACalls Tryz.prog F_views_Regions [.ptr none] s fun r s' => r = .slc none 0 0 true := by
 refine q_views_Regions _ _ _ ?_
 refine ACalls.use (Setup_no s) ?_
 rintro v s2 rfl w2
 refine ⟨_, rfl, 0, rfl, fun m vs s' => vs = [.slc none 0 0 true, .int .i64 0], 0, rfl, ?_⟩
 rintro m v n s10 hin
 simp only [List.cons.injEq, AV.int.injEq, true_and, and_true] at hin
 obtain ⟨rfl, rfl⟩ := hin
 exact bsplit.no (by decide) rfl
theorem qstore_slcs {s : AS} {l o : Nat} {a : Option (Nat × Nat)} {n c : Nat} {e : Bool} {K : AS → Prop} : qstore T Y_s__uint8 s l o (.slc a n c e) K = StQ (awr s l o [.slc a n c e]) K := by
 simp only [qstore, z_s__uint8]; rfl
set_option maxRecDepth 100000 in
theorem Alike_no (s : AS) : ACalls Tryz.prog F_views_Alike [.ptr none] s fun r s' => r = .bool true := by
 refine q_views_Alike _ _ _ ?_
 refine ACalls.use (Regions_no s) ?_
 rintro v s2 rfl w2
 refine NewQ.intro w2 rfl fun l3 s4 F4 => ?_
 show qstore T Y_s__uint8 s4 l3 0 (.slc none 0 0 true) _
 rw [qstore_slcs]
 refine StQ.own F4.wf F4.own (by simp) fun s5 P => ⟨.slc none 0 0 true, ?_, ?_⟩
 ·have a5 : At s5 l3 [.slc none 0 0 true] := ⟨_, _, P.at⟩
  rw [a5.rd1]; rfl
 ·refine q_slices_ContainsFunc__s__byte_s_byte _ _ _ _ ?_
  refine q_slices_IndexFunc__s__byte_s_byte _ _ _ _ ⟨0, by simp [alenB, u_s__uint8], fun m vs s' => vs = [.int .i64 0], 0, rfl, ?_⟩
  rintro m n s6 hin
  obtain rfl : n = 0 := by simpa using hin
  exact bsplit.no (by decide) ⟨_, rfl, _, rfl, rfl⟩
theorem viewsNil_ok (s : AS) : ACalls Tryz.prog F_law19iViewsNil [] s fun r s' => r = .bool true := by
 refine q_law19iViewsNil _ _ ?_
 refine ACalls.use (ViewsOf_no s) ?_
 rintro v1 s2 rfl w2
 refine ⟨_, _, rfl, ?_⟩
 refine ACalls.use (show ACalls Tryz.prog F_views_Diff [.ptr none, .ptr none] s2 fun r s' => r = .tup [.slc none 0 0 true, .slc none 0 0 true] from ?_) ?_
 ·refine q_views_Diff _ _ _ _ ?_
  refine ACalls.use (Diff1_no s2) ?_
  rintro v1 s3 rfl w3
  refine ACalls.use (Diff1_no s3) ?_
  rintro v1 s4 rfl w4
  rfl
 rintro v5 s6 rfl w6
 refine ⟨_, _, rfl, ?_⟩
 refine ACalls.use (State_no s6) ?_
 rintro v9 s10 rfl w10
 refine ⟨0, by simp [alenB, u_s_uint8], bsplit.yes rfl (bsplit.yes rfl ⟨0, by simp [alenB, u_s_Item], bsplit.yes rfl ⟨0, by simp [alenB, u_s_Item], bsplit.yes rfl ?_⟩⟩)⟩
 refine ACalls.use (Regions_no s10) ?_
 rintro v14 s15 rfl w15
 refine ⟨0, by simp [alenB, u_s__uint8], bsplit.yes rfl ?_⟩
 refine ACalls.use (Alike_no s15) ?_
 rintro v17 s18 rfl w18
 exact ⟨_, rfl, bsplit.yes rfl (kn19 _)⟩
end Go.Proofs.YtoklmpkpeanloaaGreat
end
