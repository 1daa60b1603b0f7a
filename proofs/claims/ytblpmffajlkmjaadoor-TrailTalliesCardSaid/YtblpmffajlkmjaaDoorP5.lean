/-
  A part of the proof: an abstract machine over the model, and contracts of functions of this program over it.
-/
import Derived.Test.YtblpmffajlkmjaaDoorP4
set_option linter.unusedVariables false
set_option linter.unusedSimpArgs false
set_option linter.unusedSectionVars false
section
set_option maxRecDepth 100000
namespace Go.Trail
theorem totW_take (f : Cnt → Int) {o : List Ent} {i : Nat} {x : Ent} (h : o[i]? = some x) : totW f (o.take (i + 1)) = Go.IntKind.wrap .i64 (totW f (o.take i) + f x.2) := by
 have ht : o.take (i + 1) = o.take i ++ [x] := by rw [List.take_add_one, h]; rfl
 unfold totW
 rw [ht, List.map_append, List.sum_append, ww]
 simp
end Go.Trail
namespace Go.Proofs.YtblpmffajlkmjaaDoor
open Go.Am Go.Trail
theorem tri_Tally : triples (T.und Y_Tally) = some [(false, Y_string, 0), (false, Y_int, 1), (false, Y_int, 2), (false, Y_int, 3), (false, Y_int, 4), (false, Y_int, 5)] := by kernel_rfl
theorem et_Tally : T.eqt Y_Tally = true := by kernel_rfl
theorem tally_eq (k : Nm) (x : Cnt) : aeq T 100 Y_Tally (.agg (talC k x)) (.agg (talC k x)) = some true := by
 rw [aeq_tri tri_Tally et_Tally]
 simp [eqTri, cond_false, part_s ag_int, part_s ag_string, talC, aeqInt u_int, aeqStr u_string]
theorem same_ok {s : AS} {a b : AV} {o : List Ent} (ha : Sl entC 6 s a o) (hb : Sl entC 6 s b o) (hn : o.length ≤ 100000) : ACalls Tryd.prog F_law24isameTallies [a, b] s fun v s' => v = .bool true ∧ s' = s := by
 refine q_law24isameTallies _ _ _ _ ⟨_, ha.lenB u_s_Tally _, _, hb.lenB u_s_Tally _, bsplit.no (by simp) ⟨fun m vs s' => ∃ i : Nat, vs = [.int .i64 (i : Nat)] ∧ i ≤ o.length ∧ m = o.length - i ∧ s' = s, o.length, ⟨0, rfl, by omega, rfl, rfl⟩, ?_⟩⟩
 rintro m n s' ⟨i, hv, hi, rfl, rfl⟩
 simp only [List.cons.injEq, AV.int.injEq, true_and, and_true] at hv
 subst hv
 refine ⟨_, ha.lenB u_s_Tally _, bsplit.dec (fun hlt => ?_) (fun _ => ⟨rfl, rfl⟩)⟩
 obtain ⟨x, hx⟩ := get_lt (l := o) (i := i) (by omega)
 obtain ⟨lx, ox, x8, x9⟩ := ha.ix (by decide) entC_len u_s_Tally z_Tally hx
 obtain ⟨ly, oy, y8, y9⟩ := hb.ix (by decide) entC_len u_s_Tally z_Tally hx
 exact ⟨lx, ox, x8 _, _, (x9 _ (Ext.refl _)).2, ly, oy, y8 _, _, (y9 _ (Ext.refl _)).2, _, tally_eq _ _, bsplit.no rfl ⟨o.length - (i + 1), by omega, i + 1, by rw [wrap_i (by omega)]; rfl, by omega, rfl, rfl⟩⟩
theorem opsC_len (ops : Dc → List Ent) (hops : ∀ d, (ops d).length ≤ 1 + d.evs.length) : ∀ l : List Dc, (l.flatMap (opsC ops)).length ≤ l.length + wSum l
 | [] => by simp [wSum]
 | d :: l => by
  have ih := opsC_len ops hops l
  have h1 : (opsC ops d).length ≤ 1 + d.evs.length := by
   unfold opsC
   split
   ·exact hops d
   ·simp
  unfold wSum at ih ⊢
  rw [List.flatMap_cons, List.length_append, List.map_cons, List.sum_cons, List.length_cons]
  have : d.evs.length ≤ wOf d := by unfold wOf; omega
  omega
theorem opsT_len (d : Dc) : (opsT d).length ≤ 1 + d.evs.length := by
 unfold opsT
 split
 ·simp
 ·split
  ·simp
  ·split
   ·simp
   ·split
    ·simp
    ·simp
theorem opsD_len (d : Dc) : (opsD d).length ≤ 1 + d.evs.length := by
 unfold opsD
 split
 ·simp
 ·split
  ·simp
  ·split
   ·simp
   ·simp
theorem small_of (x : Cnt) (h1 : 0 ≤ x.s ∧ x.s ≤ 4611686018427387904) (h2 : 0 ≤ x.u ∧ x.u ≤ 4611686018427387904) (h3 : 0 ≤ x.p ∧ x.p ≤ 4611686018427387904) (h4 : 0 ≤ x.q ∧ x.q ≤ 4611686018427387904) (h5 : 0 ≤ x.e ∧ x.e ≤ 4611686018427387904) : x.small := by
 unfold Cnt.small Cnt.add Cnt.zero
 cases x
 simp only [Int.zero_add] at *
 rw [wrap_i h1, wrap_i h2, wrap_i h3, wrap_i h4, wrap_i h5]
theorem opsT_small {l : List Dc} : ∀ x ∈ l.flatMap (opsC opsT), x.2.small := by
 intro x hx
 obtain ⟨d, _, hd⟩ := List.mem_flatMap.1 hx
 unfold opsC at hd
 split at hd
 ·unfold opsT at hd
  split at hd
  ·obtain rfl := List.mem_singleton.1 hd; exact small_of _ (by simp) (by simp) (by simp) (by simp) (by simp)
  ·split at hd
   ·obtain rfl := List.mem_singleton.1 hd; exact small_of _ (by simp) (by simp) (by simp) (by simp) (by simp)
   ·split at hd
    ·obtain rfl := List.mem_singleton.1 hd; exact small_of _ (by simp) (by simp) (by simp) (by simp) (by simp)
    ·split at hd
     ·obtain ⟨e, _, rfl⟩ := List.mem_map.1 hd; exact small_of _ (by simp) (by simp) (by simp) (by simp) (by simp)
     ·cases hd
 ·cases hd
theorem opsD_small {s : AS} {l : List Dc} (h : ∀ d ∈ l, d.Ok s) : ∀ x ∈ l.flatMap (opsC opsD), x.2.small := by
 intro x hx
 obtain ⟨d, hdl, hd⟩ := List.mem_flatMap.1 hx
 have hle : d.evs.length ≤ 140737488351232 := (h d hdl).le
 unfold opsC at hd
 split at hd
 ·unfold opsD at hd
  split at hd
  ·obtain rfl := List.mem_singleton.1 hd; exact small_of _ (by simp) (by simp) (by simp) (by simp) (by simp)
  ·split at hd
   ·obtain rfl := List.mem_singleton.1 hd; exact small_of _ (by simp) (by simp) (by simp) (by simp) (by simp)
   ·split at hd
    ·obtain rfl := List.mem_singleton.1 hd; exact small_of _ (by simp) (by simp) (by simp) (by simp) ⟨by simp, by simp only; omega⟩
    ·cases hd
 ·cases hd
theorem sum_zero {α : Type} (l : List α) : (l.map fun _ => (0 : Int)).sum = 0 := by
 induction l with
 | nil => rfl
 | cons x l ih => rw [List.map_cons, List.sum_cons, ih]; rfl
theorem sum_one {α : Type} (l : List α) : (l.map fun _ => (1 : Int)).sum = (l.length : Nat) := by
 induction l with
 | nil => rfl
 | cons x l ih => rw [List.map_cons, List.sum_cons, ih, List.length_cons]; omega
theorem ops_sum (d : Dc) : ((opsT d).map fun e => e.2.s).sum = ((opsD d).map fun e => e.2.s).sum ∧ ((opsT d).map fun e => e.2.e).sum = ((opsD d).map fun e => e.2.e).sum := by
 unfold opsT opsD
 by_cases h1 : d.kind = 1
 ·simp [h1]
 by_cases h2 : d.kind = 2
 ·simp [h2]
 by_cases h3 : d.kind = 3
 ·simp [h3]
 by_cases h5 : d.kind = 5
 ·rw [if_neg h1, if_neg h2, if_neg h3, if_pos h5, if_neg h1, if_neg h2, if_pos h5, List.map_map, List.map_map]
  refine ⟨(sum_zero d.evs).trans (by simp), (sum_one d.evs).trans (by simp)⟩
 ·simp [h1, h2, h3, h5]
theorem all_sum : ∀ l : List Dc, ((l.flatMap (opsC opsT)).map fun e => e.2.s).sum = ((l.flatMap (opsC opsD)).map fun e => e.2.s).sum ∧ ((l.flatMap (opsC opsT)).map fun e => e.2.e).sum = ((l.flatMap (opsC opsD)).map fun e => e.2.e).sum
 | [] => ⟨rfl, rfl⟩
 | d :: l => by
  obtain ⟨i1, i2⟩ := all_sum l
  obtain ⟨j1, j2⟩ := ops_sum d
  have k1 : ((opsC opsT d).map fun e => e.2.s).sum = ((opsC opsD d).map fun e => e.2.s).sum := by
   unfold opsC
   by_cases hc : d.code = 0
   ·rw [if_pos hc, if_pos hc]; exact j1
   ·rw [if_neg hc, if_neg hc]
  have k2 : ((opsC opsT d).map fun e => e.2.e).sum = ((opsC opsD d).map fun e => e.2.e).sum := by
   unfold opsC
   by_cases hc : d.code = 0
   ·rw [if_pos hc, if_pos hc]; exact j2
   ·rw [if_neg hc, if_neg hc]
  rw [List.flatMap_cons, List.flatMap_cons, List.map_append, List.map_append, List.map_append, List.map_append, List.sum_append, List.sum_append, List.sum_append, List.sum_append, i1, i2, k1, k2]
  exact ⟨rfl, rfl⟩
theorem same_totals (l : List Dc) : totW (fun x => x.s) (rows opsT l) = totW (fun x => x.s) (rows opsD l) ∧ totW (fun x => x.e) (rows opsT l) = totW (fun x => x.e) (rows opsD l) := by
 unfold rows
 rw [foldT_totW _ (fun a d => rfl), foldT_totW _ (fun a d => rfl), foldT_totW _ (fun a d => rfl), foldT_totW _ (fun a d => rfl), (all_sum l).1, (all_sum l).2]
 exact ⟨rfl, rfl⟩
theorem trailTallies_ok {s : AS} {a : AV} {l : List Dc} (h : Hist s a l) : ACalls Tryd.prog F_law24iTrailTallies [a] s fun v s' => v = .bool true := by
 have kn : ∀ s', ACalls Tryd.prog F_law24iknown [] s' fun v4 s5 => ∃ b6 : Bool, v4 = .bool b6 ∧ AV.bool b6 = .bool true := fun s' => (known_ok s').mono (by rintro v s'' ⟨rfl, _⟩; exact ⟨true, rfl, rfl⟩)
 refine q_law24iTrailTallies _ _ _ ?_
 refine ACalls.use (few_ok h) ?_
 rintro v1 s2 ⟨b, rfl, hb, e2⟩ w2
 refine ⟨b, rfl, bsplit.mk (fun _ => kn _) (fun hbt => ?_)⟩
 obtain ⟨h100, hw⟩ := hb (by simpa using hbt)
 have hlT := opsC_len opsT opsT_len l
 have hlD := opsC_len opsD opsD_len l
 have hrT : (rows opsT l).length ≤ 100000 := by unfold rows; have := foldT_len (l.flatMap (opsC opsT)) []; simp only [List.length_nil] at this; omega
 have hrD : (rows opsD l).length ≤ 100000 := by unfold rows; have := foldT_len (l.flatMap (opsC opsD)) []; simp only [List.length_nil] at this; omega
 refine ACalls.use (q_trail_Topics (R := fun v s' => Ext s2 s' ∧ Sl entC 6 s' v (rows opsT l)) _ _ (ACalls.use (tallies_ok (h.ext e2) h100 Topics_counts opsT_small (by omega)) fun v s' h _ => h)) ?_
 rintro v7 s8 ⟨e8, g7⟩ w8
 have E8 := e2.trans e8
 refine ACalls.use (q_trail_Devices (R := fun v s' => Ext s8 s' ∧ Sl entC 6 s' v (rows opsD l)) _ _ (ACalls.use (tallies_ok (h.ext E8) h100 Devices_counts (opsD_small h.ok) (by omega)) fun v s' h _ => h)) ?_
 rintro v9 s10 ⟨e10, g9⟩ w10
 have E10 := E8.trans e10
 refine ACalls.use (Tallies_ok (h.ext E10) h100 false (by show (l.flatMap (opsC opsT)).length ≤ _; omega)) ?_
 rintro v11 s12 ⟨e12, g11⟩ w12
 refine ACalls.use (same_ok ((g7.ext e10).ext e12) (show Sl entC 6 s12 v11 (rows opsT l) from g11) hrT) ?_
 rintro v13 s14 ⟨rfl, rfl⟩ w14
 refine ⟨true, rfl, bsplit.no rfl ?_⟩
 refine ACalls.use (Tallies_ok (h.ext (E10.trans e12)) h100 true (by show (l.flatMap (opsC opsD)).length ≤ _; omega)) ?_
 rintro v16 s17 ⟨e17, g16⟩ w17
 refine ACalls.use (same_ok ((g9.ext e12).ext e17) (show Sl entC 6 s17 v16 (rows opsD l) from g16) hrD) ?_
 rintro v18 s19 ⟨rfl, rfl⟩ w19
 have gA : Sl entC 6 s19 v7 (rows opsT l) := ((g7.ext e10).ext e12).ext e17
 have gB : Sl entC 6 s19 v9 (rows opsD l) := (g9.ext e12).ext e17
 obtain ⟨q1, q2⟩ := same_totals l
 generalize rows opsT l = A at gA q1 q2 hrT
 generalize rows opsD l = B at gB q1 q2 hrD
 refine ⟨true, rfl, bsplit.no rfl (NewQ.intro w19 rfl fun l21 s22 F21 => NewQ.intro F21.wf rfl fun l23 s24 F23 => ?_)⟩
 have hne : l21 ≠ l23 := F23.ne F21.at
 have n21 : s19.h l21 = none := F21.no
 have n23 : s19.h l23 = none := F21.ext.none F23.no
 have e24 := F21.ext.trans F23.ext
 have keep : ∀ {s' s'' : AS} {p : Nat}, Ext s19 s' → s19.h p = none → Mut [p] s' s'' → Ext s19 s'' := fun e hp m => ⟨fun y ob hy => m.1 y ob (by simp only [List.mem_singleton]; rintro rfl; rw [hp] at hy; cases hy) (e.1 y ob hy), Nat.le_trans e.2 m.2⟩
 let C (o : List Ent) (i : Nat) : Cnt := ⟨totW (fun x => x.s) (o.take i), 0, 0, 0, totW (fun x => x.e) (o.take i)⟩
 have stepc : ∀ {o : List Ent} {v : AV} {p : Nat} {s' : AS} {i : Nat} {x : Ent}, Sl entC 6 s19 v o → s19.h p = none → Ext s19 s' → WFs s' → Am.Own s' p (talC [] (C o i)) → o[i]? = some x → ∀ {K : AS → Prop}, (∀ s'', Ext s19 s'' → WFs s'' → Am.Own s'' p (talC [] (C o (i + 1))) → Mut [p] s' s'' → K s'') →
   RdI .i64 (rd1 s' p 1) fun n57 => IxQ (aindexAddr T Y_s_Tally v (.int .i64 (i : Nat))) fun l58 o59 => RdI .i64 (rd1 s' l58 (o59 + 1)) fun n60 => StQ (awr s' p 1 [(.int .i64 (IntKind.wrap .i64 (n57 + n60)))]) fun s61 => RdI .i64 (rd1 s61 p 5) fun n62 => IxQ (aindexAddr T Y_s_Tally v (.int .i64 (i : Nat))) fun l63 o64 => RdI .i64 (rd1 s61 l63 (o64 + 5)) fun n65 => StQ (awr s61 p 5 [(.int .i64 (IntKind.wrap .i64 (n62 + n65)))]) fun s66 => K s66 := by
  intro o v p s' i x g hp e' w' ow hx K hK
  obtain ⟨lx, ox, x8, x9⟩ := g.ix (by decide) entC_len u_s_Tally z_Tally hx
  refine ⟨_, ow.at.rd1 1, lx, ox, x8 _, x.2.s, (x9 _ e').1 1 (by decide), StQ.own w' ow (by simp [talC]) fun s61 P => ?_⟩
  have e61 := keep e' hp P.mut
  have o61 : Am.Own s61 p (talC [] ⟨totW (fun x => x.s) (o.take (i + 1)), 0, 0, 0, totW (fun x => x.e) (o.take i)⟩) := by
   rw [totW_take _ hx]; exact P.at
  refine ⟨_, o61.at.rd1 5, lx, ox, x8 _, x.2.e, (x9 _ e61).1 5 (by decide), StQ.own P.wf o61 (by simp [talC]) fun s66 P2 => hK s66 (keep e61 hp P2.mut) P2.wf ?_ (P.mut.trans P2.mut)⟩
  have : C o (i + 1) = ⟨totW (fun x => x.s) (o.take (i + 1)), 0, 0, 0, IntKind.wrap .i64 (totW (fun x => x.e) (o.take i) + x.2.e)⟩ := by
   show (⟨_, _, _, _, _⟩ : Cnt) = _
   rw [totW_take (fun x => x.e) hx]
  rw [this]; exact P2.at
 have zA : ∀ o : List Ent, talC [] (C o 0) = [.str [], .int .i64 0, .int .i64 0, .int .i64 0, .int .i64 0, .int .i64 0] := fun o => rfl
 refine ⟨fun vs s' => Ext s19 s' ∧ WFs s' ∧ Am.Own s' l21 (talC [] (C A A.length)) ∧ Am.Own s' l23 (talC [] (C B 0)), ?_, fun mm vs s' => ∃ i : Nat, vs = [.int .i64 (i : Nat)] ∧ i ≤ A.length ∧ mm = A.length - i ∧ Ext s19 s' ∧ WFs s' ∧ Am.Own s' l21 (talC [] (C A i)) ∧ Am.Own s' l23 (talC [] (C B 0)), A.length, ⟨0, rfl, by omega, rfl, e24, F23.wf, F21.own.ext F23.ext, F23.own⟩, ?_⟩
 rotate_left
 ·rintro mm n54 s55 ⟨i, hv, hi, rfl, e55, w55, oA, oB⟩
  simp only [List.cons.injEq, AV.int.injEq, true_and, and_true] at hv
  subst hv
  refine ⟨_, gA.lenB u_s_Tally _, bsplit.dec (fun hlt => ?_) (fun hge => ?_)⟩
  ·obtain ⟨x, hx⟩ := get_lt (l := A) (i := i) (by omega)
   refine stepc gA n21 e55 w55 oA hx fun s'' e'' w'' o'' m'' => ⟨A.length - (i + 1), by omega, i + 1, by rw [wrap_i (by omega)]; rfl, by omega, rfl, e'', w'', o'', oB.mut m'' (by simpa using hne.symm)⟩
  ·obtain rfl : i = A.length := by omega
   exact ⟨e55, w55, oA, oB⟩
 rintro s26 ⟨e26, w26, oA, oB⟩
 refine ⟨fun vs s' => Am.Own s' l21 (talC [] (C A A.length)) ∧ Am.Own s' l23 (talC [] (C B B.length)), ?_, fun mm vs s' => ∃ i : Nat, vs = [.int .i64 (i : Nat)] ∧ i ≤ B.length ∧ mm = B.length - i ∧ Ext s19 s' ∧ WFs s' ∧ Am.Own s' l21 (talC [] (C A A.length)) ∧ Am.Own s' l23 (talC [] (C B i)), B.length, ⟨0, rfl, by omega, rfl, e26, w26, oA, oB⟩, ?_⟩
 rotate_left
 ·rintro mm n38 s39 ⟨i, hv, hi, rfl, e39, w39, oA, oB⟩
  simp only [List.cons.injEq, AV.int.injEq, true_and, and_true] at hv
  subst hv
  refine ⟨_, gB.lenB u_s_Tally _, bsplit.dec (fun hlt => ?_) (fun hge => ?_)⟩
  ·obtain ⟨x, hx⟩ := get_lt (l := B) (i := i) (by omega)
   refine stepc gB n23 e39 w39 oB hx fun s'' e'' w'' o'' m'' => ⟨B.length - (i + 1), by omega, i + 1, by rw [wrap_i (by omega)]; rfl, by omega, rfl, e'', w'', oA.mut m'' (by simpa using hne), o''⟩
  ·obtain rfl : i = B.length := by omega
   exact ⟨oA, oB⟩
 rintro s28 ⟨oA, oB⟩
 have hC : C A A.length = C B B.length := by
  show (⟨_, _, _, _, _⟩ : Cnt) = ⟨_, _, _, _, _⟩
  rw [List.take_length, List.take_length, q1, q2]
 rw [hC] at oA
 refine ⟨talC [] (C B B.length), by rw [oA.at.rdc (by simp [talC])]; rfl, talC [] (C B B.length), by rw [oB.at.rdc (by simp [talC])]; rfl, true, tally_eq _ _, bsplit.yes rfl (kn _)⟩
end Go.Proofs.YtblpmffajlkmjaaDoor
end
