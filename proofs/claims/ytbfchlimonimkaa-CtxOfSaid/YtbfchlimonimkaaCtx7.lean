/-
  Contracts: a dot is added.
-/
import Derived.Test.YtbfchlimonimkaaIns2
set_option linter.unusedSimpArgs false
set_option linter.unusedVariables false
namespace Go.Proofs.Ytbfchlimonimkaa
open Go.Am Go.Minster

theorem insert_ok {s : AS} {v : AV} {l : List Dot} {d : Dot} {i lb : Nat} (g : Gro dotC 2 s v l) (hb : s.h lb = some (.cells (dotC d) 0 false)) (hi : i ≤ l.length) (hn : l.length + 1 ≤ 2 ^ 30) :
    ACalls Try.prog F_slices_Insert__s_Dot_Dot [v, .int .i64 (i : Nat), .slc (some (lb, 0)) 1 1 true] s fun r s' => Gro dotC 2 s' r (l.take i ++ d :: l.drop i) ∧ Mut (labOf v) s s' ∧ (∀ la ∈ labOf r, la ∈ labOf v ∨ s.h la = none) := by
  refine ACalls.pre fun hw => ?_
  have hsl := g.sl dotC_len
  have hlb : Dots s (.slc (some (lb, 0)) 1 1 true) [d] := SlAt.mk ⟨_, _, hb⟩ rfl rfl
  by_cases he : i = l.length
  · subst he
    have hne : v ≠ .emp := by rcases g with ⟨_, a, rfl⟩ | ⟨la, rfl, _⟩ <;> (intro h; cases h)
    obtain ⟨w, h1, _⟩ := hsl.from dotC_len u_s_Dot z_Dot hne (Nat.le_refl _) .i64
    obtain ⟨v', s', h2, h3, h4, h5, h6⟩ := Gro.append sl_s_Dot dotC_len dotC_one hw g hlb (by simpa using hn) u_s_Dot
    refine q_slices_Insert__s_Dot_Dot _ _ _ _ _ ⟨_, h1, _, hlb.lenB u_s_Dot _, bsplit.no rfl ⟨_, hsl.lenB u_s_Dot _, bsplit.yes (by simp) ⟨_, _, h2, ?_, h4, h6⟩⟩⟩
    rw [List.take_of_length_le (Nat.le_refl _), List.drop_of_length_le (Nat.le_refl _)]
    exact h3
  · rcases g with ⟨rfl, _⟩ | ⟨la, rfl, hla⟩
    · simp at hi; subst hi; exact absurd rfl he
    · have hne : la ≠ lb := by
        rintro rfl
        rw [hb] at hla
        simp at hla
      refine (insert_mid (i := i) hla (by rw [flat_len dotC_len]) (Nat.le_refl _) (by omega) (by omega) hne hb (by decide) (by simp [dotC]) hn hw.1).mono ?_
      rintro r s' ⟨rfl, rfl⟩
      have hnl : s.h (s.nl + 2 * s.st) = none := hw.2 2
      have hcs : insd (l.flatMap dotC) (((dotC d).drop 0).take (1 * 2)) i l.length = (l.take i ++ d :: l.drop i).flatMap dotC := by
        unfold insd
        rw [flat_take dotC_len, flat_drop dotC_len, show ((l.drop i).flatMap dotC).take ((l.length - i) * 2) = (l.drop i).flatMap dotC from List.take_of_length_le (by rw [flat_len dotC_len, List.length_drop]; exact Nat.le_refl _)]
        simp [dotC]
      refine ⟨.inr ⟨s.nl + 2 * s.st, ?_, ?_⟩, ⟨fun x o hx ho => ?_, ?_⟩, fun y hy => ?_⟩
      · have : (l.take i ++ d :: l.drop i).length = l.length + 1 := by simp; omega
        rw [this]
      · rw [AS.gave_h _ _ _ rfl, if_pos rfl, hcs]
      · rw [AS.gave_h _ _ _ rfl, if_neg (fun e => by rw [e, hnl] at ho; cases ho), if_neg (by simpa [labOf] using hx)]; exact ho
      · show s.nl ≤ s.nl + 2 * s.st + s.st; omega
      · simp only [labOf, List.mem_singleton] at hy
        subst hy; exact .inr hnl

/-- what adding a dot comes to -/
def addD (v : List Int) (ex : List Dot) (d : Dot) : Bool × Int × List Int × List Dot :=
  if d.may = false then (false, 2, v, ex)
  else if hasD v ex d then (false, 0, v, ex)
  else if 4096 < (compact v (ins ex d)).2.length then (false, 5, v, ex)
  else (true, 0, compact v (ins ex d))

theorem ctx_Add_ok {s : AS} {p : Nat} {v : List Int} {ex : List Dot} (h : CtxAt s p v ex) (hv : VOk v) (hr : Rising ex) (hm : ∀ d ∈ ex, d.may = true) (hn : ex.length + 1 < 2 ^ 30) (d : Dot) :
    ACalls Try.prog F_ctx_Ctx_Add [.ptr (some (p, 0)), .agg (dotC d)] s fun r s' => r = .tup [.bool (addD v ex d).1, .int .i64 (addD v ex d).2.1] ∧ CtxAt s' p (addD v ex d).2.2.1 (addD v ex d).2.2.2 ∧ Mut [p] s s' := by
  refine ACalls.pre fun hw => q_ctx_Ctx_Add _ _ _ _ ⟨rfl, NewQ.intro hw rfl fun l1 s2 F1 => ?_⟩
  refine ACalls.use (ctx_there_ok (h.ext F1.ext)) ?_
  rintro r s4 ⟨rfl, rfl⟩ hw4
  refine ⟨_, rfl, bsplit.no rfl ⟨_, F1.own.at.rdc (by simp [dotC]), ?_⟩⟩
  refine ACalls.use (ctx_May_ok d _) ?_
  rintro r s8 ⟨rfl, e8⟩ hw8
  have E8 := F1.ext.trans e8
  refine ⟨_, rfl, bsplit.mk (fun hd => ?_) (fun hd => ?_)⟩
  · simp only [Bool.not_eq_true'] at hd
    have : addD v ex d = (false, 2, v, ex) := by simp [addD, hd]
    rw [this]
    exact ⟨rfl, h.ext E8, E8.mut⟩
  simp only [Bool.not_eq_false'] at hd
  refine ⟨_, (F1.own.ext e8).at.rdc (by simp [dotC]), ?_⟩
  refine ACalls.use (ctx_Has_ok (h.ext E8) hr (by omega) d) ?_
  rintro r s12 ⟨rfl, e12⟩ hw12
  have E12 := E8.trans e12
  refine ⟨_, rfl, bsplit.mk (fun hh => ?_) (fun hh => ?_)⟩
  · have : addD v ex d = (false, 0, v, ex) := by simp [addD, hd, hh]
    rw [this]
    exact ⟨rfl, h.ext E12, E12.mut⟩
  have hnin : d ∉ ex := by
    intro hin
    simp [hasD, hd, hin] at hh
  obtain ⟨h1, w, h2, h3, h4⟩ := h
  have hlen := ctx_len h1 w
  refine ⟨_, (h2.ext E12).at.rdc (by rw [hlen]; omega), ?_⟩
  have hg : ((v.map (AV.int .u64) ++ [w, .bool true]).drop 0).take 18 = v.map (AV.int .u64) ++ [w, .bool true] := by
    rw [List.drop_zero, List.take_of_length_le (by rw [hlen]; exact Nat.le_refl _)]
  rw [hg]
  refine NewSt hw12 hlen rfl (by simp [h3]) fun l17 s19 F17 => ?_
  have E19 := E12.trans F17.ext
  refine ⟨fun _ _ _ _ => True, fun _ _ r => r = .tup [.int .i64 (pos ex d : Nat), .bool (decide (d ∈ ex))], fun _ _ _ _ _ _ _ => trivial, w, by rw [(h2.ext E19).at.rd1]; exact ctx_16 h1 w, _, (F1.own.ext (e8.trans (e12.trans F17.ext))).at.rdc (by simp [dotC]), fun s24 e24 _ _ => ?_, ⟨_, rfl⟩, ?_⟩
  · refine (bsearch_ok (h4.ext (E19.trans e24)) (by omega) hr d).mono ?_
    rintro r s' ⟨rfl, e⟩
    exact ⟨_, _, rfl, e, trivial, rfl⟩
  rintro r rfl
  refine ⟨_, _, rfl, fun s32 e32 _ _ => ?_⟩
  have E32 := E19.trans e32
  have o17 := F17.own.ext e32
  refine ⟨fun i _ r s' => (i = 4 → GroN dotC 2 [] s32 s' r ex) ∧ (i = 7 → ∃ lb, r = .slc (some (lb, 0)) 1 1 true ∧ s'.h lb = some (.cells (dotC d) 0 false)), fun i _ r => i = 7 → ∃ lb, r = .slc (some (lb, 0)) 1 1 true, ?_, w, by rw [(h2.ext E32).at.rd1]; exact ctx_16 h1 w, fun s37 e37 _ _ => ?_, ⟨.undef, (fun h => by cases h)⟩, fun v40 _ => ⟨_, (F1.own.ext (e8.trans (e12.trans (F17.ext.trans e32)))).at.rdc (by simp [dotC]), ?_⟩⟩
  · rintro i k r s s' e ⟨ha, hb⟩
    refine ⟨fun hi => (ha hi).step e, fun hi => ?_⟩
    obtain ⟨lb, h1, h2⟩ := hb hi
    exact ⟨lb, h1, e.1 _ _ h2⟩
  · refine (clone_ok (h4.ext (E32.trans e37)) (by omega)).mono fun r s' g => ⟨g.chg.ext, ⟨(fun _ => ⟨g.gro, e37.mut.trans g.chg, fun la hla => e37.none (g.new la hla)⟩), (fun h => by cases h)⟩, (fun h => by cases h)⟩
  refine ⟨fun s42 e42 w42 _ => ⟨_, absl_agg sl_s_Dot (c := dotC d) rfl rfl, ?_⟩, ⟨.slc (some (0, 0)) 1 1 true, fun _ => ⟨0, rfl⟩⟩, fun v46 hv46 s47 e47 _ hS => ?_⟩
  · exact NewQ.intro w42 rfl fun l s45 F => ⟨F.ext, ⟨(fun h => by cases h), fun _ => ⟨l, rfl, F.at⟩⟩, fun _ => ⟨l, rfl⟩⟩
  obtain ⟨g40, lb, rfl, hlb⟩ : GroN dotC 2 [] s32 s47 v40 ex ∧ ∃ lb, v46 = .slc (some (lb, 0)) 1 1 true ∧ s47.h lb = some (.cells (dotC d) 0 false) := ⟨hS.1.1 rfl, hS.2.1.2 rfl⟩
  refine ACalls.use (insert_ok g40.gro hlb (pos_le ex d) (by omega)) ?_
  rintro r s50 ⟨g50, m50, n50⟩ hw50
  have hnot : ∀ x, (∃ o, s32.h x = some o) → x ∉ labOf v40 := by
    rintro x ⟨o, ho⟩ hx
    rw [g40.new x hx] at ho; cases ho
  have hnot2 : ∀ x, (∃ o, s32.h x = some o) → x ∉ labOf r := by
    rintro x ⟨o, ho⟩ hx
    rcases n50 x hx with h | h
    · exact hnot x ⟨o, ho⟩ h
    · rw [e47.1 _ _ ho] at h; cases h
  have o17' := (o17.ext e47).mut m50 (hnot l17 ⟨_, o17⟩)
  have hone : r.one = true := by rcases g50 with ⟨_, a, rfl⟩ | ⟨la, rfl, _⟩ <;> rfl
  refine qstore_one hone z_s_Dot (StQ.own hw50 o17' (by rw [hlen]; simp) fun s51 P => ?_)
  have hins : (ex.take (pos ex d) ++ d :: ex.drop (pos ex d)) = ins ex d := rfl
  rw [hins] at g50
  have hP := P.at
  rw [wrs_one, List.set_append_right _ _ (by simp [h1])] at hP
  simp only [List.length_map, h1, Nat.sub_self, List.set_cons_zero] at hP
  have c51 : CtxAt s51 l17 v (ins ex d) := ⟨h1, r, hP, hone, (g50.mut (L := [l17]) P.mut (fun x hx => by simp only [List.mem_singleton]; rintro rfl; exact hnot2 _ ⟨_, o17⟩ hx)).sl dotC_len⟩
  have hmi : ∀ x ∈ ins ex d, x.may = true := by
    intro x hx
    rcases mem_ins.1 hx with rfl | hx
    · exact hd
    · exact hm x hx
  refine ACalls.use (ctx_compact_ok c51 hv hmi (by rw [ins_len]; omega)) ?_
  rintro r2 s53 ⟨rfl, c53, m53⟩ hw53
  -- the old one is still there
  have hp : Own s53 p (v.map (.int .u64) ++ [w, .bool true]) := by
    have hp32 := h2.ext E32
    have hne : p ∉ [l17] := by
      simp only [List.mem_singleton]
      rintro rfl
      have := F17.no
      rw [h2.ext E12] at this; cases this
    exact ((((hp32.ext e47).mut m50 (hnot p ⟨_, hp32⟩)).mut P.mut hne).mut m53 hne)
  have hall : Mut [p] s s53 := by
    refine ⟨fun x o hx ho => ?_, ?_⟩
    · have h32 := E32.1 _ _ ho
      have hne : x ∉ [l17] := by
        simp only [List.mem_singleton]
        rintro rfl
        have := F17.no
        rw [E12.1 _ _ ho] at this; cases this
      exact m53.1 _ _ hne (P.mut.1 _ _ hne (m50.1 _ _ (hnot x ⟨_, h32⟩) (e47.1 _ _ h32)))
    · exact Nat.le_trans E32.2 (Nat.le_trans e47.2 (Nat.le_trans m50.2 (Nat.le_trans P.mut.2 m53.2)))
  obtain ⟨k1, w', k2, k3, k4⟩ := c53
  refine ⟨rfl, w', by rw [k2.at.rd1]; exact ctx_16 k1 w', _, k4.lenB u_s_Dot _, bsplit.dec (fun hgt => ?_) (fun hle => ?_)⟩
  · have : addD v ex d = (false, 5, v, ex) := by
      simp only [addD, hd, hh, Bool.true_eq_false, Bool.false_eq_true, if_false]
      rw [if_pos (by omega)]
    rw [this]
    refine ⟨rfl, ⟨h1, w, hp, h3, ?_⟩, hall⟩
    refine Sl.mut h4 hall dotC_len (by decide) fun q hq C hC x hx i c hc he => ?_
    obtain rfl : q = p := by simpa using hq
    obtain rfl := hC.inj h2.at
    simp only [dotC, List.getElem?_cons_zero, Option.some.injEq] at hc
    subst hc
    rcases List.mem_append.1 (List.mem_of_getElem? he) with h | h
    · obtain ⟨y, _, hy⟩ := List.mem_map.1 h
      cases hy
    · rcases List.mem_cons.1 h with rfl | h
      · exact dots_not_int h4 _ _ rfl
      · simp at h
  · have : addD v ex d = (true, 0, compact v (ins ex d)) := by
      simp only [addD, hd, hh, Bool.true_eq_false, Bool.false_eq_true, if_false]
      rw [if_neg (by omega)]
    rw [this]
    have hlen' := ctx_len k1 w'
    have hg' : (((compact v (ins ex d)).1.map (AV.int .u64) ++ [w', .bool true]).drop 0).take 18 = (compact v (ins ex d)).1.map (AV.int .u64) ++ [w', .bool true] := by
      rw [List.drop_zero, List.take_of_length_le (by rw [hlen']; exact Nat.le_refl _)]
    refine ⟨_, k2.at.rdc (by rw [hlen']; omega), ?_⟩
    rw [hg']
    refine ⟨⟨by simp [k3], by rw [hlen']⟩, StQ.own hw53 hp (by rw [hlen, hlen']; omega) fun s59 P2 => ⟨rfl, ⟨k1, w', ?_, k3, ?_⟩, hall.trans P2.mut⟩⟩
    · have := P2.at
      rw [wrs_all0 (by rw [hlen, hlen'])] at this
      exact this
    · refine dots_keep k4 hp.at (x := [w, .bool true]) ?_ P2.mut
      intro y hy n
      rcases List.mem_cons.1 hy with rfl | hy
      · exact dots_not_int h4 _ _
      · obtain rfl : y = .bool true := by simpa using hy
        intro h; cases h
end Go.Proofs.Ytbfchlimonimkaa
