/-
  The abstract machine Am: each operation of the model does what the abstract one does (sixth part: slices made, appended to, copied, cleared).
-/
import Derived.Test.YtbfchlimonimkaaAmSim6
import Derived.IntWalk
set_option linter.unusedSectionVars false
set_option linter.unusedSimpArgs false
set_option linter.unusedVariables false
namespace Go.Am

def isIntD : TypeDesc → Bool
  | .int _ => true
  | _ => false

theorem growBy_le (need : Nat) : ∀ (r c : Nat), c ≤ need → Builtin.growBy need r c ≤ need + (need + 768) / 4
  | 0, c, h => by simp only [Builtin.growBy]; omega
  | r + 1, c, h => by
    simp only [Builtin.growBy]
    split
    · omega
    · by_cases h2 : c + (c + 768) / 4 ≤ need
      · exact growBy_le need r _ h2
      · cases r with
        | zero => simp only [Builtin.growBy]; omega
        | succ r => simp only [Builtin.growBy]; rw [if_pos (by omega)]; omega

theorem nextslicecap_le {need cap : Nat} (h : cap ≤ need) : Builtin.nextslicecap need cap ≤ 2 * (need + 256) := by
  unfold Builtin.nextslicecap
  split
  · omega
  · split
    · omega
    · have := growBy_le need 4 cap h; omega

theorem zeroCells_rels {γ : Gam} {z : List AV} {cz : Array Value} (hz : VRels γ z cz.toList) (n : Nat) : VRels γ (rep n z) (Builtin.zeroCells cz n).toList := by
  have := rep_rels hz n (.inr (.inr trivial))
  simpa [Builtin.zeroCells] using this

theorem zeroCells_size (cz : Array Value) (n : Nat) : (Builtin.zeroCells cz n).size = n * cz.size := by simp [Builtin.zeroCells]

section
variable {P : Program} {T : TT} (hT : TT.Ok P T) {B : Nat} {γ : Gam} {s : AS} {w : World} (hr : Rel B γ s w)
include hT hr

theorem amakeSlice_run {t : TypeId} {l c v : AV} {cl cc : Value} {s' : AS} (hl : VRel γ l cl) (hc : VRel γ c cc) (h : amakeSlice T t l c s = some (v, s')) :
    Sim P B γ s w (Instr.makeSlice t cl cc) v s' := by
  unfold amakeSlice at h
  split at h
  · rename_i elem k1 l k2 c hu
    simp only [VRel] at hl hc; subst hl hc
    simp only [Option.bind_eq_some_iff] at h
    obtain ⟨n, hn, by_, hby, z, hz, zc, hzc, h⟩ := h
    split at h
    · rename_i hcond
      obtain ⟨h0, h1, h2, h3, h4⟩ := hcond
      obtain ⟨rfl, rfl⟩ : _ ∧ _ := by simpa using h
      obtain ⟨rfl, hone⟩ := acells_some hzc
      obtain ⟨cz, hrz, hvz⟩ := run_zeroValue hT hz w
      have hcz := (hvz γ).cells hone
      have hczl := hcz.length
      simp only [Array.length_toList] at hczl
      obtain ⟨inf, hinf, hbytes⟩ := run_bytes hT hby w
      have hwr : ∀ x : Int, 0 ≤ x → x < 2 ^ 63 → IntKind.i64.wrap x = x := fun x hx0 hx1 => IntWalk.i64_in x (by omega)
      have hwl := hwr l h0 (by omega)
      have hwc := hwr c (by omega) h3
      let c0 : Array Value := (Array.range (c.toNat * n)).map ((if c.toNat * n = 0 then #[] else cz.cells)[· % (if c.toNat * n = 0 then #[] else cz.cells).size]!)
      have hc0 : VRels γ (rep c.toNat z.cells) c0.toList := by
        by_cases hz0 : c.toNat * n = 0
        · have : rep c.toNat z.cells = [] := by
            apply List.eq_nil_of_length_eq_zero; rw [rep_length, h4, hz0]
          rw [this]; simp [c0, hz0]; exact VRels.nil
        · have := rep_rels hcz c.toNat (.inr (.inr trivial))
          simp only [c0, if_neg hz0]
          rw [← h4, hczl]; exact this
      obtain ⟨g1, g2⟩ := hr.newCells (w' := { w with heap := w.heap.push (.cells c0 elem) }) (g := 0) (x := 0) (e := elem) (c := c0) (hc_of_rels hc0 (rep_one hone _) (by intro k v h; simpa using h)) (by simp) (0, 0) (by simp) (fun _ => rfl) rfl
      refine ⟨_, _, .slice (some ⟨w.heap.size, 0, none⟩) l.toNat c.toNat, ?_, by simp only [VRel]; exact ⟨_, updG_same _ _ _, by simp⟩, g2, g1⟩
      simp only [Instr.makeSlice, Sem.run_bind, run_underlying hT hu, asInt, asIntOf, Sem.run_pure, hinf, Result.andThen_ok, hbytes, hwl, hwc]
      have e1 : (decide (c < 0) || decide ((by_ : Int) * c > 2 ^ 48)) = false := by simp; omega
      rw [e1]
      have e2 : ((false || decide (l < 0)) || decide (l > c)) = false := by simp; omega
      simp only [e2, Bool.false_eq_true, if_false, Sem.run_bind, run_askRoom, run_sizeOf hT hn, Result.andThen_ok]
      by_cases hz0 : c.toNat * n = 0
      · simp only [if_pos hz0, c0]; simp [run_newRow]
      · simp only [if_neg hz0, Sem.run_bind, hrz, Sem.run_pure, Result.andThen_ok, run_newRow, c0]
    · cases h
  · cases h

theorem asrc_run {size n : Nat} {x : AV} {cx : Value} {new : List AV} (hx : VRel γ x cx) (h : asrc size n s x = some new) :
    ∃ c, (Builtin.firstCells size n cx).run P w = .ok c w ∧ VRels γ new c.toList ∧ new.all AV.one = true := by
  unfold asrc at h
  split at h
  · rename_i l o _ _ _
    simp only [VRel] at hx; obtain ⟨i, hi, rfl⟩ := hx
    split at h
    · rename_i h0; subst h0
      obtain rfl := Option.some.inj h
      exact ⟨#[], by simp [Builtin.firstCells, loadCells, loadCellsFrom], VRels.nil, rfl⟩
    · obtain ⟨j, c, hj, hrun, hvs, hone, _⟩ := run_loadCells_rdc hT hr h
      rw [hi] at hj; obtain rfl := Option.some.inj hj
      exact ⟨c, hrun, hvs, hone⟩
  · simp only [VRel] at hx; obtain ⟨rfl, _⟩ := hx
    obtain rfl := Option.some.inj h
    exact ⟨#[], rfl, VRels.nil, rfl⟩
  · simp only [VRel] at hx; obtain ⟨a, m, rfl⟩ := hx
    split at h
    · rename_i h0; subst h0
      obtain rfl := Option.some.inj h
      exact ⟨#[], by simp [Builtin.firstCells, loadCells, loadCellsFrom], VRels.nil, rfl⟩
    · cases h
  · rename_i b
    simp only [VRel] at hx; subst hx
    obtain rfl := Option.some.inj h
    refine ⟨_, rfl, ?_, by rw [List.all_eq_true]; intro x hx; obtain ⟨y, _, rfl⟩ := List.mem_map.1 hx; rfl⟩
    have : (ByteArray.extract ⟨b.toArray⟩ 0 n).data.toList = b.take n := by simp [List.extract_eq_take_drop]
    refine VRels.iff_get.2 ⟨by simp [this], fun i v c hv hc => ?_⟩
    rw [Array.toList_map, this] at hc
    simp only [List.getElem?_map] at hv hc
    cases hb : (b.take n)[i]? with
    | none => simp [hb] at hv
    | some u =>
      simp only [hb, Option.map_some] at hv hc
      obtain rfl := Option.some.inj hv
      obtain rfl := Option.some.inj hc
      simp [VRel]
  · cases h

omit hT hr in
theorem alen_run {x : AV} {cx : Value} {n : Nat} (hx : VRel γ x cx) (h : alen x = some n) : (Builtin.lenOf cx).run P w = .ok n w := by
  unfold alen at h
  split at h
  · rename_i a m c e
    cases a with
    | none => simp only [VRel] at hx; obtain ⟨rfl, _⟩ := hx; obtain rfl := Option.some.inj h; rfl
    | some a => obtain ⟨l, o⟩ := a; simp only [VRel] at hx; obtain ⟨i, _, rfl⟩ := hx; obtain rfl := Option.some.inj h; rfl
  · simp only [VRel] at hx; obtain ⟨a, m, rfl⟩ := hx; obtain rfl := Option.some.inj h; rfl
  · simp only [VRel] at hx; subst hx; obtain rfl := Option.some.inj h; simp [Builtin.lenOf, ByteArray.size]
  · cases h

theorem acopy_run {t xt : TypeId} {dst x v : AV} {cd cx : Value} {s' : AS} (hd : VRel γ dst cd) (hx : VRel γ x cx) (h : acopy T t dst x s = some (v, s')) (ty : TypeId) :
    Sim P B γ s w (Builtin.copy_ #[t, xt] ty #[cd, cx]) v s' := by
  unfold acopy at h
  split at h
  · rename_i elem hu
    simp only [Option.bind_eq_some_iff] at h
    obtain ⟨size, hs, m, hm, d, hd', new, hnew, h⟩ := h
    obtain ⟨c, hc, hvs, hone⟩ := asrc_run hT hr hx hnew
    have hlm := alen_run (P := P) (w := w) hx hm
    have hld := alen_run (P := P) (w := w) hd hd'
    split at h
    · rename_i l o len cap ex
      simp only [VRel] at hd; obtain ⟨i, hi, rfl⟩ := hd
      obtain rfl : len = d := by simpa [alen] using hd'
      have hc' : (Builtin.firstCells size (Nat.min m len) cx).run P w = .ok c w := hc
      have body : ∀ w', (storeCells ⟨i.b, i.d + o, none⟩ c.toList).run P w = .ok () w' → (Builtin.copy_ #[t, xt] ty #[.slice (some ⟨i.b, i.d + o, none⟩) len (if ex then cap else cap + i.x), cx]).run P w = .ok (goInt ((min m len : Nat) : Int)) w' := by
        intro w' hw'
        simp only [Builtin.copy_, List.getElem?_toArray, List.getElem?_cons_zero, List.getElem?_cons_succ, Sem.run_bind, run_underlying hT hu, Result.andThen_ok, hlm, run_sizeOf hT hs, hc', hw', Sem.run_pure]
      split at h
      · rename_i h0; subst h0
        obtain ⟨rfl, rfl⟩ : _ ∧ _ := by simpa using h
        have : c.toList = [] := VRels.nil_iff.1 hvs
        exact Sim.val hr (body w (by rw [this]; rfl)) (by simp [VRel, goInt])
      · simp only [Option.map_eq_some_iff] at h
        obtain ⟨s'', hw, e⟩ := h
        obtain ⟨rfl, rfl⟩ : _ ∧ _ := by simpa using e
        obtain ⟨j, w', hj, hrun, hdid, hr'⟩ := awr_run hT hr hw hvs hone
        rw [hi] at hj; obtain rfl := Option.some.inj hj
        exact ⟨γ, w', _, body w' hrun, by simp [VRel, goInt], hdid, hr'⟩
    · rename_i len cap ex
      simp only [VRel] at hd; obtain ⟨rfl, _⟩ := hd
      obtain rfl : len = d := by simpa [alen] using hd'
      obtain ⟨rfl, rfl⟩ : _ ∧ _ := by simpa using h
      have hc' : (Builtin.firstCells size (Nat.min m len) cx).run P w = .ok c w := hc
      refine Sim.val hr (cv := goInt ((min m len : Nat) : Int)) ?_ (by simp [VRel, goInt])
      simp only [Builtin.copy_, List.getElem?_toArray, List.getElem?_cons_zero, List.getElem?_cons_succ, Sem.run_bind, run_underlying hT hu, Result.andThen_ok, hlm, run_sizeOf hT hs, hc', Sem.run_pure]
    · simp only [VRel] at hd; obtain ⟨a, k, rfl⟩ := hd
      obtain rfl : 0 = d := by simpa [alen] using hd'
      split at h
      · rename_i h0; subst h0
        obtain ⟨rfl, rfl⟩ : _ ∧ _ := by simpa using h
        have hnil : c.toList = [] := VRels.nil_iff.1 hvs
        have hc' : (Builtin.firstCells size (Nat.min m 0) cx).run P w = .ok c w := hc
        refine Sim.val hr (cv := goInt ((min m 0 : Nat) : Int)) ?_ (by simp [VRel, goInt])
        simp only [Builtin.copy_, List.getElem?_toArray, List.getElem?_cons_zero, List.getElem?_cons_succ, Sem.run_bind, run_underlying hT hu, Result.andThen_ok, hlm, run_sizeOf hT hs, hc', hnil, storeCells, Sem.run_pure]
      · cases h
    · cases h
  · cases h

omit hr in
/-- append where there is room -/
theorem append_room {t xt elem : TypeId} {xd : TypeDesc} {size len cap' n : Nat} {base : Option Addr} {cx : Value} {c : Array Value} {w' : World} (hu : T.und t = some (.slice elem)) (hux : T.und xt = some xd)
    (hzeros : isIntD xd = false) (hs : T.siz elem = some size) (hlx : (Builtin.lenOf cx).run P w = .ok n w) (hc : (Builtin.firstCells size n cx).run P w = .ok c w) (hroom : len + n ≤ cap') (ty : TypeId)
    (hst : (match base with | some a => storeCells (a.add (len * size)) c.toList | none => pure () : Sem Unit).run P w = .ok () w') :
    (Builtin.append_ #[t, xt] ty #[.slice base len cap', cx]).run P w = .ok (.slice base (len + n) cap') w' := by
  cases xd <;> first
    | (cases hzeros; done)
    | (simp only [Builtin.append_, List.getElem?_toArray, List.getElem?_cons_zero, List.getElem?_cons_succ, Sem.run_bind, run_underlying hT hu, run_underlying hT hux, run_sizeOf hT hs, Result.andThen_ok, Sem.run_pure, Bool.false_eq_true, if_false, hlx, if_pos hroom, Bool.not_false, if_true, hc]
       cases base with
       | none => simp only at hst ⊢; cases hst; rfl
       | some a => simp only at hst ⊢; simp [hst])

omit hr in
/-- append where there is no room -/
theorem append_grow {t xt elem : TypeId} {xd : TypeDesc} {size by_ len cap' n : Nat} {base : Option Addr} {cx cz : Value} (hu : T.und t = some (.slice elem)) (hux : T.und xt = some xd)
    (hzeros : isIntD xd = false) (hs : T.siz elem = some size) (hby : T.byt elem = some by_) (hlx : (Builtin.lenOf cx).run P w = .ok n w) (hz : ∀ w, (zeroValue elem).run P w = .ok cz w)
    (hroom : ¬ len + n ≤ cap') (hb1 : len + n ≤ 2 ^ 40) (hb2 : 2 * ((len + n + 256) * by_) ≤ 2 ^ 48) (ty : TypeId) :
    ∃ wd newCap, (wd.heap = w.heap ∧ Env w wd) ∧ len + n ≤ newCap ∧ ∀ old new, (Builtin.firstCells size len (.slice base len cap')).run P wd = .ok old wd → (Builtin.firstCells size n cx).run P wd = .ok new wd →
      (Builtin.append_ #[t, xt] ty #[.slice base len cap', cx]).run P w = .ok (.slice (some ⟨w.heap.size, 0, none⟩) (len + n) newCap)
        { wd with heap := wd.heap.push (.cells (old ++ new ++ Builtin.zeroCells cz.cells (newCap - (len + n))) elem) } := by
  have hq : (Question.appendCap (len + n) cap' elem).forced = false := rfl
  refine ⟨{ w with drawn := w.drawn + 1 }, (Question.appendCap (len + n) cap' elem).cut (w.tape w.drawn (Question.appendCap (len + n) cap' elem)), ⟨rfl, rfl, rfl, rfl⟩, Nat.le_add_right _ _, fun old new ho hn => ?_⟩
  obtain ⟨inf, hinf, hbytes⟩ := run_bytes hT hby w
  have hinf2 : ∀ w, (typeInfo elem).run P w = .ok inf w := by
    intro w2
    obtain ⟨inf2, hinf2, _⟩ := run_bytes hT hby w2
    have e1 : (typeInfo elem).run P w = (match P.info? elem with | some i => .ok i w | none => .halt (.stuck "no such type") w) := by
      simp only [typeInfo, Sem.run_bind, run_program, Result.andThen_ok]; cases P.info? elem <;> rfl
    have e2 : (typeInfo elem).run P w2 = (match P.info? elem with | some i => .ok i w2 | none => .halt (.stuck "no such type") w2) := by
      simp only [typeInfo, Sem.run_bind, run_program, Result.andThen_ok]; cases P.info? elem <;> rfl
    rw [e1] at hinf; rw [e2]
    cases hi : P.info? elem with
    | none => rw [hi] at hinf; cases hinf
    | some i => rw [hi] at hinf; cases hinf; rfl
  have hcond1 : ¬ (((len + n : Nat) : Int) > IntKind.i64.max ∧ ((false = true) ∨ inf.bytes = 0)) := by
    have : IntKind.i64.max = 9223372036854775807 := rfl
    rw [this]; omega
  have hcond2 : ¬ (Builtin.nextslicecap (len + n) cap' * inf.bytes > 2 ^ 48) := by
    have h1 := nextslicecap_le (need := len + n) (cap := cap') (by omega)
    have h2 : Builtin.nextslicecap (len + n) cap' * inf.bytes ≤ 2 * (len + n + 256) * by_ := by rw [hbytes]; exact Nat.mul_le_mul_right _ h1
    have h3 : 2 * (len + n + 256) * by_ = 2 * ((len + n + 256) * by_) := by rw [Nat.mul_assoc]
    omega
  cases xd <;> first
    | (cases hzeros; done)
    | (simp only [Builtin.append_, List.getElem?_toArray, List.getElem?_cons_zero, List.getElem?_cons_succ, Sem.run_bind, run_underlying hT hu, run_underlying hT hux, run_sizeOf hT hs, Result.andThen_ok, Sem.run_pure, Bool.false_eq_true, if_false, hlx, if_neg hroom, Bool.not_false, if_true, hinf2]
       rw [if_neg (by simpa using hcond1)]
       simp only [Sem.run_bind, hinf2, Result.andThen_ok]
       rw [if_neg hcond2]
       simp only [Sem.run_bind, run_choose, hq, Bool.false_eq_true, if_false, Result.andThen_ok, hinf2, run_askRoom, ho, hn, hz, run_newRow, Sem.run_pure])

omit hT hr in
theorem append_one {a b : List AV} (h1 : a.all AV.one = true) (h2 : b.all AV.one = true) : (a ++ b).all AV.one = true := by simp [h1, h2]

/-- the new row of an append -/
theorem grow_rel {elem : TypeId} {wd : World} {old new : List AV} {co cn cz : Array Value} {size need newCap x : Nat} (hw : wd.heap = w.heap) (hew : Env w wd) (ho : VRels γ old co.toList) (hn : VRels γ new cn.toList)
    (ho1 : old.all AV.one = true) (hn1 : new.all AV.one = true) (hx : newCap = need + x) (hcz : cz.size = size) {zc : List AV} (hzr : VRels γ zc cz.toList) (hz1 : zc.all AV.one = true) :
    Rel B (updG γ s.nl ⟨w.heap.size, 0, x⟩) (s.new (.cells (old ++ new) size false)) { wd with heap := wd.heap.push (.cells (co ++ cn ++ Builtin.zeroCells cz (newCap - need)) elem) } ∧
      Did B γ s w (updG γ s.nl ⟨w.heap.size, 0, x⟩) (s.new (.cells (old ++ new) size false)) { wd with heap := wd.heap.push (.cells (co ++ cn ++ Builtin.zeroCells cz (newCap - need)) elem) } := by
  have hlo := ho.length
  have hln := hn.length
  simp only [Array.length_toList] at hlo hln
  refine hr.newCells (w' := { wd with heap := wd.heap.push (.cells (co ++ cn ++ Builtin.zeroCells cz (newCap - need)) elem) }) (g := size) (x := x) (e := elem) (c := co ++ cn ++ Builtin.zeroCells cz (newCap - need))
    (hc_of_rels (ho.append hn) (append_one ho1 hn1) ?_) ?_ (0, 0) (by simp) (fun _ => rfl) (by simp [hw]) hew
  · intro k v hk
    have hlt : k < co.size + cn.size := by
      rcases Nat.lt_or_ge k (co.size + cn.size) with h | h
      · exact h
      · rw [List.getElem?_eq_none (by simp; omega)] at hk; cases hk
    rw [← Array.getElem?_toList]
    simp only [Array.toList_append]
    rw [List.getElem?_append_left (by simpa using hlt)]
    exact hk
  · intro _
    refine ⟨?_, fun k hk hk' => ?_⟩
    · simp only [Array.size_append, zeroCells_size, List.length_append, hlo, hln, hcz]
      rw [show newCap - need = x by omega]
    · rw [List.length_append, hlo, hln] at hk
      rw [Array.getElem?_append_right (by simpa using hk)]
      have hlt : k - (co ++ cn).size < (Builtin.zeroCells cz (newCap - need)).size := by simp only [Array.size_append] at hk' ⊢; omega
      rw [Array.getElem?_eq_getElem hlt]
      have hrz := zeroCells_rels hzr (newCap - need)
      have hlz := hrz.length
      simp only [Array.length_toList] at hlz
      have hltz : k - (co ++ cn).size < (rep (newCap - need) zc).length := by omega
      obtain ⟨c', hc', hrel⟩ := hrz.get (List.getElem?_eq_getElem hltz)
      rw [Array.getElem?_toList, Array.getElem?_eq_getElem hlt] at hc'
      obtain rfl := Option.some.inj hc'
      exact ⟨_, _, List.all_eq_true.1 (rep_one hz1 _) _ (List.getElem_mem hltz), rfl, hrel⟩

omit hr in
/-- append(s, make(..)...) where there is no room -/
theorem append_growZ {t xt elem : TypeId} {xk : IntKind} {size by_ len cap' : Nat} {base : Option Addr} {k : Int} {cz : Value} (hu : T.und t = some (.slice elem)) (hux : T.und xt = some (.int xk))
    (hs : T.siz elem = some size) (hby : T.byt elem = some by_) (hz : ∀ w, (zeroValue elem).run P w = .ok cz w) (hcz : cz.cells.size = size) (hk : 0 ≤ k)
    (hroom : ¬ len + k.toNat ≤ cap') (hb1 : len + k.toNat ≤ 2 ^ 40) (hb2 : 2 * ((len + k.toNat + 256) * by_) ≤ 2 ^ 48) (ty : TypeId) :
    ∃ wd newCap, (wd.heap = w.heap ∧ Env w wd) ∧ len + k.toNat ≤ newCap ∧ ∀ old, (Builtin.firstCells size len (.slice base len cap')).run P wd = .ok old wd →
      (Builtin.append_ #[t, xt] ty #[.slice base len cap', .int .i64 k]).run P w = .ok (.slice (some ⟨w.heap.size, 0, none⟩) (len + k.toNat) newCap)
        { wd with heap := wd.heap.push (.cells (old ++ Builtin.zeroCells cz.cells k.toNat ++ Builtin.zeroCells cz.cells (newCap - (len + k.toNat))) elem) } := by
  have hq : (Question.appendCap (len + k.toNat) cap' elem).forced = false := rfl
  refine ⟨{ w with drawn := w.drawn + 1 }, (Question.appendCap (len + k.toNat) cap' elem).cut (w.tape w.drawn (Question.appendCap (len + k.toNat) cap' elem)), ⟨rfl, rfl, rfl, rfl⟩, Nat.le_add_right _ _, fun old ho => ?_⟩
  obtain ⟨inf, hinf, hbytes⟩ := run_bytes hT hby w
  have hinf2 : ∀ w, (typeInfo elem).run P w = .ok inf w := by
    intro w2
    obtain ⟨inf2, hinf2, _⟩ := run_bytes hT hby w2
    have e1 : (typeInfo elem).run P w = (match P.info? elem with | some i => .ok i w | none => .halt (.stuck "no such type") w) := by
      simp only [typeInfo, Sem.run_bind, run_program, Result.andThen_ok]; cases P.info? elem <;> rfl
    have e2 : (typeInfo elem).run P w2 = (match P.info? elem with | some i => .ok i w2 | none => .halt (.stuck "no such type") w2) := by
      simp only [typeInfo, Sem.run_bind, run_program, Result.andThen_ok]; cases P.info? elem <;> rfl
    rw [e1] at hinf; rw [e2]
    cases hi : P.info? elem with
    | none => rw [hi] at hinf; cases hinf
    | some i => rw [hi] at hinf; cases hinf; rfl
  have hmax : IntKind.i64.max = 9223372036854775807 := rfl
  have hwrap : IntKind.i64.wrap k = k := IntWalk.i64_in k (by omega)
  have hcond1 : ¬ (((len + k.toNat : Nat) : Int) > IntKind.i64.max ∧ ((true = true) ∨ inf.bytes = 0)) := by
    rw [hmax]; omega
  have hcond2 : ¬ (Builtin.nextslicecap (len + k.toNat) cap' * inf.bytes > 2 ^ 48) := by
    have h1 := nextslicecap_le (need := len + k.toNat) (cap := cap') (by omega)
    have h2 : Builtin.nextslicecap (len + k.toNat) cap' * inf.bytes ≤ 2 * (len + k.toNat + 256) * by_ := by rw [hbytes]; exact Nat.mul_le_mul_right _ h1
    have h3 : 2 * (len + k.toNat + 256) * by_ = 2 * ((len + k.toNat + 256) * by_) := by rw [Nat.mul_assoc]
    omega
  have hcond0 : ¬ (k * (inf.bytes : Int) > 2 ^ 48) := by
    rw [hbytes]
    have h1 : k.toNat * by_ ≤ (len + k.toNat + 256) * by_ := Nat.mul_le_mul_right _ (by omega)
    have h2 : k * (by_ : Int) = ((k.toNat * by_ : Nat) : Int) := by rw [Int.natCast_mul, Int.toNat_of_nonneg hk]
    rw [h2]
    omega
  have happ : ∀ w, ((if k.toNat * size = 0 then pure #[] else do pure (Builtin.zeroCells (← zeroValue elem).cells k.toNat)) : Sem (Array Value)).run P w = .ok (Builtin.zeroCells cz.cells k.toNat) w := by
    intro w
    split
    · rename_i h0
      have : Builtin.zeroCells cz.cells k.toNat = #[] := Array.eq_empty_of_size_eq_zero (by rw [zeroCells_size, hcz]; exact h0)
      rw [this]; rfl
    · simp only [Sem.run_bind, hz, Result.andThen_ok, Sem.run_pure]
  simp only [Builtin.append_, List.getElem?_toArray, List.getElem?_cons_zero, List.getElem?_cons_succ, Sem.run_bind, run_underlying hT hu, run_underlying hT hux, run_sizeOf hT hs, Result.andThen_ok, Sem.run_pure, asInt, asIntOf, if_true, hwrap, hinf2]
  rw [if_neg (by omega)]
  simp only [Sem.run_bind, Sem.run_pure, Result.andThen_ok, hinf2]
  rw [if_neg hcond0]
  simp only [Sem.run_bind, Sem.run_pure, Result.andThen_ok, hinf2, if_neg hroom, Bool.not_true, Bool.false_eq_true, if_false]
  rw [if_neg (by simpa using hcond1)]
  simp only [Sem.run_bind, hinf2, Result.andThen_ok, Sem.run_pure]
  rw [if_neg hcond2]
  simp only [Sem.run_bind, run_choose, hq, Bool.false_eq_true, if_false, Result.andThen_ok, hinf2, run_askRoom, ho, happ, hz, run_newRow, Sem.run_pure]

theorem aappendZ_run {t xt elem : TypeId} {xk : IntKind} {dst x v : AV} {cd cx : Value} {s' : AS} (hu : T.und t = some (.slice elem)) (hux : T.und xt = some (.int xk)) (hd : VRel γ dst cd) (hx : VRel γ x cx) (h : aappendZ T elem dst x s = some (v, s')) (ty : TypeId) :
    Sim P B γ s w (Builtin.append_ #[t, xt] ty #[cd, cx]) v s' := by
  unfold aappendZ at h
  simp only [Option.bind_eq_some_iff] at h
  obtain ⟨size, hs, by_, hby, z, hz, zc, hzc, h⟩ := h
  obtain ⟨rfl, honez⟩ := acells_some hzc
  split at h
  · rename_i base len cap k
    split at h
    · cases h
    · rename_i hcond
      simp only [not_or, Nat.not_lt, Int.not_lt, Decidable.not_not, gt_iff_lt, ne_eq] at hcond
      obtain ⟨hc1, hc2, hc3, hc4, hc5⟩ := hcond
      simp only [Option.map_eq_some_iff] at h
      obtain ⟨old, hold, h⟩ := h
      obtain ⟨rfl, rfl⟩ : _ ∧ _ := by simpa using h
      obtain ⟨cz, hrz, hcz, hzr⟩ : ∃ cz : Value, (∀ w, (zeroValue elem).run P w = .ok cz w) ∧ cz.cells.size = size ∧ VRels γ z.cells cz.cells.toList := by
        obtain ⟨inf, cz, hi, hcz, hvz⟩ := hT.zer elem z hz
        refine ⟨cz, fun w => by simp [zeroValue, typeInfo, hi, hcz], ?_, (hvz γ).cells honez⟩
        have := ((hvz γ).cells honez).length
        simp only [Array.length_toList] at this
        omega
      simp only [VRel] at hx
      subst hx
      obtain ⟨ca, hca⟩ : ∃ ca, cd = .slice ca len cap := by
        cases base with
        | none => simp only [VRel] at hd; exact ⟨none, hd.1⟩
        | some a => obtain ⟨l, o⟩ := a; simp only [VRel] at hd; obtain ⟨i, _, e⟩ := hd; exact ⟨_, by simpa using e⟩
      subst hca
      obtain ⟨wd, newCap, ⟨hwd, hew⟩, hnc, hrun⟩ := append_growZ hT (w := w) (base := ca) (len := len) (cap' := cap) (k := k) hu hux hs hby hrz hcz hc2 hc5 hc3 (by omega) ty
      have hrd : Rel B γ s wd := hr.of_heap hwd
      obtain ⟨co, hco, hvo, hoo⟩ := asrc_run hT hrd hd hold
      obtain ⟨g1, g2⟩ := grow_rel (P := P) hT hr (elem := elem) (size := size) (need := len + k.toNat) (newCap := newCap) (x := newCap - (len + k.toNat)) hwd hew hvo (zeroCells_rels hzr k.toNat) hoo (rep_one honez _) (by omega) hcz hzr honez
      refine ⟨_, _, _, hrun co hco, ?_, g2, g1⟩
      simp only [VRel]
      refine ⟨_, updG_same _ _ _, ?_⟩
      simp only [Bool.false_eq_true, if_false]
      rw [show len + k.toNat + (newCap - (len + k.toNat)) = newCap by omega]
  · cases h

theorem aappend_run {t xt : TypeId} {dst x v : AV} {cd cx : Value} {s' : AS} (hd : VRel γ dst cd) (hx : VRel γ x cx) (h : aappend T t xt dst x s = some (v, s')) (ty : TypeId) :
    Sim P B γ s w (Builtin.append_ #[t, xt] ty #[cd, cx]) v s' := by
  unfold aappend at h
  split at h
  · rename_i elem xd hu hux
    split at h
    · rename_i hint
      simp only [if_true] at h
      exact aappendZ_run hT hr hu hux hd hx h ty
    · rename_i hint
      simp only [Bool.false_eq_true, if_false, Option.bind_eq_some_iff] at h
      obtain ⟨size, hs, by_, hby, z, hz, zc, hzc, n, hn, new, hnew, h⟩ := h
      obtain ⟨c, hc, hvs, hone⟩ := asrc_run hT hr hx hnew
      have hlx := alen_run (P := P) (w := w) hx hn
      obtain ⟨rfl, honez⟩ := acells_some hzc
      have hzeros : isIntD xd = false := by cases xd <;> first | rfl | exact (hint _ rfl).elim
      split at h
      · rename_i base len cap ex
        split at h
        · cases h
        · rename_i hcond
          simp only [not_or, Nat.not_lt, Decidable.not_not, gt_iff_lt, ne_eq] at hcond
          obtain ⟨hc1, hc2, hc3, hc4⟩ := hcond
          -- the zero value, in whatever world
          obtain ⟨cz, hrz, hcz, hzr⟩ : ∃ cz : Value, (∀ w, (zeroValue elem).run P w = .ok cz w) ∧ cz.cells.size = size ∧ VRels γ z.cells cz.cells.toList := by
            obtain ⟨inf, cz, hi, hcz, hvz⟩ := hT.zer elem z hz
            refine ⟨cz, fun w => by simp [zeroValue, typeInfo, hi, hcz], ?_, (hvz γ).cells honez⟩
            have := ((hvz γ).cells honez).length
            simp only [Array.length_toList] at this
            omega
          -- a new row
          have grow : ∀ (cap' : Nat) (ca : Option Addr) (old : List AV) (s1 : AS), (∀ l o, s1.h l = some o → s.h l = some o) → s1.nl = s.nl → Rel B γ s1 w → Did B γ s w γ s1 w → VRel γ (.slc base len cap ex) (.slice ca len cap') →
              asrc size len s (.slc base len cap ex) = some old → ¬ len + n ≤ cap' →
              Sim P B γ s w (Builtin.append_ #[t, xt] ty #[.slice ca len cap', cx]) (.slc (some (s.nl, 0)) (len + n) (len + n) false) (s1.new (.cells (old ++ new) size false)) := by
            intro cap' ca old s1 hsub hnl hr1 hd1 hv hold hroom
            obtain ⟨wd, newCap, ⟨hwd, hew⟩, hnc, hrun⟩ := append_grow hT (w := w) (base := ca) hu hux hzeros hs hby hlx hrz hroom (by omega) (by omega) ty
            have hrd : Rel B γ s wd := hr.of_heap hwd
            obtain ⟨co, hco, hvo, hoo⟩ := asrc_run hT hrd hv hold
            obtain ⟨cn, hcn, hvn, hon⟩ := asrc_run hT hrd hx hnew
            obtain ⟨g1, g2⟩ := grow_rel (P := P) hT hr1 (elem := elem) (size := size) (need := len + n) (newCap := newCap) (x := newCap - (len + n)) hwd hew hvo hvn hoo hon (by omega) hcz hzr honez
            refine ⟨_, _, _, hrun co cn hco hcn, ?_, hd1.trans g2, g1⟩
            simp only [VRel]
            refine ⟨_, by rw [← hnl]; exact updG_same _ _ _, ?_⟩
            simp only [Bool.false_eq_true, if_false]
            rw [show len + n + (newCap - (len + n)) = newCap by omega]
          cases base with
          | none =>
            simp only [VRel] at hd
            obtain ⟨rfl, rfl⟩ := hd
            split at h
            · rename_i hroom
              obtain ⟨rfl, rfl⟩ : _ ∧ _ := by simpa using h
              exact Sim.val hr (append_room hT hu hux hzeros hs hlx hc hroom ty rfl) (by simp [VRel])
            · rename_i hroom
              simp only [Option.bind_eq_some_iff, if_true] at h
              obtain ⟨old, hold, h⟩ := h
              obtain ⟨rfl, rfl⟩ : _ ∧ _ := by simpa using h
              exact grow cap none old s (fun _ _ h => h) rfl hr Did.refl (by simp [VRel]) hold hroom
          | some bo =>
            obtain ⟨l, o⟩ := bo
            have hd0 := hd
            simp only [VRel] at hd
            obtain ⟨i, hi, rfl⟩ := hd
            split at h
            · rename_i hroom
              have hroom' : len + n ≤ (if ex then cap else cap + i.x) := by split <;> omega
              simp only at h
              split at h
              · rename_i h0
                obtain ⟨rfl, rfl⟩ : _ ∧ _ := by simpa using h
                subst h0
                have hnil : c.toList = [] := VRels.nil_iff.1 hvs
                exact Sim.val hr (append_room hT hu hux hzeros hs hlx hc hroom' ty (w' := w) (by simp [hnil, storeCells])) (by simp only [VRel]; exact ⟨i, hi, rfl⟩)
              · simp only [Option.map_eq_some_iff] at h
                obtain ⟨s'', hw, e⟩ := h
                obtain ⟨rfl, rfl⟩ : _ ∧ _ := by simpa using e
                obtain ⟨j, w', hj, hrun, hdid, hr'⟩ := awr_run hT hr hw hvs hone
                rw [hi] at hj; obtain rfl := Option.some.inj hj
                exact ⟨γ, w', _, append_room hT hu hux hzeros hs hlx hc hroom' ty (by simp only [add_addr]; rw [Nat.add_assoc]; exact hrun), by simp only [VRel]; exact ⟨i, hi, rfl⟩, hdid, hr'⟩
            · rename_i hroom
              simp only [Option.bind_eq_some_iff] at h
              obtain ⟨old, hold, h⟩ := h
              cases ex with
              | true =>
                simp only [if_true] at h hd0 ⊢
                obtain ⟨rfl, rfl⟩ : _ ∧ _ := by simpa using h
                exact grow cap _ old s (fun _ _ h => h) rfl hr Did.refl hd0 hold hroom
              | false =>
                simp only [Bool.false_eq_true, if_false] at h hd0 ⊢
                split at h
                · rename_i cs g hl
                  split at h
                  · rename_i hg
                    obtain ⟨rfl, hg0, hgl⟩ := hg
                    obtain ⟨rfl, rfl⟩ : _ ∧ _ := by simpa using h
                    by_cases hroom' : len + n ≤ cap + i.x
                    · -- in place
                      obtain ⟨j, hj, hO, hB⟩ := hr.obj l _ hl
                      rw [hi] at hj; obtain rfl := Option.some.inj hj
                      obtain ⟨ca, e, fz, hb, hcc, hf, hgz, hf0⟩ := hO
                      have hsz := (hgz hg0).1
                      have hln := hvs.length
                      simp only [Array.length_toList] at hln
                      have hold' : rdc s l o (len * g) = some old := by
                        simp only [asrc] at hold
                        split at hold
                        · rename_i h0
                          obtain rfl := Option.some.inj hold
                          simp only [rdc, hl, h0, Nat.zero_mul, Nat.add_zero, List.take_zero]
                          rw [if_pos (by omega)]
                        · exact hold
                      have holdl : old.length = len * g := by obtain ⟨_, _, _, _, _, _, _, _, _, hh⟩ := rdc_run hT hr hold'; exact hh
                      have hmul : (len + n) * g ≤ (cap + i.x) * g := Nat.mul_le_mul_right _ hroom'
                      have e1 : (len + n) * g = len * g + n * g := Nat.add_mul _ _ _
                      have e2 : (cap + i.x) * g = cap * g + i.x * g := Nat.add_mul _ _ _
                      have hcells1 : ∀ v ∈ c.toList, v.oneCell' = true := by
                        intro v hm
                        obtain ⟨k, hk⟩ := List.mem_iff_getElem?.1 hm
                        have hkl : k < new.length := by
                          rcases Nat.lt_or_ge k c.toList.length with h | h
                          · have := hvs.length; omega
                          · simp [List.getElem?_eq_none h] at hk
                        have hvk := List.getElem?_eq_getElem hkl
                        obtain ⟨c', hc', hr'⟩ := hvs.get hvk
                        rw [hk] at hc'; obtain rfl := Option.some.inj hc'
                        exact hr'.one (List.all_eq_true.1 hone _ (List.mem_of_getElem? hvk))
                      obtain ⟨w', hrun, hw', hev⟩ := run_storeCells P (b := i.b) (o := i.d + o + len * g) c.toList 0 w ca hb (by simp only [Array.length_toList]; omega) (hf rfl) hcells1
                      have hbl := ORel.lt (γ := γ) (o := .cells cs g false) ⟨ca, e, fz, hb, hcc, hf, hgz, hf0⟩
                      have hle : Gam.le γ (updG γ s.nl ⟨i.b, i.d + o, cap + i.x - (len + n)⟩) := Gam.le_upd hr.fin0
                      have hO' : ORel (updG γ s.nl ⟨i.b, i.d + o, cap + i.x - (len + n)⟩) w' ⟨i.b, i.d + o, cap + i.x - (len + n)⟩ (.cells (old ++ new) g false) := by
                        refine ⟨wrc ca (i.d + o + len * g + 0) c.toList, e, fz, by simp only; rw [hw']; simp [hbl], fun k v hk => ?_, fun _ => by rw [wrc_size]; exact hf rfl, fun _ => ⟨?_, fun k hk hk' => ?_⟩, hf0⟩
                        · rw [wrc_get _ _ _ _ (by simp only [Array.length_toList]; omega)]
                          rw [List.getElem?_append] at hk
                          split at hk
                          · rename_i hkl
                            simp only
                            rw [if_neg (by omega)]
                            have hok : cs[o + k]? = some v := by
                              unfold rdc at hold'
                              rw [hl] at hold'
                              simp only at hold'
                              split at hold'
                              · obtain rfl := Option.some.inj hold'
                                rw [List.getElem?_take, List.getElem?_drop] at hk
                                split at hk
                                · exact hk
                                · cases hk
                              · cases hold'
                            obtain ⟨h1, cv, h2, h3⟩ := hcc _ v hok
                            exact ⟨h1, cv, by rw [← h2]; congr 1; omega, h3.mono hle⟩
                          · rename_i hkl
                            obtain ⟨c', hc', hr'⟩ := hvs.get hk
                            have hkn : k - old.length < new.length := by
                              rcases Nat.lt_or_ge (k - old.length) new.length with h | h
                              · exact h
                              · simp [List.getElem?_eq_none h] at hk
                            simp only
                            rw [if_pos (by simp only [Array.length_toList]; omega)]
                            refine ⟨List.all_eq_true.1 hone _ (List.mem_of_getElem? hk), c', ?_, hr'.mono hle⟩
                            rw [← hc']; congr 1; omega
                        · rw [wrc_size, hsz, List.length_append, holdl, hc2]
                          simp only
                          rw [Nat.mul_sub_right_distrib]
                          omega
                        · simp only at hk hk' ⊢
                          rw [wrc_size] at hk'
                          rw [List.length_append, holdl, hc2] at hk
                          rw [wrc_get _ _ _ _ (by simp only [Array.length_toList]; omega), if_neg (by simp only [Array.length_toList]; omega)]
                          rcases Nat.lt_or_ge k (i.d + cs.length) with hkc | hkc
                          · obtain ⟨h1, cv, h2, h3⟩ := hcc (k - i.d) _ (List.getElem?_eq_getElem (show k - i.d < cs.length by omega))
                            exact ⟨_, cv, h1, by rw [← h2]; congr 1; omega, h3.mono hle⟩
                          · obtain ⟨v, cv, h1, h2, h3⟩ := (hgz hg0).2 k hkc hk'
                            exact ⟨v, cv, h1, h2, h3.mono hle⟩
                      obtain ⟨g1, g2⟩ := hr.take hl rfl rfl hi (i' := ⟨i.b, i.d + o, cap + i.x - (len + n)⟩) rfl hw' hO' hev
                      refine ⟨_, w', _, append_room hT hu hux hzeros hs hlx hc hroom' ty (by simp only [add_addr]; exact hrun), ?_, g2, g1⟩
                      simp only [VRel]
                      refine ⟨_, updG_same _ _ _, ?_⟩
                      simp only [Bool.false_eq_true, if_false, Nat.add_zero]
                      rw [show len + n + (cap + i.x - (len + n)) = cap + i.x by omega]
                    · obtain ⟨k1, k2⟩ := hr.kill l
                      refine grow (cap + i.x) _ old (s.kill l) ?_ rfl k1 k2 hd0 hold hroom'
                      intro l' o' hl'
                      rw [AS.kill_h] at hl'
                      split at hl'
                      · cases hl'
                      · exact hl'
                  · cases h
                · cases h
      · cases h
  · cases h

end
end Go.Am
