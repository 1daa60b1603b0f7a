/-
  The abstract machine Am: equality of structs and arrays; places in arrays; structs that are built.
-/
import Derived.Test.YtbfchlimonimkaaAmG
set_option linter.unusedSectionVars false
set_option linter.unusedSimpArgs false
set_option linter.unusedVariables false
namespace Go.Am

def triples (d : Option TypeDesc) : Option (List (Bool × TypeId × Nat)) := match d with
  | some (.struct fs) => some (fs.toList.map fun f => (f.name == "_", f.type, f.offset))
  | _ => none

def eqTri (T : TT) (eqv : TypeId → AV → AV → Option Bool) (xs ys : List AV) : List (Bool × TypeId × Nat) → Option Bool
  | [] => some true
  | f :: fs => bif f.1 then eqTri T eqv xs ys fs else
      (part T f.2.1 xs f.2.2).bind fun a => (part T f.2.1 ys f.2.2).bind fun b =>
        match eqv f.2.1 a b with
        | some true => eqTri T eqv xs ys fs
        | r => r

theorem eqFields_tri {T : TT} {eqv : TypeId → AV → AV → Option Bool} {xs ys : List AV} : ∀ (fs : List Field), eqFields T eqv xs ys fs = eqTri T eqv xs ys (fs.map fun f => (f.name == "_", f.type, f.offset))
  | [] => rfl
  | f :: fs => by
    simp only [eqFields, List.map_cons, eqTri]
    have ih := eqFields_tri (T := T) (eqv := eqv) (xs := xs) (ys := ys) fs
    rw [ih]
    by_cases h : f.name = "_"
    · simp [h]
    · have : (f.name == "_") = false := by simpa using h
      simp only [ne_eq, h, not_false_eq_true, if_true, this, cond_false]
      first
        | done
        | (congr 1; done)
        | (congr 1; funext a; congr 1; funext b; cases eqv f.type a b with
          | none => rfl
          | some x => cases x <;> rfl)

theorem aeq_tri {T : TT} {t : TypeId} {l : List (Bool × TypeId × Nat)} (h : triples (T.und t) = some l) (he : T.eqt t = true) (d : Nat) (xs ys : List AV) : aeq T (d + 1) t (.agg xs) (.agg ys) = eqTri T (aeq T d) xs ys l := by
  unfold triples at h
  split at h
  · rename_i fs hu
    obtain rfl := Option.some.inj h
    simp only [aeq, hu, he, if_true, eqFields_tri]
  · cases h

theorem aeqInt {T : TT} {t : TypeId} {k k' : IntKind} (hu : T.und t = some (.int k)) (d : Nat) (a b : Int) : aeq T (d + 1) t (.int k' a) (.int k' b) = some (a == b) := by simp [aeq, hu]
theorem aeqStr {T : TT} {t : TypeId} (hu : T.und t = some .string) (d : Nat) (a b : List UInt8) : aeq T (d + 1) t (.str a) (.str b) = some (a == b) := by simp [aeq, hu]
theorem aeqBool {T : TT} {t : TypeId} (hu : T.und t = some .bool) (d : Nat) (a b : Bool) : aeq T (d + 1) t (.bool a) (.bool b) = some (a == b) := by simp [aeq, hu]

theorem part_s {T : TT} {t : TypeId} (h : T.agg t = some false) (cs : List AV) (o : Nat) : part T t cs o = cs[o]? := by simp [part, h]
theorem part_a {T : TT} {t : TypeId} {n : Nat} (h : T.agg t = some true) (hs : T.siz t = some n) (cs : List AV) (o : Nat) : part T t cs o = some (.agg ((cs.drop o).take n)) := by simp [part, h, hs]

/-- arrays of numbers -/
theorem eqElems_int {T : TT} {t : TypeId} {k : IntKind} (hu : T.und t = some (.int k)) (d : Nat) : ∀ (len i : Nat) (xs ys : List Int), i + len ≤ xs.length → i + len ≤ ys.length →
    eqElems T (aeq T (d + 1)) t 1 (xs.map (.int k)) (ys.map (.int k)) len i = some (decide ((xs.drop i).take len = (ys.drop i).take len))
  | 0, i, xs, ys, _, _ => by simp [eqElems]
  | len + 1, i, xs, ys, hx, hy => by
    have hag : T.agg t = some false := by simp [TT.agg, hu]
    have h1 : xs[i]? = some (xs[i]'(by omega)) := List.getElem?_eq_getElem _
    have h2 : ys[i]? = some (ys[i]'(by omega)) := List.getElem?_eq_getElem _
    simp only [eqElems, part_s hag, Nat.mul_one, List.getElem?_map, h1, h2, Option.map_some, Option.bind_some, aeqInt hu]
    rw [eqElems_int hu d len (i + 1) xs ys (by omega) (by omega)]
    rw [List.drop_eq_getElem_cons (show i < xs.length by omega), List.drop_eq_getElem_cons (show i < ys.length by omega), List.take_succ_cons, List.take_succ_cons]
    by_cases h : xs[i]'(by omega) = ys[i]'(by omega)
    · simp [h]
    · simp [h]
theorem aeq_arr_int {T : TT} {t e : TypeId} {n : Nat} {k : IntKind} (hu : T.und t = some (.array n e)) (hs : T.siz e = some 1) (he : T.und e = some (.int k)) (d : Nat) {xs ys : List Int} (hx : xs.length = n) (hy : ys.length = n) :
    aeq T (d + 2) t (.agg (xs.map (.int k))) (.agg (ys.map (.int k))) = some (decide (xs = ys)) := by
  simp only [aeq, hu, hs, Option.bind_some]
  have := eqElems_int he d n 0 xs ys (by omega) (by omega)
  simp only [aeq] at this
  rw [this, List.drop_zero, List.drop_zero, List.take_of_length_le (by omega), List.take_of_length_le (by omega)]

theorem aix_arr {T : TT} {t e : TypeId} {n sz : Nat} (hu : T.und t = some (.array n e)) (hs : T.siz e = some sz) {l o : Nat} {k : IntKind} {i : Int} (h : 0 ≤ i ∧ i < n) : aindexAddr T t (.ptr (some (l, o))) (.int k i) = some (.ptr (some (l, o + i.toNat * sz))) := by
  simp only [aindexAddr, hu, hs, Option.bind_some, if_pos h]

theorem aeqPtrNil {T : TT} {t e : TypeId} (hu : T.und t = some (.pointer e)) (a : Option (Nat × Nat)) : aeq T 100 t (.ptr a) (.ptr none) = some a.isNone := by
  cases a <;> simp [aeq, hu]
theorem eqQ_slc_nil {T : TT} {t e : TypeId} (hu : T.und t = some (.slice e)) (c : Bool) (a : Option (Nat × Nat)) (n m n' m' : Nat) (ex ex' : Bool) : eqQ T t c (.slc a n m ex) (.slc none n' m' ex') = some a.isNone := by
  cases a <;> simp [eqQ, agdv, aeq, hu]
theorem eqQ_emp_nil {T : TT} {t e : TypeId} (hu : T.und t = some (.slice e)) (c : Bool) (n' m' : Nat) (ex' : Bool) : eqQ T t c .emp (.slc none n' m' ex') = some false := by
  simp [eqQ, agdv, aeq, hu]

theorem wrs_all {cs vs : List AV} (h : vs.length = cs.length) : wrs cs 0 vs = vs := by
  apply List.ext_getElem?
  intro k
  rw [wrs_get _ _ _ _ (by omega)]
  by_cases hk : k < vs.length
  · rw [if_pos (by omega), Nat.sub_zero]
  · rw [if_neg (by omega), List.getElem?_eq_none (by omega), List.getElem?_eq_none (by omega)]
theorem wrs_one {cs : List AV} {o : Nat} {v : AV} : wrs cs o [v] = cs.set o v := rfl
end Go.Am
namespace Go.Am
/-! ### a struct built of its parts -/
def places (T : TT) (t : TypeId) : Option (List (Nat × Nat)) := match T.und t with
  | some (.struct fs) => if fs.all (fun f => (T.siz f.type).isSome) then some (fs.toList.map fun f => (f.offset, (T.siz f.type).getD 0)) else none
  | _ => none
theorem abuild_pl {T : TT} {t : TypeId} {pl : List (Nat × Nat)} {z : AV} {zc : List AV} (h : places T t = some pl) (hz : T.zer t = some z) (hzc : acells z = some zc) (parts : List (Nat × AV)) : abuild T t parts = (afill (fun i => pl[i]?) zc parts).map .agg := by
  unfold places at h
  split at h
  · rename_i fs hu
    split at h
    · rename_i hall
      obtain rfl := Option.some.inj h
      simp only [abuild, hz, hzc, Option.bind_some, hu, hall, if_true]
      congr 2
      funext i
      simp only [List.getElem?_map]
      cases hf : fs[i]? with
      | none => simp [show fs.toList[i]? = none by simpa using hf]
      | some f =>
        have hf' : fs.toList[i]? = some f := by simpa using hf
        have hm : f ∈ fs := Array.mem_of_getElem? hf
        have := Array.all_eq_true'.1 hall f hm
        obtain ⟨n, hn⟩ := Option.isSome_iff_exists.1 this
        simp [hf', hn]
    · cases h
  · cases h

theorem wrs_mid (pre mid mid' post : List AV) (h : mid'.length = mid.length) : wrs (pre ++ mid ++ post) pre.length mid' = pre ++ mid' ++ post := by
  apply List.ext_getElem?
  intro k
  rw [wrs_get _ _ _ _ (by simp; omega)]
  by_cases h1 : k < pre.length
  · rw [if_neg (by omega), List.append_assoc, List.append_assoc, List.getElem?_append_left h1, List.getElem?_append_left h1]
  · by_cases h2 : k < pre.length + mid'.length
    · rw [if_pos (by omega), List.append_assoc, List.getElem?_append_right (by omega), List.getElem?_append_left (by omega)]
    · rw [if_neg (by omega), List.append_assoc, List.append_assoc, List.getElem?_append_right (by omega), List.getElem?_append_right (by omega), List.getElem?_append_right (by omega), List.getElem?_append_right (by omega), h]

/-- one part is laid -/
theorem afill_step {pl : Nat → Option (Nat × Nat)} {pre mid post c : List AV} {i sz : Nat} {v : AV} {rest : List (Nat × AV)} (hp : pl i = some (pre.length, sz)) (hc : acells v = some c) (h1 : c.length = sz) (h2 : mid.length = sz) :
    afill pl (pre ++ mid ++ post) ((i, v) :: rest) = afill pl (pre ++ c ++ post) rest := by
  simp only [afill, hp, hc]
  rw [if_pos ⟨h1, by simp; omega⟩, wrs_mid _ _ _ _ (by omega)]
end Go.Am
