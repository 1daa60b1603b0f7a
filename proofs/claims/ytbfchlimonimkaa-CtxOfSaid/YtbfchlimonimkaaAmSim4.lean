/-
  The abstract machine Am: each operation of the model does what the abstract one does (third part: operators, addresses, slices).
-/
import Derived.Test.YtbfchlimonimkaaAmSim3
set_option linter.unusedSectionVars false
set_option linter.unusedSimpArgs false
set_option linter.unusedVariables false
namespace Go.Am
section
variable {P : Program} {T : TT} (hT : TT.Ok P T)
include hT

omit hT in
theorem binOp_eq_forms {γ : Gam} {t : TypeId} {x : AV} {cx cy : Value} (hx : VRel γ x cx) (hi : ∀ k a, x ≠ .int k a) (hs : ∀ a, x ≠ .str a) (hb : x ≠ .bad) :
    Go.binOp .eql t cx cy = (do pure (.bool (← Op.equal t cx cy))) ∧ Go.binOp .neq t cx cy = (do pure (.bool (!(← Op.equal t cx cy)))) := by
  cases x with
  | int k a => exact absurd rfl (hi k a)
  | str a => exact absurd rfl (hs a)
  | bad => exact absurd rfl hb
  | bool b => simp only [VRel] at hx; subst hx; exact ⟨rfl, rfl⟩
  | nilFunc => simp only [VRel] at hx; subst hx; exact ⟨rfl, rfl⟩
  | nilIface => simp only [VRel] at hx; subst hx; exact ⟨rfl, rfl⟩
  | ptr q => cases q <;> simp only [VRel] at hx <;> (first | (subst hx; exact ⟨rfl, rfl⟩) | (obtain ⟨_, _, rfl⟩ := hx; exact ⟨rfl, rfl⟩))
  | slc q _ _ _ => cases q <;> simp only [VRel] at hx <;> (first | (obtain ⟨rfl, _⟩ := hx; exact ⟨rfl, rfl⟩) | (obtain ⟨_, _, rfl⟩ := hx; exact ⟨rfl, rfl⟩))
  | map q => cases q <;> simp only [VRel] at hx <;> (first | (subst hx; exact ⟨rfl, rfl⟩) | (obtain ⟨_, _, rfl⟩ := hx; exact ⟨rfl, rfl⟩))
  | emp => simp only [VRel] at hx; obtain ⟨_, _, rfl⟩ := hx; exact ⟨rfl, rfl⟩
  | func _ _ => simp only [VRel] at hx; obtain ⟨_, rfl, _⟩ := hx; exact ⟨rfl, rfl⟩
  | meth _ _ _ => simp only [VRel] at hx; obtain ⟨_, _, rfl, _⟩ := hx; exact ⟨rfl, rfl⟩
  | iface _ _ => simp only [VRel] at hx; obtain ⟨_, rfl, _⟩ := hx; exact ⟨rfl, rfl⟩
  | agg _ => simp only [VRel] at hx; obtain ⟨_, rfl, _⟩ := hx; exact ⟨rfl, rfl⟩
  | tup _ => simp only [VRel] at hx; obtain ⟨_, rfl, _⟩ := hx; exact ⟨rfl, rfl⟩

omit hT in
theorem aeq_not_bad {d t : Nat} {y : AV} {b : Bool} (h : aeq T d t .bad y = some b) : False := by
  cases d with
  | zero => simp [aeq] at h
  | succ d => unfold aeq at h; split at h <;> simp_all

omit hT in
theorem aeq_int {d t : Nat} {y : AV} {k : IntKind} {a : Int} {b : Bool} (h : aeq T d t (.int k a) y = some b) : ∃ k' a', y = .int k' a' := by
  cases d with
  | zero => simp [aeq] at h
  | succ d => unfold aeq at h; split at h <;> simp_all

omit hT in
theorem aeq_str {d t : Nat} {y : AV} {a : List UInt8} {b : Bool} (h : aeq T d t (.str a) y = some b) : ∃ a', y = .str a' := by
  cases d with
  | zero => simp [aeq] at h
  | succ d => unfold aeq at h; split at h <;> simp_all

theorem abin_run {γ : Gam} {op : BinOp} {t : TypeId} {x y v : AV} {cx cy : Value} (hx : VRel γ x cx) (hy : VRel γ y cy) (h : abin T op t x y = some v) (w : World) :
    ∃ c, (Go.binOp op t cx cy).run P w = .ok c w ∧ VRel γ v c := by
  unfold abin at h
  split at h
  · simp only [VRel] at hx hy; subst hx hy
    split at h
    · cases h
    · rename_i hb; obtain rfl := Option.some.inj h; simp [Go.binOp, Op.shift, hb, VRel]
  · simp only [VRel] at hx hy; subst hx hy
    split at h
    · cases h
    · rename_i hb; obtain rfl := Option.some.inj h; simp [Go.binOp, Op.shift, hb, VRel]
  · rename_i h1 h2
    simp only [VRel] at hx hy; subst hx hy
    split at h
    · rename_i hk; subst hk
      exact abinInt_run hT (γ := γ) ⟨h1, h2⟩ h t w
    · cases h
  · rename_i a b
    simp only [VRel] at hx hy; subst hx hy
    split at h
    · rename_i hl
      obtain rfl := Option.some.inj h
      refine ⟨.string ⟨(a ++ b).toArray⟩, ?_, by simp [VRel]⟩
      have hm : ¬ (((ByteArray.mk a.toArray).size + (ByteArray.mk b.toArray).size : Nat) : Int) > IntKind.i64.max := by
        have : IntKind.i64.max = 9223372036854775807 := rfl
        rw [this]
        simp only [ByteArray.size, List.size_toArray]
        omega
      have happ : (ByteArray.mk a.toArray) ++ (ByteArray.mk b.toArray) = ⟨(a ++ b).toArray⟩ := by
        apply ByteArray.ext
        simp
      simp only [Go.binOp, Op.stringOp, if_neg hm, happ]; rfl
    · cases h
  all_goals (first
    | (rename_i a b; simp only [VRel] at hx hy; subst hx hy; obtain rfl := Option.some.inj h
       simp [Go.binOp, Op.stringOp, VRel, bytesLt_eq hT]; done)
    | skip)
  · rename_i h1 h2
    cases hq : aeq T 100 t x y with
    | none => simp [hq] at h
    | some b =>
      simp only [hq, Option.map_some] at h
      obtain rfl := Option.some.inj h
      obtain ⟨he, _⟩ := binOp_eq_forms (t := t) (cy := cy) hx (fun k a e => by subst e; obtain ⟨k', a', rfl⟩ := aeq_int hq; exact h1 _ _ _ _ rfl rfl)
        (fun a e => by subst e; obtain ⟨a', rfl⟩ := aeq_str hq; exact h2 _ _ rfl rfl) (fun e => by subst e; exact aeq_not_bad hq)
      exact ⟨.bool b, by simp [he, Op.equal, aeq_run hT w _ _ _ _ _ hq _ _ hx hy Op.maxDepth (by decide)], by simp [VRel]⟩
  · rename_i h1 h2
    cases hq : aeq T 100 t x y with
    | none => simp [hq] at h
    | some b =>
      simp only [hq, Option.map_some] at h
      obtain rfl := Option.some.inj h
      obtain ⟨_, he⟩ := binOp_eq_forms (t := t) (cy := cy) hx (fun k a e => by subst e; obtain ⟨k', a', rfl⟩ := aeq_int hq; exact h1 _ _ _ _ rfl rfl)
        (fun a e => by subst e; obtain ⟨a', rfl⟩ := aeq_str hq; exact h2 _ _ rfl rfl) (fun e => by subst e; exact aeq_not_bad hq)
      exact ⟨.bool (!b), by simp [he, Op.equal, aeq_run hT w _ _ _ _ _ hq _ _ hx hy Op.maxDepth (by decide)], by simp [VRel]⟩
  · cases h

theorem aun_run {γ : Gam} {op : UnOp} {x v : AV} {cx : Value} (hx : VRel γ x cx) (h : aun op x = some v) (w : World) :
    ∃ c, (Op.unary op cx).run P w = .ok c w ∧ VRel γ v c := by
  unfold aun at h
  split at h <;> try simp only [VRel] at hx
  · subst hx; obtain rfl := Option.some.inj h; simp [Op.unary, Op.intArith, VRel]
  · subst hx
    simp only [abinInt] at h; obtain rfl := Option.some.inj h
    exact ⟨_, by simp only [Op.unary, Op.intBits]; rfl, by simp [VRel]⟩
  · subst hx; obtain rfl := Option.some.inj h; simp [Op.unary, VRel]
  · cases h

theorem afieldAddr_run {γ : Gam} {t : TypeId} {x v : AV} {f : Nat} {cx : Value} (hx : VRel γ x cx) (h : afieldAddr T t x f = some v) (w : World) :
    ∃ c, (Instr.fieldAt t cx f).run P w = .ok c w ∧ VRel γ v c := by
  unfold afieldAddr at h
  split at h
  · rename_i fields l o hu
    simp only [VRel] at hx; obtain ⟨i, hi, rfl⟩ := hx
    cases hf : fields[f]? with
    | none => simp [hf] at h
    | some fd =>
      simp only [hf, Option.bind_some] at h
      split at h
      · rename_i n hn
        obtain rfl := Option.some.inj h
        refine ⟨.pointer (some ⟨i.b, i.d + o + fd.offset, none⟩), ?_, by simp only [VRel]; exact ⟨i, hi, by rw [Nat.add_assoc]⟩⟩
        simp [Instr.fieldAt, run_underlying hT hu, hf, Instr.sureAddr, fieldPlace, run_sizeOf hT hn, add_addr]
      · cases h
  · cases h

theorem aindexAddr_run {γ : Gam} {t : TypeId} {x ix v : AV} {cx ci : Value} (hx : VRel γ x cx) (hix : VRel γ ix ci) (h : aindexAddr T t x ix = some v) (w : World) :
    ∃ c, (Instr.indexAt t cx ci).run P w = .ok c w ∧ VRel γ v c := by
  unfold aindexAddr at h
  split at h
  · rename_i len elem l o k j hu
    simp only [VRel] at hx hix; obtain ⟨i, hi, rfl⟩ := hx; subst hix
    cases hs : T.siz elem with
    | none => simp [hs] at h
    | some n =>
      simp only [hs, Option.bind_some] at h
      split at h
      · rename_i hb
        obtain rfl := Option.some.inj h
        refine ⟨.pointer (some ⟨i.b, i.d + o + j.toNat * n, none⟩), ?_, by simp only [VRel]; exact ⟨i, hi, by rw [Nat.add_assoc]⟩⟩
        simp [Instr.indexAt, run_underlying hT hu, Instr.sureAddr, asIntOf, run_sizeOf hT hs, add_addr, hb]
      · cases h
  · rename_i elem l o len cap ex k j hu
    simp only [VRel] at hx hix; obtain ⟨i, hi, rfl⟩ := hx; subst hix
    cases hs : T.siz elem with
    | none => simp [hs] at h
    | some n =>
      simp only [hs, Option.bind_some] at h
      split at h
      · rename_i hb
        obtain rfl := Option.some.inj h
        refine ⟨.pointer (some ⟨i.b, i.d + o + j.toNat * n, none⟩), ?_, by simp only [VRel]; exact ⟨i, hi, by rw [Nat.add_assoc]⟩⟩
        simp [Instr.indexAt, run_underlying hT hu, asIntOf, run_sizeOf hT hs, add_addr, hb]
      · cases h
  · cases h

theorem aindex_run {γ : Gam} {t : TypeId} {x ix v : AV} {cx ci : Value} (hx : VRel γ x cx) (hix : VRel γ ix ci) (h : aindex T t x ix = some v) (w : World) :
    ∃ c, (Instr.index t cx ci).run P w = .ok c w ∧ VRel γ v c := by
  unfold aindex at h
  split at h
  · rename_i len elem cs k j hu
    simp only [VRel] at hx hix; obtain ⟨ccs, rfl, hcs⟩ := hx; subst hix
    cases hs : T.siz elem with
    | none => simp [hs] at h
    | some n =>
      simp only [hs, Option.bind_some] at h
      split at h
      · rename_i hb
        obtain ⟨c, hc, hr⟩ := run_part hT hcs h w
        refine ⟨c, ?_, hr⟩
        simp [Instr.index, run_underlying hT hu, asIntOf, run_sizeOf hT hs, hb, hc]
      · cases h
  · rename_i s k j hu
    simp only [VRel] at hx hix; subst hx hix
    split at h
    · rename_i hb
      cases hc : s[j.toNat]? with
      | none => simp [hc] at h
      | some b =>
        simp only [hc, Option.map_some] at h
        obtain rfl := Option.some.inj h
        refine ⟨.int .u8 b.toNat, ?_, by simp [VRel]⟩
        have : (ByteArray.mk s.toArray)[j.toNat]? = some b := by
          have hlt : j.toNat < s.length := by
            rcases Nat.lt_or_ge j.toNat s.length with h | h
            · exact h
            · simp [List.getElem?_eq_none h] at hc
          have hlt2 : j.toNat < (ByteArray.mk s.toArray).size := by simpa [ByteArray.size] using hlt
          rw [getElem?_pos (ByteArray.mk s.toArray) j.toNat hlt2]
          congr 1
          have : s[j.toNat] = b := by simpa [List.getElem?_eq_getElem hlt] using hc
          rw [← this]; rfl
        simp [Instr.index, run_underlying hT hu, asIntOf, hb, this]
    · cases h
  · cases h

theorem afield_run {γ : Gam} {t : TypeId} {x v : AV} {f : Nat} {cx : Value} (hx : VRel γ x cx) (h : afield T t x f = some v) (w : World) :
    ∃ c, (Instr.field t cx f).run P w = .ok c w ∧ VRel γ v c := by
  unfold afield at h
  split at h
  · rename_i fields cs hu
    simp only [VRel] at hx; obtain ⟨ccs, rfl, hcs⟩ := hx
    cases hf : fields[f]? with
    | none => simp [hf] at h
    | some fd =>
      simp only [hf, Option.bind_some] at h
      obtain ⟨c, hc, hr⟩ := run_part hT hcs h w
      exact ⟨c, by simp [Instr.field, run_underlying hT hu, hf, asAgg, hc], hr⟩
  · cases h

end
end Go.Am
