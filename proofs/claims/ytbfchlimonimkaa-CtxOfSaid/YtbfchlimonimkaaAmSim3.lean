/-
  The abstract machine Am: each operation of the model does what the abstract one does (second part: equality, numbers, texts).
-/
import Derived.Test.YtbfchlimonimkaaAmSim2
import Derived.Laws.Strings
set_option linter.unusedSectionVars false
set_option linter.unusedSimpArgs false
set_option linter.unusedVariables false
namespace Go.Am
section
variable {P : Program} {T : TT} (hT : TT.Ok P T)
include hT

theorem run_part {γ : Gam} {t : TypeId} {cs : List AV} {ccs : Array Value} {off : Nat} {v : AV} (hv : VRels γ cs ccs.toList) (h : part T t cs off = some v) (w : World) :
    ∃ c, (Go.part t ccs off).run P w = .ok c w ∧ VRel γ v c := by
  unfold part at h
  split at h
  · rename_i ha
    cases hs : T.siz t with
    | none => simp [hs] at h
    | some n =>
      simp only [hs, Option.map_some] at h
      obtain rfl := Option.some.inj h
      refine ⟨.agg (ccs.extract off (off + n)), by simp [Go.part, run_isAgg hT ha, run_sizeOf hT hs], ?_⟩
      simp only [VRel]
      refine ⟨_, rfl, ?_⟩
      have := (hv.drop off).take n
      simpa [Array.toList_extract, List.extract_eq_take_drop] using this
  · rename_i ha
    obtain ⟨c, hc, hr⟩ := hv.get h
    refine ⟨c, ?_, hr⟩
    simp only [Go.part, Sem.run_bind, run_isAgg hT ha, Result.andThen_ok]
    have : ccs[off]? = some c := by simpa using hc
    simp [this]
  · simp at h

theorem aeq_run {γ : Gam} (w : World) : ∀ (d : Nat) (t : TypeId) (x y : AV) (b : Bool), aeq T d t x y = some b → ∀ (cx cy : Value), VRel γ x cx → VRel γ y cy → ∀ D, d ≤ D → (Op.equalIn D t cx cy).run P w = .ok b w := by
  intro d
  induction d with
  | zero => intro t x y b h; simp [aeq] at h
  | succ d ih =>
    intro t x y b h cx cy hx hy D hD
    obtain ⟨D, rfl⟩ : ∃ D', D = D' + 1 := ⟨D - 1, by omega⟩
    have hD' : d ≤ D := by omega
    unfold aeq at h
    cases hu : T.und t with
    | none => simp [hu] at h
    | some td =>
      simp only [hu] at h
      simp only [Op.equalIn, Sem.run_bind, run_underlying hT hu, Result.andThen_ok]
      split at h
      all_goals (try (rename some td = some _ => e; cases e))
      case h_1 => simp only [VRel] at hx hy; subst hx hy; simp at h; simp [h]
      case h_2 => simp only [VRel] at hx hy; subst hx hy; simp at h; simp [h]
      case h_3 =>
        simp only [VRel] at hx hy; subst hx hy
        have : ∀ (a b : List UInt8), ((⟨a.toArray⟩ : ByteArray) == ⟨b.toArray⟩) = (a == b) := by
          intro a b; show (a.toArray == b.toArray) = (a == b); rw [Bool.eq_iff_iff]; simp
        simp at h; simp [this, h]
      case h_4 q =>
        simp only [VRel] at hx; subst hx
        cases q with
        | none => simp only [VRel] at hy; subst hy; simpa using h
        | some q => obtain ⟨l, o⟩ := q; simp only [VRel] at hy; obtain ⟨i, _, rfl⟩ := hy; simpa using h
      case h_5 q hq =>
        simp only [VRel] at hy; subst hy
        cases q with
        | none => exact absurd rfl hq
        | some q => obtain ⟨l, o⟩ := q; simp only [VRel] at hx; obtain ⟨i, _, rfl⟩ := hx; simpa using h
      case h_6 q _ _ _ =>
        simp only [VRel] at hx; obtain ⟨rfl, _⟩ := hx
        cases q with
        | none => simp only [VRel] at hy; obtain ⟨rfl, _⟩ := hy; simpa using h
        | some q => obtain ⟨l, o⟩ := q; simp only [VRel] at hy; obtain ⟨i, _, rfl⟩ := hy; simpa using h
      case h_7 q _ _ _ _ _ _ hq =>
        simp only [VRel] at hy; obtain ⟨rfl, _⟩ := hy
        cases q with
        | none => exact absurd rfl hq
        | some q => obtain ⟨l, o⟩ := q; simp only [VRel] at hx; obtain ⟨i, _, rfl⟩ := hx; simpa using h
      case h_8 => simp only [VRel] at hx hy; obtain ⟨rfl, _⟩ := hy; obtain ⟨_, _, rfl⟩ := hx; simpa using h
      case h_9 => simp only [VRel] at hx hy; obtain ⟨rfl, _⟩ := hx; obtain ⟨_, _, rfl⟩ := hy; simpa using h
      case h_10 q =>
        simp only [VRel] at hx; subst hx
        cases q with
        | none => simp only [VRel] at hy; subst hy; simpa using h
        | some q => simp only [VRel] at hy; obtain ⟨i, _, rfl⟩ := hy; simpa using h
      case h_11 q hq =>
        simp only [VRel] at hy; subst hy
        cases q with
        | none => exact absurd rfl hq
        | some q => simp only [VRel] at hx; obtain ⟨i, _, rfl⟩ := hx; simpa using h
      case h_12 => simp only [VRel] at hx hy; subst hx hy; simpa using h
      case h_13 => simp only [VRel] at hx hy; subst hx; obtain ⟨_, rfl, _⟩ := hy; simpa using h
      case h_14 => simp only [VRel] at hx hy; subst hx; obtain ⟨_, _, rfl, _⟩ := hy; simpa using h
      case h_15 => simp only [VRel] at hx hy; subst hy; obtain ⟨_, _, rfl, _⟩ := hx; simpa using h
      case h_16 => simp only [VRel] at hx hy; subst hy; obtain ⟨_, rfl, _⟩ := hx; simpa using h
      case h_17 => simp only [VRel] at hx hy; subst hx hy; simpa using h
      case h_18 => simp only [VRel] at hx hy; subst hx; obtain ⟨_, rfl, _⟩ := hy; simpa using h
      case h_19 => simp only [VRel] at hx hy; subst hy; obtain ⟨_, rfl, _⟩ := hx; simpa using h
      case h_20 fields xs ys =>
        simp only [VRel] at hx hy
        obtain ⟨cxs, rfl, hxs⟩ := hx
        obtain ⟨cys, rfl, hys⟩ := hy
        split at h
        · rename_i hq
          have hst := hT.eqt t hq
          simp only [Sem.run_bind, run_program, Result.andThen_ok, hst, Bool.false_eq_true, if_false, ← Array.forIn_toList]
          generalize fields.toList = fs at h ⊢
          induction fs with
          | nil => simp [eqFields] at h; simp [h]
          | cons f fs ihf =>
            simp only [eqFields] at h
            by_cases hn : f.name ≠ "_"
            · simp only [if_pos hn] at h
              cases ha : part T f.type xs f.offset with
              | none => simp [ha] at h
              | some a =>
                cases hb : part T f.type ys f.offset with
                | none => simp [ha, hb] at h
                | some b' =>
                  simp only [ha, hb, Option.bind_some] at h
                  obtain ⟨ca, hca, hra⟩ := run_part hT hxs ha w
                  obtain ⟨cb, hcb, hrb⟩ := run_part hT hys hb w
                  cases hq2 : aeq T d f.type a b' with
                  | none => simp [hq2] at h
                  | some r =>
                    have hrun := ih _ _ _ _ hq2 _ _ hra hrb D hD'
                    cases r with
                    | true =>
                      simp only [hq2] at h
                      have := ihf h
                      simp only [List.forIn_cons, Sem.run_bind, if_pos hn, hca, hcb, hrun, Result.andThen_ok] at this ⊢
                      simpa using this
                    | false =>
                      simp only [hq2] at h
                      obtain rfl := Option.some.inj h
                      simp only [List.forIn_cons, Sem.run_bind, if_pos hn, hca, hcb, hrun, Result.andThen_ok]
                      simp
            · simp only [if_neg hn] at h
              have := ihf h
              simp only [List.forIn_cons, Sem.run_bind, if_neg hn] at this ⊢
              simpa using this
        · simp at h
      case h_21 len elem xs ys =>
        simp only [VRel] at hx hy
        obtain ⟨cxs, rfl, hxs⟩ := hx
        obtain ⟨cys, rfl, hys⟩ := hy
        cases hs : T.siz elem with
        | none => simp [hs] at h
        | some n =>
          simp only [hs, Option.bind_some] at h
          simp only [Sem.run_bind, run_sizeOf hT hs, Result.andThen_ok, Std.Legacy.Range.forIn_eq_forIn_range', Std.Legacy.Range.size]
          simp only [Nat.sub_zero, Nat.add_one_sub_one, Nat.div_one]
          generalize 0 = i0 at h ⊢
          clear hu
          induction len generalizing i0 with
          | zero => simp [eqElems] at h; simp [h]
          | succ len ihl =>
            simp only [eqElems] at h
            cases ha : part T elem xs (i0 * n) with
            | none => simp [ha] at h
            | some a =>
              cases hb : part T elem ys (i0 * n) with
              | none => simp [ha, hb] at h
              | some b' =>
                simp only [ha, hb, Option.bind_some] at h
                obtain ⟨ca, hca, hra⟩ := run_part hT hxs ha w
                obtain ⟨cb, hcb, hrb⟩ := run_part hT hys hb w
                cases hq2 : aeq T d elem a b' with
                | none => simp [hq2] at h
                | some r =>
                  have hrun := ih _ _ _ _ hq2 _ _ hra hrb D hD'
                  cases r with
                  | true =>
                    simp only [hq2] at h
                    have := ihl _ h
                    simp only [List.range'_succ, List.forIn_cons, Sem.run_bind, hca, hcb, hrun, Result.andThen_ok] at this ⊢
                    simpa using this
                  | false =>
                    simp only [hq2] at h
                    obtain rfl := Option.some.inj h
                    simp only [List.range'_succ, List.forIn_cons, Sem.run_bind, hca, hcb, hrun, Result.andThen_ok]
                    simp
      case h_22 => simp at h

theorem eqGuard_run {γ : Gam} {op : BinOp} {t : TypeId} {x y : Operand} {a b : AV} {ca cb : Value} (ha : VRel γ a ca) (hb : VRel γ b cb) (h : agd T t x y a b = true) (w : World) :
    (eqGuard op t x y ca cb).run P w = .ok () w := by
  have hop : op = .eql ∨ op = .neq ∨ (eqGuard op t x y ca cb) = pure () := by cases op <;> first | exact .inl rfl | exact .inr (.inl rfl) | exact .inr (.inr rfl)
  rcases hop with rfl | rfl | hop
  rotate_left 2
  · rw [hop]; rfl
  all_goals
    simp only [eqGuard, Bool.not_true, Bool.false_eq_true, if_false]
    split
    · have hxy : (isC x || isC y) = true := by
        cases a with
        | nilIface =>
          cases b with
          | nilIface => simpa only [agd] using h
          | bad => simp [agd] at h
          | ptr q => cases q <;> simp only [VRel] at hb <;> (first | (cases hb; done) | (obtain ⟨_, _, hb⟩ := hb; cases hb))
          | slc q _ _ _ => cases q <;> simp only [VRel] at hb <;> (first | (obtain ⟨hb, _⟩ := hb; cases hb; done) | (obtain ⟨_, _, hb⟩ := hb; cases hb))
          | map q => cases q <;> simp only [VRel] at hb <;> (first | (cases hb; done) | (obtain ⟨_, _, hb⟩ := hb; cases hb))
          | emp => simp only [VRel] at hb; obtain ⟨_, _, hb⟩ := hb; cases hb
          | func _ _ => simp only [VRel] at hb; obtain ⟨_, hb, _⟩ := hb; cases hb
          | meth _ _ _ => simp only [VRel] at hb; obtain ⟨_, _, hb, _⟩ := hb; cases hb
          | iface _ _ => simp only [VRel] at hb; obtain ⟨_, hb, _⟩ := hb; cases hb
          | agg _ => simp only [VRel] at hb; obtain ⟨_, hb, _⟩ := hb; cases hb
          | tup _ => simp only [VRel] at hb; obtain ⟨_, hb, _⟩ := hb; cases hb
          | _ => simp only [VRel] at hb; cases hb
        | bad => cases b <;> simp [agd] at h
        | ptr q => cases q <;> simp only [VRel] at ha <;> (first | (cases ha; done) | (obtain ⟨_, _, ha⟩ := ha; cases ha))
        | slc q _ _ _ => cases q <;> simp only [VRel] at ha <;> (first | (obtain ⟨ha, _⟩ := ha; cases ha; done) | (obtain ⟨_, _, ha⟩ := ha; cases ha))
        | map q => cases q <;> simp only [VRel] at ha <;> (first | (cases ha; done) | (obtain ⟨_, _, ha⟩ := ha; cases ha))
        | emp => simp only [VRel] at ha; obtain ⟨_, _, ha⟩ := ha; cases ha
        | func _ _ => simp only [VRel] at ha; obtain ⟨_, ha, _⟩ := ha; cases ha
        | meth _ _ _ => simp only [VRel] at ha; obtain ⟨_, _, ha, _⟩ := ha; cases ha
        | iface _ _ => simp only [VRel] at ha; obtain ⟨_, ha, _⟩ := ha; cases ha
        | agg _ => simp only [VRel] at ha; obtain ⟨_, ha, _⟩ := ha; cases ha
        | tup _ => simp only [VRel] at ha; obtain ⟨_, ha, _⟩ := ha; cases ha
        | _ => simp only [VRel] at ha; cases ha
      cases x <;> cases y <;> first | rfl | (simp [isC] at hxy; done)
    · have hg : T.eqg t = true := by
        cases a with
        | agg _ =>
          cases b with
          | agg _ => simpa [agd] using h
          | bad => simp [agd] at h
          | ptr q => cases q <;> simp only [VRel] at hb <;> (first | (cases hb; done) | (obtain ⟨_, _, hb⟩ := hb; cases hb))
          | slc q _ _ _ => cases q <;> simp only [VRel] at hb <;> (first | (obtain ⟨hb, _⟩ := hb; cases hb; done) | (obtain ⟨_, _, hb⟩ := hb; cases hb))
          | map q => cases q <;> simp only [VRel] at hb <;> (first | (cases hb; done) | (obtain ⟨_, _, hb⟩ := hb; cases hb))
          | emp => simp only [VRel] at hb; obtain ⟨_, _, hb⟩ := hb; cases hb
          | func _ _ => simp only [VRel] at hb; obtain ⟨_, hb, _⟩ := hb; cases hb
          | meth _ _ _ => simp only [VRel] at hb; obtain ⟨_, _, hb, _⟩ := hb; cases hb
          | iface _ _ => simp only [VRel] at hb; obtain ⟨_, hb, _⟩ := hb; cases hb
          | tup _ => simp only [VRel] at hb; obtain ⟨_, hb, _⟩ := hb; cases hb
          | _ => simp only [VRel] at hb; cases hb
        | bad => cases b <;> simp [agd] at h
        | ptr q => cases q <;> simp only [VRel] at ha <;> (first | (cases ha; done) | (obtain ⟨_, _, ha⟩ := ha; cases ha))
        | slc q _ _ _ => cases q <;> simp only [VRel] at ha <;> (first | (obtain ⟨ha, _⟩ := ha; cases ha; done) | (obtain ⟨_, _, ha⟩ := ha; cases ha))
        | map q => cases q <;> simp only [VRel] at ha <;> (first | (cases ha; done) | (obtain ⟨_, _, ha⟩ := ha; cases ha))
        | emp => simp only [VRel] at ha; obtain ⟨_, _, ha⟩ := ha; cases ha
        | func _ _ => simp only [VRel] at ha; obtain ⟨_, ha, _⟩ := ha; cases ha
        | meth _ _ _ => simp only [VRel] at ha; obtain ⟨_, _, ha, _⟩ := ha; cases ha
        | iface _ _ => simp only [VRel] at ha; obtain ⟨_, ha, _⟩ := ha; cases ha
        | tup _ => simp only [VRel] at ha; obtain ⟨_, ha, _⟩ := ha; cases ha
        | _ => simp only [VRel] at ha; cases ha
      simp [hT.eqg t hg]
    · rfl

theorem ba_eq (a b : List UInt8) : ((⟨a.toArray⟩ : ByteArray) == ⟨b.toArray⟩) = (a == b) := by show (a.toArray == b.toArray) = (a == b); rw [Bool.eq_iff_iff]; simp
theorem ba_toList (a : List UInt8) : (ByteArray.mk a.toArray).toList = a := ByteArray.toList_mk a
theorem bytesLt_eq : ∀ (a b : List UInt8), bytesLt a b = Op.bytesLess a b
  | [], [] => by simp [bytesLt, Op.bytesLess]
  | _ :: _, [] => by simp [bytesLt, Op.bytesLess]
  | [], _ :: _ => by simp [bytesLt, Op.bytesLess]
  | a :: x, b :: y => by simp [bytesLt, Op.bytesLess, bytesLt_eq x y]

theorem abinInt_run {γ : Gam} {op : BinOp} {k : IntKind} {a b : Int} {v : AV} (hop : op ≠ .shl ∧ op ≠ .shr) (h : abinInt op k a b = some v) (t : TypeId) (w : World) :
    ∃ c, (Go.binOp op t (.int k a) (.int k b)).run P w = .ok c w ∧ VRel γ v c := by
  cases op <;> simp only [abinInt] at h
  all_goals (first | (exact absurd rfl hop.1) | (exact absurd rfl hop.2) | (cases h; done) | skip)
  all_goals (try split at h)
  all_goals (first | (cases h; done) | skip)
  all_goals (obtain rfl := Option.some.inj h; simp [Go.binOp, Op.intArith, Op.intDiv, Op.intBits, Op.intCmp, VRel, *])

end
end Go.Am
