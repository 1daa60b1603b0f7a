/-
  OrsetNil: what a set that is not there, and a zero one, answer (a closed sentence).
-/
import Derived.Test.YtoklmpkpeanloaaGreatP6
set_option linter.unusedSimpArgs false
set_option linter.unusedVariables false
namespace Go.Proofs.YtoklmpkpeanloaaGreat
open Go.Am Go.Minster Go.Minster2 Go.ChangeShapes Go.WideShapes Go.ChangeAt Go.RowKit

/-- a set that is not there -/
def NoSet (s : AS) (p : Option (Nat × Nat)) : Prop := p = none ∨ ∃ l, p = some (l, 0) ∧ At s l [.ptr none, .map none, .map none]
section
variable {s s' : AS} {p : Option (Nat × Nat)}
theorem NoSet.ext (h : NoSet s p) (e : Ext s s') : NoSet s' p := by
  rcases h with h | ⟨l, h1, h2⟩
  · exact .inl h
  · exact .inr ⟨l, h1, h2.ext e⟩
theorem there_no (h : NoSet s p) : ACalls Tryz.prog F_orset_Set_there [.ptr p] s fun r s' => r = .bool false ∧ s' = s := by
  rcases h with rfl | ⟨l, rfl, h⟩
  · exact q_orset_Set_there _ _ _ ⟨_, aeqPtrNil u_p_orset_Set _, bsplit.no rfl ⟨rfl, rfl⟩⟩
  · exact q_orset_Set_there _ _ _ ⟨_, aeqPtrNil u_p_orset_Set _, bsplit.yes rfl ⟨_, by rw [h.rd1]; rfl, _, aeqPtrNil u_p_ctx_Ctx _, rfl, rfl⟩⟩
theorem Add_no (h : NoSet s p) (k : Key) (d : Dot) : ACalls Tryz.prog F_orset_Set_Add [.ptr p, .agg (keyC k), .agg (dotC d)] s fun r s' => r = .tup [.slc none 0 0 true, .int .i64 1] ∧ Ext s s' := by
  refine ACalls.pre fun hw => q_orset_Set_Add _ _ _ _ _ ⟨rfl, NewQ.intro hw rfl fun l1 s2 F2 => ⟨rfl, NewQ.intro F2.wf rfl fun l3 s4 F4 => ?_⟩⟩
  have e := F2.ext.trans F4.ext
  refine ACalls.use (there_no (h.ext e)) ?_
  rintro v s4 ⟨rfl, rfl⟩ _
  exact ⟨_, rfl, bsplit.yes rfl ⟨rfl, e⟩⟩
theorem Remove_no (h : NoSet s p) (k : Key) : ACalls Tryz.prog F_orset_Set_Remove [.ptr p, .agg (keyC k)] s fun r s' => r = .tup [.slc none 0 0 true, .int .i64 1] ∧ Ext s s' := by
  refine ACalls.pre fun hw => q_orset_Set_Remove _ _ _ _ ⟨rfl, NewQ.intro hw rfl fun l1 s2 F2 => ?_⟩
  refine ACalls.use (there_no (h.ext F2.ext)) ?_
  rintro v s4 ⟨rfl, rfl⟩ _
  exact ⟨_, rfl, bsplit.yes rfl ⟨rfl, F2.ext⟩⟩
theorem See_no (h : NoSet s p) (a : AV) : ACalls Tryz.prog F_orset_Set_See [.ptr p, a] s fun r s' => r = .tup [.bool false, .int .i64 1] ∧ Ext s s' := by
  refine q_orset_Set_See _ _ _ _ ?_
  refine ACalls.use (there_no h) ?_
  rintro v s4 ⟨rfl, rfl⟩ _
  exact ⟨_, rfl, bsplit.yes rfl ⟨rfl, Ext.refl _⟩⟩
theorem Bucket_no (h : NoSet s p) (n : Int) : ACalls Tryz.prog F_orset_Set_Bucket [.ptr p, .int .i64 n] s fun r s' => r = .tup [.slc none 0 0 true, .int .i64 1] ∧ Ext s s' := by
  refine ACalls.pre fun hw => q_orset_Set_Bucket _ _ _ _ (NewQ.intro hw rfl fun l1 s2 F2 => ?_)
  refine ACalls.use (there_no (h.ext F2.ext)) ?_
  rintro v s4 ⟨rfl, rfl⟩ _
  exact ⟨_, rfl, bsplit.yes rfl ⟨rfl, F2.ext⟩⟩
theorem Live_no (h : NoSet s p) (d : Dot) : ACalls Tryz.prog F_orset_Set_Live [.ptr p, .agg (dotC d)] s fun r s' => r = .tup [.agg (keyC ⟨[], []⟩), .bool false] ∧ Ext s s' := by
  refine ACalls.pre fun hw => q_orset_Set_Live _ _ _ _ ⟨rfl, NewQ.intro hw rfl fun l1 s2 F2 => NewQ.intro F2.wf rfl fun l3 s4 F4 => ?_⟩
  have e := F2.ext.trans F4.ext
  refine ACalls.use (there_no (h.ext e)) ?_
  rintro v s6 ⟨rfl, rfl⟩ w6
  refine ⟨_, rfl, bsplit.yes rfl ⟨_, key0_build, ⟨rfl, rfl⟩, StQ.own w6 F4.own (by simp [keyC]) fun s9 P => ?_⟩⟩
  have a9 : At s9 l3 (keyC ⟨[], []⟩) := ⟨_, _, by rw [P.at, wrs_all0 (by simp [keyC])]⟩
  exact ⟨_, a9.rdc (by simp [keyC]), rfl, Ext.wr e (F2.ext.none F4.no) P.mut⟩
theorem Collect_no (h : NoSet s p) (d : Dot) : ACalls Tryz.prog F_orset_Set_Collect [.ptr p, .agg (dotC d)] s fun r s' => r = .int .i64 1 ∧ Ext s s' := by
  refine ACalls.pre fun hw => q_orset_Set_Collect _ _ _ _ ⟨rfl, NewQ.intro hw rfl fun l1 s2 F2 => ?_⟩
  refine ACalls.use (there_no (h.ext F2.ext)) ?_
  rintro v s4 ⟨rfl, rfl⟩ _
  exact ⟨_, rfl, bsplit.yes rfl ⟨rfl, F2.ext⟩⟩
theorem Has_no (h : NoSet s p) (k : Key) : ACalls Tryz.prog F_orset_Set_Has [.ptr p, .agg (keyC k)] s fun r s' => r = .bool false ∧ Ext s s' := by
  refine ACalls.pre fun hw => q_orset_Set_Has _ _ _ _ ⟨rfl, NewQ.intro hw rfl fun l1 s2 F2 => ?_⟩
  refine ACalls.use (there_no (h.ext F2.ext)) ?_
  rintro v s4 ⟨rfl, rfl⟩ _
  exact ⟨_, rfl, bsplit.no rfl ⟨rfl, F2.ext⟩⟩
theorem Gone_no (h : NoSet s p) (d : Dot) : ACalls Tryz.prog F_orset_Set_Gone [.ptr p, .agg (dotC d)] s fun r s' => r = .bool false ∧ Ext s s' := by
  refine ACalls.pre fun hw => q_orset_Set_Gone _ _ _ _ ⟨rfl, NewQ.intro hw rfl fun l1 s2 F2 => ⟨_, F2.own.at.rdc (by simp [dotC]), ?_⟩⟩
  refine ACalls.use (Live_no (h.ext F2.ext) d) ?_
  rintro v s5 ⟨rfl, e5⟩ w5
  refine ⟨_, _, rfl, NewSt w5 rfl rfl rfl fun l8 s10 F10 => ?_⟩
  have e := F2.ext.trans (e5.trans F10.ext)
  refine ACalls.use (there_no (h.ext e)) ?_
  rintro v s12 ⟨rfl, rfl⟩ _
  exact ⟨_, rfl, bsplit.no rfl ⟨rfl, e⟩⟩
theorem Dests_no (h : NoSet s p) (t : List UInt8) : ACalls Tryz.prog F_orset_Set_Dests [.ptr p, .str t] s fun r s' => r = .slc none 0 0 true ∧ Ext s s' := by
  refine ACalls.pre fun hw => q_orset_Set_Dests _ _ _ _ (NewQ.intro hw rfl fun l1 s2 F2 => ?_)
  refine ACalls.use (there_no (h.ext F2.ext)) ?_
  rintro v s4 ⟨rfl, rfl⟩ _
  exact ⟨_, rfl, bsplit.yes rfl ⟨rfl, F2.ext⟩⟩
theorem Keys_no (h : NoSet s p) : ACalls Tryz.prog F_orset_Set_Keys [.ptr p] s fun r s' => r = .slc none 0 0 true ∧ Ext s s' := by
  refine q_orset_Set_Keys _ _ _ ?_
  refine ACalls.use (there_no h) ?_
  rintro v s4 ⟨rfl, rfl⟩ _
  exact ⟨_, rfl, bsplit.yes rfl ⟨rfl, Ext.refl _⟩⟩
theorem Items_no (h : NoSet s p) : ACalls Tryz.prog F_orset_Set_Items [.ptr p] s fun r s' => r = .slc none 0 0 true ∧ Ext s s' := by
  refine q_orset_Set_Items _ _ _ ?_
  refine ACalls.use (there_no h) ?_
  rintro v s4 ⟨rfl, rfl⟩ _
  exact ⟨_, rfl, bsplit.yes rfl ⟨rfl, Ext.refl _⟩⟩
theorem Tombs_no (h : NoSet s p) : ACalls Tryz.prog F_orset_Set_Tombs [.ptr p] s fun r s' => r = .slc none 0 0 true ∧ Ext s s' := by
  refine q_orset_Set_Tombs _ _ _ ?_
  refine ACalls.use (there_no h) ?_
  rintro v s4 ⟨rfl, rfl⟩ _
  exact ⟨_, rfl, bsplit.yes rfl ⟨rfl, Ext.refl _⟩⟩
theorem Ctx_no (h : NoSet s p) : ACalls Tryz.prog F_orset_Set_Ctx [.ptr p] s fun r s' => r = .ptr none ∧ Ext s s' := by
  refine q_orset_Set_Ctx _ _ _ ?_
  refine ACalls.use (there_no h) ?_
  rintro v s4 ⟨rfl, rfl⟩ _
  exact ⟨_, rfl, bsplit.yes rfl ⟨rfl, Ext.refl _⟩⟩
theorem Copy_no (h : NoSet s p) : ACalls Tryz.prog F_orset_Set_Copy [.ptr p] s fun r s' => r = .ptr none ∧ Ext s s' := by
  refine q_orset_Set_Copy _ _ _ ?_
  refine ACalls.use (there_no h) ?_
  rintro v s4 ⟨rfl, rfl⟩ _
  exact ⟨_, rfl, bsplit.yes rfl ⟨rfl, Ext.refl _⟩⟩
end
theorem ctx_Copy_no (s : AS) : ACalls Tryz.prog F_ctx_Ctx_Copy [.ptr none] s fun r s' => r = .ptr none ∧ s' = s := by
  refine q_ctx_Ctx_Copy _ _ _ ?_
  refine q_ctx_Ctx_there _ _ _ ⟨_, aeqPtrNil u_p_ctx_Ctx _, bsplit.no rfl ⟨_, rfl, bsplit.yes rfl ⟨rfl, rfl⟩⟩⟩
theorem Of_no (s : AS) (a : AV) : ACalls Tryz.prog F_orset_Of [.ptr none, a] s fun r s' => r = .tup [.ptr none, .int .i64 1] ∧ s' = s := by
  refine q_orset_Of _ _ _ _ ?_
  refine ACalls.use (ctx_Copy_no s) ?_
  rintro v s2 ⟨rfl, rfl⟩ _
  exact ⟨_, rfl, _, aeqPtrNil u_p_ctx_Ctx _, bsplit.yes rfl ⟨rfl, rfl⟩⟩
theorem nil_len {t e : TypeId} (hu : T.und t = some (.slice e)) (s : AS) : alenB T t (.slc none 0 0 true) s = some (.int .i64 0) := by simp [alenB, hu]

set_option maxRecDepth 100000 in
set_option maxHeartbeats 4000000 in
theorem orsetNil_ok (s : AS) : ACalls Tryz.prog F_law07iOrsetNil [] s fun v s' => v = .bool true := by
  have habs : ∀ l : Nat, absl T Y_s_p_orset_Set 2 [(0, .ptr none), (1, .ptr (some (l, 0)))] = some [.ptr none, .ptr (some (l, 0))] := by
    intro l
    simp only [absl, u_s_p_orset_Set, z_p_orset_Set, zr_p_orset_Set, Option.bind_some]
    rfl
  refine ACalls.pre fun hw => q_law07iOrsetNil _ _ (NewQ.intro hw rfl fun l1 s2 F2 => ⟨_, habs l1, NewQ.intro F2.wf rfl fun l4 s5 F5 => ⟨_, dot_build2 1 1, NewSt F5.wf rfl rfl rfl fun l7 s9 F9 => ⟨_, key_build _ _, NewSt F9.wf rfl rfl rfl fun l11 s13 F13 => ?_⟩⟩⟩)
  have z1 : At s13 l1 [.ptr none, .map none, .map none] := (((F2.own.ext F5.ext).ext F9.ext).ext F13.ext).at
  have a4 : At s13 l4 [.ptr none, .ptr (some (l1, 0))] := ((F5.own.ext F9.ext).ext F13.ext).at
  have a7 : At s13 l7 (dotC ⟨1, 1⟩) := (F9.own.ext F13.ext).at
  have a11 : At s13 l11 (keyC ⟨[97], [98]⟩) := F13.own.at
  refine ⟨fun vs s' => vs = [] ∧ Ext s13 s', ?_, fun m vs s' => ∃ i : Nat, vs = [.int .i64 (i : Nat)] ∧ i ≤ 2 ∧ m = 2 - i ∧ Ext s13 s' ∧ WFs s', 2, ⟨0, rfl, by omega, rfl, Ext.refl _, F13.wf⟩, ?_⟩
  · rintro s15 ⟨_, e15⟩
    refine ACalls.use (Of_no _ _) ?_
    rintro v s17 ⟨rfl, rfl⟩ _
    refine ⟨_, _, rfl, bsplit.yes rfl ?_⟩
    refine (known07_ok _).mono ?_
    rintro v s' ⟨rfl, _⟩
    exact ⟨_, rfl, rfl⟩
  rintro m n s27 ⟨i, hi, h6, rfl, e27, w27⟩
  simp only [List.cons.injEq, AV.int.injEq, true_and, and_true] at hi
  subst hi
  have hlen : alenB T Y_s_p_orset_Set (.slc (some (l4, 0)) 2 2 true) s27 = some (.int .i64 2) := by simp [alenB, u_s_p_orset_Set]
  refine ⟨_, hlen, bsplit.dec (fun hlt => ?_) (fun hge => ⟨rfl, e27⟩)⟩
  obtain ⟨p, hrd, hno⟩ : ∃ p, rd1 s27 l4 (0 + i * 1) = some (.ptr p) ∧ NoSet s13 p := by
    rw [(a4.ext e27).rd1]
    rcases (show i = 0 ∨ i = 1 by omega) with rfl | rfl
    · exact ⟨none, rfl, .inl rfl⟩
    · exact ⟨some (l1, 0), rfl, .inr ⟨l1, rfl, z1⟩⟩
  have hix : aindexAddr T Y_s_p_orset_Set (.slc (some (l4, 0)) 2 2 true) (.int .i64 (i : Nat)) = some (.ptr (some (l4, 0 + i * 1))) := by
    have : (0 : Int) ≤ (i : Int) ∧ (i : Int) < ((2 : Nat) : Int) := by omega
    simp only [aindexAddr, u_s_p_orset_Set, z_p_orset_Set, Option.bind_some]
    rw [if_pos this]; simp
  refine ⟨_, _, hix, _, hrd, _, (a11.ext e27).rdc (by simp [keyC]), _, (a7.ext e27).rdc (by simp [dotC]), ?_⟩
  refine ACalls.use (Add_no (hno.ext e27) _ _) ?_
  rintro v s35 ⟨rfl, e⟩ _
  replace e := e27.trans e
  refine ⟨_, _, rfl, _, (a11.ext e).rdc (by simp [keyC]), ?_⟩
  refine ACalls.use (Remove_no (hno.ext e) _) ?_
  rintro v s40 ⟨rfl, e'⟩ _
  replace e := e.trans e'
  refine ⟨_, _, rfl, ?_⟩
  refine ACalls.use (See_no (hno.ext e) _) ?_
  rintro v s44 ⟨rfl, e'⟩ _
  replace e := e.trans e'
  refine ⟨_, _, rfl, ?_⟩
  refine ACalls.use (Bucket_no (hno.ext e) _) ?_
  rintro v s48 ⟨rfl, e'⟩ _
  replace e := e.trans e'
  refine ⟨_, _, rfl, _, (a7.ext e).rdc (by simp [dotC]), ?_⟩
  refine ACalls.use (Live_no (hno.ext e) _) ?_
  rintro v s53 ⟨rfl, e'⟩ w53
  replace e := e.trans e'
  refine ⟨_, _, rfl, NewSt w53 rfl rfl rfl fun l56 s58 F58 => ?_⟩
  replace e := e.trans F58.ext
  refine bsplit.no rfl (bsplit.no rfl (bsplit.no rfl (bsplit.no rfl ⟨_, (a7.ext e).rdc (by simp [dotC]), ?_⟩)))
  refine ACalls.use (Collect_no (hno.ext e) _) ?_
  rintro v s61 ⟨rfl, e'⟩ _
  replace e := e.trans e'
  refine ⟨_, rfl, bsplit.no rfl (bsplit.no rfl ⟨_, (a11.ext e).rdc (by simp [keyC]), ?_⟩)⟩
  refine ACalls.use (Has_no (hno.ext e) _) ?_
  rintro v s65 ⟨rfl, e'⟩ _
  replace e := e.trans e'
  refine ⟨_, rfl, bsplit.no rfl ⟨_, (a7.ext e).rdc (by simp [dotC]), ?_⟩⟩
  refine ACalls.use (Gone_no (hno.ext e) _) ?_
  rintro v s69 ⟨rfl, e'⟩ _
  replace e := e.trans e'
  refine ⟨_, rfl, bsplit.no rfl ?_⟩
  refine ACalls.use (Dests_no (hno.ext e) _) ?_
  rintro v s72 ⟨rfl, e'⟩ _
  replace e := e.trans e'
  refine ⟨_, nil_len u_s_Dest _, bsplit.no rfl ?_⟩
  refine ACalls.use (Keys_no (hno.ext e)) ?_
  rintro v s75 ⟨rfl, e'⟩ _
  replace e := e.trans e'
  refine ⟨_, nil_len u_s_Key _, bsplit.no rfl ?_⟩
  refine ACalls.use (Items_no (hno.ext e)) ?_
  rintro v s78 ⟨rfl, e'⟩ _
  replace e := e.trans e'
  refine ⟨_, nil_len u_s_Item _, bsplit.no rfl ?_⟩
  refine ACalls.use (Tombs_no (hno.ext e)) ?_
  rintro v s81 ⟨rfl, e'⟩ _
  replace e := e.trans e'
  refine ⟨_, nil_len u_s_Dot _, bsplit.no rfl ?_⟩
  refine ACalls.use (Ctx_no (hno.ext e)) ?_
  rintro v s84 ⟨rfl, e'⟩ _
  replace e := e.trans e'
  refine ⟨_, rfl, _, aeqPtrNil u_p_ctx_Ctx _, bsplit.no rfl ?_⟩
  refine ACalls.use (Copy_no (hno.ext e)) ?_
  rintro v s88 ⟨rfl, e'⟩ w88
  replace e := e.trans e'
  exact ⟨_, rfl, _, aeqPtrNil u_p_orset_Set _, bsplit.no rfl ⟨2 - (i + 1), by omega, i + 1, by rw [wrap_i (by omega)]; rfl, by omega, rfl, e, w88⟩⟩

set_option maxRecDepth 100000 in
theorem orsetNil_lifted (os : Os) (started : os.Started) (H : Type) (enc : TypeId × Value → H) :
    ReturnsInHanded {} Tryz.checked os F_law07iOrsetNil .any (Rows.orsetNilSpec.pre6 enc Tryz.prog Tryz.f11 Rows.orsetNilRow.domain false) (Rows.orsetNilSpec.post enc Tryz.prog Tryz.f11 false true false false) := by
  refine law_open (C := Tryz.checked) (rt := Y_bool) own started (by kernel_rfl) Tryz.func11
    (ChangeSpec.witness6 (enc := enc) (C := Tryz.checked) false ⟨#[], #[], []⟩ 8 (by kernel_rfl) (by kernel_rfl) (by kernel_rfl) (by kernel_rfl)) (by kernel_rfl) rfl (by kernel_rfl) (hT.und _ _ u_bool) laid (by kernel_rfl) ?_ ?_
  · intro ds hds
    rw [Tryz.params11] at hds
    match ds, hds with
    | [], _ => rfl
  · intro W base args hlen hargs
    rw [Tryz.params11] at hlen hargs
    match args, hlen with
    | [], _ => exact orsetNil_ok _

theorem orsetNil_holds : Rows.OrsetNilSaid :=
  OpenClaim.holds_of_wide 11 Tryz.f11 rfl rfl rfl rfl rfl rfl rfl ⟨rfl, rfl, rfl, rfl, rfl⟩ rfl rfl rfl rfl rfl (by kernel_rfl) Tryz.func11 (by kernel_rfl)
    (of_decide_eq_true (by kernel_rfl)) (by unfold Func.isWrapper; rw [if_neg (by decide +kernel)]; exact ⟨rfl, rfl⟩)
    (fun os started H enc _ => orsetNil_lifted os started H enc)
end Go.Proofs.YtoklmpkpeanloaaGreat
