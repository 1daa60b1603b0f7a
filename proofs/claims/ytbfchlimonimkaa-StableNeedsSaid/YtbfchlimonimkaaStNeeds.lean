/-
  The law StableNeeds: a dot is stable just when each other region has told it gone, one by one.
-/
import Derived.Test.YtbfchlimonimkaaP6
set_option linter.unusedSimpArgs false
set_option linter.unusedVariables false
namespace Go.Proofs.Ytbfchlimonimkaa
open Go.Am Go.Minster Go.ChangeShapes Go.WideShapes Go.ChangeAt Go.RowKit

set_option maxRecDepth 100000 in
theorem known14_run : isT (xcall X1 100000 F_law14iknown [] s0) = true := by decide +kernel
theorem known14_ok (s : AS) : ACalls Try.prog F_law14iknown [] s fun v s' => v = .bool true ∧ s' = s := ACalls.closed (by kernel_rfl) (of_isT known14_run)

/-- the other regions -/
def others (k : Nat) (o : Int) : List Int := ((List.range k).map fun (i : Nat) => (i : Int) + 1).erase o
theorem range1_nodup (k : Nat) : ((List.range k).map fun (i : Nat) => (i : Int) + 1).Nodup := by
  refine List.pairwise_map.2 ((List.nodup_range).imp fun {a b} h => ?_)
  omega
theorem mem_range1 {k : Nat} {r : Int} : r ∈ ((List.range k).map fun (i : Nat) => (i : Int) + 1) ↔ 1 ≤ r ∧ r ≤ k := by
  simp only [List.mem_map, List.mem_range]
  constructor
  · rintro ⟨i, hi, rfl⟩; omega
  · rintro ⟨h1, h2⟩; exact ⟨(r - 1).toNat, by omega, by omega⟩
theorem mem_others {k : Nat} {o r : Int} : r ∈ others k o ↔ (1 ≤ r ∧ r ≤ k) ∧ r ≠ o := by
  rw [others, (range1_nodup k).mem_erase_iff, mem_range1]
  exact And.comm
theorem others_len {k : Nat} {o : Int} (h : 1 ≤ o ∧ o ≤ k) : (others k o).length + 1 = k := by
  rw [others, List.length_erase_of_mem (mem_range1.2 h)]
  simp only [List.length_map, List.length_range]
  omega
theorem others_nodup (k : Nat) (o : Int) : (others k o).Nodup := (range1_nodup k).erase o
/-- as many as there are: all -/
theorem count_all {k : Nat} {o : Int} (h : 1 ≤ o ∧ o ≤ k) {V : Type} {es : List (Int × V × Nat)} (nd : es.Pairwise fun a b => a.1 ≠ b.1) (hs : ∀ e ∈ es, (1 ≤ e.1 ∧ e.1 ≤ k) ∧ e.1 ≠ o) :
    ((es.length : Int) = (k : Int) - 1) ↔ ∀ r, 1 ≤ r → r ≤ (k : Int) → r ≠ o → ∃ e ∈ es, e.1 = r := by
  have hol := others_len h
  have ndk : (es.map fun e => e.1).Nodup := List.pairwise_map.2 nd
  have hsub : ∀ r ∈ es.map (fun e => e.1), r ∈ others k o := by
    intro r hr
    obtain ⟨e, he, rfl⟩ := List.mem_map.1 hr
    exact mem_others.2 (hs e he)
  have hle := nodup_len ndk hsub
  rw [List.length_map] at hle
  constructor
  · intro hl r h1 h2 h3
    apply Classical.byContradiction
    intro hno
    have := nodup_len (d := r :: es.map fun e => e.1) (es := others k o) (List.nodup_cons.2 ⟨fun hm => by
      obtain ⟨e, he, hr⟩ := List.mem_map.1 hm
      exact hno ⟨e, he, hr⟩, ndk⟩) fun x hx => by
        rcases List.mem_cons.1 hx with rfl | hx
        · exact mem_others.2 ⟨⟨h1, h2⟩, h3⟩
        · exact hsub x hx
    rw [List.length_cons, List.length_map] at this
    omega
  · intro hall
    have := nodup_len (others_nodup k o) (es := es.map fun e => e.1) fun r hr => by
      obtain ⟨⟨h1, h2⟩, h3⟩ := mem_others.1 hr
      obtain ⟨e, he, hr⟩ := hall r h1 h2 h3
      exact List.mem_map.2 ⟨e, he, hr⟩
    rw [List.length_map] at this
    omega

theorem one_dots {s : AS} {l : Nat} {d : Dot} (h : At s l (dotC d)) : Dots s (.slc (some (l, 0)) 1 1 true) [d] := SlAt.mk h rfl rfl

theorem stableNeeds_ok {s : AS} {n o : Int} {d : Dot} {b : AV} {lb : List Int} (hb : Ints s b lb) : ACalls Try.prog F_law14iStableNeeds [.int .i64 n, .int .i64 o, .agg (dotC d), b] s fun r s' => r = .bool true := by
  have kn : ∀ s', ACalls Try.prog F_law14iknown [] s' fun v s5 => ∃ b : Bool, v = .bool b ∧ (AV.bool b = .bool true) := by
    intro s'
    refine (known14_ok _).mono ?_
    rintro r s' ⟨rfl, rfl⟩
    exact ⟨_, rfl, rfl⟩
  refine ACalls.pre fun hw => q_law14iStableNeeds _ _ _ _ _ _ ⟨rfl, NewQ.intro hw rfl fun l1 s2 F2 => ?_⟩
  have d2 : At s2 l1 (dotC d) := F2.own.at
  refine ⟨fun vs s' => (Ext s2 s' ∧ WFs s') ∧ ∃ t, vs = [.bool t] ∧ (t = false → (1 ≤ n ∧ n ≤ 16 ∧ 1 ≤ o ∧ o ≤ n) ∧ d.may = true ∧ lb.length ≤ 60), ?_, bsplit.dec (fun h => ⟨⟨Ext.refl _, F2.wf⟩, _, rfl, by simp⟩) (fun h1 => bsplit.dec (fun h => ⟨⟨Ext.refl _, F2.wf⟩, _, rfl, by simp⟩) (fun h2 => bsplit.dec (fun h => ⟨⟨Ext.refl _, F2.wf⟩, _, rfl, by simp⟩) (fun h3 => bsplit.dec (fun h => ⟨⟨Ext.refl _, F2.wf⟩, _, rfl, by simp⟩) (fun h4 => ⟨_, d2.rdc (by simp [dotC]), ?_⟩))))⟩
  rotate_left
  · refine ACalls.use (ref04iMay_ok d _) ?_
    rintro r s75 ⟨rfl, e75⟩ w75
    exact ⟨_, rfl, bsplit.mk (fun hm => ⟨⟨e75, w75⟩, _, rfl, by simp⟩) (fun hm => ⟨_, hb.lenB u_s_int _, ⟨e75, w75⟩, _, rfl, fun h => ⟨⟨by omega, by omega, by omega, by omega⟩, by simpa using hm, by simp at h; omega⟩⟩)⟩
  rintro t s5 ⟨⟨e5, w5⟩, t', ht, hcond⟩
  simp only [List.cons.injEq, AV.bool.injEq, and_true] at ht
  subst ht
  refine bsplit.mk (fun _ => kn _) (fun hf => ?_)
  obtain ⟨hrng, hmay, hlb⟩ := hcond hf
  obtain ⟨k, rfl⟩ : ∃ k : Nat, n = (k : Int) := ⟨n.toNat, by omega⟩
  have d5 := d2.ext e5
  have hb5 := hb.ext (F2.ext.trans e5)
  refine ACalls.use (New_ok _ _ _) ?_
  rintro r s10 ⟨e10, h10⟩ w10
  obtain ⟨p, m, rfl, hp0, hm0, M10⟩ : ∃ p m, r = .tup [.ptr (some (p, 0)), .int .i64 0] ∧ s5.h p = none ∧ s5.h m = none ∧ MatF [] s10 p m k o (fun _ => none) zeros256 := by
    rcases h10 with ⟨h, _⟩ | ⟨_, h⟩
    · exact absurd hrng h
    · exact h
  refine ⟨_, _, rfl, bsplit.no rfl (NewQ.intro w10 rfl fun tm s14 F14 => ?_)⟩
  have E14 := e10.trans F14.ext
  have htm : s10.h tm = none := F14.no
  have htmp : tm ≠ p := by rintro rfl; exact M10.pthere htm
  have htmm : tm ≠ m := by rintro rfl; exact M10.mthere htm
  have htm5 := e10.none htm
  -- what holds on the way
  let I : Nat → AS → Prop := fun i s' => Ext s5 s' ∧ WFs s' ∧ ∃ F told es c, MatF F s' p m k o told zeros256 ∧ tm ∉ F ∧ MpAt iK iK s' tm es c false ∧ (∀ e ∈ es, (1 ≤ e.1 ∧ e.1 ≤ (k : Int)) ∧ e.1 ≠ o) ∧ (∀ r, gn (told r) d = true ↔ ∃ e ∈ es, e.1 = r) ∧ ∀ r, lno (told r) ≤ i
  have hI14 : I 0 s14 := ⟨E14, F14.wf, [], fun _ => none, [], 0, M10.ext F14.ext, by simp, MpAt.new F14.at, by simp, fun r => by simp [gn, sn], fun r => by simp [lno]⟩
  have stab : ∀ {i s'}, I i s' → ACalls Try.prog F_stable_Matrix_Stable [.ptr (some (p, 0)), .agg (dotC d)] s' fun v s'' => ∃ b, v = .bool b ∧ ∃ N : Int, alenB T Y_m_int_int (.map (some tm)) s'' = some (.int .i64 N) ∧ I i s'' ∧ b = (N == IntKind.wrap .i64 ((k : Int) - 1)) := by
    rintro i s' ⟨E, w, F, told, es, c, M, hF, hes, hsub, hg, hl⟩
    refine ACalls.use (Stable_ok M d) ?_
    rintro v s'' ⟨e, b, rfl, hb⟩ w'
    refine ⟨b, rfl, _, (hes.ext e).lenB mp_ints, ⟨E.trans e, w', F, told, es, c, M.ext e, hF, hes.ext e, hsub, hg, hl⟩, ?_⟩
    rw [Bool.eq_iff_iff, hb, beq_iff_eq, wrap_i' (by omega), count_all ⟨hrng.2.2.1, hrng.2.2.2⟩ hes.nd hsub]
    simp only [hmay, true_and, hg]
  refine ⟨fun vs s' => ∃ i, I i s', ?_, fun m' vs s' => ∃ i : Nat, vs = [.int .i64 (i : Nat)] ∧ i ≤ lb.length ∧ m' = lb.length - i ∧ I i s', lb.length, ⟨0, rfl, by omega, rfl, hI14⟩, ?_⟩
  · rintro s16 ⟨i, h16⟩
    refine ⟨_, (d5.ext h16.1).rdc (by simp [dotC]), ?_⟩
    refine ACalls.use (stab h16) ?_
    rintro v s19 ⟨b, rfl, N, hN, h19, hbN⟩ _
    exact ⟨_, rfl, N, hN, bsplit.yes (by rw [hbN]; simp) (kn _)⟩
  rintro m' n28 s29 ⟨i, hi, hil, rfl, h29⟩
  simp only [List.cons.injEq, AV.int.injEq, true_and, and_true] at hi
  subst hi
  refine ⟨_, hb5.lenB u_s_int _, bsplit.dec (fun hlt => ?_) (fun hge => ⟨i, h29⟩)⟩
  refine ⟨_, (d5.ext h29.1).rdc (by simp [dotC]), ?_⟩
  refine ACalls.use (stab h29) ?_
  rintro v s33 ⟨b, rfl, N, hN, h33, hbN⟩ w33
  refine ⟨_, rfl, N, hN, bsplit.no (by rw [hbN]; simp) ?_⟩
  obtain ⟨x, hx⟩ := get_lt (l := lb) (i := i) (by omega)
  obtain ⟨lx, ox, h8, h9⟩ := hb5.ix (sz := 1) (by decide) (fun _ => rfl) u_s_int z_int hx
  have hgx : rd1 s33 lx ox = some (.int .i64 x) := by have := (h9 _ h33.1).1 0 (by decide); simpa using this
  obtain ⟨j, hj, hje⟩ := place (n := x) (k := k) (by omega) (by omega)
  have hwr : IntKind.wrap .i64 (1 + (j : Int)) = (j : Int) + 1 := by rw [wrap_i (by omega)]; omega
  have hcont : ∀ s', I (i + 1) s' → ∃ m', m' < lb.length - i ∧ ∃ i' : Nat, [AV.int .i64 (IntKind.wrap .i64 ((i : Int) + 1))] = [.int .i64 (i' : Nat)] ∧ i' ≤ lb.length ∧ m' = lb.length - i' ∧ I i' s' :=
    fun s' h => ⟨lb.length - (i + 1), by omega, i + 1, by rw [wadd1 (by omega)], by omega, rfl, h⟩
  have hmono : ∀ {s'}, I i s' → I (i + 1) s' := fun ⟨a, w, F, told, es, c, h1, h2, h3, h4, h5, h6⟩ => ⟨a, w, F, told, es, c, h1, h2, h3, h4, h5, fun r => by have := h6 r; omega⟩
  refine ⟨lx, ox, h8 _, x, hgx, by omega, by omega, ?_⟩
  rw [hje, hwr]
  refine bsplit.mk (fun _ => hcont _ (hmono h33)) (fun hne => ⟨by decide, ?_⟩)
  have hro : (j : Int) + 1 ≠ o := by simpa using hne
  have d33 := d5.ext h33.1
  have hIext : ∀ {i s' s''}, I i s' → Ext s' s'' → WFs s'' → I i s'' := fun ⟨a, w, F, told, es, c, h1, h2, h3, h4, h5, h6⟩ e w' => ⟨a.trans e, w', F, told, es, c, h1.ext e, h2, h3.ext e, h4, h5, h6⟩
  have hmayone : ∀ {v ex}, (∀ y, hasD v ex y = true ↔ y.may = true ∧ y ∈ [d]) → hasD v ex d = true := fun h => (h d).2 ⟨hmay, by simp⟩
  -- one region tells
  have know : ∀ {s' pc v ex a l}, I i s' → CtxAt s' pc v ex → COk v ex → Gap v ex → ex.length ≤ 1 → (∀ y, hasD v ex y = true ↔ y.may = true ∧ y ∈ [d]) → Dots s' a l → l.length ≤ 1 → mayL v ex l →
      ACalls Try.prog F_stable_Matrix_Know [.ptr (some (p, 0)), .int .i64 ((j : Int) + 1), .ptr (some (pc, 0)), a] s' fun r s'' => r = .int .i64 0 ∧ Ext s5 s'' ∧ WFs s'' ∧ ∃ F told es c x0, ∃ told0 : Int → Option Vw, MatF F s'' p m k o told zeros256 ∧ tm ∉ F ∧ MpAt iK iK s'' tm es c false ∧ (∀ e ∈ es, (1 ≤ e.1 ∧ e.1 ≤ (k : Int)) ∧ e.1 ≠ o) ∧ (∀ r, lno (told r) ≤ i + 1) ∧ (told = fun r => if r = (j : Int) + 1 then some x0 else told0 r) ∧ (∀ r, gn (told0 r) d = true ↔ ∃ e ∈ es, e.1 = r) ∧ Told (told0 ((j : Int) + 1)) v ex l x0 := by
    rintro s' pc v ex a l ⟨E, w, F, told, es, c, M, hF, hes, hsub, hg, hl⟩ hc ok gap hlen has ha hal hmy
    have hl2 := hl ((j : Int) + 1)
    refine ACalls.use (Know_ok M ((j : Int) + 1) hc ok gap (by omega) ha (by omega) (by omega)) ?_
    rintro r s'' hcase w'
    rcases hcase with ⟨h, _⟩ | ⟨_, rfl, F', x0, hFF, hFn, ht, M', m''⟩
    · exact absurd ⟨⟨by omega, by omega, hro⟩, hmy⟩ h
    · have htmF : tm ∉ F' := by
        intro hin
        rcases hFn tm hin with h | h
        · exact hF h
        · rw [hes.obj] at h; cases h
      have hlx := ht.len
      refine ⟨rfl, Ext.wr E hm0 m'', w', F', _, es, c, x0, told, M', htmF, hes.mut m'' (by simpa using htmm), hsub, fun r => ?_, rfl, hg, ht⟩
      show lno (if r = (j : Int) + 1 then some x0 else told r) ≤ i + 1
      split
      · show x0.ex.length ≤ i + 1
        omega
      · have := hl r; omega
  refine bsplit.mk (fun h3 => ?_) (fun h3 => ?_)
  · -- seen, and live
    refine ⟨fun q _ v s' => ((q = 3 ∨ q = 6) → Dots s' v [d]) ∧ (q = 4 → ∃ pc cv ce, v = .ptr (some (pc, 0)) ∧ CtxAt s' pc cv ce ∧ COk cv ce ∧ Gap cv ce ∧ ce.length ≤ 1 ∧ ∀ y, hasD cv ce y = true ↔ y.may = true ∧ y ∈ [d]), fun q _ v => q = 4 → ∃ pc, v = .ptr (some (pc, 0)), ?_, _, d33.rdc (by simp [dotC]), fun s40 e40 w40 _ => ⟨_, absl_agg sl_s_Dot (c := dotC d) rfl rfl, NewQ.intro w40 rfl fun l42 s43 F43 => ⟨F43.ext, ⟨(fun _ => one_dots F43.own.at), (fun h => by cases h)⟩, (fun h => by cases h)⟩⟩, ⟨.bool true, (fun h => by cases h)⟩, fun v44 _ => ⟨fun s45 e45 w45 hS => ?_, ⟨.ptr (some (0, 0)), fun _ => ⟨0, rfl⟩⟩, fun v49 hv49 => ?_⟩⟩
    · rintro q ks v s' s'' e ⟨h1, h2⟩
      refine ⟨fun hq => (h1 hq).ext e, fun hq => ?_⟩
      obtain ⟨pc, cv, ce, a, b, c⟩ := h2 hq
      exact ⟨pc, cv, ce, a, b.ext e, c⟩
    · refine (of14_ok (hS.1.1 (.inl rfl)) (by simp)).mono ?_
      rintro r s47 ⟨pc, v, ex, rfl, _, ok, gap, hlen, e47, c47, has⟩
      exact ⟨_, rfl, e47, ⟨(fun h => by rcases h with h | h <;> cases h), (fun _ => ⟨pc, v, ex, rfl, c47, ok, gap, hlen, has⟩)⟩, (fun _ => ⟨pc, rfl⟩)⟩
    obtain ⟨pc, rfl⟩ := hv49 rfl
    refine ⟨_, rfl, _, d33.rdc (by simp [dotC]), fun s52 e52 w52 _ => ⟨_, absl_agg sl_s_Dot (c := dotC d) rfl rfl, NewQ.intro w52 rfl fun l54 s55 F55 => ⟨F55.ext, ⟨(fun _ => one_dots F55.own.at), (fun h => by cases h)⟩, (fun h => by cases h)⟩⟩, ⟨.bool true, (fun h => by cases h)⟩, fun v56 _ s57 e57 w57 hS => ?_⟩
    obtain ⟨pc', cv, ce, hpc, hc, ok, gap, hlen, has⟩ := hS.2.1.2 rfl
    simp only [AV.ptr.injEq, Option.some.injEq, Prod.mk.injEq, and_true] at hpc
    subst hpc
    have hd6 := hS.2.2.1.1 (.inr rfl)
    refine ACalls.use (know (hIext h33 e57 w57) hc ok gap hlen has hd6 (by simp) ⟨fun q x y h1 h2 => by simp at h2, fun y hy => by obtain rfl := List.mem_singleton.1 hy; exact hmayone has⟩) ?_
    rintro r s60 ⟨rfl, E60, w60, F, told, es, c, x0, told0, M, hF, hes, hsub, hl, rfl, hg, ht⟩ _
    refine ⟨_, rfl, bsplit.no rfl (hcont _ ⟨E60, w60, F, _, es, c, M, hF, hes, hsub, fun r => ?_, hl⟩)⟩
    rw [← hg]
    by_cases hr : r = (j : Int) + 1
    · subst hr
      rw [if_pos rfl]
      have e1 := ht.has d
      have e2 := ht.live d
      rw [hmayone has] at e1 e2
      show (x0.has d && !x0.live d) = true ↔ _
      rw [e1, e2]
      simp only [gn]
      cases sn (told0 ((j : Int) + 1)) d <;> cases lvo (told0 ((j : Int) + 1)) d <;> simp
    · rw [if_neg hr]
  · -- seen, and gone
    refine ⟨_, d33.rdc (by simp [dotC]), _, absl_agg sl_s_Dot (c := dotC d) rfl rfl, NewQ.intro w33 rfl fun l64 s65 F65 => ?_⟩
    refine ACalls.use (of14_ok (one_dots F65.own.at) (by simp)) ?_
    rintro r s67 ⟨pc, v, ex, rfl, _, ok, gap, hlen, e67, c67, has⟩ w67
    refine ⟨_, rfl, ?_⟩
    refine ACalls.use (know (hIext h33 (F65.ext.trans e67) w67) c67 ok gap hlen has (Sl.nil (a := none) (c := 0) (e := true)) (by simp) ⟨fun q x y h1 => by simp at h1, by simp⟩) ?_
    rintro r s70 ⟨rfl, E70, w70, F, told, es, c, x0, told0, M, hF, hes, hsub, hl, rfl, hg, ht⟩ _
    refine ⟨_, rfl, bsplit.no rfl (MpAt.upd mp_ints w70 hes ((j : Int) + 1) (1 : Int) fun s72 es' c' hes' hget w72 m72 => hcont _ ⟨Ext.wr E70 htm5 m72, w72, F, _, es', c', M.mut m72 (fun y hy => by obtain rfl := List.mem_singleton.1 hy; exact hF) (by simpa using htmp.symm) (by simpa using htmm.symm), hF, hes', ?_, fun r => ?_, hl⟩)⟩
    · intro e he
      have h1 := mget_mem hes'.nd he
      rw [hget] at h1
      by_cases hr : e.1 = (j : Int) + 1
      · rw [hr]; exact ⟨by omega, hro⟩
      · rw [if_neg hr] at h1
        obtain ⟨q, w, hq⟩ := mget_some h1
        exact hsub (e.1, e.2.1, w) (List.mem_of_getElem? hq)
    · have hiff : (∃ e ∈ es', e.1 = r) ↔ r = (j : Int) + 1 ∨ ∃ e ∈ es, e.1 = r := by
        have h1 : ∀ (l : List (Int × Int × Nat)), (∃ e ∈ l, e.1 = r) ↔ mget l r ≠ none := by
          intro l
          rw [Ne, mget_none]
          constructor
          · rintro ⟨e, he, h⟩ h2; exact h2 e he h
          · intro h
            apply Classical.byContradiction
            intro h2
            exact h fun e he h3 => h2 ⟨e, he, h3⟩
        rw [h1, h1, hget]
        by_cases hr : r = (j : Int) + 1
        · simp [hr]
        · simp [hr]
      rw [hiff, ← hg]
      by_cases hr : r = (j : Int) + 1
      · subst hr
        rw [if_pos rfl]
        have e1 := ht.has d
        have e2 := ht.live d
        rw [hmayone has] at e1 e2
        show (x0.has d && !x0.live d) = true ↔ _
        rw [e1, e2]
        simp
      · rw [if_neg hr]
        simp [hr]

/-- a dot as an argument -/
theorem dot_arg {H : Type} {enc : TypeId × Value → H} {W : World} {v : Value} (h : ∃ (d : DataW H) (p : List MemPlace), DataW.Trod enc Try.prog W 0 (fun _ => true) true Y_Dot v d p) :
    ∃ x : Dot, absV W.heap.size (MW W) v = .agg (dotC x) := by
  obtain ⟨d, p, fuel, h⟩ := h
  have hc := flat_open 5 Y_Dot _ fuel v.cells.toList _ W.heap.size (MW W) flat_Dot h
  obtain ⟨a, c1, h1, ⟨r, rfl, _⟩, g1⟩ := cellsOk.cons hc
  obtain ⟨b, c2, h2, ⟨n, rfl, _⟩, g2⟩ := cellsOk.cons g1
  obtain rfl := cellsOk.nil g2
  subst h2
  refine ⟨⟨r, n⟩, ?_⟩
  have hl := congrArg List.length h1
  cases v with
  | agg l =>
    obtain ⟨l⟩ := l
    simp only [absV, absVs_map]
    exact congrArg AV.agg h1
  | _ => simp [Value.cells] at hl

set_option maxRecDepth 100000 in
theorem stableNeeds_lifted (os : Os) (started : os.Started) (H : Type) (enc : TypeId × Value → H) :
    ReturnsInHanded {} Try.checked os F_law14iStableNeeds .any (Rows.stableNeedsSpec.pre6 enc Try.prog Try.f9 Rows.stableNeedsRow.domain false) (Rows.stableNeedsSpec.post enc Try.prog Try.f9 false true false false) := by
  refine law_open (C := Try.checked) (rt := 4) own started (by kernel_rfl) Try.func9
    (ChangeSpec.witness6 (enc := enc) (C := Try.checked) false ⟨#[], #[.int .i64 0, .int .i64 0, .agg #[.int .i64 0, .int .u64 0], .slice none 0 0], []⟩ 8 (by kernel_rfl) (by kernel_rfl) (by kernel_rfl) (by kernel_rfl)) (by kernel_rfl) rfl (by kernel_rfl) Try.underlying4 laid (by kernel_rfl) ?_ ?_
  · intro ds hds
    rw [Try.params9] at hds
    match ds, hds with
    | [d1, d2, d3, d4], _ => rfl
  · intro W base args hlen hargs
    rw [Try.params9] at hlen hargs
    match args, hlen with
    | [a, b, c, d], _ =>
      obtain ⟨n, hn, _⟩ := int_arg (hT.und _ _ u_int) flat_int (hargs 0 _ a rfl rfl).1 (hargs 0 _ a rfl rfl).2
      obtain ⟨o, ho, _⟩ := int_arg (hT.und _ _ u_int) flat_int (hargs 1 _ b rfl rfl).1 (hargs 1 _ b rfl rfl).2
      obtain ⟨x, hx⟩ := dot_arg (hargs 2 _ c rfl rfl).2
      obtain ⟨l, hl, _⟩ := ints_arg (hargs 3 _ d rfl rfl).1 (hargs 3 _ d rfl rfl).2
      simp only [List.map_cons, List.map_nil, hn, ho, hx]
      exact stableNeeds_ok hl

theorem stableNeeds_holds : Rows.StableNeedsSaid :=
  OpenClaim.holds_of_wide 9 Try.f9 rfl rfl rfl rfl rfl rfl rfl ⟨rfl, rfl, rfl, rfl, rfl⟩ rfl rfl rfl rfl rfl (by kernel_rfl) Try.func9 (by kernel_rfl)
    (of_decide_eq_true (by kernel_rfl)) (by unfold Func.isWrapper; rw [if_neg (by decide +kernel)]; exact ⟨rfl, rfl⟩)
    (fun os started H enc _ => stableNeeds_lifted os started H enc)
end Go.Proofs.Ytbfchlimonimkaa
