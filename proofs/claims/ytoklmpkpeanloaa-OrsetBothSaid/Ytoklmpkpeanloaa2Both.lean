/-
  OrsetBoth: of two sets that see each other's items, where one subscribed anew what the other one gave up, not having heard of it, the key is there in both; and where it had heard of it, it is not.
-/
import Derived.Test.YtoklmpkpeanloaaP6
set_option linter.unusedSimpArgs false
set_option linter.unusedVariables false
namespace Go.Proofs.Ytoklmpkpeanloaa
open Go.Am Go.Minster Go.Minster2 Go.ChangeShapes Go.WideShapes Go.ChangeAt Go.RowKit

theorem refName_ok (t : List UInt8) (s : AS) : ACalls Try.prog F_ref07iName [.str t] s fun v s' => v = .bool (nameOk t) ∧ s' = s := by
  refine q_ref07iName _ _ _ ⟨_, alen_str t s, bsplit.dec (fun h => ⟨_, alen_str t s, ?_, rfl⟩) (fun h => ⟨?_, rfl⟩)⟩
  · congr 1
    rw [nameOk, decide_eq_decide]; omega
  · congr 1
    symm
    rw [nameOk, decide_eq_false_iff_not]; omega

/-- two sets of a law, and items that it holds -/
structure St (s0 s : AS) (pa pb : Nat) (xa xb : OSet) (Ba Bb : Nat) (sl : List (AV × List Itm)) : Prop where
  e : Ext s0 s
  mem : ∃ Fa Fb, SetO s0 s Fa pa xa Ba ∧ SetO s0 s Fb pb xb Bb ∧ Dj Fa Fb
  it : ∀ z ∈ sl, Sl itemC 5 s z.1 z.2
section
variable {s0 s s' : AS} {pa pb : Nat} {xa xb : OSet} {Ba Bb : Nat} {sl : List (AV × List Itm)}
theorem St.swap (h : St s0 s pa pb xa xb Ba Bb sl) : St s0 s pb pa xb xa Bb Ba sl := by
  obtain ⟨e, ⟨Fa, Fb, h1, h2, h3⟩, h4⟩ := h
  exact ⟨e, ⟨Fb, Fa, h2, h1, h3.symm⟩, h4⟩
theorem St.ext (h : St s0 s pa pb xa xb Ba Bb sl) (e : Ext s s') : St s0 s' pa pb xa xb Ba Bb sl := by
  obtain ⟨e0, ⟨Fa, Fb, h1, h2, h3⟩, h4⟩ := h
  exact ⟨e0.trans e, ⟨Fa, Fb, h1.ext e, h2.ext e, h3⟩, fun z hz => (h4 z hz).ext e⟩
theorem St.add (h : St s0 s pa pb xa xb Ba Bb sl) (hB : Ba ≤ 500) (k : Key) (d : Dot) (hk : k.may = true) (hd : d.may = true) (hn : xa.has d = false) :
    ACalls Try.prog F_orset_Set_Add [.ptr (some (pa, 0)), .agg (keyC k), .agg (dotC d)] s fun r s' => ∃ v l x', x' = (xa.sees (⟨d, k, false⟩ :: l.map goneI)).2 ∧ KeyDots xa k l ∧ r = .tup [v, .int .i64 0] ∧ St s0 s' pa pb x' xb (Ba + 1) Bb ((v, ⟨d, k, false⟩ :: l.map goneI) :: sl) := by
  obtain ⟨e0, ⟨Fa, Fb, h1, h2, h3⟩, h4⟩ := h
  refine (h1.Add e0 hB k d hk hd hn).mono ?_
  rintro r s' ⟨v, l, kd, rfl, hs, m, E, F', x', hx, A, hF⟩
  refine ⟨v, l, x', hx, kd, rfl, E, ⟨F', Fb, A, h2.keep m (h3.sub (by simpa using h1.set.pF)), h3.step h2.there hF⟩, fun z hz => ?_⟩
  rcases List.mem_cons.1 hz with rfl | hz
  · exact hs
  · exact h1.set.keepI (h4 z hz) m
theorem St.rem (h : St s0 s pa pb xa xb Ba Bb sl) (hB : Ba ≤ 500) (k : Key) (hk : k.may = true) :
    ACalls Try.prog F_orset_Set_Remove [.ptr (some (pa, 0)), .agg (keyC k)] s fun r s' => ∃ v l x', x' = (xa.sees (l.map goneI)).2 ∧ KeyDots xa k l ∧ r = .tup [v, .int .i64 0] ∧ St s0 s' pa pb x' xb Ba Bb ((v, l.map goneI) :: sl) := by
  obtain ⟨e0, ⟨Fa, Fb, h1, h2, h3⟩, h4⟩ := h
  refine (h1.Remove e0 hB k hk).mono ?_
  rintro r s' ⟨v, l, kd, rfl, hs, m, E, F', x', hx, A, hF⟩
  refine ⟨v, l, x', hx, kd, rfl, E, ⟨F', Fb, A, h2.keep m (h3.sub (by simpa using h1.set.pF)), h3.step h2.there hF⟩, fun z hz => ?_⟩
  rcases List.mem_cons.1 hz with rfl | hz
  · exact hs
  · exact h1.set.keepI (h4 z hz) m
theorem St.see (h : St s0 s pa pb xa xb Ba Bb sl) {a : AV} {l : List Itm} (hl : (a, l) ∈ sl) (hB : Ba + l.length ≤ 1000) (hm : ∀ i ∈ l, i.may = true) :
    ACalls Try.prog F_orset_Set_See [.ptr (some (pa, 0)), a] s fun r s' => ∃ b x', x' = (xa.sees l).2 ∧ r = .tup [.bool b, .int .i64 0] ∧ St s0 s' pa pb x' xb (Ba + l.length) Bb sl := by
  obtain ⟨e0, ⟨Fa, Fb, h1, h2, h3⟩, h4⟩ := h
  refine (h1.See e0 (h4 _ hl) hB hm).mono ?_
  rintro r s' ⟨rfl, m, E, F', x', hx, A, hF⟩
  exact ⟨_, x', hx, rfl, E, ⟨F', Fb, A, h2.keep m (h3.sub (by simpa using h1.set.pF)), h3.step h2.there hF⟩, fun z hz => h1.set.keepI (h4 z hz) m⟩
theorem St.oka (h : St s0 s pa pb xa xb Ba Bb sl) : OOk xa Ba := by obtain ⟨e0, ⟨Fa, Fb, h1, h2, h3⟩, h4⟩ := h; exact h1.ok
theorem St.okb (h : St s0 s pa pb xa xb Ba Bb sl) : OOk xb Bb := h.swap.oka
theorem St.has (h : St s0 s pa pb xa xb Ba Bb sl) (hB : Ba ≤ 1000) (k : Key) : ACalls Try.prog F_orset_Set_Has [.ptr (some (pa, 0)), .agg (keyC k)] s fun r s' => (∃ b, r = .bool b ∧ (b = true ↔ ∃ d, xa.live d = some k)) ∧ Ext s s' := by
  obtain ⟨e0, ⟨Fa, Fb, h1, h2, h3⟩, h4⟩ := h
  exact Has_ok h1.set (by have := h1.bnd; omega) k
theorem St.ctx (h : St s0 s pa pb xa xb Ba Bb sl) : ACalls Try.prog F_orset_Set_Ctx [.ptr (some (pa, 0))] s fun r s' => ∃ q, r = .ptr (some (q, 0)) ∧ CtxAt s' q xa.v xa.ex ∧ Ext s s' := by
  obtain ⟨e0, ⟨Fa, Fb, h1, h2, h3⟩, h4⟩ := h
  refine (Ctx_ok h1.set).mono ?_
  rintro r s' ⟨q, rfl, _, g, e⟩
  exact ⟨q, rfl, g.at, e⟩
theorem St.keys (h : St s0 s pa pb xa xb Ba Bb sl) (hB : Ba ≤ 1000) : ACalls Try.prog F_orset_Set_Keys [.ptr (some (pa, 0))] s fun r s' => ∃ l, Go.Minster.SK.KRis l ∧ (∀ k, k ∈ l ↔ ∃ d, xa.live d = some k) ∧ KeysS s' r l ∧ Ext s s' ∧ l.length ≤ Ba := by
  obtain ⟨e0, ⟨Fa, Fb, h1, h2, h3⟩, h4⟩ := h
  have hb := h1.bnd
  refine (Keys_ok h1.set (by omega)).mono ?_
  rintro r s' ⟨l, a, b, c, d, f⟩
  exact ⟨l, a, b, c, d, by omega⟩
end
/-- both see the same, and the same is live -/
theorem both_end {s0 s : AS} {pa pb : Nat} {xa xb : OSet} {Ba Bb : Nat} {sl : List (AV × List Itm)} (h : St s0 s pa pb xa xb Ba Bb sl) (hBa : Ba ≤ 1000) (hBb : Bb ≤ 1000) (hs : ∀ d, xa.has d = xb.has d) (hl : ∀ d, xa.live d = xb.live d) {R : AV → AS → Prop}
    (hR : ∀ s', Ext s s' → WFs s' → R (.bool true) s') :
    ACalls Try.prog F_orset_Set_Ctx [(.ptr (some (pa, 0)))] s fun v81 s82 => ∃ p83 : Option (Nat × Nat), v81 = .ptr p83 ∧ (ACalls Try.prog F_orset_Set_Ctx [(.ptr (some (pb, 0)))] s82 fun v84 s85 => ∃ p86 : Option (Nat × Nat), v84 = .ptr p86 ∧ (ACalls Try.prog F_ctx_Ctx_Same [(.ptr p83), (.ptr p86)] s85 fun v87 s88 => ∃ b89 : Bool, v87 = .bool b89 ∧ (bsplit b89 (ACalls Try.prog F_orset_Set_Keys [(.ptr (some (pa, 0)))] s88 fun v90 s91 => ACalls Try.prog F_orset_Set_Keys [(.ptr (some (pb, 0)))] s91 fun v92 s93 => ACalls Try.prog F_ref07iSameKeys [v90, v92] s93 fun v94 s95 => ∃ b96 : Bool, v94 = .bool b96 ∧ (bsplit b96 (ACalls Try.prog F_law07iknown [] s95 fun v97 s98 => ∃ b99 : Bool, v97 = .bool b99 ∧ (R (.bool b99) s98)) (R (.bool false) s95))) (R (.bool false) s88)))) := by
  refine ACalls.use h.ctx ?_
  rintro v s82 ⟨q1, rfl, c1, e1⟩ w1
  refine ⟨_, rfl, ?_⟩
  refine ACalls.use (h.ext e1).swap.ctx ?_
  rintro v s85 ⟨q2, rfl, c2, e2⟩ w2
  have hln : xa.ex.length ≤ 2 ^ 40 := by
    obtain ⟨e0, ⟨Fa, Fb, h1, h2, h3⟩, h4⟩ := h
    have := h1.bnd; omega
  obtain ⟨n1, n2⟩ := norm_eq h.oka.ok h.oka.gap h.okb.ok h.okb.gap hs
  refine ⟨_, rfl, ?_⟩
  refine ACalls.use (Same_ok (c1.ext e2) c2 hln) ?_
  rintro v s88 ⟨rfl, rfl⟩ w3
  refine ⟨_, rfl, bsplit.yes (by rw [n1, n2]; simp) ?_⟩
  have h88 := h.ext (e1.trans e2)
  refine ACalls.use (h88.keys hBa) ?_
  rintro v1 s91 ⟨l1, r1, m1, k1, e3, hlen⟩ w4
  refine ACalls.use ((h88.ext e3).swap.keys hBb) ?_
  rintro v2 s93 ⟨l2, r2, m2, k2, e4, _⟩ w5
  have : l1 = l2 := kris_uniq r1 r2 fun k => by rw [m1, m2]; simp only [hl]
  subst this
  refine ACalls.use (SameKeys_ok (k1.ext e4) k2 (by omega)) ?_
  rintro v s95 ⟨rfl, rfl⟩ w6
  refine ⟨_, rfl, bsplit.yes (by simp) ?_⟩
  refine ACalls.use (known07_ok _) ?_
  rintro v s98 ⟨rfl, e5⟩ w7
  exact ⟨_, rfl, hR _ (e1.trans (e2.trans (e3.trans (e4.trans e5)))) w7⟩

theorem St.has' {s0 s : AS} {pa pb : Nat} {xa xb : OSet} {Ba Bb : Nat} {sl : List (AV × List Itm)} (h : St s0 s pa pb xa xb Ba Bb sl) (hB : Ba ≤ 1000) (k : Key) (b : Bool) (hb : b = true ↔ ∃ d, xa.live d = some k) : ACalls Try.prog F_orset_Set_Has [.ptr (some (pa, 0)), .agg (keyC k)] s fun r s' => r = .bool b ∧ Ext s s' := by
  refine (h.has hB k).mono ?_
  rintro r s' ⟨⟨b', rfl, hb'⟩, e⟩
  refine ⟨?_, e⟩
  congr 1
  rw [Bool.eq_iff_iff, hb', hb]
theorem may_key {k : Key} : k.may = true ↔ nameOk k.t = true ∧ nameOk k.d = true := by simp [Key.may]

set_option maxRecDepth 100000 in
set_option maxHeartbeats 4000000 in
theorem orsetBoth_ok (k o : Key) (heard : Bool) (r : Int) (s : AS) : ACalls Try.prog F_law07iOrsetBoth [.agg (keyC k), .agg (keyC o), .bool heard, .int .i64 r] s fun v s' => v = .bool true := by
  refine ACalls.pre fun hw => q_law07iOrsetBoth _ _ _ _ _ _ ⟨rfl, NewQ.intro hw rfl fun l1 s2 F2 => ⟨rfl, NewQ.intro F2.wf rfl fun l3 s4 F4 => ?_⟩⟩
  have k4 : At s4 l1 (keyC k) := (F2.own.ext F4.ext).at
  have o4 : At s4 l3 (keyC o) := F4.own.at
  refine ⟨fun vs s' => s' = s4 ∧ ∃ t, vs = [.bool t] ∧ (t = false → k.may = true ∧ o.may = true ∧ 3 ≤ r ∧ r ≤ 16), ?_, ?_⟩
  rotate_left
  · refine ⟨k.t, by rw [k4.rd1]; rfl, ?_⟩
    refine ACalls.use (refName_ok _ _) ?_
    rintro v s' ⟨rfl, rfl⟩ _
    refine ⟨_, rfl, bsplit.mk (fun h => ⟨rfl, _, rfl, by simp⟩) (fun h1 => ⟨k.d, by rw [k4.rd1]; rfl, ?_⟩)⟩
    refine ACalls.use (refName_ok _ _) ?_
    rintro v s' ⟨rfl, rfl⟩ _
    refine ⟨_, rfl, bsplit.mk (fun h => ⟨rfl, _, rfl, by simp⟩) (fun h2 => ⟨o.t, by rw [o4.rd1]; rfl, ?_⟩)⟩
    refine ACalls.use (refName_ok _ _) ?_
    rintro v s' ⟨rfl, rfl⟩ _
    refine ⟨_, rfl, bsplit.mk (fun h => ⟨rfl, _, rfl, by simp⟩) (fun h3 => ⟨o.d, by rw [o4.rd1]; rfl, ?_⟩)⟩
    refine ACalls.use (refName_ok _ _) ?_
    rintro v s' ⟨rfl, rfl⟩ _
    refine ⟨_, rfl, bsplit.mk (fun h => ⟨rfl, _, rfl, by simp⟩) (fun h4 => bsplit.dec (fun h => ⟨rfl, _, rfl, by simp⟩) (fun h5 => ⟨rfl, _, rfl, fun h6 => ?_⟩))⟩
    simp only [decide_eq_false_iff_not] at h6
    simp only [Bool.not_eq_false'] at h1 h2 h3 h4
    exact ⟨may_key.2 ⟨h1, h2⟩, may_key.2 ⟨h3, h4⟩, by omega, by omega⟩
  rintro t s7 ⟨rfl, t', ht, hok⟩
  simp only [List.cons.injEq, AV.bool.injEq, and_true] at ht
  subst ht
  refine bsplit.mk (fun ht => ?_) (fun ht => ?_)
  · refine ACalls.use (known07_ok _) ?_
    rintro v s' ⟨rfl, _⟩ _
    exact ⟨_, rfl, rfl⟩
  obtain ⟨hk, ho, hr1, hr2⟩ := hok ht
  obtain ⟨d1, hd1⟩ : ∃ d : Dot, d = ⟨1, 1⟩ := ⟨_, rfl⟩
  obtain ⟨d2, hd2⟩ : ∃ d : Dot, d = ⟨1, 2⟩ := ⟨_, rfl⟩
  obtain ⟨dr, hdr⟩ : ∃ d : Dot, d = ⟨r, 1⟩ := ⟨_, rfl⟩
  have B1 : abuild T Y_Dot [(0, .int .i64 1), (1, .int .u64 1)] = some (.agg (dotC d1)) := by rw [hd1]; exact dot_build2 1 1
  have B2 : abuild T Y_Dot [(0, .int .i64 1), (1, .int .u64 2)] = some (.agg (dotC d2)) := by rw [hd2]; exact dot_build2 1 2
  have Br : abuild T Y_Dot [(0, .int .i64 r), (1, .int .u64 1)] = some (.agg (dotC dr)) := by rw [hdr]; exact dot_build2 r 1
  have m1 : d1.may = true := by rw [hd1]; decide
  have m2 : d2.may = true := by rw [hd2]; decide
  have mr : dr.may = true := by rw [Dot.may_iff, hdr]; simp only; omega
  have h12 : d1 ≠ d2 := by rw [hd1, hd2]; decide
  have h1r : d1 ≠ dr := by rw [hd1, hdr]; intro h; have := congrArg Dot.r h; simp only at this; omega
  have h2r : d2 ≠ dr := by rw [hd2, hdr]; intro h; have := congrArg Dot.r h; simp only at this; omega
  clear hd1 hd2 hdr
  refine ACalls.use (New_ok s7) ?_
  rintro v s12 ⟨pa, Fa, rfl, hSa, hna, hta, e12⟩ w12
  refine ⟨_, rfl, ?_⟩
  refine ACalls.use (New_ok s12) ?_
  rintro v s15 ⟨pb, Fb, rfl, hSb, hnb, htb, e15⟩ w15
  have S15 : St s7 s15 pa pb OSet.zero OSet.zero 0 0 [] := by
    have A : SetO s7 s12 Fa pa OSet.zero 0 := ⟨hSa, OOk.zero, hna, hta⟩
    have B : SetO s7 s15 Fb pb OSet.zero 0 := ⟨hSb, OOk.zero, fun y hy => e12.none (hnb y hy), htb⟩
    exact ⟨e12.trans e15, ⟨Fa, Fb, A.ext e15, B, fun y hy hb => hta y hy (hnb y hb)⟩, by simp⟩
  have mk : ∀ {d : Dot}, d.may = true → (⟨d, k, false⟩ : Itm).may = true := fun h => by simp [Itm.may, hk, h]
  have mo : ∀ {d : Dot}, d.may = true → (⟨d, o, false⟩ : Itm).may = true := fun h => by simp [Itm.may, ho, h]
  refine ⟨_, rfl, _, (k4.ext S15.e).rdc (by simp [keyC]), _, B1, ?_⟩
  refine ACalls.use (S15.add (by omega) k d1 hk m1 (by rw [Is.zero.has]; rfl)) ?_
  rintro v s20 ⟨v1, l, xa1, hx1, kd, rfl, S20⟩ w20
  obtain rfl := kd.none fun d h => by cases h
  have ia1 := Is.zero.sees1 OOk.zero hx1 m1
  refine ⟨_, _, rfl, bsplit.no rfl ?_⟩
  refine ACalls.use (S20.swap.see (a := v1) (l := [⟨d1, k, false⟩]) (by simp) (by simp) (by simpa using mk m1)) ?_
  rintro v s24 ⟨b, xb1, hxb1, rfl, S24⟩ w24
  have ib1 := Is.zero.sees1 OOk.zero hxb1 m1
  refine ⟨_, _, rfl, _, (k4.ext S24.e).rdc (by simp [keyC]), _, B2, ?_⟩
  refine ACalls.use (S24.swap.add (by omega) k d2 hk m2 (by rw [ia1.has]; simp [h12.symm])) ?_
  rintro v s30 ⟨v2, l, xa2, hx2, kd, rfl, S30⟩ w30
  obtain rfl := kd.one d1 fun d => by rw [ia1.live]; simp [seeV]
  have ia2 := ia1.sees2 S24.okb hx2 (mk m2) m1
  have hL2 : ∀ i ∈ [(⟨d2, k, false⟩ : Itm), goneI d1], i.may = true := by
    intro i hi
    simp only [List.mem_cons, List.not_mem_nil, or_false] at hi
    rcases hi with rfl | rfl
    · exact mk m2
    · exact goneI_may m1
  obtain ⟨dl, hdl⟩ : ∃ d, d = if heard then d2 else d1 := ⟨_, rfl⟩
  have mdl : dl.may = true := by rw [hdl]; split <;> assumption
  refine ⟨_, _, rfl, bsplit.no rfl ⟨fun vs s' => vs = [] ∧ WFs s' ∧ ∃ xb2 B, B ≤ 10 ∧ Is xb2 (if heard then [d1, d2] else [d1]) (fun d => if d = dl then some k else none) ∧ St s7 s' pa pb xa2 xb2 2 B [(v2, [⟨d2, k, false⟩, goneI d1]), (v1, [⟨d1, k, false⟩])], ?_, ?_⟩⟩
  rotate_left
  · refine bsplit.mk (fun hh => ?_) (fun hh => ⟨rfl, w30, xb1, _, by simp, ⟨fun d => ?_, fun d => ?_⟩, S30⟩)
    · refine ACalls.use (S30.swap.see (a := v2) (l := [⟨d2, k, false⟩, goneI d1]) (by simp) (by simp) hL2) ?_
      rintro v s ⟨b, xb2, hxb2, rfl, S⟩ w
      have ib2 := ib1.sees2 S24.oka hxb2 (mk m2) m1
      refine ⟨_, _, rfl, rfl, w, xb2, _, by simp, ⟨fun d => ?_, fun d => ?_⟩, S.swap⟩
      · rw [ib2.has, hh]
        by_cases e1 : d = d1 <;> by_cases e2 : d = d2 <;> simp [goneI, e1, e2]
      · rw [ib2.live, hdl, hh]
        simp only [seeV, goneI, if_true]
        by_cases e1 : d = d1
        · subst e1; simp [h12, h12.symm]
        · by_cases e2 : d = d2
          · subst e2; simp [h12, h12.symm]
          · simp [e1, e2]
    · rw [ib1.has, hh]; simp
    · rw [ib1.live, hdl, hh]
      simp [seeV]
  rintro s34 ⟨_, w34, xb2, B, hB, ib2, S34⟩
  refine ⟨_, (k4.ext S34.e).rdc (by simp [keyC]), ?_⟩
  refine ACalls.use (S34.swap.rem (by omega) k hk) ?_
  rintro v s37 ⟨v3, l, xb3, hxb3, kd, rfl, S37⟩ w37
  obtain rfl := kd.one dl fun d => by rw [ib2.live]; simp
  have ib3 := ib2.sees1 S34.okb hxb3 mdl
  refine ⟨_, _, rfl, _, (o4.ext S37.e).rdc (by simp [keyC]), _, Br, ?_⟩
  have hb3 : ∀ d, xb3.live d = none := fun d => by
    rw [ib3.live]
    simp only [seeV, goneI, if_true]
    by_cases e : d = dl <;> simp [e]
  have hbr : xb3.has dr = false := by
    rw [ib3.has, hdl]
    cases heard <;> simp [goneI, h1r.symm, h2r.symm]
  refine ACalls.use (S37.add (by omega) o dr ho mr hbr) ?_
  rintro v s43 ⟨v4, l, xb4, hxb4, kd, rfl, S43⟩ w43
  obtain rfl := kd.none fun d h => by rw [hb3] at h; cases h
  have ib4 := ib3.sees1 S37.oka hxb4 mr
  refine ⟨_, _, rfl, bsplit.no rfl (bsplit.no rfl ?_)⟩
  refine ACalls.use (S43.swap.see (a := v3) (l := [goneI dl]) (by simp) (by simp) (by simpa using goneI_may mdl)) ?_
  rintro v s47 ⟨b, xa3, hxa3, rfl, S47⟩ w47
  have ia3 := ia2.sees1 S34.oka hxa3 mdl
  refine ⟨_, _, rfl, ?_⟩
  refine ACalls.use (S47.see (a := v4) (l := [⟨dr, o, false⟩]) (by simp) (by simp) (by simpa using mo mr)) ?_
  rintro v s51 ⟨b, xa4, hxa4, rfl, S51⟩ w51
  have ia4 := ia3.sees1 S47.oka hxa4 mr
  refine ⟨_, _, rfl, ?_⟩
  refine ACalls.use (S51.swap.see (a := v1) (l := [⟨d1, k, false⟩]) (by simp) (by simp; omega) (by simpa using mk m1)) ?_
  rintro v s55 ⟨b, xb5, hxb5, rfl, S55⟩ w55
  have ib5 := ib4.sees1 S51.okb hxb5 m1
  refine ⟨_, _, rfl, ?_⟩
  refine ACalls.use (S55.see (a := v2) (l := [⟨d2, k, false⟩, goneI d1]) (by simp) (by simp; omega) hL2) ?_
  rintro v s59 ⟨b, xb6, hxb6, rfl, S59⟩ w59
  have ib6 := ib5.sees2 S55.oka hxb6 (mk m2) m1
  have fa : ∀ d, xa4.live d = if d = dr then some o else if d = d2 then (if heard then none else some k) else none := fun d => by
    rw [ia4.live, hdl]
    simp only [seeV, goneI]
    by_cases e1 : d = d1
    · subst e1; cases heard <;> simp [h12, h1r, h2r, h12.symm, h1r.symm, h2r.symm, goneI]
    · by_cases e2 : d = d2
      · subst e2; cases heard <;> simp [h12, h1r, h2r, h12.symm, h1r.symm, h2r.symm, goneI]
      · by_cases e3 : d = dr
        · subst e3; cases heard <;> simp [h12, h1r, h2r, h12.symm, h1r.symm, h2r.symm, goneI]
        · cases heard <;> simp [e1, e2, e3, goneI]
  have fb : ∀ d, xb6.live d = if d = dr then some o else if d = d2 then (if heard then none else some k) else none := fun d => by
    rw [ib6.live, hdl]
    simp only [seeV, goneI]
    by_cases e1 : d = d1
    · subst e1; cases heard <;> simp [h12, h1r, h2r, h12.symm, h1r.symm, h2r.symm, goneI]
    · by_cases e2 : d = d2
      · subst e2; cases heard <;> simp [h12, h1r, h2r, h12.symm, h1r.symm, h2r.symm, goneI]
      · by_cases e3 : d = dr
        · subst e3; cases heard <;> simp [h12, h1r, h2r, h12.symm, h1r.symm, h2r.symm, goneI]
        · cases heard <;> simp [e1, e2, e3, goneI]
  have ga : ∀ d, xa4.has d = xb6.has d := fun d => by
    rw [ia4.has, ib6.has, hdl]
    by_cases e1 : d = d1
    · subst e1; cases heard <;> simp [h12, h1r, h2r, h12.symm, h1r.symm, h2r.symm, goneI]
    · by_cases e2 : d = d2
      · subst e2; cases heard <;> simp [h12, h1r, h2r, h12.symm, h1r.symm, h2r.symm, goneI]
      · by_cases e3 : d = dr
        · subst e3; cases heard <;> simp [h12, h1r, h2r, h12.symm, h1r.symm, h2r.symm, goneI]
        · cases heard <;> simp [e1, e2, e3, goneI]
  have hka : ((!heard || decide (o = k)) = true) ↔ ∃ d, xa4.live d = some k := by
    constructor
    · intro h
      by_cases ho : o = k
      · exact ⟨dr, by rw [fa, if_pos rfl, ho]⟩
      · refine ⟨d2, ?_⟩
        rw [fa, if_neg h2r, if_pos rfl]
        simp [ho] at h
        simp [h]
    · rintro ⟨d, hd⟩
      rw [fa] at hd
      split at hd
      · simp at hd; simp [hd]
      · split at hd
        · cases heard <;> simp at hd ⊢
        · cases hd
  have hkb : ((!heard || decide (o = k)) = true) ↔ ∃ d, xb6.live d = some k := by rw [hka]; simp only [fa, fb]
  refine ⟨_, _, rfl, fun vs s' => vs = [.bool (!heard || decide (o = k))] ∧ s' = s59, ?_, bsplit.mk (fun h => ⟨by simp only [Bool.not_eq_true'] at h; rw [h]; rfl, rfl⟩) (fun h => ⟨_, (o4.ext S59.e).rdc (by simp [keyC]), _, (k4.ext S59.e).rdc (by simp [keyC]), _, key_eq _ _, by simp only [Bool.not_eq_false'] at h; rw [h]; rfl, rfl⟩)⟩
  rintro bw s64 ⟨hbw, rfl⟩
  simp only [List.cons.injEq, AV.bool.injEq, and_true] at hbw
  subst hbw
  refine ⟨_, (k4.ext S59.e).rdc (by simp [keyC]), ?_⟩
  refine ACalls.use (S59.swap.has' (by simp) k _ hka) ?_
  rintro v s67 ⟨rfl, e67⟩ w67
  have S67 := S59.ext e67
  refine ⟨_, rfl, bsplit.yes (by simp) ⟨_, (k4.ext S67.e).rdc (by simp [keyC]), ?_⟩⟩
  refine ACalls.use (S67.has' (by simp; omega) k _ hkb) ?_
  rintro v s71 ⟨rfl, e71⟩ w71
  have S71 := S67.ext e71
  refine ⟨_, rfl, bsplit.yes (by simp) ⟨_, (o4.ext S71.e).rdc (by simp [keyC]), ?_⟩⟩
  refine ACalls.use (S71.swap.has' (by simp) o true (by simp only [true_iff]; exact ⟨dr, by rw [fa, if_pos rfl]⟩)) ?_
  rintro v s75 ⟨rfl, e75⟩ w75
  have S75 := S71.ext e75
  refine ⟨_, rfl, bsplit.yes rfl ⟨_, (o4.ext S75.e).rdc (by simp [keyC]), ?_⟩⟩
  refine ACalls.use (S75.has' (by simp; omega) o true (by simp only [true_iff]; exact ⟨dr, by rw [fb, if_pos rfl]⟩)) ?_
  rintro v s79 ⟨rfl, e79⟩ w79
  refine ⟨_, rfl, bsplit.yes rfl ?_⟩
  exact both_end (R := fun v _ => v = .bool true) (S75.ext e79).swap (by simp) (by simp; omega) ga (fun d => by rw [fa, fb]) fun s' _ _ => rfl

set_option maxRecDepth 100000 in
theorem flat_Key : flatT Try.prog 5 Y_Key = some [.str, .str] := by kernel_rfl
/-- a key as an argument -/
theorem key_arg {H : Type} {enc : TypeId × Value → H} {W : World} {v : Value} (h : ∃ (d : DataW H) (p : List MemPlace), DataW.Trod enc Try.prog W 0 (fun _ => true) true Y_Key v d p) :
    ∃ x : Key, absV W.heap.size (MW W) v = .agg (keyC x) := by
  obtain ⟨d, p, fuel, h⟩ := h
  have hc := flat_open 5 Y_Key _ fuel v.cells.toList _ W.heap.size (MW W) flat_Key h
  obtain ⟨a, c1, h1, ⟨r, rfl, _⟩, g1⟩ := cellsOk.cons hc
  obtain ⟨b, c2, h2, ⟨n, rfl, _⟩, g2⟩ := cellsOk.cons g1
  obtain rfl := cellsOk.nil g2
  subst h2
  refine ⟨⟨r, n⟩, ?_⟩
  have hl := congrArg List.length h1
  cases v with
  | agg l =>
    obtain ⟨l⟩ := l
    simp only [absV, absVs_map]
    exact congrArg AV.agg h1
  | _ => simp [Value.cells] at hl
set_option maxRecDepth 100000 in
theorem int_arg {k : IntKind} {t : TypeId} (ht : Try.prog.underlying t = some (.int k)) (hf : flatT Try.prog 5 t = some [.int k]) {H : Type} {enc : TypeId × Value → H} {W : World} {base : Nat} {v : Value} (hv : Value.okWide Try.prog W .any base t v) (h : ∃ (d : DataW H) (p : List MemPlace), DataW.Trod enc Try.prog W 0 (fun _ => true) true t v d p) :
    ∃ n : Int, absV W.heap.size (MW W) v = .int k n ∧ k.min ≤ n ∧ n ≤ k.max := by
  obtain ⟨n, rfl⟩ := okWide_int ht hv
  obtain ⟨d, p, fuel, h⟩ := h
  have hc := flat_open 5 t _ fuel _ _ W.heap.size (MW W) hf h
  obtain ⟨a, c1, h1, ⟨r, rfl, h2, h3⟩, _⟩ := cellsOk.cons hc
  simp only [Value.cells, absV, List.map_cons, List.map_nil, List.cons.injEq, AV.int.injEq, true_and] at h1
  obtain ⟨rfl, _⟩ := h1
  exact ⟨_, rfl, h2, h3⟩
set_option maxRecDepth 100000 in
theorem orsetBoth_lifted (os : Os) (started : os.Started) (H : Type) (enc : TypeId × Value → H) :
    ReturnsInHanded {} Try.checked os F_law07iOrsetBoth .any (Rows.orsetBothSpec.pre6 enc Try.prog Try.f4 Rows.orsetBothRow.domain false) (Rows.orsetBothSpec.post enc Try.prog Try.f4 false true false false) := by
  refine law_open (C := Try.checked) (rt := Y_bool) own started (by kernel_rfl) Try.func4
    (ChangeSpec.witness6 (enc := enc) (C := Try.checked) false ⟨#[], #[.agg #[.string ByteArray.empty, .string ByteArray.empty], .agg #[.string ByteArray.empty, .string ByteArray.empty], .bool false, .int .i64 0], []⟩ 8 (by kernel_rfl) (by kernel_rfl) (by kernel_rfl) (by kernel_rfl)) (by kernel_rfl) rfl (by kernel_rfl) (hT.und _ _ u_bool) laid (by kernel_rfl) ?_ ?_
  · intro ds hds
    rw [Try.params4] at hds
    match ds, hds with
    | [d1, d2, d3, d4], _ => rfl
  · intro W base args hlen hargs
    rw [Try.params4] at hlen hargs
    match args, hlen with
    | [a, b, c, d], _ =>
      obtain ⟨k, hk⟩ := key_arg (hargs 0 _ a rfl rfl).2
      obtain ⟨o, ho⟩ := key_arg (hargs 1 _ b rfl rfl).2
      obtain ⟨t, rfl⟩ := okWide_bool (hT.und _ _ u_bool) (hargs 2 _ c rfl rfl).1
      obtain ⟨n, hn, _⟩ := int_arg (hT.und _ _ u_int) flat_int (hargs 3 _ d rfl rfl).1 (hargs 3 _ d rfl rfl).2
      simp only [List.map_cons, List.map_nil, hk, ho, hn]
      exact orsetBoth_ok k o t n _

theorem orsetBoth_holds : Rows.OrsetBothSaid :=
  OpenClaim.holds_of_wide 4 Try.f4 rfl rfl rfl rfl rfl rfl rfl ⟨rfl, rfl, rfl, rfl, rfl⟩ rfl rfl rfl rfl rfl (by kernel_rfl) Try.func4 (by kernel_rfl)
    (of_decide_eq_true (by kernel_rfl)) (by unfold Func.isWrapper; rw [if_neg (by decide +kernel)]; exact ⟨rfl, rfl⟩)
    (fun os started H enc _ => orsetBoth_lifted os started H enc)
end Go.Proofs.Ytoklmpkpeanloaa
