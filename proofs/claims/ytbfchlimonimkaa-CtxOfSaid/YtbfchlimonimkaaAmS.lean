/-
  The abstract machine Am: slices of cells that are read, by what they hold.
-/
import Derived.Test.YtbfchlimonimkaaAmL
set_option linter.unusedSectionVars false
set_option linter.unusedSimpArgs false
set_option linter.unusedVariables false
namespace Go.Am

/-- v is a slice of n elements of sz cells each; its cells are cs -/
def SlAt (s : AS) (v : AV) (sz : Nat) (cs : List AV) (n : Nat) : Prop :=
  (v = .emp ∧ n = 0 ∧ cs = []) ∨ ∃ a c e, v = .slc a n c e ∧ (cs.length = n * sz ∧ n ≤ c) ∧ (n = 0 ∨ ∃ la o C, a = some (la, o) ∧ At s la C ∧ (C.drop o).take (n * sz) = cs)

theorem SlAt.len {s : AS} {v : AV} {sz n : Nat} {cs : List AV} (h : SlAt s v sz cs n) : cs.length = n * sz := by
  rcases h with ⟨_, rfl, rfl⟩ | ⟨_, _, _, _, h, _⟩
  · simp
  · exact h.1

theorem SlAt.ext {s s' : AS} {v : AV} {sz n : Nat} {cs : List AV} (h : SlAt s v sz cs n) (e : Ext s s') : SlAt s' v sz cs n := by
  rcases h with h | ⟨a, c, e', h1, h2, h3⟩
  · exact .inl h
  · refine .inr ⟨a, c, e', h1, h2, ?_⟩
    rcases h3 with h3 | ⟨la, o, C, g1, g2, g3⟩
    · exact .inl h3
    · exact .inr ⟨la, o, C, g1, g2.ext e, g3⟩

theorem SlAt.mut {s s' : AS} {v : AV} {sz n : Nat} {cs : List AV} {L : List Nat} (h : SlAt s v sz cs n) (e : Mut L s s')
    (hne : n ≠ 0 → ∀ l ∈ L, ∀ C o, At s l C → (C.drop o).take (n * sz) = cs → False) : SlAt s' v sz cs n := by
  rcases h with h | ⟨a, c, e', h1, h2, h3⟩
  · exact .inl h
  · refine .inr ⟨a, c, e', h1, h2, ?_⟩
    rcases h3 with h3 | ⟨la, o, C, g1, g2, g3⟩
    · exact .inl h3
    · by_cases hn : n = 0
      · exact .inl hn
      · exact .inr ⟨la, o, C, g1, g2.mut e fun hm => hne hn la hm C o g2 g3, g3⟩

section
variable {T : TT} {t el : TypeId} {sz : Nat} (hu : T.und t = some (.slice el)) (hs : T.siz el = some sz)
include hu

theorem SlAt.lenB {s s' : AS} {v : AV} {n sz : Nat} {cs : List AV} (h : SlAt s v sz cs n) : alenB T t v s' = some (.int .i64 (n : Nat)) := by
  rcases h with ⟨rfl, rfl, rfl⟩ | ⟨a, c, e, rfl, _⟩
  · simp [alenB, hu]
  · simp [alenB, hu]

include hs
/-- an element's place, and what is there -/
theorem SlAt.ix (hz : 0 < sz) {s : AS} {v : AV} {n : Nat} {cs : List AV} (h : SlAt s v sz cs n) {i : Nat} (hi : i < n) : ∃ la o, (∀ k, aindexAddr T t v (.int k (i : Nat)) = some (.ptr (some (la, o)))) ∧
    ∀ s', Ext s s' → (∀ j, j < sz → rd1 s' la (o + j) = cs[i * sz + j]?) ∧ rdc s' la o sz = some ((cs.drop (i * sz)).take sz) := by
  rcases h with ⟨_, rfl, _⟩ | ⟨a, c, e, rfl, hl, h3⟩
  · omega
  · obtain ⟨hl, hnc⟩ := hl
    rcases h3 with h3 | ⟨la, o, C, rfl, hC, hcs⟩
    · omega
    · have hlen := congrArg List.length hcs
      rw [List.length_take, List.length_drop, hl] at hlen
      have hmul : i * sz + sz ≤ n * sz := by rw [← Nat.succ_mul]; exact Nat.mul_le_mul_right _ hi
      refine ⟨la, o + i * sz, fun k => ?_, fun s' he => ⟨fun j hj => ?_, ?_⟩⟩
      · have : (0 : Int) ≤ (i : Int) ∧ (i : Int) < (n : Int) := by omega
        simp only [aindexAddr, hu, hs, Option.bind_some]
        rw [if_pos this]
        simp
      · rw [(hC.ext he).rd1, ← hcs, List.getElem?_take, if_pos (by omega), List.getElem?_drop]
        congr 1; omega
      · rw [(hC.ext he).rdc (by omega), ← hcs]
        congr 1
        apply List.ext_getElem?
        intro k
        simp only [List.getElem?_take, List.getElem?_drop]
        split
        · rw [if_pos (by omega)]; congr 1; omega
        · rfl
end

section
variable {T : TT} {t el : TypeId} {sz : Nat} (hu : T.und t = some (.slice el)) (hs : T.siz el = some sz)
include hu hs
/-- what stands behind a place -/
theorem SlAt.from {s : AS} {v : AV} {n : Nat} {cs : List AV} (h : SlAt s v sz cs n) (hv : v ≠ .emp) {i : Nat} (hi : i ≤ n) (k : IntKind) : ∃ v', aslice T t v (some (.int k (i : Nat))) none none = some v' ∧ SlAt s v' sz (cs.drop (i * sz)) (n - i) := by
  rcases h with ⟨rfl, _⟩ | ⟨a, c, e, rfl, ⟨hl, hnc⟩, h3⟩
  · exact absurd rfl hv
  · have hab : abounds n c (some (.int k (i : Nat))) none none = some (i, n, c) := by
      have : (0 : Int) ≤ (i : Int) ∧ (i : Int) ≤ ((n : Nat) : Int) := by omega
      simp only [abounds, aopt, ahigh, abound1, Option.isNone_none, Option.isSome_none, Bool.false_eq_true, and_false, if_false, Option.bind_some, hnc, if_true, this, and_self, Option.map_some, Int.toNat_natCast]
    have hlen : (cs.drop (i * sz)).length = (n - i) * sz := by rw [List.length_drop, hl, Nat.mul_sub_right_distrib]
    have h0 : n - i = 0 → cs.drop (i * sz) = [] := fun h => List.length_eq_zero_iff.1 (by rw [hlen, h, Nat.zero_mul])
    simp only [aslice, hu, hs, Option.bind_some, hab]
    rcases a with _ | ⟨b, o⟩
    · refine ⟨_, rfl, .inr ⟨_, _, _, rfl, ⟨hlen, by omega⟩, .inl ?_⟩⟩
      rcases h3 with h3 | ⟨la, o, C, h, _⟩
      · omega
      · cases h
    · have key : ∀ o' e', (n - i = 0 ∨ o' = o + i * sz) → SlAt s (.slc (some (b, o')) (n - i) (c - i) e') sz (cs.drop (i * sz)) (n - i) := by
        intro o' e' ho
        refine .inr ⟨_, _, _, rfl, ⟨hlen, by omega⟩, ?_⟩
        by_cases hz : n - i = 0
        · exact .inl hz
        · rcases ho with ho | rfl
          · exact absurd ho hz
          · rcases h3 with h3 | ⟨la, o2, C, h, hC, hcs⟩
            · omega
            · simp only [Option.some.injEq, Prod.mk.injEq] at h
              obtain ⟨rfl, rfl⟩ := h
              refine .inr ⟨b, _, C, rfl, hC, ?_⟩
              rw [← hcs, List.drop_take, List.drop_drop, Nat.mul_sub_right_distrib]
      by_cases hm : c = i
      · cases e
        · refine ⟨.emp, by simp [hm], .inl ⟨rfl, by omega, h0 (by omega)⟩⟩
        · refine ⟨.slc (some (b, o)) (n - i) (c - i) true, by simp [hm], key _ _ (.inl (by omega))⟩
      · cases e
        · refine ⟨.slc (some (b, o + i * sz)) (n - i) (c - i) false, by simp [hm], key _ _ (.inr rfl)⟩
        · refine ⟨.slc (some (b, o + i * sz)) (n - i) (c - i) true, by simp [hm], key _ _ (.inr rfl)⟩
end

theorem SlAt.nil {s : AS} {sz c : Nat} {e : Bool} {a : Option (Nat × Nat)} : SlAt s (.slc a 0 c e) sz [] 0 := .inr ⟨a, c, e, rfl, ⟨by simp, Nat.zero_le _⟩, .inl rfl⟩
theorem SlAt.emp {s : AS} {sz : Nat} : SlAt s .emp sz [] 0 := .inl ⟨rfl, rfl, rfl⟩
theorem SlAt.mk {s : AS} {la o n c sz : Nat} {e : Bool} {C cs : List AV} (hC : At s la C) (hl : cs.length = n * sz) (h : (C.drop o).take (n * sz) = cs) (hc : n ≤ c := by first | omega | simp) : SlAt s (.slc (some (la, o)) n c e) sz cs n :=
  .inr ⟨_, c, e, rfl, ⟨hl, hc⟩, .inr ⟨la, o, C, rfl, hC, h⟩⟩

/-- a list of elements of one size -/
theorem flat_len {α : Type} {f : α → List AV} {sz : Nat} (hf : ∀ x, (f x).length = sz) (l : List α) : (l.flatMap f).length = l.length * sz := by
  induction l with
  | nil => simp
  | cons x xs ih => simp [ih, hf, Nat.add_mul]; omega
theorem flat_drop {α : Type} {f : α → List AV} {sz : Nat} (hf : ∀ x, (f x).length = sz) : ∀ (l : List α) (i : Nat), (l.flatMap f).drop (i * sz) = (l.drop i).flatMap f
  | l, 0 => by simp
  | [], i + 1 => by simp
  | x :: xs, i + 1 => by
    rw [List.flatMap_cons, List.drop_succ_cons, ← flat_drop hf xs i, Nat.add_mul, Nat.one_mul, Nat.add_comm, ← List.drop_drop]
    congr 1
    rw [List.drop_append_of_le_length (by rw [hf]; exact Nat.le_refl _), List.drop_eq_nil_of_le (by rw [hf]; exact Nat.le_refl _), List.nil_append]
theorem flat_take {α : Type} {f : α → List AV} {sz : Nat} (hf : ∀ x, (f x).length = sz) : ∀ (l : List α) (i : Nat), (l.flatMap f).take (i * sz) = (l.take i).flatMap f
  | l, 0 => by simp
  | [], i + 1 => by simp
  | x :: xs, i + 1 => by
    rw [List.flatMap_cons, List.take_succ_cons, List.flatMap_cons, ← flat_take hf xs i, Nat.add_mul, Nat.one_mul, Nat.add_comm, List.take_append]
    rw [hf, List.take_of_length_le (by rw [hf]; omega), Nat.add_sub_cancel_left]
theorem flat_elem {α : Type} {f : α → List AV} {sz : Nat} (hf : ∀ x, (f x).length = sz) {l : List α} {i : Nat} {x : α} (h : l[i]? = some x) : ((l.flatMap f).drop (i * sz)).take sz = f x := by
  rw [flat_drop hf]
  have hi : i < l.length := by
    rcases Nat.lt_or_ge i l.length with h' | h'
    · exact h'
    · rw [List.getElem?_eq_none h'] at h; cases h
  rw [List.drop_eq_getElem_cons hi, List.flatMap_cons, List.take_append_of_le_length (by rw [hf]; exact Nat.le_refl _), List.take_of_length_le (by rw [hf]; exact Nat.le_refl _)]
  rw [List.getElem?_eq_getElem hi] at h
  rw [Option.some.inj h]
theorem flat_get {α : Type} {f : α → List AV} {sz : Nat} (hf : ∀ x, (f x).length = sz) {l : List α} {i j : Nat} {x : α} (h : l[i]? = some x) (hj : j < sz) : (l.flatMap f)[i * sz + j]? = (f x)[j]? := by
  have := congrArg (fun c : List AV => c[j]?) (flat_elem hf h)
  simp only [List.getElem?_take, List.getElem?_drop, if_pos hj] at this
  exact this

/-- v is a slice of what xs stand for -/
def Sl {α : Type} (f : α → List AV) (sz : Nat) (s : AS) (v : AV) (l : List α) : Prop := SlAt s v sz (l.flatMap f) l.length
section
variable {α : Type} {f : α → List AV} {sz : Nat} {s s' : AS} {v : AV} {l : List α}
theorem Sl.ext (h : Sl f sz s v l) (e : Ext s s') : Sl f sz s' v l := SlAt.ext h e
theorem Sl.nil {c : Nat} {e : Bool} {a : Option (Nat × Nat)} : Sl f sz s (.slc a 0 c e) [] := SlAt.nil
theorem Sl.emp : Sl f sz s .emp [] := SlAt.emp
theorem Sl.lenB {T : TT} {t el : TypeId} (hu : T.und t = some (.slice el)) (h : Sl f sz s v l) (s' : AS) : alenB T t v s' = some (.int .i64 (l.length : Nat)) := SlAt.lenB hu h
theorem Sl.ix (hz : 0 < sz) {T : TT} {t el : TypeId} (hf : ∀ x, (f x).length = sz) (hu : T.und t = some (.slice el)) (hs : T.siz el = some sz) (h : Sl f sz s v l) {i : Nat} {x : α} (hi : l[i]? = some x) : ∃ la o, (∀ k, aindexAddr T t v (.int k (i : Nat)) = some (.ptr (some (la, o)))) ∧
    ∀ s', Ext s s' → (∀ j, j < sz → rd1 s' la (o + j) = (f x)[j]?) ∧ rdc s' la o sz = some (f x) := by
  have hi' : i < l.length := by
    rcases Nat.lt_or_ge i l.length with h' | h'
    · exact h'
    · rw [List.getElem?_eq_none h'] at hi; cases hi
  obtain ⟨la, o, h1, h2⟩ := SlAt.ix hu hs hz h hi'
  refine ⟨la, o, h1, fun s' he => ⟨fun j hj => ?_, ?_⟩⟩
  · rw [(h2 s' he).1 j hj, flat_get hf hi hj]
  · rw [(h2 s' he).2, flat_elem hf hi]
theorem Sl.from {T : TT} {t el : TypeId} (hf : ∀ x, (f x).length = sz) (hu : T.und t = some (.slice el)) (hs : T.siz el = some sz) (h : Sl f sz s v l) (hv : v ≠ .emp) {i : Nat} (hi : i ≤ l.length) (k : IntKind) : ∃ v', aslice T t v (some (.int k (i : Nat))) none none = some v' ∧ Sl f sz s v' (l.drop i) := by
  obtain ⟨v', h1, h2⟩ := SlAt.from hu hs h hv hi k
  exact ⟨v', h1, by rw [flat_drop hf] at h2; simpa [Sl] using h2⟩
theorem Sl.mut {L : List Nat} (h : Sl f sz s v l) (e : Mut L s s') (hf : ∀ x, (f x).length = sz) (hz : 0 < sz) (hne : ∀ p ∈ L, ∀ C, At s p C → ∀ x ∈ l, ∀ (i : Nat) c, (f x)[0]? = some c → C[i]? ≠ some c) : Sl f sz s' v l := by
  refine SlAt.mut h e fun hn p hp C o hC hcs => ?_
  cases l with
  | nil => simp at hn
  | cons x xs =>
    have h0 : (f x)[0]? = some ((f x)[0]'(by rw [hf]; exact hz)) := List.getElem?_eq_getElem _
    refine hne p hp C hC x (by simp) o _ h0 ?_
    have := congrArg (fun c : List AV => c[0]?) hcs
    simp only [List.getElem?_take, List.getElem?_drop, List.flatMap_cons, Nat.add_zero] at this
    rw [if_pos (by simp; omega), List.getElem?_append_left (by rw [hf]; exact hz)] at this
    rw [this, h0]
end

end Go.Am
