/-
  Plain laws: dots and contexts, with no program in sight.
-/
namespace Go.Minster

structure Dot where
  r : Int
  c : Int
  deriving DecidableEq

def Dot.may (d : Dot) : Bool := decide (1 ≤ d.r) && decide (d.r ≤ 16) && decide (1 ≤ d.c) && decide (d.c ≤ 4611686018427387904)
def Dot.lt (a b : Dot) : Bool := decide (a.r < b.r) || (a.r == b.r && decide (a.c < b.c))
def cmpI (a b : Int) : Int := if a < b then -1 else if a > b then 1 else 0
def Dot.cmp (a b : Dot) : Int := if cmpI a.r b.r ≠ 0 then cmpI a.r b.r else cmpI a.c b.c

theorem Dot.may_iff {d : Dot} : d.may = true ↔ 1 ≤ d.r ∧ d.r ≤ 16 ∧ 1 ≤ d.c ∧ d.c ≤ 4611686018427387904 := by simp [Dot.may, and_assoc]
theorem Dot.lt_iff {a b : Dot} : a.lt b = true ↔ a.r < b.r ∨ a.r = b.r ∧ a.c < b.c := by simp [Dot.lt]
theorem Dot.cmp_lt {a b : Dot} : a.cmp b < 0 ↔ a.lt b = true := by
  rw [Dot.lt_iff]; simp only [Dot.cmp, cmpI]; grind
theorem Dot.cmp_eq {a b : Dot} : a.cmp b = 0 ↔ a = b := by
  cases a; cases b; simp only [Dot.cmp, cmpI, Dot.mk.injEq]; grind
theorem Dot.lt_trans {a b c : Dot} (h : a.lt b = true) (h' : b.lt c = true) : a.lt c = true := by
  rw [Dot.lt_iff] at *; omega
theorem Dot.lt_irrefl (a : Dot) : ¬ a.lt a = true := by rw [Dot.lt_iff]; omega
theorem Dot.lt_tri (a b : Dot) : a.lt b = true ∨ a = b ∨ b.lt a = true := by
  cases a; cases b; simp only [Dot.lt_iff, Dot.mk.injEq]; omega
end Go.Minster
namespace Go.Minster
/-- how many stand ahead -/
def pos (l : List Dot) (d : Dot) : Nat := (l.takeWhile fun x => x.lt d).length
theorem pos_le (l : List Dot) (d : Dot) : pos l d ≤ l.length := (List.takeWhile_sublist _).length_le
theorem pos_eq {l : List Dot} {d : Dot} {p : Nat} (hp : p ≤ l.length) (h1 : ∀ (k : Nat) x, k < p → l[k]? = some x → x.lt d = true) (h2 : ∀ x, l[p]? = some x → x.lt d = false) : pos l d = p := by
  induction l generalizing p with
  | nil => simp at hp; subst hp; rfl
  | cons a l ih =>
    simp only [pos, List.takeWhile_cons]
    cases p with
    | zero => have := h2 a rfl; simp [this]
    | succ p =>
      have := h1 0 a (by omega) rfl
      simp only [this, if_true, List.length_cons]
      have := ih (p := p) (by simpa using hp) (fun k x hk hx => h1 (k + 1) x (by omega) (by simpa using hx)) (fun x hx => h2 x (by simpa using hx))
      simp only [pos] at this
      rw [this]
/-- rising -/
def Rising (l : List Dot) : Prop := l.Pairwise fun a b => a.lt b = true
theorem Rising.lt {l : List Dot} (h : Rising l) {i j : Nat} {a b : Dot} (hij : i < j) (ha : l[i]? = some a) (hb : l[j]? = some b) : a.lt b = true := by
  have hj : j < l.length := by
    rcases Nat.lt_or_ge j l.length with h' | h'
    · exact h'
    · rw [List.getElem?_eq_none h'] at hb; cases hb
  have := List.pairwise_iff_getElem.1 h i j (by omega) hj hij
  rw [List.getElem?_eq_getElem (by omega)] at ha hb
  rw [Option.some.inj ha, Option.some.inj hb] at this
  exact this
/-- in a rising list a dot is where it would stand -/
theorem Rising.mem {l : List Dot} (h : Rising l) (d : Dot) : l[pos l d]? = some d ↔ d ∈ l := by
  constructor
  · intro h; exact List.mem_of_getElem? h
  · intro hm
    obtain ⟨i, hi⟩ := List.mem_iff_getElem?.1 hm
    have hil : i < l.length := by
      rcases Nat.lt_or_ge i l.length with h' | h'
      · exact h'
      · rw [List.getElem?_eq_none h'] at hi; cases hi
    have : pos l d = i := pos_eq (by omega) (fun k x hk hx => h.lt hk hx hi) (fun x hx => by
      rw [hi] at hx; obtain rfl := Option.some.inj hx
      cases hq : d.lt d with
      | false => rfl
      | true => exact absurd hq (Dot.lt_irrefl d))
    rw [this]; exact hi
end Go.Minster
namespace Go.Minster
/-- a vector -/
structure VOk (v : List Int) : Prop where
  len : v.length = 16
  rng : ∀ x ∈ v, 0 ≤ x ∧ x ≤ 4611686018427387904
theorem VOk.get {v : List Int} (h : VOk v) (i : Nat) : 0 ≤ v.getD i 0 ∧ v.getD i 0 ≤ 4611686018427387904 := by
  rw [List.getD_eq_getElem?_getD]
  cases hq : v[i]? with
  | none => simp
  | some x => exact h.rng x (List.mem_of_getElem? hq)
theorem VOk.set {v : List Int} (h : VOk v) (i : Nat) {x : Int} (hx : 0 ≤ x ∧ x ≤ 4611686018427387904) : VOk (v.set i x) := by
  refine ⟨by rw [List.length_set]; exact h.len, fun y hy => ?_⟩
  rcases List.mem_or_eq_of_mem_set hy with h' | rfl
  · exact h.rng y h'
  · exact hx
/-- one exception is taken into the vector, or left -/
def cstep (st : List Int × List Dot) (d : Dot) : List Int × List Dot :=
  if d.c ≤ st.1.getD (d.r - 1).toNat 0 then st else if d.c = st.1.getD (d.r - 1).toNat 0 + 1 then (st.1.set (d.r - 1).toNat d.c, st.2) else (st.1, st.2 ++ [d])
def compact (v : List Int) (l : List Dot) : List Int × List Dot := l.foldl cstep (v, [])
theorem cstep_ok {st : List Int × List Dot} {d : Dot} (h : VOk st.1) (hd : d.may = true) : VOk (cstep st d).1 := by
  have := Dot.may_iff.1 hd
  unfold cstep
  split
  · exact h
  · split
    · exact h.set _ (by omega)
    · exact h
theorem fold_ok : ∀ (l : List Dot) (st : List Int × List Dot), VOk st.1 → (∀ d ∈ l, d.may = true) → VOk (l.foldl cstep st).1
  | [], st, h, _ => h
  | d :: l, st, h, hd => fold_ok l _ (cstep_ok h (hd d (by simp))) (fun x hx => hd x (by simp [hx]))
theorem cstep_len (st : List Int × List Dot) (d : Dot) : (cstep st d).2.length ≤ st.2.length + 1 := by
  unfold cstep; split
  · omega
  · split <;> simp
theorem fold_len : ∀ (l : List Dot) (st : List Int × List Dot), (l.foldl cstep st).2.length ≤ st.2.length + l.length
  | [], st => by simp
  | d :: l, st => by have := fold_len l (cstep st d); have := cstep_len st d; simp only [List.foldl_cons, List.length_cons]; omega
end Go.Minster
namespace Go.Minster
/-- a dot is put in its place -/
def ins (l : List Dot) (d : Dot) : List Dot := l.take (pos l d) ++ d :: l.drop (pos l d)
theorem ins_len (l : List Dot) (d : Dot) : (ins l d).length = l.length + 1 := by
  have := pos_le l d
  simp only [ins, List.length_append, List.length_cons, List.length_take, List.length_drop]; omega
theorem mem_ins {l : List Dot} {d x : Dot} : x ∈ ins l d ↔ x = d ∨ x ∈ l := by
  simp only [ins, List.mem_append, List.mem_cons]
  conv => rhs; rw [← List.take_append_drop (pos l d) l, List.mem_append]
  constructor
  · rintro (h | h | h)
    · exact .inr (.inl h)
    · exact .inl h
    · exact .inr (.inr h)
  · rintro (h | h | h)
    · exact .inr (.inl h)
    · exact .inl h
    · exact .inr (.inr h)
theorem pos_take {l : List Dot} {d x : Dot} (h : x ∈ l.take (pos l d)) : x.lt d = true := by
  have : l.take (pos l d) = l.takeWhile fun x => x.lt d := by
    simp only [pos]
    exact (List.prefix_iff_eq_take.1 (List.takeWhile_prefix _)).symm
  rw [this] at h
  induction l with
  | nil => simp at h
  | cons a l ih =>
    rw [List.takeWhile_cons] at h
    split at h
    · rename_i ha
      rcases List.mem_cons.1 h with rfl | h
      · exact ha
      · refine ih h ?_
        simp only [pos]
        exact (List.prefix_iff_eq_take.1 (List.takeWhile_prefix _)).symm
    · simp at h
theorem pos_at {l : List Dot} {d x : Dot} (h : l[pos l d]? = some x) : x.lt d = false := by
  induction l with
  | nil => simp at h
  | cons a l ih =>
    simp only [pos, List.takeWhile_cons] at h
    cases ha : a.lt d with
    | true => simp only [ha, if_true, List.length_cons, List.getElem?_cons_succ] at h; exact ih h
    | false => simp only [ha, Bool.false_eq_true, if_false, List.length_nil, List.getElem?_cons_zero, Option.some.injEq] at h; subst h; exact ha
theorem Rising.sub {l l' : List Dot} (h : Rising l) (hs : l'.Sublist l) : Rising l' := List.Pairwise.sublist hs h
theorem Rising.ins {l : List Dot} (h : Rising l) {d : Dot} (hd : d ∉ l) : Rising (ins l d) := by
  unfold Rising Minster.ins
  rw [List.pairwise_append]
  refine ⟨h.sub (List.take_sublist _ _), ?_, fun a ha b hb => ?_⟩
  · rw [List.pairwise_cons]
    refine ⟨fun b hb => ?_, h.sub (List.drop_sublist _ _)⟩
    obtain ⟨k, hk⟩ := List.mem_iff_getElem?.1 hb
    rw [List.getElem?_drop] at hk
    have hlt : ∀ x, l[pos l d]? = some x → d.lt x = true := by
      intro x hx
      rcases Dot.lt_tri d x with h1 | h1 | h1
      · exact h1
      · subst h1; exact absurd (List.mem_of_getElem? hx) hd
      · rw [pos_at hx] at h1; cases h1
    cases k with
    | zero => exact hlt b (by simpa using hk)
    | succ k =>
      have hp : pos l d < l.length := by
        rcases Nat.lt_or_ge (pos l d) l.length with h' | h'
        · exact h'
        · rw [List.getElem?_eq_none (by omega)] at hk; cases hk
      have hx := hlt _ (List.getElem?_eq_getElem hp)
      exact Dot.lt_trans hx (h.lt (by omega) (List.getElem?_eq_getElem hp) hk)
  · have h1 := pos_take ha
    rcases List.mem_cons.1 hb with rfl | hb
    · exact h1
    · obtain ⟨i, hi⟩ := List.mem_iff_getElem?.1 ha
      obtain ⟨j, hj⟩ := List.mem_iff_getElem?.1 hb
      rw [List.getElem?_take] at hi
      rw [List.getElem?_drop] at hj
      split at hi
      · exact h.lt (by omega) hi hj
      · cases hi
theorem fold_sub : ∀ (l : List Dot) (st : List Int × List Dot), (l.foldl cstep st).2.Sublist (st.2 ++ l)
  | [], st => by simp
  | d :: l, st => by
    have := fold_sub l (cstep st d)
    simp only [List.foldl_cons]
    refine this.trans ?_
    unfold cstep
    split
    · exact List.Sublist.append_left (List.sublist_cons_self _ _) _
    · split
      · exact List.Sublist.append_left (List.sublist_cons_self _ _) _
      · simp
theorem compact_sub (v : List Int) (l : List Dot) : (compact v l).2.Sublist l := by simpa [compact] using fold_sub l (v, [])
theorem compact_ok {v : List Int} {l : List Dot} (h : VOk v) (hm : ∀ d ∈ l, d.may = true) : VOk (compact v l).1 := fold_ok l _ h hm
end Go.Minster
