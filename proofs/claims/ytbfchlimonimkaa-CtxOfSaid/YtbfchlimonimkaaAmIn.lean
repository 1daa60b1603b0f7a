/-
  The abstract machine Am: the arguments of a law: what can be read of a world is an abstract heap that may not be written.
-/
import Derived.Test.YtbfchlimonimkaaAmE
import Derived.OpenShut
import Derived.Deep.Slices
set_option linter.unusedSectionVars false
set_option linter.unusedSimpArgs false
set_option linter.unusedVariables false
namespace Go.Am
open Go.ChangeShapes Go.WideShapes Go.Deep

/-! ### a table from a list -/
def Tr.ofL {α : Type} (F : Nat → α) : List Nat → Tr α
  | [] => .E
  | x :: xs => (Tr.ofL F xs).set x (F x)
theorem Tr.get_ofL {α : Type} (F : Nat → α) : ∀ (l : List Nat) (x : Nat), (Tr.ofL F l).get x = if x ∈ l then some (F x) else none
  | [], x => by simp [Tr.ofL, Tr.get]
  | y :: ys, x => by
    simp only [Tr.ofL, Tr.get_set, Tr.get_ofL F ys x, List.mem_cons]
    by_cases h : x = y
    · subst h; simp
    · simp [h]

def blockSize : Obj → Nat
  | .cells c _ _ => c.size
  | _ => 0
def maxL : List Nat → Nat
  | [] => 0
  | x :: xs => max x (maxL xs)
theorem le_maxL {l : List Nat} {x : Nat} (h : x ∈ l) : x ≤ maxL l := by
  induction l with
  | nil => cases h
  | cons y ys ih =>
    simp only [maxL]
    rcases List.mem_cons.1 h with rfl | h
    · omega
    · have := ih h; omega
def MW (w : World) : Nat := maxL (w.heap.toList.map blockSize) + 1
theorem lt_MW {w : World} {b : Nat} {c : Array Value} {e : TypeId} {fz : Nat × Nat} (h : w.heap[b]? = some (.cells c e fz)) : c.size < MW w := by
  have : c.size ∈ w.heap.toList.map blockSize := by
    rw [List.mem_map]
    refine ⟨.cells c e fz, ?_, rfl⟩
    rw [List.mem_iff_getElem?]
    exact ⟨b, by simpa using h⟩
  have := le_maxL this
  unfold MW; omega

mutual
def absV (n M : Nat) : Value → AV
  | .bool b => .bool b
  | .int k x => .int k x
  | .string s => .str s.data.toList
  | .pointer none => .ptr none
  | .pointer (some ⟨b, o, none⟩) => if b < n ∧ o < M then .ptr (some (b * M + o, 0)) else .bad
  | .slice none x y => .slc none x y true
  | .slice (some ⟨b, o, none⟩) x y => if b < n ∧ 0 < M then (if o < M then .slc (some (b * M + o, 0)) x y true else .slc (some (b * M, o)) x y true) else .bad
  | .map none => .map none
  | .agg ⟨l⟩ => .agg (absVs n M l)
  | .nilFunc => .nilFunc
  | .nilIface => .nilIface
  | _ => .bad
def absVs (n M : Nat) : List Value → List AV
  | [] => []
  | v :: vs => absV n M v :: absVs n M vs
end
theorem absVs_map (n M : Nat) : ∀ l, absVs n M l = l.map (absV n M)
  | [] => rfl
  | v :: vs => by simp [absVs, absVs_map n M vs]

def gW (n M : Nat) : Gam := fun x => if x < n * M then some ⟨x / M, x % M, 0⟩ else none
theorem lab_div {b o M : Nat} (h : o < M) : (b * M + o) / M = b ∧ (b * M + o) % M = o := by
  rw [Nat.mul_comm]
  constructor
  · rw [Nat.mul_add_div (by omega), Nat.div_eq_of_lt h, Nat.add_zero]
  · rw [Nat.mul_add_mod, Nat.mod_eq_of_lt h]
theorem lab_lt {b o n M : Nat} (hb : b < n) (h : o < M) : b * M + o < n * M := by
  have : (b + 1) * M ≤ n * M := Nat.mul_le_mul_right _ hb
  rw [Nat.add_mul, Nat.one_mul] at this
  omega
theorem gW_at {b o n M : Nat} (hb : b < n) (h : o < M) : gW n M (b * M + o) = some ⟨b, o, 0⟩ := by
  simp only [gW, if_pos (lab_lt hb h), (lab_div h).1, (lab_div h).2]

mutual
theorem absV_rel (n M : Nat) : ∀ v, VRel (gW n M) (absV n M v) v
  | .bool b => by simp [absV, VRel]
  | .int k x => by simp [absV, VRel]
  | .string s => by simp [absV, VRel]
  | .pointer none => by simp [absV, VRel]
  | .pointer (some ⟨b, o, none⟩) => by
    simp only [absV]
    split
    · rename_i h; simp only [VRel]; exact ⟨_, gW_at h.1 h.2, rfl⟩
    · simp [VRel]
  | .pointer (some ⟨b, o, some _⟩) => by simp [absV, VRel]
  | .slice none x y => by simp [absV, VRel]
  | .slice (some ⟨b, o, none⟩) x y => by
    simp only [absV]
    split
    · rename_i h
      split
      · rename_i h2; simp only [VRel]; exact ⟨_, gW_at h.1 h2, by simp⟩
      · simp only [VRel]; exact ⟨_, gW_at (o := 0) h.1 h.2, by simp⟩
    · simp [VRel]
  | .slice (some ⟨b, o, some _⟩) x y => by simp [absV, VRel]
  | .map none => by simp [absV, VRel]
  | .map (some _) => by simp [absV, VRel]
  | .agg ⟨l⟩ => by simp only [absV, VRel]; exact ⟨⟨l⟩, rfl, absVs_rel n M l⟩
  | .nilFunc => by simp [absV, VRel]
  | .nilIface => by simp [absV, VRel]
  | .func _ _ _ => by simp [absV, VRel]
  | .iface _ _ => by simp [absV, VRel]
  | .tuple _ => by simp [absV, VRel]
  | .float _ _ => by simp [absV, VRel]
  | .complex _ _ _ => by simp [absV, VRel]
  | .chan _ => by simp [absV, VRel]
theorem absVs_rel (n M : Nat) : ∀ l, VRels (gW n M) (absVs n M l) l
  | [] => by simp [absVs, VRels]
  | v :: vs => by simp only [absVs]; exact VRels.cons (absV_rel n M v) (absVs_rel n M vs)
end

/-- what lies from a place on, as far as it can be told -/
def win (w : World) (c : Array Value) (o : Nat) : List AV := ((c.toList.drop o).map (absV w.heap.size (MW w))).takeWhile AV.one
def objW (w : World) (x : Nat) : AO := match w.heap[x / MW w]? with
  | some (.cells c _ _) => .cells (win w c (x % MW w)) 0 true
  | _ => .dead
def sW (w : World) : AS := { lay := [Tr.ofL (objW w) (List.range (w.heap.size * MW w))], cur := .E, nl := w.heap.size * MW w, st := 1 }

theorem sW_h {w : World} {x : Nat} {o : AO} (h : (sW w).h x = some o) : x < w.heap.size * MW w ∧ ∃ c e fz, w.heap[x / MW w]? = some (.cells c e fz) ∧ o = .cells (win w c (x % MW w)) 0 true := by
  simp only [AS.h, sW, Tr.get, layGet, Tr.get_ofL, List.mem_range] at h
  by_cases hx : x < w.heap.size * MW w
  · refine ⟨hx, ?_⟩
    rw [if_pos hx] at h
    simp only [objW] at h
    cases hb : w.heap[x / MW w]? with
    | none => rw [hb] at h; cases h
    | some ob =>
      rw [hb] at h
      cases ob with
      | cells c e fz =>
        simp only [AO.shut, Option.some.injEq] at h
        exact ⟨c, e, fz, rfl, h.symm⟩
      | _ => cases h
  · rw [if_neg hx] at h; cases h
theorem sW_at {w : World} {b o : Nat} {c : Array Value} {e : TypeId} {fz : Nat × Nat} (hb : w.heap[b]? = some (.cells c e fz)) (ho : o ≤ c.size) : At (sW w) (b * MW w + o) (win w c o) := by
  have hM := lt_MW hb
  have hbl : b < w.heap.size := by
    rcases Nat.lt_or_ge b w.heap.size with h | h
    · exact h
    · rw [Array.getElem?_eq_none h] at hb; cases hb
  have hl := lab_lt hbl (show o < MW w by omega)
  refine ⟨0, true, ?_⟩
  simp only [AS.h, sW, Tr.get, layGet, Tr.get_ofL, List.mem_range, if_pos hl, objW, (lab_div (show o < MW w by omega)).1, (lab_div (show o < MW w by omega)).2, hb, AO.shut]

theorem takeWhile_get {p : AV → Bool} : ∀ (l : List AV) (k : Nat) (v : AV), (l.takeWhile p)[k]? = some v → p v = true ∧ l[k]? = some v
  | [], k, v, h => by simp at h
  | a :: l, k, v, h => by
    rw [List.takeWhile_cons] at h
    split at h
    · rename_i ha
      cases k with
      | zero => simp at h; subst h; exact ⟨ha, rfl⟩
      | succ k => simp at h; simpa using takeWhile_get l k v h
    · simp at h

theorem takeWhile_take {p : AV → Bool} : ∀ (l : List AV) (N : Nat), (∀ v ∈ l.take N, p v = true) → (l.takeWhile p).take N = l.take N
  | l, 0, _ => by simp
  | [], N + 1, _ => by simp
  | a :: l, N + 1, h => by
    have ha : p a = true := h a (by simp)
    rw [List.takeWhile_cons, if_pos ha, List.take_succ_cons, List.take_succ_cons, takeWhile_take l N fun v hv => h v (by simp [hv])]
theorem chunks (l : List AV) (sz : Nat) : ∀ n, l.take (n * sz) = ((List.range n).map fun i => (l.drop (i * sz)).take sz).flatten
  | 0 => by simp
  | n + 1 => by
    rw [Nat.add_mul, Nat.one_mul, List.take_add, chunks l sz n, List.range_succ, List.map_append, List.flatten_append]
    simp

theorem rel_sW (w : World) : Rel w.heap.size (gW w.heap.size (MW w)) (sW w) w := by
  refine ⟨fun x o h => ?_, fun x y o o' i i' h h' hro => ?_, fun j => ?_, Nat.le_refl 1, Nat.le_refl _⟩
  · obtain ⟨hx, c, e, fz, hb, rfl⟩ := sW_h h
    refine ⟨⟨x / MW w, x % MW w, 0⟩, by simp only [gW, if_pos hx], ⟨c, e, fz, hb, fun k v hk => ?_, (fun h => by cases h), (fun h => absurd rfl h), (fun h => by cases h)⟩, (fun h => by cases h)⟩
    obtain ⟨h1, h2⟩ := takeWhile_get _ _ _ hk
    refine ⟨h1, ?_⟩
    rw [List.getElem?_map, List.getElem?_drop, Option.map_eq_some_iff] at h2
    obtain ⟨cv, h3, rfl⟩ := h2
    exact ⟨cv, by simpa using h3, absV_rel _ _ _⟩
  · obtain ⟨_, c, e, fz, _, rfl⟩ := sW_h h
    cases hro
  · simp only [gW, sW, Nat.mul_one]
    rw [if_neg (by omega)]

/-! ### data of flat types -/
inductive LK where
  | int (k : IntKind)
  | bool
  | str
def leafOk : LK → AV → Prop
  | .int k, v => ∃ n, v = .int k n ∧ k.min ≤ n ∧ n ≤ k.max
  | .bool, v => ∃ b, v = .bool b
  | .str, v => ∃ b, v = .str b ∧ b.length ≤ maxLen
def cellsOk : List LK → List AV → Prop
  | [], [] => True
  | k :: ks, v :: vs => leafOk k v ∧ cellsOk ks vs
  | _, _ => False
theorem leafOk.one {k : LK} {v : AV} (h : leafOk k v) : v.one = true := by
  cases k
  · obtain ⟨n, rfl, _⟩ := h; rfl
  · obtain ⟨n, rfl⟩ := h; rfl
  · obtain ⟨n, rfl, _⟩ := h; rfl
theorem cellsOk.len : ∀ {ks : List LK} {vs : List AV}, cellsOk ks vs → vs.length = ks.length
  | [], [], _ => rfl
  | [], _ :: _, h => h.elim
  | _ :: _, [], h => h.elim
  | k :: ks, v :: vs, h => by simp [cellsOk.len h.2]
theorem cellsOk.one : ∀ {ks : List LK} {vs : List AV}, cellsOk ks vs → ∀ v ∈ vs, v.one = true
  | [], [], _, v, hv => by cases hv
  | [], _ :: _, h, _, _ => h.elim
  | _ :: _, [], h, _, _ => h.elim
  | k :: ks, u :: vs, h, v, hv => by
    rcases List.mem_cons.1 hv with rfl | hv
    · exact h.1.one
    · exact cellsOk.one h.2 v hv
theorem cellsOk.append : ∀ {ks ks' : List LK} {vs vs' : List AV}, cellsOk ks vs → cellsOk ks' vs' → cellsOk (ks ++ ks') (vs ++ vs')
  | [], _, [], _, _, h' => by simpa using h'
  | [], _, _ :: _, _, h, _ => h.elim
  | _ :: _, _, [], _, h, _ => h.elim
  | k :: ks, _, v :: vs, _, h, h' => ⟨h.1, cellsOk.append h.2 h'⟩

def flatF (P : Program) (rec : TypeId → Option (List LK)) : List Field → Nat → Option (List LK)
  | [], _ => some []
  | f :: fs, o => (rec f.type).bind fun ks => if f.offset = o ∧ P.cellsOf f.type = ks.length then (flatF P rec fs (o + ks.length)).map (ks ++ ·) else none
/-- the kinds of a flat type's cells -/
def flatT (P : Program) : Nat → TypeId → Option (List LK)
  | 0, _ => none
  | d + 1, t => match P.underlying t with
    | some .bool => some [.bool]
    | some (.int k) => some [.int k]
    | some .string => some [.str]
    | some (.struct fs) => (flatF P (flatT P d) fs.toList 0).bind fun ks => if P.cellsOf t = ks.length then some ks else none
    | some (.array n e) => (flatT P d e).bind fun ks => if P.cellsOf e = ks.length ∧ P.cellsOf t = n * ks.length then some (List.replicate n ks).flatten else none
    | _ => none

section
variable {H : Type} {enc : TypeId × Value → H} {P : Program} {w : World} {base : Nat} {spare : Nat → Bool} {held : Bool}

theorem flat_open : ∀ (d : Nat) (t : TypeId) (ks : List LK) (fuel : Nat) (cs : List Value) (x : DataW H × List MemPlace) (n M : Nat), flatT P d t = some ks → DataW.trod enc P w base spare held fuel t cs = some x → cellsOk ks (cs.map (absV n M)) := by
  intro d
  induction d with
  | zero => intro t ks fuel cs x n M h; simp [flatT] at h
  | succ d ih =>
    intro t ks fuel cs x n M h ht
    unfold flatT at h
    split at h
    · rename_i hu
      obtain rfl := Option.some.inj h
      obtain ⟨b, rfl, _⟩ := DataW.trod_bool hu ht
      exact ⟨⟨b, by simp [absV]⟩, trivial⟩
    · rename_i k hu
      obtain rfl := Option.some.inj h
      obtain ⟨b, rfl, _, hwf⟩ := DataW.trod_int hu ht
      simp only [Lit.wf, Bool.and_eq_true, decide_eq_true_eq] at hwf
      exact ⟨⟨b, by simp [absV], hwf⟩, trivial⟩
    · rename_i hu
      obtain rfl := Option.some.inj h
      obtain ⟨b, rfl, _, hl⟩ := DataW.trod_string hu ht
      exact ⟨⟨b.data.toList, by simp [absV], by simpa using hl⟩, trivial⟩
    · rename_i fs hu
      obtain ⟨xs, m, rfl, _, hlen, hxs, hf⟩ := DataW.trod_struct hu ht
      simp only [Option.bind_eq_some_iff] at h
      obtain ⟨ks', hks, h⟩ := h
      split at h
      · rename_i hsz
        obtain rfl := Option.some.inj h
        have key : ∀ (l : List Field) (o : Nat) (ks : List LK), flatF P (flatT P d) l o = some ks → (∀ f ∈ l, ∃ y, DataW.trod enc P w base spare held m f.type ((cs.drop f.offset).take (P.cellsOf f.type)) = some y) → o + ks.length ≤ cs.length → cellsOk ks (((cs.drop o).take ks.length).map (absV n M)) := by
          intro l
          induction l with
          | nil => intro o ks h _ _; simp only [flatF] at h; obtain rfl := Option.some.inj h; simp [cellsOk]
          | cons f l ihl =>
            intro o ks h hall hle
            simp only [flatF, Option.bind_eq_some_iff] at h
            obtain ⟨k1, hk1, h⟩ := h
            split at h
            · rename_i hc
              obtain ⟨hc1, hc2⟩ := hc
              simp only [Option.map_eq_some_iff] at h
              obtain ⟨k2, hk2, rfl⟩ := h
              obtain ⟨y, hy⟩ := hall f (by simp)
              have g1 := ih _ _ _ _ _ n M hk1 hy
              rw [hc1, hc2] at g1
              rw [List.length_append] at hle
              have g2 := ihl (o + k1.length) k2 hk2 (fun f hf => hall f (by simp [hf])) (by omega)
              have := g1.append g2
              rw [List.length_append, List.take_add, List.map_append, List.drop_drop]
              exact this
            · cases h
        have hall : ∀ f ∈ fs.toList, ∃ y, DataW.trod enc P w base spare held m f.type ((cs.drop f.offset).take (P.cellsOf f.type)) = some y := by
          intro f hfm
          obtain ⟨i, hi⟩ := List.mem_iff_getElem?.1 hfm
          have hi' : fs[i]? = some f := by simpa using hi
          have hil : i < xs.length := by
            rw [hxs]
            rcases Nat.lt_or_ge i fs.size with h | h
            · exact h
            · rw [Array.getElem?_eq_none h] at hi'; cases hi'
          exact ⟨_, (hf i f hi').trans (List.getElem?_eq_getElem hil)⟩
        have := key fs.toList 0 ks' hks hall (by rw [hlen, hsz]; omega)
        rw [List.drop_zero, List.take_of_length_le (by rw [hlen, hsz]; exact Nat.le_refl _)] at this
        exact this
      · cases h
    · rename_i len e hu
      obtain ⟨xs, m, rfl, _, hlen, hxs, hf⟩ := DataW.trod_array hu ht
      simp only [Option.bind_eq_some_iff] at h
      obtain ⟨k1, hk1, h⟩ := h
      split at h
      · rename_i hc
        obtain ⟨hc1, hc2⟩ := hc
        obtain rfl := Option.some.inj h
        have key : ∀ (j i : Nat), i + j = len → cellsOk (List.replicate j k1).flatten (((cs.drop (i * k1.length)).take (j * k1.length)).map (absV n M)) := by
          intro j
          induction j with
          | zero => intro i _; simp [cellsOk]
          | succ j ihj =>
            intro i hij
            have hy := hf i (by omega)
            rw [List.getElem?_eq_getElem (by omega)] at hy
            have g1 := ih _ _ _ _ _ n M hk1 hy
            rw [hc1] at g1
            have g2 := ihj (i + 1) (by omega)
            have := g1.append g2
            rw [List.replicate_succ, List.flatten_cons]
            have e1 : (j + 1) * k1.length = k1.length + j * k1.length := by rw [Nat.add_mul, Nat.one_mul, Nat.add_comm]
            rw [e1, List.take_add, List.map_append, List.drop_drop]
            have e2 : i * k1.length + k1.length = (i + 1) * k1.length := by rw [Nat.add_mul, Nat.one_mul]
            rw [e2]
            exact this
        have := key len 0 (by omega)
        rw [Nat.zero_mul, List.drop_zero, List.take_of_length_le (by rw [hlen, hc2]; exact Nat.le_refl _)] at this
        exact this
      · cases h
    · cases h

/-- a slice of a flat type, among the arguments -/
theorem slice_arg {t e : TypeId} {d : Nat} {ks : List LK} (hu : P.underlying t = some (.slice e)) (hk : flatT P d e = some ks) (hsz : P.cellsOf e = ks.length) (hpos : 0 < ks.length) {v : Value} {y : DataW H} {ps : List MemPlace}
    (hv : Value.okWide P w .any base t v) (h : DataW.Trod enc P w 0 (fun _ => true) true t v y ps) :
    ∃ C : List (List AV), SlAt (sW w) (absV w.heap.size (MW w) v) ks.length C.flatten C.length ∧ (∀ c ∈ C, cellsOk ks c) ∧ C.length ≤ maxLen := by
  obtain ⟨fuel, h⟩ := h
  rcases open_slice hu h with ⟨hcs, _⟩ | ⟨a, len, cap, m, n, D, Pl, hcs, hb, hl, hm, hmm, _, hx⟩
  · have hve : v = .slice none 0 0 := by
      cases v with
      | agg l => exfalso; unfold Value.okWide at hv; rw [hu] at hv; simp only [Cell.okWide, hu, Cell.ok] at hv
      | _ => first | (simp [Value.cells] at hcs; done) | simpa [Value.cells] using hcs
    subst hve
    exact ⟨[], by simp only [absV, List.flatten_nil, List.length_nil]; exact SlAt.nil, by simp, by simp⟩
  · have hve : v = .slice (some a) len cap := by
      cases v with
      | agg l => exfalso; unfold Value.okWide at hv; rw [hu] at hv; simp only [Cell.okWide, hu, Cell.ok] at hv
      | _ => first | (simp [Value.cells] at hcs; done) | simpa [Value.cells] using hcs
    subst hve
    simp only [if_true] at hmm
    subst hmm
    have hval : w.has P .any base a e m := by
      unfold Value.okWide at hv; rw [hu] at hv
      simp only [Cell.okWide, hu, Cell.ok] at hv
      exact hv.2.2
    obtain ⟨_, hspot, row, cells, hshape, _⟩ := hval
    obtain ⟨b, o, sp⟩ := a
    simp only at hspot
    subst hspot
    -- its block
    obtain ⟨c, e', fz, hblk⟩ : ∃ c e' fz, w.heap[b]? = some (.cells c e' fz) := by
      unfold World.shape? at hshape
      split at hshape
      · rename_i c e' fz hblk; exact ⟨c, e', fz, hblk⟩
      · cases hshape
    have hbl : b < w.heap.size := by
      rcases Nat.lt_or_ge b w.heap.size with h | h
      · exact h
      · rw [Array.getElem?_eq_none h] at hblk; cases hblk
    have hMW := lt_MW hblk
    have hel : ∀ i, i < m → ∃ ci, ci = ((c.toList.drop (o + i * ks.length)).take ks.length) ∧ ci.length = ks.length ∧ cellsOk ks (ci.map (absV w.heap.size (MW w))) := by
      intro i hi
      obtain ⟨cs', h1, h2⟩ := hx i hi
      rw [hsz] at h1
      obtain ⟨_, hlen, hcell⟩ := World.cells?_some h1
      have hcs' : cs' = (c.toList.drop (o + i * ks.length)).take ks.length := by
        apply List.ext_getElem?
        intro j
        rw [List.getElem?_take, List.getElem?_drop]
        split
        · rename_i hj
          rw [← hcell j hj]
          simp only [World.cell?]
          have hblk2 : (((⟨b, o, none⟩ : Addr).add (i * ks.length)).add j).block = b ∧ (((⟨b, o, none⟩ : Addr).add (i * ks.length)).add j).off = o + i * ks.length + j ∧ (((⟨b, o, none⟩ : Addr).add (i * ks.length)).add j).spot = none := by
            unfold Addr.add
            by_cases h0 : i * ks.length = 0 <;> by_cases h1 : j = 0 <;> simp [h0, h1]
          rw [hblk2.1, hblk2.2.1, hblk2.2.2, hblk]
          simp
        · rw [List.getElem?_eq_none (by omega)]
      exact ⟨cs', hcs', hlen, flat_open d e ks n cs' _ _ _ hk h2⟩
    refine ⟨(List.range len).map fun i => ((c.toList.drop (o + i * ks.length)).take ks.length).map (absV w.heap.size (MW w)), ?_, ?_, ?_⟩
    · rw [List.length_map, List.length_range]
      by_cases h0 : len = 0
      · subst h0
        simp only [List.range_zero, List.map_nil, List.flatten_nil]
        simp only [absV]
        rw [if_pos ⟨hbl, by omega⟩]
        split <;> exact SlAt.nil
      · have ho : o < c.size := by
          obtain ⟨ci, h1, h2, _⟩ := hel 0 (by omega)
          have := congrArg List.length h1
          rw [h2, List.length_take, List.length_drop, Nat.zero_mul, Nat.add_zero, show c.toList.length = c.size from Array.length_toList] at this
          omega
        simp only [absV]
        rw [if_pos ⟨hbl, by omega⟩, if_pos (by omega)]
        have hC : ((List.range len).map fun i => ((c.toList.drop (o + i * ks.length)).take ks.length).map (absV w.heap.size (MW w))).flatten = ((c.toList.drop o).map (absV w.heap.size (MW w))).take (len * ks.length) := by
          rw [chunks]
          congr 1
          apply List.map_congr_left
          intro i _
          rw [List.map_take, ← List.map_drop, List.drop_drop]
        have hone : ∀ v ∈ ((c.toList.drop o).map (absV w.heap.size (MW w))).take (len * ks.length), v.one = true := by
          intro v hv
          rw [← hC] at hv
          obtain ⟨cc, hcc, hvc⟩ := List.mem_flatten.1 hv
          obtain ⟨i, hi, rfl⟩ := List.mem_map.1 hcc
          obtain ⟨ci, h1, _, h3⟩ := hel i (by have := List.mem_range.1 hi; omega)
          rw [h1] at h3
          exact h3.one v hvc
        refine SlAt.mk (sW_at hblk (by omega)) ?_ ?_ hl
        · rw [hC, List.length_take, List.length_map, List.length_drop, show c.toList.length = c.size from Array.length_toList]
          obtain ⟨ci, h1, h2, _⟩ := hel (len - 1) (by omega)
          have := congrArg List.length h1
          rw [h2, List.length_take, List.length_drop, show c.toList.length = c.size from Array.length_toList] at this
          have e : (len - 1) * ks.length + ks.length = len * ks.length := by
            rw [← Nat.succ_mul]; congr 1; omega
          omega
        · rw [List.drop_zero]
          unfold win
          rw [takeWhile_take _ _ hone, hC]
    · intro cc hcc
      obtain ⟨i, hi, rfl⟩ := List.mem_map.1 hcc
      obtain ⟨ci, h1, _, h3⟩ := hel i (by have := List.mem_range.1 hi; omega)
      rw [h1] at h3
      exact h3
    · rw [List.length_map, List.length_range]; omega
end
end Go.Am
