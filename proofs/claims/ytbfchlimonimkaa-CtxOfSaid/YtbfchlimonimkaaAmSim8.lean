/-
  The abstract machine Am: each operation of the model does what the abstract one does (seventh part: maps, conversions, lengths).
-/
import Derived.Test.YtbfchlimonimkaaAmSim7
set_option linter.unusedSectionVars false
set_option linter.unusedSimpArgs false
set_option linter.unusedVariables false
namespace Go.Am

theorem ERels.iff_get {γ : Gam} : ∀ {es : List (AV × AV × Nat)} {cs : List MapEntry}, ERels γ es cs ↔ es.length = cs.length ∧ ∀ (i : Nat) k v n c, es[i]? = some (k, v, n) → cs[i]? = some c → VRel γ k c.key ∧ VRel γ v c.val ∧ c.born = n
  | [], cs => by
    constructor
    · intro h; obtain rfl : cs = [] := h; simp
    · intro ⟨h, _⟩; simp at h; exact List.length_eq_zero_iff.1 h.symm
  | (k, v, n) :: es, cs => by
    constructor
    · intro h
      obtain ⟨d, ds, rfl, h1, h2, h3, hs⟩ := h
      obtain ⟨hl, hg⟩ := ERels.iff_get.1 hs
      refine ⟨by simp [hl], fun i a b m c ha hb => ?_⟩
      cases i with
      | zero => simp at ha hb; obtain ⟨rfl, rfl, rfl⟩ := ha; subst hb; exact ⟨h1, h2, h3⟩
      | succ i => simp at ha hb; exact hg i a b m c ha hb
    · intro ⟨hl, hg⟩
      cases cs with
      | nil => simp at hl
      | cons d ds =>
        obtain ⟨h1, h2, h3⟩ := hg 0 k v n d rfl rfl
        exact ⟨d, ds, rfl, h1, h2, h3, ERels.iff_get.2 ⟨by simpa using hl, fun i a b m c ha hb => hg (i + 1) a b m c (by simpa using ha) (by simpa using hb)⟩⟩

theorem ERels.length {γ : Gam} {es : List (AV × AV × Nat)} {cs : List MapEntry} (h : ERels γ es cs) : es.length = cs.length := (ERels.iff_get.1 h).1
theorem ERels.append {γ : Gam} : ∀ {es fs : List (AV × AV × Nat)} {cs ds : List MapEntry}, ERels γ es cs → ERels γ fs ds → ERels γ (es ++ fs) (cs ++ ds)
  | [], fs, cs, ds, h, h' => by obtain rfl : cs = [] := h; exact h'
  | (k, v, n) :: es, fs, cs, ds, h, h' => by
    obtain ⟨d, es', rfl, h1, h2, h3, hs⟩ := h
    exact ⟨d, es' ++ ds, rfl, h1, h2, h3, ERels.append hs h'⟩
theorem ERels.set {γ : Gam} {es : List (AV × AV × Nat)} {cs : List MapEntry} (h : ERels γ es cs) (i : Nat) {k v : AV} {n : Nat} {e : MapEntry} (hk : VRel γ k e.key) (hv : VRel γ v e.val) (hn : e.born = n) :
    ERels γ (es.set i (k, v, n)) (cs.set i e) := by
  obtain ⟨hl, hg⟩ := ERels.iff_get.1 h
  refine ERels.iff_get.2 ⟨by simp [hl], fun j a b m c ha hb => ?_⟩
  rw [List.getElem?_set] at ha hb
  by_cases hj : i = j
  · subst hj; simp at ha hb; obtain ⟨_, rfl, rfl, rfl⟩ := ha; obtain ⟨_, rfl⟩ := hb; exact ⟨hk, hv, hn⟩
  · simp [hj] at ha hb; exact hg j a b m c ha hb
theorem ERels.erase {γ : Gam} : ∀ {es : List (AV × AV × Nat)} {cs : List MapEntry}, ERels γ es cs → ∀ i, ERels γ (es.eraseIdx i) (cs.eraseIdx i)
  | [], cs, h, i => by obtain rfl : cs = [] := h; simp [ERels]
  | (k, v, n) :: es, cs, h, i => by
    obtain ⟨d, ds, rfl, h1, h2, h3, hs⟩ := h
    cases i with
    | zero => simpa using hs
    | succ i => simp only [List.eraseIdx_cons_succ]; exact ⟨d, _, rfl, h1, h2, h3, ERels.erase hs i⟩
theorem ERels.get {γ : Gam} {es : List (AV × AV × Nat)} {cs : List MapEntry} (h : ERels γ es cs) {i : Nat} {k v : AV} {n : Nat} (he : es[i]? = some (k, v, n)) : ∃ c, cs[i]? = some c ∧ VRel γ k c.key ∧ VRel γ v c.val ∧ c.born = n := by
  obtain ⟨hl, hg⟩ := ERels.iff_get.1 h
  have hi : i < es.length := by
    rcases Nat.lt_or_ge i es.length with h | h
    · exact h
    · simp [List.getElem?_eq_none h] at he
  have hc := List.getElem?_eq_getElem (show i < cs.length by omega)
  exact ⟨_, hc, hg i k v n _ he hc⟩

theorem ba_eq' (a b : List UInt8) : ((⟨a.toArray⟩ : ByteArray) == ⟨b.toArray⟩) = (a == b) := by show (a.toArray == b.toArray) = (a == b); rw [Bool.eq_iff_iff]; simp

/-- what a look for a key finds -/
def FRes (γ : Gam) (r : Option (Nat × AV)) (cr : Option (Nat × Value)) : Prop :=
  match r with
  | none => cr = none
  | some (j, v) => ∃ cv, cr = some (j, cv) ∧ VRel γ v cv

theorem abits_run {γ : Gam} : ∀ (n : Nat) (x y : AV), abits n x y = true → ∀ cx cy, VRel γ x cx → VRel γ y cy → ∀ N, n ≤ N → Instr.sameBits N cx cy = true := by
  intro n
  induction n with
  | zero =>
    intro x y h cx cy hx hy N _
    cases x <;> cases y <;> simp only [abits] at h <;> (first | (cases h; done) | (simp only [VRel] at hx hy; subst hx hy))
    · cases N <;> simpa [Instr.sameBits] using h
    · cases N <;> simpa [Instr.sameBits] using h
    · rename_i a b
      have : ((ByteArray.mk a.toArray) == ⟨b.toArray⟩) = true := by rw [ba_eq']; exact h
      cases N <;> simpa [Instr.sameBits] using this
  | succ n ih =>
    intro x y h cx cy hx hy N hN
    obtain ⟨N, rfl⟩ : ∃ N', N = N' + 1 := ⟨N - 1, by omega⟩
    cases x <;> cases y <;> simp only [abits] at h <;> (first | (cases h; done) | skip)
    · simp only [VRel] at hx hy; subst hx hy; simpa [Instr.sameBits] using h
    · simp only [VRel] at hx hy; subst hx hy; simpa [Instr.sameBits] using h
    · rename_i a b
      simp only [VRel] at hx hy; subst hx hy
      have : ((ByteArray.mk a.toArray) == ⟨b.toArray⟩) = true := by rw [ba_eq']; exact h
      simpa [Instr.sameBits] using this
    · rename_i a b
      simp only [VRel] at hx hy
      obtain ⟨ca, rfl, ha⟩ := hx
      obtain ⟨cb, rfl, hb⟩ := hy
      have key : ∀ (a b : List AV) (ca cb : List Value), bitsL (abits n) a b = true → VRels γ a ca → VRels γ b cb → ca.length = cb.length ∧ ((ca.zip cb).all fun p => Instr.sameBits N p.1 p.2) = true := by
        intro a
        induction a with
        | nil =>
          intro b ca cb h1 h2 h3
          cases b with
          | nil => obtain rfl := VRels.nil_iff.1 h2; obtain rfl := VRels.nil_iff.1 h3; simp
          | cons _ _ => simp [bitsL] at h1
        | cons x xs ihx =>
          intro b ca cb h1 h2 h3
          cases b with
          | nil => simp [bitsL] at h1
          | cons y ys =>
            simp only [bitsL, Bool.and_eq_true] at h1
            obtain ⟨d, ds, rfl, hd, hds⟩ := VRels.cons_iff.1 h2
            obtain ⟨f, fs, rfl, hf, hfs⟩ := VRels.cons_iff.1 h3
            obtain ⟨g1, g2⟩ := ihx ys ds fs h1.2 hds hfs
            have := ih x y h1.1 d f hd hf N (by omega)
            exact ⟨by simp [g1], by simp only [List.zip_cons_cons, List.all_cons, this, g2, Bool.and_self]⟩
      obtain ⟨g1, g2⟩ := key a b _ _ h ha hb
      have g1' : ca.size = cb.size := by simpa using g1
      simp only [Instr.sameBits, Bool.and_eq_true, beq_iff_eq]
      exact ⟨g1', g2⟩

section
variable {P : Program} {T : TT} (hT : TT.Ok P T) {γ : Gam} {w : World}
include hT

theorem akeyOk_run (empty : Bool) : ∀ (d : Nat) (t : TypeId) (v : AV), akeyOk T d t v = true → ∀ cv, VRel γ v cv → ∀ D, d ≤ D → (Instr.checkKey empty D t cv).run P w = .ok () w := by
  intro d
  induction d with
  | zero => intro t v h; simp [akeyOk] at h
  | succ d ih =>
    intro t v h cv hv D hD
    obtain ⟨D, rfl⟩ : ∃ D', D = D' + 1 := ⟨D - 1, by omega⟩
    unfold akeyOk at h
    cases hu : T.und t with
    | none => simp [hu] at h
    | some td =>
      simp only [hu] at h
      simp only [Instr.checkKey, Sem.run_bind, run_underlying hT hu, Result.andThen_ok]
      cases td with
      | interface ms => cases v <;> simp at h
      | array len elem =>
        cases v <;> simp only at h <;> first | (cases h; done) | skip
        rename_i cs
        simp only [VRel] at hv; obtain ⟨ccs, rfl, hcs⟩ := hv
        cases hs : T.siz elem with
        | none => simp [hs] at h
        | some n =>
          simp only [hs] at h
          simp only [Std.Legacy.Range.forIn_eq_forIn_range', Std.Legacy.Range.size, Nat.sub_zero, Nat.add_one_sub_one, Nat.div_one]
          generalize 0 = i0 at h ⊢
          clear hu
          induction len generalizing i0 with
          | zero => simp
          | succ len ihl =>
            simp only [keyElems, Bool.and_eq_true] at h
            obtain ⟨h1, h2⟩ := h
            cases ha : part T elem cs (i0 * n) with
            | none => simp [ha] at h1
            | some a =>
              simp only [ha] at h1
              obtain ⟨ca, hca, hra⟩ := run_part hT hcs ha w
              have hrun := ih _ _ h1 _ hra D (by omega)
              have := ihl _ h2
              simp only [List.range'_succ, List.forIn_cons, Sem.run_bind, run_sizeOf hT hs, hca, hrun, Result.andThen_ok, Sem.run_pure] at this ⊢
              simpa using this
      | struct fields =>
        cases v <;> simp only at h <;> first | (cases h; done) | skip
        rename_i cs
        simp only [VRel] at hv; obtain ⟨ccs, rfl, hcs⟩ := hv
        simp only [← Array.forIn_toList]
        clear hu
        generalize fields.toList = fs at h ⊢
        induction fs with
        | nil => simp
        | cons f fs ihf =>
          simp only [keyFields, Bool.and_eq_true] at h
          obtain ⟨h1, h2⟩ := h
          have := ihf h2
          by_cases hn : f.name ≠ "_"
          · simp only [if_pos hn] at h1
            cases ha : part T f.type cs f.offset with
            | none => simp [ha] at h1
            | some a =>
              simp only [ha] at h1
              obtain ⟨ca, hca, hra⟩ := run_part hT hcs ha w
              have hrun := ih _ _ h1 _ hra D (by omega)
              simp only [List.forIn_cons, Sem.run_bind, if_pos hn, hca, hrun, Result.andThen_ok, Sem.run_pure] at this ⊢
              simpa using this
          · simp only [List.forIn_cons, Sem.run_bind, if_neg hn, Result.andThen_ok, Sem.run_pure] at this ⊢
            simpa using this
      | _ => rfl

theorem afind_run {kt : TypeId} {k : AV} {ck : Value} (hk : VRel γ k ck) : ∀ (es : List (AV × AV × Nat)) (cs : List MapEntry) (i : Nat) (r : Option (Nat × AV)), ERels γ es cs → afind T kt k es i = some r →
    ∃ cr, (Instr.findAsking kt ck cs i).run P w = .ok cr w ∧ FRes γ r cr ∧ (∀ j v, r = some (j, v) → i ≤ j ∧ ∃ k' n, es[j - i]? = some (k', v, n)) := by
  intro es
  induction es with
  | nil =>
    intro cs i r h hf
    obtain rfl : cs = [] := h
    simp only [afind] at hf; obtain rfl := Option.some.inj hf
    exact ⟨none, rfl, rfl, by simp⟩
  | cons e es ih =>
    obtain ⟨k', v, n⟩ := e
    intro cs i r h hf
    obtain ⟨c, cs', rfl, h1, h2, h3, hs⟩ := h
    simp only [afind] at hf
    split at hf
    · rename_i hq
      obtain rfl := Option.some.inj hf
      have := aeq_run hT w _ _ _ _ _ hq _ _ hk h1 Op.maxDepth (by decide)
      refine ⟨some (i, c.val), by simp [Instr.findAsking, Op.equal, this], ⟨_, rfl, h2⟩, ?_⟩
      intro j v' e
      obtain ⟨rfl, rfl⟩ : _ ∧ _ := by simpa using e
      exact ⟨Nat.le_refl _, k', n, by simp⟩
    · rename_i hq
      have hrun := aeq_run hT w _ _ _ _ _ hq _ _ hk h1 Op.maxDepth (by decide)
      obtain ⟨cr, hcr, hrel, hidx⟩ := ih cs' (i + 1) r hs hf
      refine ⟨cr, by simp [Instr.findAsking, Op.equal, hrun, hcr], hrel, ?_⟩
      intro j v' e
      obtain ⟨hle, k2, n2, hg⟩ := hidx j v' e
      refine ⟨by omega, k2, n2, ?_⟩
      rw [show j - i = (j - (i + 1)) + 1 by omega]; simpa using hg
    · cases hf

theorem findNow_run {kt : TypeId} {td : TypeDesc} (hu : T.und kt = some td) (ck : Value) : ∀ (cs : List MapEntry) (i : Nat) (r : Option (Nat × Value)), Instr.findNow td ck cs i = some r → (Instr.findAsking kt ck cs i).run P w = .ok r w
  | [], i, r, h => by simp only [Instr.findNow] at h; obtain rfl := Option.some.inj h; rfl
  | c :: cs, i, r, h => by
    simp only [Instr.findNow] at h
    have hs : ∀ b, Instr.sameNow td ck c.key = some b → (Op.equal kt ck c.key).run P w = .ok b w := by
      intro b hb
      unfold Instr.sameNow at hb
      obtain ⟨D, hD⟩ : ∃ D, Op.maxDepth = D + 1 := ⟨9999, rfl⟩
      rw [Op.equal, hD]
      split at hb
      · split at hb
        · rename_i k a k' b' _ _ hk
          obtain rfl := Option.some.inj hb
          simp only [Op.equalIn, Sem.run_bind, run_underlying hT hu, Result.andThen_ok, *]
          simp
        · cases hb
      · obtain rfl := Option.some.inj hb
        simp only [Op.equalIn, Sem.run_bind, run_underlying hT hu, Result.andThen_ok, *]
        rfl
      · obtain rfl := Option.some.inj hb
        simp only [Op.equalIn, Sem.run_bind, run_underlying hT hu, Result.andThen_ok, *]
        rfl
      · cases hb
    split at h
    · rename_i hq
      obtain rfl := Option.some.inj h
      simp [Instr.findAsking, hs true hq]
    · rename_i hq
      simp [Instr.findAsking, hs false hq, findNow_run hu ck cs (i + 1) r h]
    · cases h

theorem findKey_run {kt : TypeId} {td : TypeDesc} (hu : T.und kt = some td) {k : AV} {ck : Value} (hk : VRel γ k ck) {es : List (AV × AV × Nat)} {cs : List MapEntry} {r : Option (Nat × AV)} (h : ERels γ es cs) (hf : afind T kt k es 0 = some r) :
    ∃ cr, (Instr.findKey kt ck cs).run P w = .ok cr w ∧ FRes γ r cr ∧ (∀ j v, r = some (j, v) → ∃ k' n, es[j]? = some (k', v, n)) := by
  obtain ⟨cr, h1, h2, h3⟩ := afind_run hT (w := w) hk es cs 0 r h hf
  refine ⟨cr, ?_, h2, fun j v e => by obtain ⟨_, k', n, hg⟩ := h3 j v e; exact ⟨k', n, by simpa using hg⟩⟩
  simp only [Instr.findKey, Sem.run_bind, run_underlying hT hu, Result.andThen_ok]
  cases hq : Instr.findNow td ck cs 0 with
  | none => exact h1
  | some r' =>
    have := findNow_run hT (w := w) hu ck cs 0 r' hq
    rw [h1] at this
    cases this
    rfl

theorem alookup_run {B : Nat} {s : AS} (hr : Rel B γ s w) {t : TypeId} {m k v : AV} {cm ck : Value} {ok : Bool} (hm : VRel γ m cm) (hk : VRel γ k ck) (h : alookup T t m k ok s = some v) :
    ∃ c, (Instr.lookup t cm ck ok).run P w = .ok c w ∧ VRel γ v c := by
  unfold alookup at h
  split at h
  · rename_i kt et r hu
    split at h
    · rename_i hok
      simp only [Option.bind_eq_some_iff, Option.map_eq_some_iff] at h
      obtain ⟨es, hes, fr, hfr, ⟨u, b⟩, hub, rfl⟩ := h
      obtain ⟨td, hutd⟩ : ∃ td, T.und kt = some td := by
        unfold akeyOk at hok
        cases hq : T.und kt with
        | none => simp [hq] at hok
        | some td => exact ⟨td, rfl⟩
      have main : ∀ (ces : Array MapEntry), ERels γ es ces.toList → ((cm = .map none ∧ ces = #[]) ∨ ∃ b clk, cm = .map (some b) ∧ w.heap[b]? = some (.map ces clk)) →
          ∃ c, (Instr.lookup t cm ck ok).run P w = .ok c w ∧ VRel γ (if ok then .tup [u, .bool b] else u) c := by
        intro ces hce hform
        obtain ⟨cr, hcr, hrel, _⟩ := findKey_run hT (w := w) hutd hk hce hfr
        have hkey := akeyOk_run hT (w := w) ces.isEmpty 100 kt k hok ck hk 10000 (by decide)
        have hres : (∃ cu, cr = none ∧ b = false ∧ (zeroValue et).run P w = .ok cu w ∧ VRel γ u cu) ∨ (∃ j cu, cr = some (j, cu) ∧ b = true ∧ VRel γ u cu) := by
          cases fr with
          | none =>
            obtain rfl : cr = none := hrel
            simp only [Option.map_eq_some_iff] at hub
            obtain ⟨z, hz, e⟩ := hub
            obtain ⟨rfl, rfl⟩ : _ ∧ _ := by simpa using e
            obtain ⟨cz, hcz, hvz⟩ := run_zeroValue hT hz w
            exact .inl ⟨cz, rfl, rfl, hcz, hvz γ⟩
          | some jv =>
            obtain ⟨j, v'⟩ := jv
            obtain ⟨cv, rfl, hcv⟩ := hrel
            obtain ⟨rfl, rfl⟩ : _ ∧ _ := by simpa using hub
            exact .inr ⟨j, cv, rfl, rfl, hcv⟩
        have fin : ∀ cu, VRel γ u cu → VRel γ (if ok then .tup [u, .bool b] else u) (if ok then .tuple #[cu, .bool b] else cu) := by
          intro cu hru
          cases ok
          · exact hru
          · simp only [if_true, VRel]
            exact ⟨_, rfl, VRels.cons hru (VRels.cons (by simp [VRel]) VRels.nil)⟩
        rcases hform with ⟨rfl, rfl⟩ | ⟨bk, clk, rfl, hb⟩
        · have hkey' : (Instr.checkKey true 10000 kt ck).run P w = .ok () w := hkey
          have hcr' : (Instr.findKey kt ck []).run P w = .ok cr w := hcr
          rcases hres with ⟨cu, rfl, rfl, hz, hru⟩ | ⟨j, cu, rfl, rfl, hru⟩
          · exact ⟨_, by simp [Instr.lookup, run_underlying hT hu, hkey', hcr', hz], fin cu hru⟩
          · exact ⟨_, by simp [Instr.lookup, run_underlying hT hu, hkey', hcr'], fin cu hru⟩
        · have hg : (getObj bk).run P w = .ok (.map ces clk) w := by simp [getObj, Sem.run, hb]
          rcases hres with ⟨cu, rfl, rfl, hz, hru⟩ | ⟨j, cu, rfl, rfl, hru⟩
          · exact ⟨_, by simp [Instr.lookup, run_underlying hT hu, hg, hkey, hcr, hz], fin cu hru⟩
          · exact ⟨_, by simp [Instr.lookup, run_underlying hT hu, hg, hkey, hcr], fin cu hru⟩
      cases r with
      | none =>
        simp only [VRel] at hm; subst hm
        obtain rfl := Option.some.inj hes
        exact main #[] rfl (.inl ⟨rfl, rfl⟩)
      | some l =>
        simp only [VRel] at hm
        obtain ⟨i, hi, rfl⟩ := hm
        simp only at hes
        split at hes
        · rename_i es' clk ro hl
          obtain rfl := Option.some.inj hes
          obtain ⟨j, hj, ⟨ces, hb, hce⟩, _⟩ := hr.obj l _ hl
          rw [hi] at hj; obtain rfl := Option.some.inj hj
          exact main ces hce (.inr ⟨_, _, rfl, hb⟩)
        · cases hes
    · cases h
  · cases h

theorem run_setObj {b : Nat} {ces : Array MapEntry} {clk : Nat} {o : Obj} (hb : w.heap[b]? = some (.map ces clk)) : (setObj b o).run P w = .ok () { w with heap := w.heap.setIfInBounds b o } := by
  simp [setObj, Sem.run, hb]

/-- a map's entries are rewritten -/
theorem map_write {B : Nat} {s : AS} (hr : Rel B γ s w) {l : Nat} {es es' : List (AV × AV × Nat)} {clk clk' : Nat} {i : CI} {ces' : Array MapEntry} (hl : s.h l = some (.map es clk false)) (hi : γ l = some i) (he : ERels γ es' ces'.toList) :
    Did B γ s w γ (s.put l (.map es' clk' false)) { w with heap := w.heap.setIfInBounds i.b (.map ces' clk') } ∧ Rel B γ (s.put l (.map es' clk' false)) { w with heap := w.heap.setIfInBounds i.b (.map ces' clk') } := by
  obtain ⟨j, hj, hO, _⟩ := hr.obj l _ hl
  rw [hi] at hj; obtain rfl := Option.some.inj hj
  have hlt := hO.lt
  obtain ⟨h1, h2⟩ := hr.write (w' := { w with heap := w.heap.setIfInBounds i.b (.map ces' clk') }) hl rfl (o' := .map es' clk' false) rfl hi rfl ⟨ces', by simp [hlt], he⟩
  exact ⟨h2, h1⟩

theorem amapUpdate_run {B : Nat} {s s' : AS} (hr : Rel B γ s w) {t : TypeId} {m k v : AV} {cm ck cv : Value} (hm : VRel γ m cm) (hk : VRel γ k ck) (hv : VRel γ v cv) (h : amapUpdate T t m k v s = some s') :
    SimU P B γ s w (Instr.mapUpdate t cm ck cv) s' := by
  unfold amapUpdate at h
  split at h
  · rename_i kt et l hu
    simp only [VRel] at hm
    obtain ⟨i, hi, rfl⟩ := hm
    split at h
    · rename_i es clk hl
      obtain ⟨j, hj, ⟨ces, hb, hce⟩, _⟩ := hr.obj l _ hl
      rw [hi] at hj; obtain rfl := Option.some.inj hj
      split at h
      · rename_i hok
        simp only [Option.bind_eq_some_iff] at h
        obtain ⟨fr, hfr, h⟩ := h
        obtain ⟨td, hutd⟩ : ∃ td, T.und kt = some td := by
          unfold akeyOk at hok
          cases hq : T.und kt with
          | none => simp [hq] at hok
          | some td => exact ⟨td, rfl⟩
        obtain ⟨cr, hcr, hrel, hidx⟩ := findKey_run hT (w := w) hutd hk hce hfr
        have hkey := akeyOk_run hT (w := w) false 100 kt k hok ck hk 10000 (by decide)
        have hg : (getObj i.b).run P w = .ok (.map ces clk) w := by simp [getObj, Sem.run, hb]
        cases fr with
        | none =>
          obtain rfl : cr = none := hrel
          simp only at h
          obtain rfl := Option.some.inj h
          obtain ⟨g1, g2⟩ := map_write hT hr (clk' := clk + 1) (es' := es ++ [(k, v, clk)]) (ces' := ces.push { key := ck, val := cv, born := clk }) hl hi (by rw [Array.toList_push]; exact hce.append ⟨_, _, rfl, hk, hv, rfl, rfl⟩)
          exact ⟨γ, _, by simp [Instr.mapUpdate, run_underlying hT hu, hg, hkey, hcr, run_setObj hT hb], g1, g2⟩
        | some jv =>
          obtain ⟨j, v'⟩ := jv
          obtain ⟨cv', rfl, hcv'⟩ := hrel
          obtain ⟨k', n, hgj⟩ := hidx j v' rfl
          simp only [hgj] at h
          split at h
          · rename_i hbits
            obtain rfl := Option.some.inj h
            obtain ⟨c, hc, hc1, hc2, hc3⟩ := hce.get hgj
            have hc' : ces[j]? = some c := by simpa using hc
            have hsame := abits_run 100 k' k hbits _ _ hc1 hk 10000 (by decide)
            have hstay : (Instr.keyThatStays (((ces[j]?).map (·.key)).getD ck) ck).run P w = .ok ck w := by
              rw [hc']; simp only [Option.map_some, Option.getD_some, Instr.keyThatStays, hsame, if_true]; rfl
            have hmod : (ces.modify j fun e => { e with key := ck, val := cv }).toList = ces.toList.set j { key := ck, val := cv, born := c.born } := by
              apply List.ext_getElem?
              intro q
              rw [Array.getElem?_toList, Array.getElem?_modify, List.getElem?_set]
              have hjl : j < ces.toList.length := by
                rcases Nat.lt_or_ge j ces.toList.length with h | h
                · exact h
                · simp [List.getElem?_eq_none h] at hc
              by_cases hjq : j = q
              · subst hjq; simp only [if_true, if_pos hjl, hc', Option.map_some]
              · simp only [if_neg hjq]; simp
            obtain ⟨g1, g2⟩ := map_write hT hr (clk' := clk) (es' := es.set j (k, v, n)) (ces' := ces.modify j fun e => { e with key := ck, val := cv }) hl hi (by rw [hmod]; exact hce.set j hk hv hc3)
            exact ⟨γ, _, by simp [Instr.mapUpdate, run_underlying hT hu, hg, hkey, hcr, hstay, run_setObj hT hb], g1, g2⟩
          · cases h
      · cases h
    · cases h
  · cases h

theorem adelete_run {B : Nat} {s s' : AS} (hr : Rel B γ s w) {t xt : TypeId} {m k : AV} {cm ck : Value} (hm : VRel γ m cm) (hk : VRel γ k ck) (h : adelete T t m k s = some s') (ty : TypeId) :
    ∃ γ' w', (Builtin.delete_ #[t, xt] ty #[cm, ck]).run P w = .ok undef w' ∧ Did B γ s w γ' s' w' ∧ Rel B γ' s' w' := by
  unfold adelete at h
  split at h
  · rename_i kt et r hu
    split at h
    · rename_i hok
      obtain ⟨td, hutd⟩ : ∃ td, T.und kt = some td := by
        unfold akeyOk at hok
        cases hq : T.und kt with
        | none => simp [hq] at hok
        | some td => exact ⟨td, rfl⟩
      cases r with
      | none =>
        simp only [VRel] at hm; subst hm
        obtain rfl := Option.some.inj h
        have hkey := akeyOk_run hT (w := w) true 100 kt k hok ck hk 10000 (by decide)
        exact ⟨γ, w, by simp [Builtin.delete_, run_underlying hT hu, hkey]; rfl, Did.refl, hr⟩
      | some l =>
        simp only [VRel] at hm
        obtain ⟨i, hi, rfl⟩ := hm
        simp only at h
        split at h
        · rename_i es clk hl
          obtain ⟨j, hj, ⟨ces, hb, hce⟩, _⟩ := hr.obj l _ hl
          rw [hi] at hj; obtain rfl := Option.some.inj hj
          simp only [Option.map_eq_some_iff] at h
          obtain ⟨fr, hfr, rfl⟩ := h
          obtain ⟨cr, hcr, hrel, hidx⟩ := findKey_run hT (w := w) hutd hk hce hfr
          have hkey := akeyOk_run hT (w := w) ces.isEmpty 100 kt k hok ck hk 10000 (by decide)
          have hg : (getObj i.b).run P w = .ok (.map ces clk) w := by simp [getObj, Sem.run, hb]
          cases fr with
          | none =>
            obtain rfl : cr = none := hrel
            obtain ⟨g1, g2⟩ := map_write hT hr (clk' := clk) (es' := es) (ces' := ces) hl hi hce
            exact ⟨γ, _, by simp [Builtin.delete_, run_underlying hT hu, hg, hkey, hcr, run_setObj hT hb]; rfl, g1, g2⟩
          | some jv =>
            obtain ⟨j, v'⟩ := jv
            obtain ⟨cv', rfl, hcv'⟩ := hrel
            have he : (ces.eraseIdxIfInBounds j).toList = ces.toList.eraseIdx j := by simp
            obtain ⟨g1, g2⟩ := map_write hT hr (clk' := clk) (es' := es.eraseIdx j) (ces' := ces.eraseIdxIfInBounds j) hl hi (by rw [he]; exact hce.erase j)
            exact ⟨γ, _, by simp [Builtin.delete_, run_underlying hT hu, hg, hkey, hcr, run_setObj hT hb]; rfl, g1, g2⟩
        · cases h
    · cases h
  · cases h

end
end Go.Am
