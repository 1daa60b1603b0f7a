/-
  The abstract machine Am: what a whole code asks, as one plain proposition; and that it suffices.
-/
import Derived.Test.YtbfchlimonimkaaAmQ
set_option linter.unusedSectionVars false
set_option linter.unusedSimpArgs false
set_option linter.unusedVariables false
namespace Go.Am

/-- marks on a code: how a region draws; what is bound anew behind a part, or at a loop's head: names with kinds; and what that part writes -/
inductive QA where
  | leaf
  | draw (m : Nat)
  | drawH (m : Nat) (A : List (List Nat)) (H : List Nat)
  | seq (a b : QA)
  | join (L : List (Nat × TK)) (W : List (Nat × Nat)) (a b : QA)
  | cond (a b : QA)
  | loop (L : List (Nat × TK)) (W : List (Nat × Nat)) (a : QA)
  | wrap (a : QA)

def gdst (l : List Oper) (j : Nat) : Option Nat := (l[j]?).bind (·.dst)

def qguard (l : List Oper) (g : Option (Nat × Bool)) (f : Fr) (A B : Fr → Prop) : Prop := match g with
  | none => A f
  | some (j, want) => match gdst l j with
    | none => B f
    | some d => match f d with
      | .bool b => bsplit b (match want with | true => A (upd f d (.bool true)) | false => B (upd f d (.bool true))) (match want with | true => B (upd f d (.bool false)) | false => A (upd f d (.bool false)))
      | .tup _ => B f
      | _ => False

def qops (P : Program) (T : TT) (l : List Oper) : List Oper → Fr → AS → (Fr → AS → Prop) → Prop
  | [], f, s, K => K f s
  | o :: os, f, s, K => qguard l o.guard f (fun f => qop P T o (aev f) s fun v s => qops P T l os (updO f o.dst v) s K) (fun f => qops P T l os (updO f o.dst .undef) s K)

def FAll : Facts → AS → Prop
  | [], _ => True
  | p :: ps, s => p.2 s ∧ FAll ps s

/-- the first part of a region that draws its order, with calls in it -/
def qdq (P : Program) (T : TT) (l : List Oper) (A : List (List Nat)) (H : List Nat) (V : Nat → List AV → AV → Prop) (S : Nat → List AV → AV → AS → Prop) (s : AS) (K : Fr → AS → Prop) : List Nat → Fr → Facts → Prop
  | [], f, F => ∀ s', Ext s s' → WFs s' → FAll F s' → K f s'
  | i :: is, f, F => match l[i]? with
    | none => False
    | some o => qguard l o.guard f
      (fun f => match H.contains i with
        | true => (∀ s', Ext s s' → WFs s' → FAll (F.filter fun p => (A.getD i []).contains p.1) s' → qop P T o (aev f) s' fun v s'' => Ext s' s'' ∧ S i (keyOf f o) v s'' ∧ V i (keyOf f o) v) ∧
          (∃ v, V i (keyOf f o) v) ∧ ∀ v, V i (keyOf f o) v → qcs (tkOf T o.type) v fun v => qdq P T l A H V S s K is (updO f o.dst v) (F ++ [(i, S i (keyOf f o) v)])
        | false => qop P T o (aev f) s fun v _ => qdq P T l A H V S s K is (updO f o.dst v) F)
      (fun f => qdq P T l A H V S s K is (updO f o.dst .undef) F)

def allK (k : TK) (K : AV → Prop) : Prop := match k with
  | .int k => ∀ n : Int, K (.int k n)
  | .bool => ∀ b : Bool, K (.bool b)
  | .str => ∀ b : List UInt8, K (.str b)
  | .ptr => ∀ a : Option (Nat × Nat), K (.ptr a)
  | .map => ∀ r : Option Nat, K (.map r)
  | .agg => ∀ l : List AV, K (.agg l)
  | _ => ∀ v : AV, K v
def isK (k : TK) (v : AV) (K : AV → Prop) : Prop := match k, v with
  | .int k, .int k' n => bif k' == k then K (.int k n) else False
  | .bool, .bool b => K (.bool b)
  | .str, .str b => K (.str b)
  | .ptr, .ptr a => K (.ptr a)
  | .map, .map r => K (.map r)
  | .agg, .agg l => K (.agg l)
  | .any, v => K v
  | .tup _, v => K v
  | _, _ => False
theorem allK_isK {k : TK} {v : AV} {K K' : AV → Prop} (h : allK k K) (h' : isK k v K') : K v ∧ K' v := by
  unfold isK at h'
  split at h'
  · rename_i k k' n
    cases hk : (k' == k) with
    | false => rw [hk] at h'; exact h'.elim
    | true => rw [hk] at h'; obtain rfl : k' = k := by simpa using hk
              exact ⟨h n, h'⟩
  all_goals first | exact ⟨h _, h'⟩ | exact h'.elim

def qall : List (Nat × TK) → Fr → (List AV → Fr → Prop) → Prop
  | [], f, K => K [] f
  | p :: L, f, K => allK p.2 fun v => qall L (upd f p.1 v) fun vs f => K (v :: vs) f
def qjmp : List (Nat × TK) → Fr → (List AV → Prop) → Prop
  | [], _, K => K []
  | p :: L, f, K => isK p.2 (f p.1) fun v => qjmp L f fun vs => K (v :: vs)

def inW (W : List (Nat × Nat)) (t : Nat) : Bool := W.any fun p => Nat.ble p.1 t && Nat.ble t p.2
def forget (W : List (Nat × Nat)) (f : Fr) : Fr := fun t => bif inW W t then .bad else f t

theorem qall_jmp : ∀ (L : List (Nat × TK)) (f0 f : Fr) {K : List AV → Fr → Prop} {K' : List AV → Prop}, qall L f0 K → qjmp L f K' → ∃ vs f1, K vs f1 ∧ K' vs ∧ ∀ t, f1 t = if t ∈ L.map (·.1) then f t else f0 t
  | [], f0, f, K, K', h, h' => ⟨[], f0, h, h', fun t => by simp⟩
  | p :: L, f0, f, K, K', h, h' => by
    obtain ⟨h1, h2⟩ := allK_isK h h'
    obtain ⟨vs, f1, h3, h4, h5⟩ := qall_jmp L _ f h1 h2
    refine ⟨_, f1, h3, h4, fun t => ?_⟩
    rw [h5 t]
    simp only [List.map_cons, List.mem_cons, upd]
    by_cases ht : t ∈ L.map (·.1)
    · rw [if_pos ht, if_pos (.inr ht)]
    · rw [if_neg ht]
      by_cases hp : t = p.1
      · rw [if_pos hp, if_pos (.inl hp), hp]
      · rw [if_neg hp, if_neg (by simp [hp, ht])]

/-- what a code asks -/
def qcode (P : Program) (T : TT) : QA → Code → Fr → AS → (Exit → Fr → AS → Prop) → Prop
  | .leaf, .skip, f, s, Q => Q .normal f s
  | .leaf, .label _, f, s, Q => Q .normal f s
  | .leaf, .exit id, f, s, Q => Q (.exit id) f s
  | .leaf, .ret, f, s, Q => Q .ret f s
  | .leaf, .region _ ops false, f, s, Q => qops P T ops.toList ops.toList f s fun f s => Q .normal f s
  | .draw _, .region _ ops true, f, s, Q => qops P T ops.toList ops.toList f s fun f s => Q .normal f s
  | .drawH m A H, .region _ ops true, f, s, Q => DrawQ fun S V => qdq P T ops.toList A H V S s (fun f s => qops P T ops.toList (ops.toList.drop m) f s fun f s => Q .normal f s) (List.range m) f []
  | .seq a b, .seq x y, f, s, Q => qcode P T a x f s (XThen (fun f s => qcode P T b y f s Q) Q)
  | .join L W a b, .seq x y, f, s, Q => JoinQ fun J => (qall L (forget W f) fun vs f => ∀ s, J vs s → qcode P T b y f s Q) ∧ qcode P T a x f s (XThen (fun f s => qjmp L f fun vs => J vs s) Q)
  | .cond a b, .cond c x y, f, s, Q => (match aev f c with | .bool t => bsplit t (qcode P T a x f s Q) (qcode P T b y f s Q) | _ => False)
  | .wrap a, .block id x, f, s, Q => qcode P T a x f s (XBlock id Q)
  | .wrap a, .scope x, f, s, Q => qcode P T a x f s (XScope Q)
  | .loop L W a, .loop x, f, s, Q => LoopQ fun I m0 => (qjmp L f fun vs => I m0 vs s) ∧ ∀ m, qall L (forget W f) fun vs f => ∀ s, I m vs s → qcode P T a x f s (XThen (fun f s => qjmp L f fun vs => ∃ m', m' < m ∧ I m' vs s) Q)
  | _, _, _, _, _ => False

/-- what a part writes -/
def dstQ : QA → Code → List (Nat × Nat)
  | .join _ W _ b, .seq _ y => W ++ dstQ b y
  | .loop _ W _, _ => W
  | .seq a b, .seq x y => dstQ a x ++ dstQ b y
  | .cond a b, .cond _ x y => dstQ a x ++ dstQ b y
  | .wrap a, .block _ x => dstQ a x
  | .wrap a, .scope x => dstQ a x
  | _, .region _ ops _ => ops.toList.filterMap fun o => o.dst.map fun d => (d, d)
  | _, _ => []

def quietQ (T : TT) (o : Op) : Bool := quietOp o && (match o with
  | .convert _ d _ => (match T.und d with | some (.slice _) => false | _ => true)
  | _ => true)

def subW (l W : List (Nat × Nat)) : Bool := l.all fun p => W.any fun q => Nat.ble q.1 p.1 && Nat.ble p.2 q.2

/-- the marks fit -/
def codeOk (T : TT) (n : Nat) : QA → Code → Bool
  | .leaf, .region _ ops false => ops.toList.all fun o => dstOk n o.dst
  | .leaf, _ => true
  | .draw m, .region _ ops true => (ops.toList.all fun o => dstOk n o.dst) && drawOk ops m [] (Region.before ops).toList && (ops.toList.take m).all fun o => quietQ T o.op
  | .drawH m A H, .region _ ops true => (ops.toList.all fun o => dstOk n o.dst) && drawOk ops m A (Region.before ops).toList && !H.isEmpty && (List.range m).all fun i => H.contains i || (ops.toList[i]?).any fun o => quietQ T o.op
  | .seq a b, .seq x y => codeOk T n a x && codeOk T n b y
  | .join L W a b, .seq x y => codeOk T n a x && codeOk T n b y && subW (dstQ a x) W && L.all fun p => inW W p.1
  | .cond a b, .cond _ x y => codeOk T n a x && codeOk T n b y
  | .wrap a, .block _ x => codeOk T n a x
  | .wrap a, .scope x => codeOk T n a x
  | .loop L W a, .loop x => codeOk T n a x && subW (dstQ a x) W && L.all fun p => inW W p.1
  | _, _ => false

def Off (W : List (Nat × Nat)) (f f' : Fr) : Prop := ∀ t, inW W t = false → f' t = f t
theorem Off.refl (W : List (Nat × Nat)) (f : Fr) : Off W f f := fun _ _ => rfl
theorem Off.trans {W : List (Nat × Nat)} {f g h : Fr} (a : Off W f g) (b : Off W g h) : Off W f h := fun t ht => (b t ht).trans (a t ht)
theorem inW_append (W W' : List (Nat × Nat)) (t : Nat) : inW (W ++ W') t = (inW W t || inW W' t) := by simp [inW, List.any_append]
theorem Off.left {W W' : List (Nat × Nat)} {f f' : Fr} (h : Off W f f') : Off (W ++ W') f f' := fun t ht => h t (by rw [inW_append] at ht; simp at ht; exact ht.1)
theorem Off.right {W W' : List (Nat × Nat)} {f f' : Fr} (h : Off W' f f') : Off (W ++ W') f f' := fun t ht => h t (by rw [inW_append] at ht; simp at ht; exact ht.2)
theorem Off.sub {W W' : List (Nat × Nat)} {f f' : Fr} (h : Off W f f') (hs : subW W W' = true) : Off W' f f' := by
  intro t ht
  refine h t ?_
  cases hw : inW W t with
  | false => rfl
  | true =>
    exfalso
    simp only [inW, List.any_eq_true, Bool.and_eq_true, Nat.ble_eq] at hw
    obtain ⟨p, hp, h1, h2⟩ := hw
    simp only [subW, List.all_eq_true, List.any_eq_true, Bool.and_eq_true, Nat.ble_eq] at hs
    obtain ⟨q, hq, h3, h4⟩ := hs p hp
    have : inW W' t = true := by
      simp only [inW, List.any_eq_true, Bool.and_eq_true, Nat.ble_eq]
      exact ⟨q, hq, Nat.le_trans h3 h1, Nat.le_trans h2 h4⟩
    rw [this] at ht; cases ht

def opW (os : List Oper) : List (Nat × Nat) := os.filterMap fun o => o.dst.map fun d => (d, d)
theorem Off.upd {os : List Oper} {o : Oper} {f : Fr} {v : AV} : Off (opW (o :: os)) f (updO f o.dst v) := by
  intro t ht
  cases hd : o.dst with
  | none => rfl
  | some d =>
    simp only [updO, Am.upd]
    rw [if_neg]
    intro e
    subst e
    simp only [opW, List.filterMap_cons, hd, Option.map_some, inW, List.any_cons, Bool.or_eq_false_iff, Bool.and_eq_false_iff] at ht
    have e : Nat.ble t t = true := by simp
    rcases ht.1 with h | h <;> (rw [e] at h; cases h)
theorem Off.cons {os : List Oper} {o : Oper} {f f' : Fr} (h : Off (opW os) f f') : Off (opW (o :: os)) f f' := by
  intro t ht
  refine h t ?_
  simp only [opW, List.filterMap_cons] at ht
  cases hd : o.dst with
  | none => rw [hd] at ht; exact ht
  | some d =>
    rw [hd] at ht
    simp only [inW, Option.map_some, List.any_cons, Bool.or_eq_false_iff] at ht
    exact ht.2

section
variable {P : Program} {T : TT} {n : Nat}

theorem AWp.weaken {c : Code} {f f1 : Fr} {s : AS} {Q : Exit → Fr → AS → Prop} (h : ∀ t, f1 t = f t ∨ f1 t = .bad) (hw : AWp P n c f1 s Q) : AWp P n c f s Q := by
  intro B γ a w hf hr
  refine hw B γ a w ⟨hf.size, hf.defers, fun t => ?_⟩ hr
  rcases h t with e | e
  · rw [e]; exact hf.vals t
  · rw [e]; simp [VRel]

theorem upd_self {f : Fr} {d : Nat} {v : AV} (h : f d = v) : upd f d v = f := by
  funext t
  simp only [upd]
  split
  · rename_i e; rw [e, h]
  · rfl

/-- a guard, and which way it goes -/
theorem qguard_get {ops : Array Oper} {o : Oper} {f : Fr} {A B : Fr → Prop} (h : qguard ops.toList o.guard f A B) : (awanted ops f o = some true ∧ A f) ∨ (awanted ops f o = some false ∧ B f) := by
  have hg : ∀ j, (ops[j]?).bind (·.dst) = gdst ops.toList j := by intro j; simp [gdst]
  unfold qguard at h
  unfold awanted
  split at h
  · rename_i e; rw [e]; exact .inl ⟨rfl, h⟩
  · rename_i j want e
    rw [e]
    simp only [hg]
    split at h
    · rename_i e2; rw [e2]; exact .inr ⟨rfl, h⟩
    · rename_i d e2
      rw [e2]
      simp only
      split at h
      · rename_i b e3
        rw [e3]
        have h' := bsplit_if h
        cases b <;> cases want <;> simp only [Bool.false_eq_true, if_false, if_true] at h' <;> rw [upd_self e3] at h'
        · exact .inl ⟨rfl, h'⟩
        · exact .inr ⟨rfl, h'⟩
        · exact .inr ⟨rfl, h'⟩
        · exact .inl ⟨rfl, h'⟩
      · rename_i e3; rw [e3]; exact .inr ⟨rfl, h⟩
      · exact h.elim

theorem vcV_mono {o : Oper} {f : Fr} {s : AS} {R R' : AV → AS → Prop} (h : vcV P T o f s R) (hr : ∀ v s, R v s → R' v s) : vcV P T o f s R' := by
  unfold vcV at h ⊢
  split
  · rename_i hc; rw [hc] at h; exact h.mono hr
  · rename_i hc; rw [hc] at h; obtain ⟨v, s', h1, h2⟩ := h; exact ⟨v, s', h1, hr _ _ h2⟩

theorem qops_sound {ops : Array Oper} {K : Fr → AS → Prop} : ∀ (os : List Oper) (f : Fr) (s : AS), (os.all fun o => dstOk n o.dst) = true → qops P T ops.toList os f s K → vcOps P T n ops os f s fun f' s' => K f' s' ∧ Off (opW os) f f'
  | [], f, s, _, h => ⟨h, Off.refl _ _⟩
  | o :: os, f, s, hd, h => by
    simp only [List.all_cons, Bool.and_eq_true] at hd
    simp only [qops] at h
    simp only [vcOps]
    have mono : ∀ (os : List Oper) (f : Fr) (s : AS) (K K' : Fr → AS → Prop), (∀ f s, K f s → K' f s) → vcOps P T n ops os f s K → vcOps P T n ops os f s K' := by
      intro os
      induction os with
      | nil => intro f s K K' hk h; exact hk _ _ h
      | cons o os ih =>
        intro f s K K' hk h
        simp only [vcOps] at h ⊢
        split at h
        · obtain ⟨h1, h2⟩ := h
          refine ⟨h1, ?_⟩
          split at h2
          · exact h2.mono fun v s' hh => ih _ _ _ _ hk hh
          · obtain ⟨v, s', h3, h4⟩ := h2; exact ⟨v, s', h3, ih _ _ _ _ hk h4⟩
        · exact ⟨h.1, ih _ _ _ _ hk h.2⟩
        · exact h
    rcases qguard_get h with ⟨hw, h⟩ | ⟨hw, h⟩
    · rw [hw]
      refine vcOp_of_vcV hd.1 (qop_sound h) fun v s' hh => ?_
      exact mono _ _ _ _ _ (fun f' s'' ⟨a, b⟩ => ⟨a, Off.upd.trans b.cons⟩) (qops_sound os _ _ hd.2 hh)
    · rw [hw]
      exact ⟨hd.1, mono _ _ _ _ _ (fun f' s'' ⟨a, b⟩ => ⟨a, Off.upd.trans b.cons⟩) (qops_sound os _ _ hd.2 h)⟩

theorem quiet_nofn {o : Op} (h : quietQ T o = true) : quietOp o = true ∧ isFn o = false := by
  simp only [quietQ, Bool.and_eq_true] at h
  refine ⟨h.1, ?_⟩
  unfold isFn
  split
  · rename_i c
    have := h.1
    simp only [quietOp] at this
    split
    · rename_i x hx; rw [hx] at this; cases this
    · rfl
  · rfl

theorem acallee_nofn {f : Fr} {o : Op} (hc : isFn o = false) : acallee f o = none := by
  unfold isFn at hc
  unfold acallee
  split
  · rename_i c
    simp only at hc
    split
    · rename_i x hx; rw [hx] at hc; cases hc
    · rfl
  · rfl

theorem aop_quietQ {o : Op} {ρ : Operand → AV} {s s' : AS} {v : AV} (hq : quietQ T o = true) (h : aop T o ρ s = some (v, s')) : s' = s := by
  have h1 := (quiet_nofn hq).1
  cases o <;> first | (cases h1; done) | skip
  case convert src dst x =>
    simp only [aop] at h
    simp only [quietQ, Bool.and_eq_true] at hq
    have hq2 := hq.2
    unfold aconvert at h
    split at h
    · simp_all
    · simp_all
    · rename_i e1 e2; rw [e1] at hq2; cases hq2
    · split at h
      · split at h <;> simp_all
      · cases h
    · split at h <;> simp_all
    · split at h
      · simp only [Option.bind_eq_some_iff, Option.map_eq_some_iff] at h
        obtain ⟨_, _, _, _, h3⟩ := h
        simp only [Prod.mk.injEq] at h3; exact h3.2.symm
      · cases h
    · cases h
  case call c =>
    simp only [quietOp] at h1
    simp only [aop] at h
    cases hc : c.callee with
    | value x => rw [hc] at h1; cases h1
    | invoke x m => rw [hc] at h; cases h
    | builtin b =>
      rw [hc] at h1 h
      simp only at h
      unfold abuiltin at h
      split at h <;> first
        | (cases h1; done)
        | (cases h; done)
        | (simp only [Option.map_eq_some_iff, Prod.mk.injEq] at h; obtain ⟨_, _, _, h⟩ := h; exact h.symm)
  case makeFunc fn first captured =>
    cases fn with
    | func g => simp only [aop] at h; split at h <;> simp_all
    | _ => simp [aop] at h
  all_goals
    simp only [aop] at h
    first
    | (simp only [Option.some.injEq, Prod.mk.injEq] at h; exact h.2.symm)
    | (simp only [Option.map_eq_some_iff, Prod.mk.injEq] at h; obtain ⟨_, _, _, h⟩ := h; exact h.symm)
    | (split at h <;> first | (cases h; done) | (simp only [Option.some.injEq, Prod.mk.injEq] at h; exact h.2.symm) | (simp only [Option.map_eq_some_iff, Prod.mk.injEq] at h; obtain ⟨_, _, _, h⟩ := h; exact h.symm))

theorem vc_dq {ops : Array Oper} {s : AS} {K : Fr → AS → Prop} {m : Nat} {V : Nat → List AV → AV → Prop} {S : Nat → List AV → AV → AS → Prop} (hm : m ≤ ops.size) (hq : ∀ i o, i < m → ops[i]? = some o → quietQ T o.op = true) : ∀ (k a : Nat) (f : Fr), a + k = m →
    vcOps P T n ops (ops.toList.drop a) f s K → dq P T n ops [] [] V S s (fun f s' => vcOps P T n ops (ops.toList.drop m) f s' K) (List.range' a k) f []
  | 0, a, f, ha, h => by
    simp only [Nat.add_zero] at ha
    subst ha
    simp only [List.range'_zero, dq]
    intro s' _ _ _ hs
    rw [hs (by trivial)]
    exact h
  | k + 1, a, f, ha, h => by
    have hlt : a < ops.size := by omega
    have hdr : ops.toList.drop a = ops[a] :: ops.toList.drop (a + 1) := by
      rw [List.drop_eq_getElem_cons (by simpa using hlt)]; simp
    have hok : ops[a]? = some ops[a] := Array.getElem?_eq_getElem hlt
    rw [hdr] at h
    simp only [vcOps] at h
    rw [List.range'_succ]
    simp only [dq, hok]
    have hqa := hq a _ (by omega) hok
    obtain ⟨q1, q2⟩ := quiet_nofn hqa
    split at h
    · rename_i hw
      obtain ⟨hd, h⟩ := h
      rw [acallee_nofn q2] at h
      obtain ⟨v, s', h1, h2⟩ := h
      obtain rfl := aop_quietQ hqa h1
      refine ⟨hd, ?_⟩
      rw [hw]
      simp only [List.contains_nil, Bool.false_eq_true, if_false]
      exact ⟨q1, v, h1, vc_dq hm hq k (a + 1) _ (by omega) h2⟩
    · rename_i hw
      refine ⟨h.1, ?_⟩
      rw [hw]
      exact vc_dq hm hq k (a + 1) _ (by omega) h.2
    · exact h.elim

theorem FAll_iff {F : Facts} {s : AS} : FAll F s ↔ ∀ p ∈ F, p.2 s := by
  induction F with
  | nil => simp [FAll]
  | cons p ps ih => simp [FAll, ih]

theorem qdq_sound {ops : Array Oper} {A : List (List Nat)} {H : List Nat} {V : Nat → List AV → AV → Prop} {S : Nat → List AV → AV → AS → Prop} {s : AS} {K : Fr → AS → Prop} {W : List (Nat × Nat)} (hH : H ≠ []) (hd : ∀ (i : Nat) (o : Oper), ops[i]? = some o → dstOk n o.dst = true)
    (hW : ∀ (i : Nat) (o : Oper) (d : Nat), ops[i]? = some o → o.dst = some d → inW W d = true) :
    ∀ (is : List Nat) (f : Fr) (F : Facts), (∀ i ∈ is, H.contains i = true ∨ ∃ o, ops[i]? = some o ∧ quietQ T o.op = true) → qdq P T ops.toList A H V S s K is f F → dq P T n ops A H V S s (fun f' s' => K f' s' ∧ Off W f f') is f F := by
  intro is
  have key : ∀ (f0 : Fr) (is : List Nat) (f : Fr) (F : Facts), Off W f0 f → (∀ i ∈ is, H.contains i = true ∨ ∃ o, ops[i]? = some o ∧ quietQ T o.op = true) → qdq P T ops.toList A H V S s K is f F → dq P T n ops A H V S s (fun f' s' => K f' s' ∧ Off W f0 f') is f F := by
    intro f0 is
    induction is with
    | nil =>
      intro f F ho hq h
      simp only [qdq] at h
      simp only [dq]
      intro s' he hwf hF _
      exact ⟨h s' he hwf (FAll_iff.2 hF), ho⟩
    | cons i is ih =>
      intro f F ho hq h
      simp only [qdq] at h
      simp only [dq]
      cases hoi : ops[i]? with
      | none => simp [hoi] at h
      | some o =>
        have hoi' : ops.toList[i]? = some o := by simpa using hoi
        rw [hoi'] at h
        simp only at h ⊢
        refine ⟨hd i o hoi, ?_⟩
        have hup : ∀ v, Off W f0 (updO f o.dst v) := by
          intro v t ht
          cases hdo : o.dst with
          | none => exact ho t ht
          | some d =>
            have := hW i o d hoi hdo
            simp only [updO, upd]
            rw [if_neg (fun e => by rw [e, this] at ht; cases ht)]
            exact ho t ht
        rcases qguard_get h with ⟨hw, h⟩ | ⟨hw, h⟩
        · rw [hw]
          simp only
          cases hc : H.contains i with
          | true =>
            rw [hc] at h
            simp only at h
            rw [if_pos rfl]
            obtain ⟨h1, h2, h3⟩ := h
            refine ⟨fun s' he hwf hp => ?_, h2, fun v hv => ih _ _ (hup v) (fun j hj => hq j (List.mem_cons_of_mem _ hj)) (qcs_get (h3 v hv))⟩
            refine qop_sound (h1 s' he hwf (FAll_iff.2 fun p hp' => ?_))
            simp only [List.mem_filter] at hp'
            exact hp p hp'.1 hp'.2
          | false =>
            rw [hc] at h
            simp only at h
            rw [if_neg (by simp)]
            rcases hq i (by simp) with h' | ⟨o', ho', hqo⟩
            · rw [hc] at h'; cases h'
            · rw [hoi] at ho'; obtain rfl := Option.some.inj ho'
              obtain ⟨q1, q2⟩ := quiet_nofn hqo
              obtain ⟨v, s', h1, h2⟩ := qop_aop q2 h
              obtain rfl := aop_quietQ hqo h1
              exact ⟨q1, v, h1, ih _ _ (hup v) (fun j hj => hq j (List.mem_cons_of_mem _ hj)) h2⟩
        · rw [hw]
          exact ih _ _ (hup _) (fun j hj => hq j (List.mem_cons_of_mem _ hj)) h
  exact fun f F hq h => key f is f F (Off.refl _ _) hq h
end
end Go.Am
