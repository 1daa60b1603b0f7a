/-
  The abstract machine Am: equations for walks.
-/
import Derived.Test.YtbfchlimonimkaaAmDraw
set_option linter.unusedSectionVars false
set_option linter.unusedSimpArgs false
set_option linter.unusedVariables false
namespace Go.Am

/-- The types of a program. -/
def TT.of (P : Program) : TT where
  und t := P.underlying t
  siz t := (P.info? t).map (·.size)
  byt t := (P.info? t).map (·.bytes)
  zer t := (P.info? t).bind fun i => i.zero.map ofV
  eqg t := !P.eqGuardType P.depth t
  eqt t := !P.stoodInHeld t

theorem TT.of_ok (P : Program) : TT.Ok P (TT.of P) where
  und _ _ h := h
  siz _ _ h := h
  byt _ _ h := h
  zer t v h := by
    simp only [TT.of, Option.bind_eq_some_iff, Option.map_eq_some_iff] at h
    obtain ⟨i, hi, c, hc, rfl⟩ := h
    exact ⟨i, c, hi, hc, fun γ => ofV_rel γ c⟩
  eqg t h := by simpa [TT.of] using h
  eqt t h := by simpa [TT.of] using h

section
variable (T : TT) (ρ : Operand → AV) (s : AS)
theorem aop_move (x : Operand) : aop T (.move x) ρ s = some (ρ x, s) := rfl
theorem aop_assign (x : Operand) : aop T (.assign x) ρ s = some (ρ x, s) := rfl
theorem aop_box (e : TypeId) (x : Operand) : aop T (.box e x) ρ s = (acells (ρ x)).map fun cs => (.ptr (some (s.nl, 0)), s.new (.cells cs 0 false)) := rfl
theorem aop_alloc (e : TypeId) : aop T (.alloc e) ρ s = (T.zer e).bind fun z => (acells z).map fun cs => (.ptr (some (s.nl, 0)), s.new (.cells cs 0 false)) := rfl
theorem aop_build (t : TypeId) (ps : Array (Nat × Operand)) : aop T (.build t ps) ρ s = (abuild T t (ps.toList.map fun p => (p.1, ρ p.2))).map (·, s) := rfl
theorem aop_buildSlice (t : TypeId) (n : Nat) (ps : Array (Nat × Operand)) : aop T (.buildSlice t n ps) ρ s = abuildSlice T t n (ps.toList.map fun p => (p.1, ρ p.2)) s := rfl
theorem aop_load (t : TypeId) (a : Operand) : aop T (.load t a) ρ s = (ald T t s (ρ a)).map (·, s) := rfl
theorem aop_store (t : TypeId) (a x : Operand) : aop T (.store t a x) ρ s = (ast T t s (ρ a) (ρ x)).map (.undef, ·) := rfl
theorem aop_binOp (op : BinOp) (t u : TypeId) (x y : Operand) : aop T (.binOp op t x y u) ρ s = if agd T t x y (ρ x) (ρ y) then (abin T op t (ρ x) (ρ y)).map (·, s) else none := rfl
theorem aop_unOp (op : UnOp) (t : TypeId) (x : Operand) : aop T (.unOp op t x) ρ s = (aun op (ρ x)).map (·, s) := rfl
theorem aop_convert (t u : TypeId) (x : Operand) : aop T (.convert t u x) ρ s = aconvert T t u (ρ x) s := rfl
theorem aop_makeFunc (f : FuncId) (c : Array Operand) : aop T (.makeFunc (.func f) #[] c) ρ s = some (.func f (c.toList.map ρ), s) := rfl
theorem aop_makeSlice (t : TypeId) (l c : Operand) : aop T (.makeSlice t l c) ρ s = amakeSlice T t (ρ l) (ρ c) s := rfl
theorem aop_slice (t : TypeId) (x : Operand) (lo hi mx : Option Operand) : aop T (.slice t x lo hi mx) ρ s = (aslice T t (ρ x) (lo.map ρ) (hi.map ρ) (mx.map ρ)).map (·, s) := rfl
theorem aop_fieldAddr (t : TypeId) (x : Operand) (f : Nat) : aop T (.fieldAddr t x f) ρ s = (afieldAddr T t (ρ x) f).map (·, s) := rfl
theorem aop_field (t : TypeId) (x : Operand) (f : Nat) : aop T (.field t x f) ρ s = (afield T t (ρ x) f).map (·, s) := rfl
theorem aop_indexAddr (t : TypeId) (x i : Operand) : aop T (.indexAddr t x i) ρ s = (aindexAddr T t (ρ x) (ρ i)).map (·, s) := rfl
theorem aop_index (t : TypeId) (x i : Operand) : aop T (.index t x i) ρ s = (aindex T t (ρ x) (ρ i)).map (·, s) := rfl
theorem aop_lookup (t : TypeId) (x i : Operand) (ok : Bool) : aop T (.lookup t x i ok) ρ s = (alookup T t (ρ x) (ρ i) ok s).map (·, s) := rfl
theorem aop_mapUpdate (t : TypeId) (m k v : Operand) : aop T (.mapUpdate t m k v) ρ s = (amapUpdate T t (ρ m) (ρ k) (ρ v) s).map (.undef, ·) := rfl
theorem aop_insert (t : TypeId) (m k v : Operand) : aop T (.insert t m k v) ρ s = (amapUpdate T t (ρ m) (ρ k) (ρ v) s).map (.undef, ·) := rfl
theorem aop_builtin (b : Builtin) (as : Array Operand) (ts : Array TypeId) : aop T (.call { callee := .builtin b, args := as, argTypes := ts }) ρ s = abuiltin T b ts.toList (as.toList.map ρ) s := rfl
end

def nilChk : AV → Option AV
  | .ptr (some p) => some (.ptr (some p))
  | .func f c => some (.func f c)
  | .meth f ft c => some (.meth f ft c)
  | .iface t v => some (.iface t v)
  | _ => none
theorem aop_nilCheck (T : TT) (ρ : Operand → AV) (s : AS) (x : Operand) : aop T (.nilCheck x) ρ s = (nilChk (ρ x)).map (·, s) := by
  simp only [aop]; cases ρ x with
  | ptr a => cases a <;> rfl
  | _ => rfl
def pickV : AV → AV → AV → Option AV
  | .bool t, a, b => some (if t then a else b)
  | _, _, _ => none
theorem aop_pick (T : TT) (ρ : Operand → AV) (s : AS) (c a b : Operand) : aop T (.pick c a b) ρ s = (pickV (ρ c) (ρ a) (ρ b)).map (·, s) := by
  simp only [aop]; cases ρ c <;> rfl
def extV : AV → Nat → Option AV
  | .tup vs, i => vs[i]?
  | _, _ => none
theorem aop_extract (T : TT) (ρ : Operand → AV) (s : AS) (t : Operand) (i : Nat) : aop T (.extract t i) ρ s = (extV (ρ t) i).map (·, s) := by
  simp only [aop]; cases ρ t <;> rfl

@[simp] theorem acells_int (k : IntKind) (n : Int) : acells (.int k n) = some [.int k n] := rfl
@[simp] theorem acells_bool (b : Bool) : acells (.bool b) = some [.bool b] := rfl
@[simp] theorem acells_str (b : List UInt8) : acells (.str b) = some [.str b] := rfl
@[simp] theorem acells_ptr (a : Option (Nat × Nat)) : acells (.ptr a) = some [.ptr a] := rfl
@[simp] theorem acells_slc (a : Option (Nat × Nat)) (n m : Nat) (e : Bool) : acells (.slc a n m e) = some [.slc a n m e] := rfl
@[simp] theorem acells_emp : acells .emp = some [.emp] := rfl
@[simp] theorem acells_map (a : Option Nat) : acells (.map a) = some [.map a] := rfl
theorem acells_agg (l : List AV) : acells (.agg l) = if l.all AV.one then some l else none := rfl
@[simp] theorem one_int (k : IntKind) (n : Int) : (AV.int k n).one = true := rfl
@[simp] theorem one_bool (b : Bool) : (AV.bool b).one = true := rfl
@[simp] theorem one_str (b : List UInt8) : (AV.str b).one = true := rfl
@[simp] theorem one_ptr (a : Option (Nat × Nat)) : (AV.ptr a).one = true := rfl
@[simp] theorem one_slc (a : Option (Nat × Nat)) (n m : Nat) (e : Bool) : (AV.slc a n m e).one = true := rfl
@[simp] theorem one_map (a : Option Nat) : (AV.map a).one = true := rfl

theorem agd_int (T : TT) (t : TypeId) (x y : Operand) (k k' : IntKind) (a b : Int) : agd T t x y (.int k a) (.int k' b) = true := rfl
theorem agd_bool (T : TT) (t : TypeId) (x y : Operand) (a b : Bool) : agd T t x y (.bool a) (.bool b) = true := rfl
theorem agd_str (T : TT) (t : TypeId) (x y : Operand) (a b : List UInt8) : agd T t x y (.str a) (.str b) = true := rfl
theorem agd_ptr (T : TT) (t : TypeId) (x y : Operand) (a b : Option (Nat × Nat)) : agd T t x y (.ptr a) (.ptr b) = true := rfl
theorem agd_slc (T : TT) (t : TypeId) (x y : Operand) (a b : Option (Nat × Nat)) (n m n' m' : Nat) (e e' : Bool) : agd T t x y (.slc a n m e) (.slc b n' m' e') = true := rfl
theorem agd_agg (T : TT) (t : TypeId) (x y : Operand) (a b : List AV) : agd T t x y (.agg a) (.agg b) = T.eqg t := rfl

section
variable (T : TT) (t : TypeId) (k : IntKind) (a b : Int)
theorem abin_lss : abin T .lss t (.int k a) (.int k b) = some (.bool (decide (a < b))) := by simp [abin, abinInt]
theorem abin_leq : abin T .leq t (.int k a) (.int k b) = some (.bool (decide (a ≤ b))) := by simp [abin, abinInt]
theorem abin_gtr : abin T .gtr t (.int k a) (.int k b) = some (.bool (decide (a > b))) := by simp [abin, abinInt]
theorem abin_geq : abin T .geq t (.int k a) (.int k b) = some (.bool (decide (a ≥ b))) := by simp [abin, abinInt]
theorem abin_eql : abin T .eql t (.int k a) (.int k b) = some (.bool (a == b)) := by simp [abin, abinInt]
theorem abin_neq : abin T .neq t (.int k a) (.int k b) = some (.bool (a != b)) := by simp [abin, abinInt]
theorem abin_add : abin T .add t (.int k a) (.int k b) = some (.int k (k.wrap (a + b))) := by simp [abin, abinInt]
theorem abin_sub : abin T .sub t (.int k a) (.int k b) = some (.int k (k.wrap (a - b))) := by simp [abin, abinInt]
theorem abin_mul : abin T .mul t (.int k a) (.int k b) = some (.int k (k.wrap (a * b))) := by simp [abin, abinInt]
theorem aun_not (x : Bool) : aun .not (.bool x) = some (.bool !x) := rfl
end

theorem awanted_none {ops : Array Oper} {f : Fr} {o : Oper} (h : o.guard = none) : awanted ops f o = some true := by simp [awanted, h]
theorem awanted_bool {ops : Array Oper} {f : Fr} {o : Oper} {j d : Nat} {want b : Bool} (h : o.guard = some (j, want)) (hd : (ops[j]?).bind (·.dst) = some d) (hf : f d = .bool b) : awanted ops f o = some (b == want) := by simp [awanted, h, hd, hf]

/-- a region in the order of the text, then the rest -/
theorem AWp.seq_region {P : Program} {T : TT} (hT : TT.Ok P T) {n id : Nat} {ops : Array Oper} {y : Code} {f : Fr} {s : AS} {Q : Exit → Fr → AS → Prop}
    (h : ∀ K : Fr → AS → Prop, (∀ f s, AWp P n y f s Q → K f s) → vcOps P T n ops ops.toList f s K) : AWp P n (.seq (.region id ops false) y) f s Q :=
  AWp.seq (AWp.region hT (h _ fun _ _ h => h))

theorem AWp.seq_draw {P : Program} {T : TT} (hT : TT.Ok P T) (hmx : P.follows .mixedOrders = true) {n id : Nat} {ops : Array Oper} {y : Code} {f : Fr} {s : AS} {Q : Exit → Fr → AS → Prop} (m : Nat) (A : List (List Nat)) (bs : List Nat) (H : List Nat)
    (V : Nat → List AV → AV → Prop) (S : Nat → List AV → AV → AS → Prop) (hok : drawOk ops m A bs = true) (hS : ∀ i k v s s', Ext s s' → S i k v s → S i k v s')
    (h : ∀ K : Fr → AS → Prop, (∀ f s, AWp P n y f s Q → K f s) → dq P T n ops A H V S s (fun f s' => vcOps P T n ops (ops.toList.drop m) f s' K) (List.range m) f []) : AWp P n (.seq (.region id ops true) y) f s Q :=
  AWp.seq (AWp.draw hT hmx m A bs H V S hok hS (h _ fun _ _ h => h))

theorem AWp.seq_skip {P : Program} {n : Nat} {y : Code} {f : Fr} {s : AS} {Q : Exit → Fr → AS → Prop} (h : AWp P n y f s Q) : AWp P n (.seq .skip y) f s Q := AWp.seq (AWp.skip h)

theorem updO_some (f : Fr) (d : Nat) (v : AV) : updO f (some d) v = upd f d v := rfl
theorem updO_none (f : Fr) (v : AV) : updO f none v = f := rfl
theorem upd_at (f : Fr) (d t : Nat) (v : AV) : upd f d v t = if t = d then v else f t := rfl
theorem aev_tmp (f : Fr) (t : Nat) : aev f (.tmp t) = f t := rfl
theorem aev_const (f : Fr) (v : Value) : aev f (.const v) = ofV v := rfl
theorem aev_func (f : Fr) (g : FuncId) : aev f (.func g) = .func g [] := rfl
theorem ofV_int (k : IntKind) (n : Int) : ofV (.int k n) = .int k n := by simp [ofV]
theorem ofV_bool (b : Bool) : ofV (.bool b) = .bool b := by simp [ofV]
theorem ofV_ptr : ofV (.pointer none) = .ptr none := by simp [ofV]
theorem ofV_slc (n m : Nat) : ofV (.slice none n m) = .slc none n m true := by simp [ofV]
theorem ofV_map : ofV (.map none) = .map none := by simp [ofV]
theorem ofV_str (b : ByteArray) : ofV (.string b) = .str b.data.toList := by simp [ofV]
theorem ainit_at (l : List AV) (t : Nat) : ainit l t = l.getD t .undef := rfl

/-- which way an operation goes, seen by its guard -/
def gd (ops : Array Oper) (f : Fr) : Option (Nat × Bool) → Option Bool
  | none => some true
  | some (j, want) => gv want (((ops[j]?).bind (·.dst)).map f)
where
  gv (want : Bool) : Option AV → Option Bool
    | some (.bool b) => some (b == want)
    | some (.tup _) => some false
    | some _ => none
    | none => some false
theorem awanted_gd (ops : Array Oper) (f : Fr) (o : Oper) : awanted ops f o = gd ops f o.guard := by
  unfold awanted gd
  cases o.guard with
  | none => rfl
  | some p =>
    obtain ⟨j, w⟩ := p
    simp only
    cases (ops[j]?).bind (·.dst) with
    | none => rfl
    | some d => simp only [Option.map_some]; cases f d <;> rfl

theorem vcOps_nil (P : Program) (T : TT) (n : Nat) (ops : Array Oper) (f : Fr) (s : AS) (K : Fr → AS → Prop) : vcOps P T n ops [] f s K = K f s := rfl
section
variable {P : Program} {T : TT} {n : Nat} {ops : Array Oper} {o : Oper} {os : List Oper} {f : Fr} {s : AS} {K : Fr → AS → Prop}
theorem vcOps_go {d : Nat} {v : AV} {s' : AS} (hds : o.dst = some d) (hd : decide (d < n) = true) (hg : gd ops f o.guard = some true)
    (hc : acallee f o.op = none) (ho : aop T o.op (aev f) s = some (v, s')) (h : vcOps P T n ops os (upd f d v) s' K) : vcOps P T n ops (o :: os) f s K := by
  simp only [vcOps, awanted_gd, hg]
  exact ⟨by rw [hds]; exact hd, by rw [hc, hds]; exact ⟨v, s', ho, h⟩⟩
theorem vcOps_do {v : AV} {s' : AS} (hds : o.dst = none) (hg : gd ops f o.guard = some true)
    (hc : acallee f o.op = none) (ho : aop T o.op (aev f) s = some (v, s')) (h : vcOps P T n ops os f s' K) : vcOps P T n ops (o :: os) f s K := by
  simp only [vcOps, awanted_gd, hg]
  exact ⟨by rw [hds]; rfl, by rw [hc, hds]; exact ⟨v, s', ho, h⟩⟩
theorem vcOps_pass {d : Nat} (hds : o.dst = some d) (hd : decide (d < n) = true) (hg : gd ops f o.guard = some false)
    (h : vcOps P T n ops os (upd f d .undef) s K) : vcOps P T n ops (o :: os) f s K := by
  simp only [vcOps, awanted_gd, hg]
  exact ⟨by rw [hds]; exact hd, by rw [hds]; exact h⟩
theorem vcOps_call {d : Nat} {g : FuncId} {args : List AV} {R : AV → AS → Prop} (hds : o.dst = some d) (hd : decide (d < n) = true) (hg : gd ops f o.guard = some true)
    (hc : acallee f o.op = some (g, args)) (hR : ACalls P g args s R) (h : ∀ v s', R v s' → vcOps P T n ops os (upd f d v) s' K) : vcOps P T n ops (o :: os) f s K := by
  simp only [vcOps, awanted_gd, hg]
  exact ⟨by rw [hds]; exact hd, by rw [hc, hds]; exact hR.mono h⟩
end

/-- what stands behind a function's body -/
def XRet (T : TT) (rs : List ResultVar) (R : AV → AS → Prop) : Exit → Fr → AS → Prop := fun e f s' => match e with
  | .normal | .ret => ∃ v, ares T rs f s' = some v ∧ R v s'
  | _ => False

theorem ACalls.body {P : Program} {T : TT} (hT : TT.Ok P T) {g : FuncId} {fn : Func} {c : Code} {args : List AV} {s : AS} {R : AV → AS → Prop} {n : Nat} {rs : List ResultVar} (hf : P.funcs[g]? = some fn) (hc : callable P g = true) (hb : fn.body = some c)
    (hn : args.length + (fn.ntmps - args.length) = n) (hrs : fn.results.toList = rs) (h : AWp P n c (ainit args) s (XRet T rs R)) : ACalls P g args s R := by
  subst hn hrs
  exact ACalls.of_body hT hf hc hb h

theorem AWp.ret1 {P : Program} {T : TT} {n : Nat} {f : Fr} {s : AS} {R : AV → AS → Prop} {a : Nat} (h : R (f a) s) : AWp P n .ret f s (XRet T [.tmp a] R) :=
  AWp.ret ⟨f a, rfl, h⟩
theorem AWp.ret2 {P : Program} {T : TT} {n : Nat} {f : Fr} {s : AS} {R : AV → AS → Prop} {a b : Nat} (h : R (.tup [f a, f b]) s) : AWp P n .ret f s (XRet T [.tmp a, .tmp b] R) :=
  AWp.ret ⟨_, rfl, h⟩
theorem AWp.ret0 {P : Program} {T : TT} {n : Nat} {f : Fr} {s : AS} {R : AV → AS → Prop} (h : R (.tup []) s) : AWp P n .ret f s (XRet T [] R) :=
  AWp.ret ⟨_, rfl, h⟩
theorem AWp.ret3 {P : Program} {T : TT} {n : Nat} {f : Fr} {s : AS} {R : AV → AS → Prop} {a b c : Nat} (h : R (.tup [f a, f b, f c]) s) : AWp P n .ret f s (XRet T [.tmp a, .tmp b, .tmp c] R) :=
  AWp.ret ⟨_, rfl, h⟩
/-- the way out of a block, of a loop -/
theorem AWp.exit_block {P : Program} {n id : Nat} {f : Fr} {s : AS} {Q : Exit → Fr → AS → Prop} (h : Q .normal f s) : AWp P n (.exit id) f s (XBlock id Q) := AWp.exit (by simp [XBlock, h])

theorem ald_scalar {T : TT} {t : TypeId} (h : T.agg t = some false) (s : AS) (l o : Nat) : ald T t s (.ptr (some (l, o))) = rd1 s l o := by unfold ald; simp only [h]
theorem ald_agg {T : TT} {t n : Nat} (h : T.agg t = some true) (hn : T.siz t = some n) (s : AS) (l o : Nat) : ald T t s (.ptr (some (l, o))) = (rdc s l o n).map .agg := by unfold ald; simp only [h, hn, Option.bind_some]
theorem rd1_of {s : AS} {l o : Nat} {cs : List AV} {g : Nat} {ro : Bool} (h : s.h l = some (.cells cs g ro)) : rd1 s l o = cs[o]? := by simp [rd1, h]
theorem rdc_of {s : AS} {l o n : Nat} {cs : List AV} {g : Nat} {ro : Bool} (h : s.h l = some (.cells cs g ro)) (hn : o + n ≤ cs.length) : rdc s l o n = some ((cs.drop o).take n) := by simp [rdc, h, hn]

/-- labels of the heap are below the next one -/
structure WF (s : AS) : Prop where
  lt : ∀ l o, s.h l = some o → l < s.nl
  st : 1 ≤ s.st
theorem WF.new {s : AS} (h : WF s) {o : AO} (ho : o.live = true) : WF (s.new o) := by
  refine ⟨fun l x hl => ?_, h.st⟩
  rw [AS.new_h _ ho] at hl
  rw [AS.new_nl]
  have := h.st
  split at hl
  · omega
  · have := h.lt l x hl; omega
theorem WF.put {s : AS} (h : WF s) {l : Nat} (hl : l < s.nl) {o : AO} (ho : o.live = true) : WF (s.put l o) := by
  refine ⟨fun x y hx => ?_, h.st⟩
  rw [AS.put_h _ _ ho] at hx
  rw [AS.put_nl]
  split at hx
  · omega
  · exact h.lt x y hx
theorem WF.kill {s : AS} (h : WF s) (l : Nat) : WF (s.kill l) := by
  refine ⟨fun x y hx => ?_, h.st⟩
  rw [AS.kill_h] at hx
  rw [AS.kill_nl]
  split at hx
  · cases hx
  · exact h.lt x y hx
theorem Ext.new {s : AS} (h : WF s) {o : AO} (ho : o.live = true) : Ext s (s.new o) := by
  refine ⟨fun l x hl => ?_, by rw [AS.new_nl]; omega⟩
  have := h.lt l x hl
  rw [AS.new_h _ ho, if_neg (by omega)]; exact hl

end Go.Am
