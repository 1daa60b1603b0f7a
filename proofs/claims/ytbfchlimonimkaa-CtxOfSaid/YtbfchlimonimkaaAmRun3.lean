/-
  The abstract machine Am, run: what the function that runs the machine comes to is what the model does (third part: code, calls).
-/
import Derived.Test.YtbfchlimonimkaaAmRun2
set_option linter.unusedSectionVars false
set_option linter.unusedSimpArgs false
set_option linter.unusedVariables false
namespace Go.Am

section
variable {P : Program} {T : TT} (hT : TT.Ok P T) {call : XCall} (hcall : CallOk P call) (hmx : P.follows .mixedOrders = true)
include hT hcall hmx

theorem xcode_sound {n : Nat} : ∀ (k : Nat) (c : Code) (f : Tr AV) (s : AS) (e : XE) (f' : Tr AV) (s' : AS) (Q : Exit → Fr → AS → Prop), xcode T call n k c f s = some (e, f', s') → Q e.out (xfr f') s' → AWp P n c (xfr f) s Q := by
  intro k
  induction k using Nat.strongRecOn with
  | _ k ih =>
    intro c f s e f' s' Q h hQ
    cases k with
    | zero => cases h
    | succ k =>
      have ihk := ih k (Nat.lt_succ_self k)
      cases c with
      | skip =>
        simp only [xcode, Option.some.injEq, Prod.mk.injEq] at h
        obtain ⟨rfl, rfl, rfl⟩ := h
        exact AWp.skip hQ
      | label l =>
        simp only [xcode, Option.some.injEq, Prod.mk.injEq] at h
        obtain ⟨rfl, rfl, rfl⟩ := h
        exact AWp.label hQ
      | ret =>
        simp only [xcode, Option.some.injEq, Prod.mk.injEq] at h
        obtain ⟨rfl, rfl, rfl⟩ := h
        exact AWp.ret hQ
      | exit id =>
        simp only [xcode, Option.some.injEq, Prod.mk.injEq] at h
        obtain ⟨rfl, rfl, rfl⟩ := h
        exact AWp.exit hQ
      | seq a b =>
        simp only [xcode] at h
        refine AWp.seq ?_
        cases ha : xcode T call n k a f s with
        | none => rw [ha] at h; cases h
        | some r =>
          obtain ⟨e1, f1, s1⟩ := r
          rw [ha] at h
          cases e1 with
          | normal => exact ihk a f s _ f1 s1 _ ha (ihk b f1 s1 e f' s' Q h hQ)
          | ret =>
            simp only [Option.some.injEq, Prod.mk.injEq] at h
            obtain ⟨rfl, rfl, rfl⟩ := h
            exact ihk a f s _ _ _ _ ha hQ
          | exit id =>
            simp only [Option.some.injEq, Prod.mk.injEq] at h
            obtain ⟨rfl, rfl, rfl⟩ := h
            exact ihk a f s _ _ _ _ ha hQ
      | cond c a b =>
        simp only [xcode] at h
        split at h
        · rename_i t ht
          exact AWp.cond ht (ihk _ f s e f' s' Q h hQ)
        · cases h
      | block id b =>
        simp only [xcode] at h
        refine AWp.block ?_
        cases ha : xcode T call n k b f s with
        | none => rw [ha] at h; cases h
        | some r =>
          obtain ⟨e1, f1, s1⟩ := r
          rw [ha] at h
          cases e1 with
          | normal =>
            simp only [Option.some.injEq, Prod.mk.injEq] at h
            obtain ⟨rfl, rfl, rfl⟩ := h
            exact ihk b f s _ _ _ _ ha hQ
          | ret =>
            simp only [Option.some.injEq, Prod.mk.injEq] at h
            obtain ⟨rfl, rfl, rfl⟩ := h
            exact ihk b f s _ _ _ _ ha hQ
          | exit id' =>
            simp only [Option.some.injEq, Prod.mk.injEq] at h
            obtain ⟨rfl, rfl, rfl⟩ := h
            refine ihk b f s _ _ _ _ ha ?_
            simp only [XE.out, XBlock]
            by_cases hid : id' = id
            · subst hid
              rw [if_pos rfl]
              have : Nat.beq id' id' = true := Nat.beq_refl id'
              rw [this] at hQ
              exact hQ
            · rw [if_neg hid]
              rw [beq_ne hid] at hQ
              exact hQ
      | loop b =>
        refine AWp.loop (fun m g t => m ≤ k + 1 ∧ ∃ gt, g = xfr gt ∧ xcode T call n m (.loop b) gt t = some (e, f', s')) (k + 1) ⟨Nat.le_refl _, f, rfl, h⟩ ?_
        rintro m g t ⟨hm, gt, rfl, hg⟩
        cases m with
        | zero => cases hg
        | succ m =>
          have ihm := ih m (by omega)
          simp only [xcode] at hg
          cases ha : xcode T call n m b gt t with
          | none => rw [ha] at hg; cases hg
          | some r =>
            obtain ⟨e1, f1, s1⟩ := r
            rw [ha] at hg
            cases e1 with
            | normal => exact ihm b gt t _ f1 s1 _ ha ⟨m, Nat.lt_succ_self m, by omega, f1, rfl, hg⟩
            | ret =>
              simp only [Option.some.injEq, Prod.mk.injEq] at hg
              obtain ⟨rfl, rfl, rfl⟩ := hg
              exact ihm b gt t _ _ _ _ ha hQ
            | exit id =>
              simp only [Option.some.injEq, Prod.mk.injEq] at hg
              obtain ⟨rfl, rfl, rfl⟩ := hg
              exact ihm b gt t _ _ _ _ ha hQ
      | scope b =>
        simp only [xcode] at h
        refine AWp.scope (ihk b f s e f' s' _ h ?_)
        cases e <;> exact hQ
      | region id ops draw =>
        cases draw with
        | false =>
          simp only [xcode] at h
          split at h
          · rename_i f1 s1 hx
            simp only [Option.some.injEq, Prod.mk.injEq] at h
            obtain ⟨rfl, rfl, rfl⟩ := h
            exact AWp.region hT (xops_sound hT hcall _ _ _ _ _ hx hQ)
          · cases h
        | true =>
          simp only [xcode] at h
          split at h
          · rename_i f1 s1 hx
            simp only [Option.some.injEq, Prod.mk.injEq] at h
            obtain ⟨rfl, rfl, rfl⟩ := h
            exact xdraw_sound hT hcall hmx hx hQ
          · cases h
      | _ => simp [xcode] at h
end

theorem xfr_xinit : ∀ (args : List AV) (i : Nat) (t : Tr AV) (x : Nat), xfr (xinit args i t) x = if x < i then xfr t x else match args[x - i]? with | some v => v | none => xfr t x
  | [], i, t, x => by simp [xinit]
  | v :: vs, i, t, x => by
    simp only [xinit]
    rw [xfr_xinit vs (i + 1) _ x, xfr_set]
    by_cases h1 : x < i
    · rw [if_pos h1, if_pos (by omega), upd_ne _ _ (by omega)]
    · rw [if_neg h1]
      by_cases h2 : x = i
      · subst h2
        rw [if_pos (by omega), upd_same]; simp
      · rw [if_neg (by omega), upd_ne _ _ h2]
        have : x - i = (x - (i + 1)) + 1 := by omega
        rw [this, List.getElem?_cons_succ]

theorem xfr_init (args : List AV) : xfr (xinit args 0 .E) = ainit args := by
  funext x
  rw [xfr_xinit, if_neg (by omega)]
  simp only [ainit, List.getD_eq_getElem?_getD, Nat.sub_zero]
  cases args[x]? <;> rfl

/-- the run's functions are the program's -/
structure XOk (P : Program) (X : XP) : Prop where
  tys : TT.Ok P X.T
  mix : P.follows .mixedOrders = true
  fns : ∀ g fx, X.fn g = some fx → ∃ fn, P.funcs[g]? = some fn ∧ callable P g = true ∧ fn.body = some fx.body ∧ fx.n = fn.ntmps ∧ fx.rs = fn.results.toList
  intr : CallOk P X.intr

theorem xcall_sound {P : Program} {X : XP} (hX : XOk P X) : ∀ (k : Nat), CallOk P (xcall X k) := by
  intro k
  induction k with
  | zero => intro g args s v s' h; cases h
  | succ k ih =>
    intro g args s v s' h
    simp only [xcall] at h
    split at h
    · rename_i r hr
      obtain rfl := Option.some.inj h
      exact hX.intr g args s v s' hr
    · split at h
      · cases h
      · rename_i fx hfx
        obtain ⟨fn, hfn, hc, hb, hn, hrs⟩ := hX.fns g fx hfx
        split at h
        · rename_i hlen
          refine ACalls.of_body hX.tys hfn hc hb ?_
          have hnn : args.length + (fn.ntmps - args.length) = fx.n := by omega
          rw [hnn, ← xfr_init, ← hrs]
          split at h
          · rename_i f1 s1 hx
            split at h
            · rename_i v1 hv
              obtain ⟨rfl, rfl⟩ := by simpa using h
              exact xcode_sound hX.tys ih hX.mix k _ _ _ _ _ _ _ hx ⟨v1, hv, rfl, rfl⟩
            · cases h
          · rename_i f1 s1 hx
            split at h
            · rename_i v1 hv
              obtain ⟨rfl, rfl⟩ := by simpa using h
              exact xcode_sound hX.tys ih hX.mix k _ _ _ _ _ _ _ hx ⟨v1, hv, rfl, rfl⟩
            · cases h
          · cases h
        · cases h
end Go.Am
