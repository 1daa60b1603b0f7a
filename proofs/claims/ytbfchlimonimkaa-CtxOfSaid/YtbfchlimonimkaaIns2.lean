/-
  Contracts: slices.Insert at dots.
-/
import Derived.Test.YtbfchlimonimkaaCtx6
import Derived.Test.YtbfchlimonimkaaAmRev
set_option linter.unusedSimpArgs false
set_option linter.unusedVariables false
namespace Go.Proofs.Ytbfchlimonimkaa
open Go.Am Go.Minster

theorem abound1_nat {y i : Nat} {k : IntKind} (h : i ≤ y) : abound1 y (.int k (i : Nat)) = some i := by
  unfold abound1
  simp [h]
theorem asl_lo {a o n c i : Nat} (h1 : i ≤ n) (h2 : n ≤ c) (h3 : i < c) : aslice T Y_s_Dot (.slc (some (a, o)) n c true) (some (.int .i64 (i : Nat))) none none = some (.slc (some (a, o + i * 2)) (n - i) (c - i) true) := by
  have e1 : ¬ ((i : Int) < 0 ∨ (n : Int) < i) := by omega
  have e2 : ¬ c = i := by omega
  simp [aslice, u_s_Dot, z_Dot, abounds, aopt, ahigh, abound1_nat, e2, h1, h2]
theorem asl_lof {a o n c i : Nat} (h1 : i ≤ n) (h2 : n ≤ c) (h3 : i < c) : aslice T Y_s_Dot (.slc (some (a, o)) n c false) (some (.int .i64 (i : Nat))) none none = some (.slc (some (a, o + i * 2)) (n - i) (c - i) false) := by
  have e2 : ¬ c = i := by omega
  simp [aslice, u_s_Dot, z_Dot, abounds, aopt, ahigh, abound1_nat, e2, h1, h2]
theorem asl_hi {a o n c i : Nat} (h1 : i ≤ c) : aslice T Y_s_Dot (.slc (some (a, o)) n c true) none (some (.int .i64 (i : Nat))) none = some (.slc (some (a, o)) i c true) := by
  simp [aslice, u_s_Dot, z_Dot, abounds, aopt, ahigh, abound1_nat, h1]
theorem acopy_eq {a b o o2 n n2 c c2 g : Nat} {e e2 : Bool} {cs new : List AV} {s : AS} (hd : s.h a = some (.cells cs g false)) (hs : rdc s b o2 (min n2 n * 2) = some new) (hne : new ≠ []) (hfit : o + new.length ≤ cs.length) :
    acopy T Y_s_Dot (.slc (some (a, o)) n c e) (.slc (some (b, o2)) n2 c2 e2) s = some (.int .i64 ((min n2 n : Nat) : Int), s.put a (.cells (wrs cs o new) g false)) := by
  have hs2 : asrc 2 (min n2 n) s (.slc (some (b, o2)) n2 c2 e2) = some new := by
    by_cases h0 : min n2 n = 0
    · exfalso
      rw [h0] at hs
      unfold rdc at hs
      split at hs
      · split at hs
        · simp at hs; exact hne (by first | exact hs | exact hs.symm)
        · cases hs
      · cases hs
    · simp only [asrc, if_neg h0]; exact hs
  simp only [acopy, u_s_Dot, z_Dot, alen, Option.bind_some, hs2, if_neg hne, awr, hd, if_pos hfit, Option.map_some]
theorem appz {a n c k g : Nat} {ro : Bool} {cs : List AV} {s : AS} (h : s.h a = some (.cells cs g ro)) (hle : n * 2 ≤ cs.length) (hbig : n + k ≤ 2 ^ 30) (hroom : c < n + k) :
    aappend T Y_s_Dot Y_int (.slc (some (a, 0)) n c true) (.int .i64 (k : Nat)) s = some (.slc (some (s.nl, 0)) (n + k) (n + k) false, s.new (.cells (cs.take (n * 2) ++ rep k [.int .i64 0, .int .u64 0]) 2 false)) := by
  have h1 : ¬ ((2 : Nat) ≠ 2 ∨ (k : Int) < 0 ∨ 2 ^ 40 < n + k ∨ 2 * ((n + k + 256) * 16) > 2 ^ 48 ∨ n + k ≤ c) := by omega
  have h2 : asrc 2 n s (.slc (some (a, 0)) n c true) = some (cs.take (n * 2)) := by
    by_cases hn : n = 0
    · subst hn; simp [asrc]
    · simp only [asrc, if_neg hn]
      rw [rdc_of h (by omega), List.drop_zero]
  simp only [aappend, u_s_Dot, u_int, if_true, aappendZ, z_Dot, b_Dot, zr_Dot, acells, AV.cells, Option.bind_some, Int.toNat_natCast, h2, Option.map_some, List.length_cons, List.length_nil, List.all_cons, List.all_nil, one_int, Bool.and_self, Nat.zero_add, Nat.reduceAdd]
  rw [if_neg h1]
theorem find71 : Extern.find Try.f71 = some (Extern.SlicesOverlaps.overlaps #[22, 22] #[4]) := by kernel_rfl
theorem next71 : Extern.findNext Try.f71 = none := by kernel_rfl
theorem name71 : (Try.f71.name == "runtime.NumGoroutine") = false := by kernel_rfl
theorem body71 : Try.f71.body.isNone = true := by kernel_rfl

theorem wadd {a b : Nat} (h : a + b ≤ 2 ^ 40) : IntKind.i64.wrap ((a : Int) + (b : Int)) = ((a + b : Nat) : Int) := by
  rw [IntWalk.i64_in _ (by omega)]; rfl
theorem wsub {a b : Nat} (h : a ≤ 2 ^ 40) (hb : b ≤ a) : IntKind.i64.wrap ((a : Int) - (b : Int)) = ((a - b : Nat) : Int) := by
  rw [IntWalk.i64_in _ (by omega)]; omega

/-- what Insert makes -/
def insd (cs V : List AV) (i len : Nat) : List AV := cs.take (i * 2) ++ V ++ (cs.drop (i * 2)).take ((len - i) * 2)

set_option maxRecDepth 20000 in
theorem insert_mid {s : AS} {l lb cap len i m mc ob gb : Nat} {cs bs : List AV} {eb : Bool} (hl : s.h l = some (.cells cs 2 false)) (hcap : cap * 2 = cs.length) (hlen : len ≤ cap) (hi : i < len) (hm : 0 < m) (hlb : l ≠ lb)
    (hb : s.h lb = some (.cells bs gb false)) (hgb : gb ≠ 1) (hob : ob + m * 2 ≤ bs.length) (hbig : len + m ≤ 2 ^ 30) (hst : 1 ≤ s.st) :
    ACalls Try.prog F_slices_Insert__s_Dot_Dot [.slc (some (l, 0)) len cap false, .int .i64 (i : Nat), .slc (some (lb, ob)) m mc eb] s
      fun v s' => v = .slc (some (s.nl + 2 * s.st, 0)) (len + m) (len + m) false ∧ s' = s.gave l 2 (.cells (insd cs ((bs.drop ob).take (m * 2)) i len) 2 false) := by
  refine ACalls.reveal (sz := 2) hl (by decide) (by omega) ?_
  intro x js hjs hj1 hnone
  have hN : s.h s.nl = none := by have := hnone 0; simpa using this
  have hN2 : s.h (s.nl + s.st) = none := by have := hnone 1; simpa using this
  have hlbN : lb ≠ s.nl := fun e => by rw [e, hN] at hb; cases hb
  have hlbN2 : lb ≠ s.nl + s.st := fun e => by rw [e, hN2] at hb; cases hb
  have hlN : l ≠ s.nl := fun e => by rw [e, hN] at hl; cases hl
  generalize hS : (s.kill l).new (.cells (cs ++ js) 2 false) = S
  have hSL : S.h s.nl = some (.cells (cs ++ js) 2 false) := by rw [← hS, AS.new_h _ rfl]; simp [AS.kill_nl]
  have hSb : S.h lb = some (.cells bs gb false) := by rw [← hS, AS.new_h _ rfl, AS.kill_h]; simp [AS.kill_nl, hlbN, Ne.symm hlb, hb]
  have hSk : ∀ k ob, k ≠ l → s.h k = some ob → S.h k = some ob := by
    intro k p hk hp
    rw [← hS, AS.new_h _ rfl, AS.kill_h, AS.kill_nl]
    rw [if_neg (fun e => by rw [e, hN] at hp; cases hp), if_neg hk]
    exact hp
  have hSnl : S.nl = s.nl + s.st := by rw [← hS]; rfl
  have hSst : S.st = s.st := by rw [← hS]; rfl
  have hCl : (cs ++ js).length = (cap + x) * 2 := by rw [List.length_append, hjs]; omega
  generalize hC : cs ++ js = C at hSL hCl
  generalize hV : (bs.drop ob).take (m * 2) = V
  have hVl : V.length = m * 2 := by rw [← hV, List.length_take, List.length_drop]; omega
  have hVne : V ≠ [] := by intro e; rw [e] at hVl; simp at hVl; omega
  have f1 := asl_lo (a := s.nl) (o := 0) (n := len) (c := cap + x) (i := i) (by omega) (by omega) (by omega)
  simp only [Nat.zero_add] at f1
  have f2 : ((m : Int) == 0) = false := by simp; omega
  have f3 : ((i : Int) == (len : Int)) = false := by simp; omega
  have f4 : IntKind.i64.wrap ((len : Int) + (m : Int)) = ((len + m : Nat) : Int) := wadd (by omega)
  have lB : ∀ (a : Option (Nat × Nat)) (n c : Nat) (e : Bool) (s' : AS), alenB T Y_s_Dot (.slc a n c e) s' = some (.int .i64 (n : Nat)) := by intros; simp [alenB, u_s_Dot]
  have cB : acapB T Y_s_Dot (.slc (some (s.nl, 0)) len (cap + x) true) = some (.int .i64 ((cap + x : Nat) : Int)) := by simp [acapB, u_s_Dot]
  refine q_slices_Insert__s_Dot_Dot _ _ _ _ _ ⟨_, f1, _, lB _ _ _ _ _, bsplit.no f2 ⟨_, lB _ _ _ _ _, bsplit.no f3 ⟨_, cB, ?_⟩⟩⟩
  dsimp only
  rw [f4]
  have hTl : rdc S s.nl (i * 2) ((len - i) * 2) = some ((C.drop (i * 2)).take ((len - i) * 2)) := rdc_of hSL (by omega)
  generalize hTle : (C.drop (i * 2)).take ((len - i) * 2) = Tl at hTl
  have hTll : Tl.length = (len - i) * 2 := by rw [← hTle, List.length_take, List.length_drop]; omega
  have hTlne : Tl ≠ [] := by intro e; rw [e] at hTll; simp at hTll; omega
  have hVr : rdc S lb ob (m * 2) = some V := by rw [rdc_of hSb hob, hV]
  have hCt : ∀ k, k < len * 2 → C[k]? = cs[k]? := by
    intro k hk
    rw [← hC, List.getElem?_append_left (by omega)]
  have hTlc : Tl = (cs.drop (i * 2)).take ((len - i) * 2) := by
    rw [← hTle]
    apply List.ext_getElem?
    intro k
    rw [List.getElem?_take, List.getElem?_take, List.getElem?_drop, List.getElem?_drop]
    split
    · exact hCt _ (by omega)
    · rfl
  refine bsplit.dec (fun hroom0 => ?_) (fun hroom0 => ?_)
  · have hroom : cap + x < len + m := by omega
    have fA1 := asl_hi (a := s.nl) (o := 0) (n := len) (c := cap + x) (i := i) (by omega)
    have fA2 : IntKind.i64.wrap (((len + m : Nat) : Int) - (i : Int)) = ((len + m - i : Nat) : Int) := wsub (by omega) (by omega)
    have fA3 := appz (k := len + m - i) (n := i) (c := cap + x) hSL (by omega) (by omega) (by omega)
    rw [show i + (len + m - i) = len + m by omega] at fA3
    generalize hZ : C.take (i * 2) ++ rep (len + m - i) [AV.int .i64 0, AV.int .u64 0] = Z at fA3
    have hZl : Z.length = (len + m) * 2 := by rw [← hZ, List.length_append, List.length_take, rep_length]; simp; omega
    generalize hS3 : S.new (.cells Z 2 false) = S3 at fA3
    have h3N : S3.h S.nl = some (.cells Z 2 false) := by rw [← hS3, AS.new_h _ rfl, if_pos rfl]
    have hne3 : s.nl ≠ S.nl := by rw [hSnl]; omega
    have h3L : S3.h s.nl = some (.cells C 2 false) := by rw [← hS3, AS.new_h _ rfl, if_neg hne3]; exact hSL
    have h3b : S3.h lb = some (.cells bs gb false) := by rw [← hS3, AS.new_h _ rfl, if_neg (by rw [hSnl]; exact hlbN2)]; exact hSb
    have fA4 := asl_lof (a := S.nl) (o := 0) (n := len + m) (c := len + m) (i := i) (by omega) (by omega) (by omega)
    have fA5 := acopy_eq (a := S.nl) (b := lb) (o := i * 2) (o2 := ob) (n := len + m - i) (n2 := m) (c := len + m - i) (c2 := mc) (e := false) (e2 := eb) (new := V) h3N (by rw [show min m (len + m - i) = m by omega, rdc_of h3b hob, hV]) hVne (by omega)
    generalize hS4 : S3.put S.nl (.cells (wrs Z (i * 2) V) 2 false) = S4 at fA5
    have h4N : S4.h S.nl = some (.cells (wrs Z (i * 2) V) 2 false) := by rw [← hS4, AS.put_h _ _ rfl, if_pos rfl]
    have h4L : S4.h s.nl = some (.cells C 2 false) := by rw [← hS4, AS.put_h _ _ rfl, if_neg hne3]; exact h3L
    have fA6 : IntKind.i64.wrap ((i : Int) + (m : Int)) = ((i + m : Nat) : Int) := wadd (by omega)
    have fA7 := asl_lof (a := S.nl) (o := 0) (n := len + m) (c := len + m) (i := i + m) (by omega) (by omega) (by omega)
    have fA8 := acopy_eq (a := S.nl) (b := s.nl) (o := (i + m) * 2) (o2 := i * 2) (n := len + m - (i + m)) (n2 := len - i) (c := len + m - (i + m)) (c2 := cap + x - i) (e := false) (e2 := true) (new := Tl) h4N (by rw [show min (len - i) (len + m - (i + m)) = len - i by omega, rdc_of h4L (by omega), hTle]) hTlne (by rw [wrs_length]; omega)
    simp only [Nat.zero_add] at fA4 fA7
    generalize hS5 : S4.put S.nl (.cells (wrs (wrs Z (i * 2) V) ((i + m) * 2) Tl) 2 false) = S5 at fA8
    refine ⟨_, fA1, ?_⟩
    dsimp only
    rw [fA2]
    refine ⟨_, _, fA3, _, fA4, _, _, fA5, ?_⟩
    dsimp only
    rw [fA6]
    refine ⟨_, fA7, _, f1, _, _, fA8, ?_⟩
    have h5N : S5.h S.nl = some (.cells (wrs (wrs Z (i * 2) V) ((i + m) * 2) Tl) 2 false) := by rw [← hS5, AS.put_h _ _ rfl, if_pos rfl]
    have hkeep : ∀ k ob, k ≠ l → s.h k = some ob → S5.h k = some ob := by
      intro k p hk hp
      have hkN : k ≠ S.nl := fun e => by rw [e, hSnl, hN2] at hp; cases hp
      rw [← hS5, AS.put_h _ _ rfl, if_neg hkN, ← hS4, AS.put_h _ _ rfl, if_neg hkN, ← hS3, AS.new_h _ rfl, if_neg hkN]
      exact hSk k p hk hp
    refine ⟨⟨2, Nat.le_refl 2, ?_⟩, hkeep, .inr ⟨S.nl, rfl, by rw [hSnl]; exact hN2, ?_, ?_⟩⟩
    · rw [← hS5, AS.put_nl, ← hS4, AS.put_nl, ← hS3, AS.new_nl, hSnl, hSst]; omega
    · rw [h5N]
      congr 2
      unfold insd
      rw [← hTlc]
      apply List.ext_getElem?
      intro k
      rw [wrs_get _ _ _ _ (by rw [wrs_length]; omega), wrs_get _ _ _ _ (by omega), hTll, hVl]
      rw [List.getElem?_append, List.getElem?_append, List.length_append, List.length_take, hVl]
      by_cases k1 : k < i * 2
      · rw [if_neg (by omega), if_neg (by omega), if_pos (by omega), if_pos (by omega), ← hZ, List.getElem?_append_left (by rw [List.length_take]; omega), List.getElem?_take, List.getElem?_take, if_pos k1, if_pos k1]
        exact hCt k (by omega)
      · by_cases k2 : k < (i + m) * 2
        · rw [if_neg (by omega), if_pos (by omega), if_pos (by omega), if_neg (by omega)]
          congr 1; omega
        · by_cases k3 : k < (len + m) * 2
          · rw [if_pos (by omega), if_neg (by omega)]
            congr 1; omega
          · rw [if_neg (by omega), if_neg (by omega), if_neg (by omega), List.getElem?_eq_none (by omega), List.getElem?_eq_none (by omega)]
    · unfold insd
      rw [← hTlc, List.length_append, List.length_append, List.length_take, hVl, hTll]; omega
  · have hroom : ¬ cap + x < len + m := by omega
    have fB1 := asl_hi (a := s.nl) (o := 0) (n := len) (c := cap + x) (i := len + m) (by omega)
    have fB2 : IntKind.i64.wrap ((i : Int) + (m : Int)) = ((i + m : Nat) : Int) := wadd (by omega)
    have fB3 := asl_lo (a := s.nl) (o := 0) (n := len + m) (c := cap + x) (i := i + m) (by omega) (by omega) (by omega)
    have fB4 := asl_lo (a := s.nl) (o := 0) (n := len + m) (c := cap + x) (i := i) (by omega) (by omega) (by omega)
    simp only [Nat.zero_add] at fB3 fB4
    have hCS : rdc S s.nl (i * 2) (min (len + m - i) (len + m - (i + m)) * 2) = some Tl := by rw [show min (len + m - i) (len + m - (i + m)) = len - i by omega]; exact hTl
    have fB5 := acopy_eq (a := s.nl) (b := s.nl) (o := (i + m) * 2) (o2 := i * 2) (n := len + m - (i + m)) (n2 := len + m - i) (c := cap + x - (i + m)) (c2 := cap + x - i) (e := true) (e2 := true) (new := Tl) hSL hCS hTlne (by omega)
    generalize hS4 : S.put s.nl (.cells (wrs C ((i + m) * 2) Tl) 2 false) = S4 at fB5
    have h4N : S4.h s.nl = some (.cells (wrs C ((i + m) * 2) Tl) 2 false) := by rw [← hS4, AS.put_h _ _ rfl, if_pos rfl]
    have h4b : S4.h lb = some (.cells bs gb false) := by rw [← hS4, AS.put_h _ _ rfl, if_neg hlbN]; exact hSb
    have fB6 := acopy_eq (a := s.nl) (b := lb) (o := i * 2) (o2 := ob) (n := len + m - i) (n2 := m) (c := cap + x - i) (c2 := mc) (e := true) (e2 := eb) (new := V) h4N (by rw [show min m (len + m - i) = m by omega, rdc_of h4b hob, hV]) hVne (by rw [wrs_length]; omega)
    generalize hS5 : S4.put s.nl (.cells (wrs (wrs C ((i + m) * 2) Tl) (i * 2) V) 2 false) = S5 at fB6
    have hov := acalls_overlaps (g := F_slices_overlaps__Dot) (tR := 4) (na := m) (ca := mc) (ea := eb) (oa := ob) (ob := (i + m) * 2) (nb := len + m - (i + m)) (cb := cap + x - (i + m)) (eb := true) hT Try.func71 name71 body71 next71 find71 u_s_Dot z_Dot hSb hgb hSL (by intro e; rw [e] at hCl; simp at hCl; omega) hlbN
    refine ⟨_, fB1, ?_⟩
    dsimp only
    rw [fB2]
    refine ⟨_, fB3, hov.mono ?_⟩
    rintro v s' ⟨rfl, rfl⟩
    refine ⟨_, rfl, bsplit.yes rfl ⟨_, fB3, _, fB4, _, _, fB5, _, fB4, _, _, fB6, ?_⟩⟩
    have h5N : S5.h s.nl = some (.cells (wrs (wrs C ((i + m) * 2) Tl) (i * 2) V) 2 false) := by rw [← hS5, AS.put_h _ _ rfl, if_pos rfl]
    have hkeep : ∀ k ob, k ≠ l → s.h k = some ob → S5.h k = some ob := by
      intro k p hk hp
      have hkN : k ≠ s.nl := fun e => by rw [e, hN] at hp; cases hp
      rw [← hS5, AS.put_h _ _ rfl, if_neg hkN, ← hS4, AS.put_h _ _ rfl, if_neg hkN]
      exact hSk k p hk hp
    refine ⟨⟨1, by omega, ?_⟩, hkeep, .inl ⟨rfl, by omega, _, h5N, ?_, ?_⟩⟩
    · rw [← hS5, AS.put_nl, ← hS4, AS.put_nl, hSnl]; omega
    · rw [wrs_length, wrs_length, hCl]; omega
    · unfold insd
      rw [← hTlc]
      apply List.ext_getElem?
      intro k
      rw [List.getElem?_take, List.drop_zero, wrs_get _ _ _ _ (by rw [wrs_length]; omega), wrs_get _ _ _ _ (by omega), hTll, hVl]
      rw [List.getElem?_append, List.getElem?_append, List.length_append, List.length_take, hVl]
      by_cases k1 : k < i * 2
      · rw [if_pos (by omega), if_neg (by omega), if_neg (by omega), if_pos (by omega), if_pos (by omega), List.getElem?_take, if_pos k1]
        exact hCt k (by omega)
      · by_cases k2 : k < (i + m) * 2
        · rw [if_pos (by omega), if_pos (by omega), if_pos (by omega), if_neg (by omega)]
          congr 1; omega
        · by_cases k3 : k < (len + m) * 2
          · rw [if_pos (by omega), if_neg (by omega), if_pos (by omega), if_neg (by omega)]
            congr 1; omega
          · rw [if_neg (by omega), if_neg (by omega), List.getElem?_eq_none (by omega)]


end Go.Proofs.Ytbfchlimonimkaa
