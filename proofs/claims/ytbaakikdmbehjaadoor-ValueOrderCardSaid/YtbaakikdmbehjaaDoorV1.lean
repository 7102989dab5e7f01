/- V1: texts behind the claim: printed by a program of this work, or a plain lemma of it. -/
import Derived.Test.YtbaakikdmbehjaaDoorAmFacts
import Derived.Test.YtbaakikdmbehjaaDoorAmSeg
set_option linter.unusedVariables false
set_option linter.unusedSimpArgs false
set_option linter.unusedSectionVars false
namespace Go.Am
set_option maxRecDepth 100000
open Go.Proofs.Tryd Go.RowKit
noncomputable def T0 : Tr (List DV → M ORes) := .nil
theorem T0_ok : TblOk prog E0 T0 := TblOk.nil
noncomputable def F31 (t n : Int) : Int := (cond (ieq t 0) (Int.ofNat 0) ((cond (ieq t 1) (Go.Am.iwr Go.IntKind.i64 (Int.ofNat (Nat.land (Go.Am.ub Go.IntKind.i64 n) (Go.Am.ub Go.IntKind.i64 1)))) ((cond (ieq t 2) (Int.fdiv (Go.Am.iwr Go.IntKind.i64 (n * Int.ofNat (2 ^ Min.min (Int.toNat (Int.ofNat 56)) (Go.Am.ibits Go.IntKind.i64)))) (Int.ofNat (2 ^ Min.min (Int.toNat (Int.ofNat 56)) (Go.Am.ibits Go.IntKind.i64)))) ((cond (ieq t 3) (Int.fdiv (Go.Am.iwr Go.IntKind.i64 (n * Int.ofNat (2 ^ Min.min (Int.toNat (Int.ofNat 32)) (Go.Am.ibits Go.IntKind.i64)))) (Int.ofNat (2 ^ Min.min (Int.toNat (Int.ofNat 32)) (Go.Am.ibits Go.IntKind.i64)))) ((cond (ieq t 4) (Int.fdiv (Go.Am.iwr Go.IntKind.i64 (n * Int.ofNat (2 ^ Min.min (Int.toNat (Int.ofNat 0)) (Go.Am.ibits Go.IntKind.i64)))) (Int.ofNat (2 ^ Min.min (Int.toNat (Int.ofNat 0)) (Go.Am.ibits Go.IntKind.i64)))) ((cond (ieq t 5) (Int.ofNat 0) ((cond (ieq t 6) (Int.ofNat 0) ((cond (ieq t 7) (Int.ofNat 0) ((cond (Go.Am.ilt t 0) (Int.ofNat 0) ((cond (Go.Am.ilt t 5) ((cond (bif Go.Am.ilt t 0 then Bool.false else (fun m ↦ Nat.blt m 5) (Int.toNat t)) (default) (default))) (Int.ofNat 0))))))))))))))))))))
def F31_w (x : Int) : ORes := .val (DV.int Go.IntKind.i64 (x))
abbrev F31_l (t n : Int) : List DV := [.int .i64 t, .int .i64 n]
theorem F31_r (t n : Int) (nb mb : Nat) (qq : Prop) (rr : Int) (hq : qq) (he : (qq ∧ F31_w rr = F31_w rr) = Good (evT E0 Go.Am.T0 50 40 31 [.int .i64 t, .int .i64 n] (S1 (bo nb mb))) (F31_w rr)) (hr : flatR (F31_w rr) = true) : Told prog E0 31 (F31_l t n) (F31_w rr) := told_run mixed envOk fnOk globFlat Go.Am.T0_ok (bo nb mb) (he.mp ⟨hq, rfl⟩) rfl hr
theorem F31_told (t n : Int) : Told prog E0 31 (F31_l t n) (F31_w (F31 t n)) := by
 unfold F31
 exact (cndS (f := F31_w) (l := fun t => F31_l t n) (
 (F31_r 0 n 5 16 _ _ (t3 (u2 (t1 (u2 (t1 Z))))) (by kernel_rfl) rfl)) fun h0 =>
 (cndS (f := F31_w) (l := fun t => F31_l t n) (
 (F31_r 1 n 6 32 _ _ (t3 (u1 (t2 (u2 (t1 (u2 (t1 Z))))))) (by kernel_rfl) rfl)) fun h1 =>
 (cndS (f := F31_w) (l := fun t => F31_l t n) (
 (F31_r 2 n 6 0 _ _ (t4 (u1 (t1 (u1 (t2 (u2 (t1 (u2 (t1 Z))))))))) (by kernel_rfl) rfl)) fun h2 =>
 (cndS (f := F31_w) (l := fun t => F31_l t n) (
 (F31_r 3 n 6 0 _ _ (t4 (u1 (t1 (u1 (t2 (u2 (t1 (u2 (t1 Z))))))))) (by kernel_rfl) rfl)) fun h3 =>
 (cndS (f := F31_w) (l := fun t => F31_l t n) (
 (F31_r 4 n 6 0 _ _ (t4 (u1 (t1 (u1 (t2 (u2 (t1 (u2 (t1 Z))))))))) (by kernel_rfl) rfl)) fun h4 =>
 (cndS (f := F31_w) (l := fun t => F31_l t n) (
 (F31_r 5 n 5 24 _ _ (t3 (u1 (t1 (u2 (t1 Z))))) (by kernel_rfl) rfl)) fun h5 =>
 (cndS (f := F31_w) (l := fun t => F31_l t n) (
 (F31_r 6 n 5 24 _ _ (t3 (u1 (t1 (u2 (t1 Z))))) (by kernel_rfl) rfl)) fun h6 =>
 (cndS (f := F31_w) (l := fun t => F31_l t n) (
 (F31_r 7 n 5 24 _ _ (t3 (u1 (t1 (u2 (t1 Z))))) (by kernel_rfl) rfl)) fun h7 =>
 (cnd (f := F31_w) (fun h8 =>
 (F31_r t n 5 31 _ _ (t3 (A h8 (A h8 (A h8 (t1 Z))))) (by kernel_rfl) rfl)) fun h8 =>
 (cnd (f := F31_w) (fun h9 =>
 (cnd (f := F31_w) (fun h10 =>
 (by exfalso; simp only [ieq_eq, ilt_eq, idxc, decide_eq_true_eq, decide_eq_false_iff_not] at *; omega)) fun h10 =>
 (by exfalso; simp only [ieq_eq, ilt_eq, idxc, decide_eq_true_eq, decide_eq_false_iff_not] at *; omega))) fun h9 =>
 (F31_r t n 5 24 _ _ (t2 (A (nt h9) (A h8 (t1 (A h8 (A h8 (t1 Z))))))) (by kernel_rfl) rfl)))))))))))
noncomputable def F31_c : List DV → M ORes := fun l => match l with
  | [.int .i64 t, .int .i64 n] => M.pure (F31_w (F31 t n))
  | _ => M.fail
theorem F31_ok : ConOk prog E0 31 F31_c := conOk_told (fn := f31) (by kernel_rfl) envOk (by kernel_rfl) fun l => by
  unfold F31_c
  split
  · exact .inl ⟨_, rfl, (fun _ _ _ h => by cases h), F31_told _ _⟩
  · exact .inr rfl
noncomputable def F15 (t n : Int) : Int := (cond (ieq t 0) (Int.ofNat 0) ((cond (ieq t 1) (Go.Am.iwr Go.IntKind.i64 (Int.tmod (Go.Am.iwr Go.IntKind.u64 n) 2)) ((cond (ieq t 2) ((cond (Go.Am.ilt (Int.tmod (Go.Am.iwr Go.IntKind.u64 n) 256) 128) (Go.Am.iwr Go.IntKind.i64 (Int.tmod (Go.Am.iwr Go.IntKind.u64 n) 256)) (Go.Am.iwr Go.IntKind.i64 (Go.Am.iwr Go.IntKind.i64 (Int.tmod (Go.Am.iwr Go.IntKind.u64 n) 256) - 256)))) ((cond (ieq t 3) ((cond (Go.Am.ilt (Int.tmod (Go.Am.iwr Go.IntKind.u64 n) 4294967296) 2147483648) (Go.Am.iwr Go.IntKind.i64 (Int.tmod (Go.Am.iwr Go.IntKind.u64 n) 4294967296)) (Go.Am.iwr Go.IntKind.i64 (Go.Am.iwr Go.IntKind.i64 (Int.tmod (Go.Am.iwr Go.IntKind.u64 n) 4294967296) - 4294967296)))) ((cond (ieq t 4) (Go.Am.iwr Go.IntKind.i64 (Go.Am.iwr Go.IntKind.u64 n)) ((cond (ieq t 5) (Int.ofNat 0) ((cond (ieq t 6) (Int.ofNat 0) ((cond (ieq t 7) (Int.ofNat 0) (Int.ofNat 0))))))))))))))))
def F15_w (x : Int) : ORes := .val (DV.int Go.IntKind.i64 (x))
abbrev F15_l (t n : Int) : List DV := [.int .i64 t, .int .i64 n]
theorem F15_r (t n : Int) (nb mb : Nat) (qq : Prop) (rr : Int) (hq : qq) (he : (qq ∧ F15_w rr = F15_w rr) = Good (evT E0 Go.Am.T0 50 40 15 [.int .i64 t, .int .i64 n] (S1 (bo nb mb))) (F15_w rr)) (hr : flatR (F15_w rr) = true) : Told prog E0 15 (F15_l t n) (F15_w rr) := told_run mixed envOk fnOk globFlat Go.Am.T0_ok (bo nb mb) (he.mp ⟨hq, rfl⟩) rfl hr
theorem F15_told (t n : Int) : Told prog E0 15 (F15_l t n) (F15_w (F15 t n)) := by
 unfold F15
 exact (cndS (f := F15_w) (l := fun t => F15_l t n) (
 (F15_r 0 n 14 0 _ _ (u1 (t1 (u1 (t1 (u1 (t1 (u1 (t1 (u1 (t1 (u1 (t1 (u1 (t1 (u1 (t1 (u1 (t1 (u1 (t1 (u1 (t1 (u1 (t1 (u1 (t1 (u1 (t1 Z)))))))))))))))))))))))))))) (by kernel_rfl) rfl)) fun h0 =>
 (cndS (f := F15_w) (l := fun t => F15_l t n) (
 (F15_r 1 n 5 7 _ _ (u1 (t1 (u1 (t9 Z)))) (by kernel_rfl) rfl)) fun h1 =>
 (cndS (f := F15_w) (l := fun t => F15_l t n) (
 (cnd (f := F15_w) (fun h3 =>
 (F15_r 2 n 8 106 _ _ (A (nt h3) (t5 (u1 (t5 (u1 (t3 (u1 (t1 Z)))))))) (by kernel_rfl) rfl)) fun h3 =>
 (F15_r 2 n 8 234 _ _ (t1 (A (nt h3) (t5 (u1 (t5 (u1 (t3 (u1 (t1 Z))))))))) (by kernel_rfl) rfl))) fun h2 =>
 (cndS (f := F15_w) (l := fun t => F15_l t n) (
 (cnd (f := F15_w) (fun h4 =>
 (F15_r 3 n 12 1316 _ _ (A (nt h4) (t3 (u1 (t3 (u1 (t1 (u1 (t5 (u1 (t1 (u1 (t3 (u1 (t1 (u1 (t1 Z)))))))))))))))) (by kernel_rfl) rfl)) fun h4 =>
 (F15_r 3 n 12 3364 _ _ (t1 (A (nt h4) (t3 (u1 (t3 (u1 (t1 (u1 (t5 (u1 (t1 (u1 (t3 (u1 (t1 (u1 (t1 Z))))))))))))))))) (by kernel_rfl) rfl))) fun h3 =>
 (cndS (f := F15_w) (l := fun t => F15_l t n) (
 (F15_r 4 n 14 2184 _ _ (u1 (t1 (u1 (t3 (u1 (t1 (u1 (t1 (u1 (t3 (u1 (t1 (u1 (t1 (u1 (t3 (u1 (t1 (u1 (t1 (u1 (t1 Z)))))))))))))))))))))) (by kernel_rfl) rfl)) fun h4 =>
 (cndS (f := F15_w) (l := fun t => F15_l t n) (
 (F15_r 5 n 14 0 _ _ (u1 (t1 (u1 (t1 (u1 (t1 (u1 (t1 (u1 (t1 (u1 (t1 (u1 (t1 (u1 (t1 (u1 (t1 (u1 (t1 (u1 (t1 (u1 (t1 (u1 (t1 (u1 (t1 Z)))))))))))))))))))))))))))) (by kernel_rfl) rfl)) fun h5 =>
 (cndS (f := F15_w) (l := fun t => F15_l t n) (
 (F15_r 6 n 14 0 _ _ (u1 (t1 (u1 (t1 (u1 (t1 (u1 (t1 (u1 (t1 (u1 (t1 (u1 (t1 (u1 (t1 (u1 (t1 (u1 (t1 (u1 (t1 (u1 (t1 (u1 (t1 (u1 (t1 Z)))))))))))))))))))))))))))) (by kernel_rfl) rfl)) fun h6 =>
 (cndS (f := F15_w) (l := fun t => F15_l t n) (
 (F15_r 7 n 14 0 _ _ (u1 (t1 (u1 (t1 (u1 (t1 (u1 (t1 (u1 (t1 (u1 (t1 (u1 (t1 (u1 (t1 (u1 (t1 (u1 (t1 (u1 (t1 (u1 (t1 (u1 (t1 (u1 (t1 Z)))))))))))))))))))))))))))) (by kernel_rfl) rfl)) fun h7 =>
 (F15_r t n 14 0 _ _ (u1 (t1 (u1 (t1 (A h4 (t1 (A h3 (t1 (A h2 (t1 (A h1 (t1 (u1 (t1 (u1 (t1 (u1 (t1 (u1 (t1 (A h4 (t1 (A h3 (t1 (A h2 (t1 (A h1 (t1 Z)))))))))))))))))))))))))))) (by kernel_rfl) rfl)))))))))
noncomputable def F15_c : List DV → M ORes := fun l => match l with
  | [.int .i64 t, .int .i64 n] => M.pure (F15_w (F15 t n))
  | _ => M.fail
theorem F15_ok : ConOk prog E0 15 F15_c := conOk_told (fn := f15) (by kernel_rfl) envOk (by kernel_rfl) fun l => by
  unfold F15_c
  split
  · exact .inl ⟨_, rfl, (fun _ _ _ h => by cases h), F15_told _ _⟩
  · exact .inr rfl
noncomputable def F13 (an : Int) (ap au : Bool) (bn : Int) (bp bu : Bool) : Bool := (cond (bp) (Bool.true) ((cond (bif Go.Am.ieq an bn then bif bif ap then bp else !bp then bif bif au then bu else !bu then Bool.true else Bool.false else Bool.false else Bool.false) (Bool.true) ((cond (bu) (!ap) (Bool.false))))))
def F13_w (x : Bool) : ORes := .val (DV.bool (x))
abbrev F13_l (an : Int) (ap au : Bool) (bn : Int) (bp bu : Bool) : List DV := [.agg [.int .i64 an, .bool ap, .bool au], .agg [.int .i64 bn, .bool bp, .bool bu]]
theorem F13_r (an : Int) (ap au : Bool) (bn : Int) (bp bu : Bool) (nb mb : Nat) (qq : Prop) (rr : Bool) (hq : qq) (he : (qq ∧ F13_w rr = F13_w rr) = Good (evT E0 Go.Am.T0 50 40 13 [.agg [.int .i64 an, .bool ap, .bool au], .agg [.int .i64 bn, .bool bp, .bool bu]] (S1 (bo nb mb))) (F13_w rr)) (hr : flatR (F13_w rr) = true) : Told prog E0 13 (F13_l an ap au bn bp bu) (F13_w rr) := told_run mixed envOk fnOk globFlat Go.Am.T0_ok (bo nb mb) (he.mp ⟨hq, rfl⟩) rfl hr
theorem F13_told (an : Int) (ap au : Bool) (bn : Int) (bp bu : Bool) : Told prog E0 13 (F13_l an ap au bn bp bu) (F13_w (F13 an ap au bn bp bu)) := by
 unfold F13
 exact (cnd (f := F13_w) (fun h0 =>
 (F13_r an ap au bn bp bu 9 511 _ _ (t5 (A h0 (A h0 (A h0 (A h0 (t3 Z)))))) (by kernel_rfl) rfl)) fun h0 =>
 (cnd (f := F13_w) (fun h1 =>
 (F13_r an ap au bn bp bu 9 496 _ _ (A h1 (A h1 (A h1 (A h1 (A h1 (A h0 (A h0 (t1 (A h0 (t1 (A h0 (t3 Z)))))))))))) (by kernel_rfl) rfl)) fun h1 =>
 (cnd (f := F13_w) (fun h2 =>
 (F13_r an ap au bn bp bu 13 2944 _ _ (A h1 (A h2 (A h1 (A h2 (t1 (A h2 (A h2 (A h1 (t1 (A h1 (A h1 (A h0 (A h0 (t1 (A h0 (t1 (A h0 (t3 Z)))))))))))))))))) (by kernel_rfl) rfl)) fun h2 =>
 (F13_r an ap au bn bp bu 13 0 _ _ (A h1 (A h2 (A h1 (A h2 (A h2 (A h2 (A h1 (t1 (A h1 (A h1 (A h0 (A h0 (t1 (A h0 (t1 (A h0 (t3 Z))))))))))))))))) (by kernel_rfl) rfl))))
noncomputable def F13_c : List DV → M ORes := fun l => match l with
  | [.agg [.int .i64 an, .bool ap, .bool au], .agg [.int .i64 bn, .bool bp, .bool bu]] => M.pure (F13_w (F13 an ap au bn bp bu))
  | _ => M.fail
theorem F13_ok : ConOk prog E0 13 F13_c := conOk_told (fn := f13) (by kernel_rfl) envOk (by kernel_rfl) fun l => by
  unfold F13_c
  split
  · exact .inl ⟨_, rfl, (fun _ _ _ h => by cases h), F13_told _ _ _ _ _ _⟩
  · exact .inr rfl
noncomputable def F24 (an : Int) (ap au : Bool) (bn : Int) (bp bu : Bool) : Bool := (cond (bp) (Bool.true) ((cond (bu) (!ap) (bif Go.Am.ieq an bn then bif bif ap then bp else !bp then bif bif au then bu else !bu then Bool.true else Bool.false else Bool.false else Bool.false))))
def F24_w (x : Bool) : ORes := .val (DV.bool (x))
abbrev F24_l (an : Int) (ap au : Bool) (bn : Int) (bp bu : Bool) : List DV := [.agg [.int .i64 an, .bool ap, .bool au], .agg [.int .i64 bn, .bool bp, .bool bu]]
theorem F24_r (an : Int) (ap au : Bool) (bn : Int) (bp bu : Bool) (nb mb : Nat) (qq : Prop) (rr : Bool) (hq : qq) (he : (qq ∧ F24_w rr = F24_w rr) = Good (evT E0 Go.Am.T0 50 40 24 [.agg [.int .i64 an, .bool ap, .bool au], .agg [.int .i64 bn, .bool bp, .bool bu]] (S1 (bo nb mb))) (F24_w rr)) (hr : flatR (F24_w rr) = true) : Told prog E0 24 (F24_l an ap au bn bp bu) (F24_w rr) := told_run mixed envOk fnOk globFlat Go.Am.T0_ok (bo nb mb) (he.mp ⟨hq, rfl⟩) rfl hr
theorem F24_told (an : Int) (ap au : Bool) (bn : Int) (bp bu : Bool) : Told prog E0 24 (F24_l an ap au bn bp bu) (F24_w (F24 an ap au bn bp bu)) := by
 unfold F24
 exact (cnd (f := F24_w) (fun h0 =>
 (F24_r an ap au bn bp bu 1 1 _ _ (A h0 (t3 Z)) (by kernel_rfl) rfl)) fun h0 =>
 (cnd (f := F24_w) (fun h1 =>
 (F24_r an ap au bn bp bu 2 2 _ _ (t1 (A h1 (t1 (A h0 (t3 Z))))) (by kernel_rfl) rfl)) fun h1 =>
 (F24_r an ap au bn bp bu 2 0 _ _ (t2 (A h1 (t1 (A h0 (t3 Z))))) (by kernel_rfl) rfl)))
noncomputable def F24_c : List DV → M ORes := fun l => match l with
  | [.agg [.int .i64 an, .bool ap, .bool au], .agg [.int .i64 bn, .bool bp, .bool bu]] => M.pure (F24_w (F24 an ap au bn bp bu))
  | _ => M.fail
theorem F24_ok : ConOk prog E0 24 F24_c := conOk_told (fn := f24) (by kernel_rfl) envOk (by kernel_rfl) fun l => by
  unfold F24_c
  split
  · exact .inl ⟨_, rfl, (fun _ _ _ h => by cases h), F24_told _ _ _ _ _ _⟩
  · exact .inr rfl
noncomputable def F22 (an : Int) (ap au : Bool) (t : Int) : Bool := (cond (ieq t 0) ((cond (ap) ((cond (bif Go.Am.ieq an (Int.ofNat 0) then bif bif ap then Bool.true else !Bool.true then bif bif au then Bool.false else !Bool.false then Bool.true else Bool.false else Bool.false else Bool.false) (Bool.true) (bif Go.Am.ieq an (Int.ofNat 0) then bif bif ap then Bool.false else !Bool.false then bif bif au then Bool.true else !Bool.true then Bool.true else Bool.false else Bool.false else Bool.false))) ((cond (au) ((cond (bif Go.Am.ieq an (Int.ofNat 0) then bif bif ap then Bool.true else !Bool.true then bif bif au then Bool.false else !Bool.false then Bool.true else Bool.false else Bool.false else Bool.false) (Bool.true) (bif Go.Am.ieq an (Int.ofNat 0) then bif bif ap then Bool.false else !Bool.false then bif bif au then Bool.true else !Bool.true then Bool.true else Bool.false else Bool.false else Bool.false))) (Go.Am.ieq (Int.ofNat 0) an))))) ((cond (ieq t 1) ((cond (ap) ((cond (bif Go.Am.ieq an (Int.ofNat 0) then bif bif ap then Bool.true else !Bool.true then bif bif au then Bool.false else !Bool.false then Bool.true else Bool.false else Bool.false else Bool.false) (Bool.true) (bif Go.Am.ieq an (Int.ofNat 0) then bif bif ap then Bool.false else !Bool.false then bif bif au then Bool.true else !Bool.true then Bool.true else Bool.false else Bool.false else Bool.false))) ((cond (au) ((cond (bif Go.Am.ieq an (Int.ofNat 0) then bif bif ap then Bool.true else !Bool.true then bif bif au then Bool.false else !Bool.false then Bool.true else Bool.false else Bool.false else Bool.false) (Bool.true) (bif Go.Am.ieq an (Int.ofNat 0) then bif bif ap then Bool.false else !Bool.false then bif bif au then Bool.true else !Bool.true then Bool.true else Bool.false else Bool.false else Bool.false))) (Go.Am.ieq (Go.Am.iwr Go.IntKind.i64 (Int.ofNat (Nat.land (Go.Am.ub Go.IntKind.i64 an) (Go.Am.ub Go.IntKind.i64 1)))) an))))) ((cond (ieq t 2) ((cond (ap) ((cond (bif Go.Am.ieq an (Int.ofNat 0) then bif bif ap then Bool.true else !Bool.true then bif bif au then Bool.false else !Bool.false then Bool.true else Bool.false else Bool.false else Bool.false) (Bool.true) (bif Go.Am.ieq an (Int.ofNat 0) then bif bif ap then Bool.false else !Bool.false then bif bif au then Bool.true else !Bool.true then Bool.true else Bool.false else Bool.false else Bool.false))) ((cond (au) ((cond (bif Go.Am.ieq an (Int.ofNat 0) then bif bif ap then Bool.true else !Bool.true then bif bif au then Bool.false else !Bool.false then Bool.true else Bool.false else Bool.false else Bool.false) (Bool.true) (bif Go.Am.ieq an (Int.ofNat 0) then bif bif ap then Bool.false else !Bool.false then bif bif au then Bool.true else !Bool.true then Bool.true else Bool.false else Bool.false else Bool.false))) (Go.Am.ieq (Int.fdiv (Go.Am.iwr Go.IntKind.i64 (an * Int.ofNat (2 ^ Min.min (Int.toNat (Int.ofNat 56)) (Go.Am.ibits Go.IntKind.i64)))) (Int.ofNat (2 ^ Min.min (Int.toNat (Int.ofNat 56)) (Go.Am.ibits Go.IntKind.i64)))) an))))) ((cond (ieq t 3) ((cond (ap) ((cond (bif Go.Am.ieq an (Int.ofNat 0) then bif bif ap then Bool.true else !Bool.true then bif bif au then Bool.false else !Bool.false then Bool.true else Bool.false else Bool.false else Bool.false) (Bool.true) (bif Go.Am.ieq an (Int.ofNat 0) then bif bif ap then Bool.false else !Bool.false then bif bif au then Bool.true else !Bool.true then Bool.true else Bool.false else Bool.false else Bool.false))) ((cond (au) ((cond (bif Go.Am.ieq an (Int.ofNat 0) then bif bif ap then Bool.true else !Bool.true then bif bif au then Bool.false else !Bool.false then Bool.true else Bool.false else Bool.false else Bool.false) (Bool.true) (bif Go.Am.ieq an (Int.ofNat 0) then bif bif ap then Bool.false else !Bool.false then bif bif au then Bool.true else !Bool.true then Bool.true else Bool.false else Bool.false else Bool.false))) (Go.Am.ieq (Int.fdiv (Go.Am.iwr Go.IntKind.i64 (an * Int.ofNat (2 ^ Min.min (Int.toNat (Int.ofNat 32)) (Go.Am.ibits Go.IntKind.i64)))) (Int.ofNat (2 ^ Min.min (Int.toNat (Int.ofNat 32)) (Go.Am.ibits Go.IntKind.i64)))) an))))) ((cond (ieq t 4) ((cond (ap) ((cond (bif Go.Am.ieq an (Int.ofNat 0) then bif bif ap then Bool.true else !Bool.true then bif bif au then Bool.false else !Bool.false then Bool.true else Bool.false else Bool.false else Bool.false) (Bool.true) (bif Go.Am.ieq an (Int.ofNat 0) then bif bif ap then Bool.false else !Bool.false then bif bif au then Bool.true else !Bool.true then Bool.true else Bool.false else Bool.false else Bool.false))) ((cond (au) ((cond (bif Go.Am.ieq an (Int.ofNat 0) then bif bif ap then Bool.true else !Bool.true then bif bif au then Bool.false else !Bool.false then Bool.true else Bool.false else Bool.false else Bool.false) (Bool.true) (bif Go.Am.ieq an (Int.ofNat 0) then bif bif ap then Bool.false else !Bool.false then bif bif au then Bool.true else !Bool.true then Bool.true else Bool.false else Bool.false else Bool.false))) (Go.Am.ieq (Int.fdiv (Go.Am.iwr Go.IntKind.i64 (an * Int.ofNat (2 ^ Min.min (Int.toNat (Int.ofNat 0)) (Go.Am.ibits Go.IntKind.i64)))) (Int.ofNat (2 ^ Min.min (Int.toNat (Int.ofNat 0)) (Go.Am.ibits Go.IntKind.i64)))) an))))) ((cond (ieq t 5) ((cond (ap) ((cond (bif Go.Am.ieq an (Int.ofNat 0) then bif bif ap then Bool.true else !Bool.true then bif bif au then Bool.false else !Bool.false then Bool.true else Bool.false else Bool.false else Bool.false) (Bool.true) (bif Go.Am.ieq an (Int.ofNat 0) then bif bif ap then Bool.false else !Bool.false then bif bif au then Bool.true else !Bool.true then Bool.true else Bool.false else Bool.false else Bool.false))) ((cond (au) ((cond (bif Go.Am.ieq an (Int.ofNat 0) then bif bif ap then Bool.true else !Bool.true then bif bif au then Bool.false else !Bool.false then Bool.true else Bool.false else Bool.false else Bool.false) (Bool.true) (bif Go.Am.ieq an (Int.ofNat 0) then bif bif ap then Bool.false else !Bool.false then bif bif au then Bool.true else !Bool.true then Bool.true else Bool.false else Bool.false else Bool.false))) (Go.Am.ieq (Int.ofNat 0) an))))) ((cond (ieq t 6) ((cond (ap) ((cond (bif Go.Am.ieq an (Int.ofNat 0) then bif bif ap then Bool.true else !Bool.true then bif bif au then Bool.false else !Bool.false then Bool.true else Bool.false else Bool.false else Bool.false) (Bool.true) (bif Go.Am.ieq an (Int.ofNat 0) then bif bif ap then Bool.false else !Bool.false then bif bif au then Bool.true else !Bool.true then Bool.true else Bool.false else Bool.false else Bool.false))) ((cond (au) ((cond (bif Go.Am.ieq an (Int.ofNat 0) then bif bif ap then Bool.true else !Bool.true then bif bif au then Bool.false else !Bool.false then Bool.true else Bool.false else Bool.false else Bool.false) (Bool.true) (bif Go.Am.ieq an (Int.ofNat 0) then bif bif ap then Bool.false else !Bool.false then bif bif au then Bool.true else !Bool.true then Bool.true else Bool.false else Bool.false else Bool.false))) (Go.Am.ieq (Int.ofNat 0) an))))) ((cond (ieq t 7) ((cond (ap) ((cond (bif Go.Am.ieq an (Int.ofNat 0) then bif bif ap then Bool.true else !Bool.true then bif bif au then Bool.false else !Bool.false then Bool.true else Bool.false else Bool.false else Bool.false) (Bool.true) (bif Go.Am.ieq an (Int.ofNat 0) then bif bif ap then Bool.false else !Bool.false then bif bif au then Bool.true else !Bool.true then Bool.true else Bool.false else Bool.false else Bool.false))) ((cond (au) ((cond (bif Go.Am.ieq an (Int.ofNat 0) then bif bif ap then Bool.true else !Bool.true then bif bif au then Bool.false else !Bool.false then Bool.true else Bool.false else Bool.false else Bool.false) (Bool.true) (bif Go.Am.ieq an (Int.ofNat 0) then bif bif ap then Bool.false else !Bool.false then bif bif au then Bool.true else !Bool.true then Bool.true else Bool.false else Bool.false else Bool.false))) (Go.Am.ieq (Int.ofNat 0) an))))) ((cond (ap) ((cond (bif Go.Am.ieq an (Int.ofNat 0) then bif bif ap then Bool.true else !Bool.true then bif bif au then Bool.false else !Bool.false then Bool.true else Bool.false else Bool.false else Bool.false) (Bool.true) (bif Go.Am.ieq an (Int.ofNat 0) then bif bif ap then Bool.false else !Bool.false then bif bif au then Bool.true else !Bool.true then Bool.true else Bool.false else Bool.false else Bool.false))) ((cond (au) ((cond (bif Go.Am.ieq an (Int.ofNat 0) then bif bif ap then Bool.true else !Bool.true then bif bif au then Bool.false else !Bool.false then Bool.true else Bool.false else Bool.false else Bool.false) (Bool.true) (bif Go.Am.ieq an (Int.ofNat 0) then bif bif ap then Bool.false else !Bool.false then bif bif au then Bool.true else !Bool.true then Bool.true else Bool.false else Bool.false else Bool.false))) ((cond (Go.Am.ilt t 0) (Go.Am.ieq (Int.ofNat 0) an) ((cond (Go.Am.ilt t 5) ((cond (bif Go.Am.ilt t 0 then Bool.false else (fun m ↦ Nat.blt m 5) (Int.toNat t)) (default) (default))) (Go.Am.ieq (Int.ofNat 0) an))))))))))))))))))))))))
def F22_w (x : Bool) : ORes := .val (DV.bool (x))
abbrev F22_l (an : Int) (ap au : Bool) (t : Int) : List DV := [.agg [.int .i64 an, .bool ap, .bool au], .int .i64 t]
theorem F22_r (an : Int) (ap au : Bool) (t : Int) (nb mb : Nat) (qq : Prop) (rr : Bool) (hq : qq) (he : (qq ∧ F22_w rr = F22_w rr) = Good (evT E0 Go.Am.T0 50 40 22 [.agg [.int .i64 an, .bool ap, .bool au], .int .i64 t] (S1 (bo nb mb))) (F22_w rr)) (hr : flatR (F22_w rr) = true) : Told prog E0 22 (F22_l an ap au t) (F22_w rr) := told_run mixed envOk fnOk globFlat Go.Am.T0_ok (bo nb mb) (he.mp ⟨hq, rfl⟩) rfl hr
theorem F22_told (an : Int) (ap au : Bool) (t : Int) : Told prog E0 22 (F22_l an ap au t) (F22_w (F22 an ap au t)) := by
 unfold F22
 exact (cndS (f := F22_w) (l := fun t => F22_l an ap au t) (
 (cnd (f := F22_w) (fun h1 =>
 (cnd (f := F22_w) (fun h2 =>
 (F22_r an ap au 0 8 255 _ _ (A h2 (A h2 (A h2 (A h2 (t3 (A h1 (A h1 (A h1 (t2 Z))))))))) (by kernel_rfl) rfl)) fun h2 =>
 (F22_r an ap au 0 8 15 _ _ (A h2 (A h2 (t1 (A h2 (t1 (A h2 (t3 (A h1 (A h1 (A h1 (t2 Z))))))))))) (by kernel_rfl) rfl))) fun h1 =>
 (cnd (f := F22_w) (fun h2 =>
 (cnd (f := F22_w) (fun h3 =>
 (F22_r an ap au 0 8 248 _ _ (A h3 (A h3 (A h3 (A h3 (t2 (A h2 (A h1 (t1 (A h1 (A h1 (t2 Z))))))))))) (by kernel_rfl) rfl)) fun h3 =>
 (F22_r an ap au 0 8 8 _ _ (A h3 (A h3 (t1 (A h3 (t1 (A h3 (t2 (A h2 (A h1 (t1 (A h1 (A h1 (t2 Z))))))))))))) (by kernel_rfl) rfl))) fun h2 =>
 (F22_r an ap au 0 9 256 _ _ (t6 (u2 (t1 (u2 (t2 (A h2 (A h1 (t1 (A h1 (A h1 (t2 Z))))))))))) (by kernel_rfl) rfl)))) fun h0 =>
 (cndS (f := F22_w) (l := fun t => F22_l an ap au t) (
 (cnd (f := F22_w) (fun h2 =>
 (cnd (f := F22_w) (fun h3 =>
 (F22_r an ap au 1 8 255 _ _ (A h3 (A h3 (A h3 (A h3 (t3 (A h2 (A h2 (A h2 (t2 Z))))))))) (by kernel_rfl) rfl)) fun h3 =>
 (F22_r an ap au 1 8 15 _ _ (A h3 (A h3 (t1 (A h3 (t1 (A h3 (t3 (A h2 (A h2 (A h2 (t2 Z))))))))))) (by kernel_rfl) rfl))) fun h2 =>
 (cnd (f := F22_w) (fun h3 =>
 (cnd (f := F22_w) (fun h4 =>
 (F22_r an ap au 1 8 248 _ _ (A h4 (A h4 (A h4 (A h4 (t2 (A h3 (A h2 (t1 (A h2 (A h2 (t2 Z))))))))))) (by kernel_rfl) rfl)) fun h4 =>
 (F22_r an ap au 1 8 8 _ _ (A h4 (A h4 (t1 (A h4 (t1 (A h4 (t2 (A h3 (A h2 (t1 (A h2 (A h2 (t2 Z))))))))))))) (by kernel_rfl) rfl))) fun h3 =>
 (F22_r an ap au 1 10 512 _ _ (t6 (u1 (t2 (u2 (t1 (u2 (t2 (A h3 (A h2 (t1 (A h2 (A h2 (t2 Z))))))))))))) (by kernel_rfl) rfl)))) fun h1 =>
 (cndS (f := F22_w) (l := fun t => F22_l an ap au t) (
 (cnd (f := F22_w) (fun h3 =>
 (cnd (f := F22_w) (fun h4 =>
 (F22_r an ap au 2 8 255 _ _ (A h4 (A h4 (A h4 (A h4 (t3 (A h3 (A h3 (A h3 (t2 Z))))))))) (by kernel_rfl) rfl)) fun h4 =>
 (F22_r an ap au 2 8 15 _ _ (A h4 (A h4 (t1 (A h4 (t1 (A h4 (t3 (A h3 (A h3 (A h3 (t2 Z))))))))))) (by kernel_rfl) rfl))) fun h3 =>
 (cnd (f := F22_w) (fun h4 =>
 (cnd (f := F22_w) (fun h5 =>
 (F22_r an ap au 2 8 248 _ _ (A h5 (A h5 (A h5 (A h5 (t2 (A h4 (A h3 (t1 (A h3 (A h3 (t2 Z))))))))))) (by kernel_rfl) rfl)) fun h5 =>
 (F22_r an ap au 2 8 8 _ _ (A h5 (A h5 (t1 (A h5 (t1 (A h5 (t2 (A h4 (A h3 (t1 (A h3 (A h3 (t2 Z))))))))))))) (by kernel_rfl) rfl))) fun h4 =>
 (F22_r an ap au 2 10 0 _ _ (t7 (u1 (t1 (u1 (t2 (u2 (t1 (u2 (t2 (A h4 (A h3 (t1 (A h3 (A h3 (t2 Z))))))))))))))) (by kernel_rfl) rfl)))) fun h2 =>
 (cndS (f := F22_w) (l := fun t => F22_l an ap au t) (
 (cnd (f := F22_w) (fun h4 =>
 (cnd (f := F22_w) (fun h5 =>
 (F22_r an ap au 3 8 255 _ _ (A h5 (A h5 (A h5 (A h5 (t3 (A h4 (A h4 (A h4 (t2 Z))))))))) (by kernel_rfl) rfl)) fun h5 =>
 (F22_r an ap au 3 8 15 _ _ (A h5 (A h5 (t1 (A h5 (t1 (A h5 (t3 (A h4 (A h4 (A h4 (t2 Z))))))))))) (by kernel_rfl) rfl))) fun h4 =>
 (cnd (f := F22_w) (fun h5 =>
 (cnd (f := F22_w) (fun h6 =>
 (F22_r an ap au 3 8 248 _ _ (A h6 (A h6 (A h6 (A h6 (t2 (A h5 (A h4 (t1 (A h4 (A h4 (t2 Z))))))))))) (by kernel_rfl) rfl)) fun h6 =>
 (F22_r an ap au 3 8 8 _ _ (A h6 (A h6 (t1 (A h6 (t1 (A h6 (t2 (A h5 (A h4 (t1 (A h4 (A h4 (t2 Z))))))))))))) (by kernel_rfl) rfl))) fun h5 =>
 (F22_r an ap au 3 10 0 _ _ (t7 (u1 (t1 (u1 (t2 (u2 (t1 (u2 (t2 (A h5 (A h4 (t1 (A h4 (A h4 (t2 Z))))))))))))))) (by kernel_rfl) rfl)))) fun h3 =>
 (cndS (f := F22_w) (l := fun t => F22_l an ap au t) (
 (cnd (f := F22_w) (fun h5 =>
 (cnd (f := F22_w) (fun h6 =>
 (F22_r an ap au 4 8 255 _ _ (A h6 (A h6 (A h6 (A h6 (t3 (A h5 (A h5 (A h5 (t2 Z))))))))) (by kernel_rfl) rfl)) fun h6 =>
 (F22_r an ap au 4 8 15 _ _ (A h6 (A h6 (t1 (A h6 (t1 (A h6 (t3 (A h5 (A h5 (A h5 (t2 Z))))))))))) (by kernel_rfl) rfl))) fun h5 =>
 (cnd (f := F22_w) (fun h6 =>
 (cnd (f := F22_w) (fun h7 =>
 (F22_r an ap au 4 8 248 _ _ (A h7 (A h7 (A h7 (A h7 (t2 (A h6 (A h5 (t1 (A h5 (A h5 (t2 Z))))))))))) (by kernel_rfl) rfl)) fun h7 =>
 (F22_r an ap au 4 8 8 _ _ (A h7 (A h7 (t1 (A h7 (t1 (A h7 (t2 (A h6 (A h5 (t1 (A h5 (A h5 (t2 Z))))))))))))) (by kernel_rfl) rfl))) fun h6 =>
 (F22_r an ap au 4 10 0 _ _ (t7 (u1 (t1 (u1 (t2 (u2 (t1 (u2 (t2 (A h6 (A h5 (t1 (A h5 (A h5 (t2 Z))))))))))))))) (by kernel_rfl) rfl)))) fun h4 =>
 (cndS (f := F22_w) (l := fun t => F22_l an ap au t) (
 (cnd (f := F22_w) (fun h6 =>
 (cnd (f := F22_w) (fun h7 =>
 (F22_r an ap au 5 8 255 _ _ (A h7 (A h7 (A h7 (A h7 (t3 (A h6 (A h6 (A h6 (t2 Z))))))))) (by kernel_rfl) rfl)) fun h7 =>
 (F22_r an ap au 5 8 15 _ _ (A h7 (A h7 (t1 (A h7 (t1 (A h7 (t3 (A h6 (A h6 (A h6 (t2 Z))))))))))) (by kernel_rfl) rfl))) fun h6 =>
 (cnd (f := F22_w) (fun h7 =>
 (cnd (f := F22_w) (fun h8 =>
 (F22_r an ap au 5 8 248 _ _ (A h8 (A h8 (A h8 (A h8 (t2 (A h7 (A h6 (t1 (A h6 (A h6 (t2 Z))))))))))) (by kernel_rfl) rfl)) fun h8 =>
 (F22_r an ap au 5 8 8 _ _ (A h8 (A h8 (t1 (A h8 (t1 (A h8 (t2 (A h7 (A h6 (t1 (A h6 (A h6 (t2 Z))))))))))))) (by kernel_rfl) rfl))) fun h7 =>
 (F22_r an ap au 5 9 384 _ _ (t6 (u1 (t1 (u2 (t2 (A h7 (A h6 (t1 (A h6 (A h6 (t2 Z))))))))))) (by kernel_rfl) rfl)))) fun h5 =>
 (cndS (f := F22_w) (l := fun t => F22_l an ap au t) (
 (cnd (f := F22_w) (fun h7 =>
 (cnd (f := F22_w) (fun h8 =>
 (F22_r an ap au 6 8 255 _ _ (A h8 (A h8 (A h8 (A h8 (t3 (A h7 (A h7 (A h7 (t2 Z))))))))) (by kernel_rfl) rfl)) fun h8 =>
 (F22_r an ap au 6 8 15 _ _ (A h8 (A h8 (t1 (A h8 (t1 (A h8 (t3 (A h7 (A h7 (A h7 (t2 Z))))))))))) (by kernel_rfl) rfl))) fun h7 =>
 (cnd (f := F22_w) (fun h8 =>
 (cnd (f := F22_w) (fun h9 =>
 (F22_r an ap au 6 8 248 _ _ (A h9 (A h9 (A h9 (A h9 (t2 (A h8 (A h7 (t1 (A h7 (A h7 (t2 Z))))))))))) (by kernel_rfl) rfl)) fun h9 =>
 (F22_r an ap au 6 8 8 _ _ (A h9 (A h9 (t1 (A h9 (t1 (A h9 (t2 (A h8 (A h7 (t1 (A h7 (A h7 (t2 Z))))))))))))) (by kernel_rfl) rfl))) fun h8 =>
 (F22_r an ap au 6 9 384 _ _ (t6 (u1 (t1 (u2 (t2 (A h8 (A h7 (t1 (A h7 (A h7 (t2 Z))))))))))) (by kernel_rfl) rfl)))) fun h6 =>
 (cndS (f := F22_w) (l := fun t => F22_l an ap au t) (
 (cnd (f := F22_w) (fun h8 =>
 (cnd (f := F22_w) (fun h9 =>
 (F22_r an ap au 7 8 255 _ _ (A h9 (A h9 (A h9 (A h9 (t3 (A h8 (A h8 (A h8 (t2 Z))))))))) (by kernel_rfl) rfl)) fun h9 =>
 (F22_r an ap au 7 8 15 _ _ (A h9 (A h9 (t1 (A h9 (t1 (A h9 (t3 (A h8 (A h8 (A h8 (t2 Z))))))))))) (by kernel_rfl) rfl))) fun h8 =>
 (cnd (f := F22_w) (fun h9 =>
 (cnd (f := F22_w) (fun h10 =>
 (F22_r an ap au 7 8 248 _ _ (A h10 (A h10 (A h10 (A h10 (t2 (A h9 (A h8 (t1 (A h8 (A h8 (t2 Z))))))))))) (by kernel_rfl) rfl)) fun h10 =>
 (F22_r an ap au 7 8 8 _ _ (A h10 (A h10 (t1 (A h10 (t1 (A h10 (t2 (A h9 (A h8 (t1 (A h8 (A h8 (t2 Z))))))))))))) (by kernel_rfl) rfl))) fun h9 =>
 (F22_r an ap au 7 9 384 _ _ (t6 (u1 (t1 (u2 (t2 (A h9 (A h8 (t1 (A h8 (A h8 (t2 Z))))))))))) (by kernel_rfl) rfl)))) fun h7 =>
 (cnd (f := F22_w) (fun h8 =>
 (cnd (f := F22_w) (fun h9 =>
 (F22_r an ap au t 8 255 _ _ (A h9 (A h9 (A h9 (A h9 (t3 (A h8 (A h8 (A h8 (t2 Z))))))))) (by kernel_rfl) rfl)) fun h9 =>
 (F22_r an ap au t 8 15 _ _ (A h9 (A h9 (t1 (A h9 (t1 (A h9 (t3 (A h8 (A h8 (A h8 (t2 Z))))))))))) (by kernel_rfl) rfl))) fun h8 =>
 (cnd (f := F22_w) (fun h9 =>
 (cnd (f := F22_w) (fun h10 =>
 (F22_r an ap au t 8 248 _ _ (A h10 (A h10 (A h10 (A h10 (t2 (A h9 (A h8 (t1 (A h8 (A h8 (t2 Z))))))))))) (by kernel_rfl) rfl)) fun h10 =>
 (F22_r an ap au t 8 8 _ _ (A h10 (A h10 (t1 (A h10 (t1 (A h10 (t2 (A h9 (A h8 (t1 (A h8 (A h8 (t2 Z))))))))))))) (by kernel_rfl) rfl))) fun h9 =>
 (cnd (f := F22_w) (fun h10 =>
 (F22_r an ap au t 9 496 _ _ (t6 (A h10 (A h10 (A h10 (t2 (A h9 (A h8 (t1 (A h8 (A h8 (t2 Z))))))))))) (by kernel_rfl) rfl)) fun h10 =>
 (cnd (f := F22_w) (fun h11 =>
 (cnd (f := F22_w) (fun h12 =>
 (by exfalso; simp only [ieq_eq, ilt_eq, idxc, decide_eq_true_eq, decide_eq_false_iff_not] at *; omega)) fun h12 =>
 (by exfalso; simp only [ieq_eq, ilt_eq, idxc, decide_eq_true_eq, decide_eq_false_iff_not] at *; omega))) fun h11 =>
 (F22_r an ap au t 9 384 _ _ (t5 (A (nt h11) (A h10 (t1 (A h10 (A h10 (t2 (A h9 (A h8 (t1 (A h8 (A h8 (t2 Z))))))))))))) (by kernel_rfl) rfl)))))))))))))
noncomputable def F22_c : List DV → M ORes := fun l => match l with
  | [.agg [.int .i64 an, .bool ap, .bool au], .int .i64 t] => M.pure (F22_w (F22 an ap au t))
  | _ => M.fail
theorem F22_ok : ConOk prog E0 22 F22_c := conOk_told (fn := f22) (by kernel_rfl) envOk (by kernel_rfl) fun l => by
  unfold F22_c
  split
  · exact .inl ⟨_, rfl, (fun _ _ _ h => by cases h), F22_told _ _ _ _⟩
  · exact .inr rfl
noncomputable def F12 (t : Int) : Int := (cond (Go.Am.ieq t 1) (Int.ofNat 1) ((cond (Go.Am.ieq t 2) (Int.ofNat 1) ((cond (Go.Am.ieq t 3) (Int.ofNat 1) ((cond (Go.Am.ieq t 4) (Int.ofNat 1) ((cond (Go.Am.ieq t 5) (Int.ofNat 1) ((cond (Go.Am.ieq t 6) (Int.ofNat 2) ((cond (Go.Am.ieq t 7) (Int.ofNat 4) (Int.ofNat 0))))))))))))))
def F12_w (x : Int) : ORes := .val (DV.int Go.IntKind.i64 (x))
abbrev F12_l (t : Int) : List DV := [.int .i64 t]
theorem F12_r (t : Int) (nb mb : Nat) (qq : Prop) (rr : Int) (hq : qq) (he : (qq ∧ F12_w rr = F12_w rr) = Good (evT E0 Go.Am.T0 50 40 12 [.int .i64 t] (S1 (bo nb mb))) (F12_w rr)) (hr : flatR (F12_w rr) = true) : Told prog E0 12 (F12_l t) (F12_w rr) := told_run mixed envOk fnOk globFlat Go.Am.T0_ok (bo nb mb) (he.mp ⟨hq, rfl⟩) rfl hr
theorem F12_told (t : Int) : Told prog E0 12 (F12_l t) (F12_w (F12 t)) := by
 unfold F12
 exact (cnd (f := F12_w) (fun h0 =>
 (F12_r t 2 3 _ _ (A h0 (A h0 (t1 Z))) (by kernel_rfl) rfl)) fun h0 =>
 (cnd (f := F12_w) (fun h1 =>
 (F12_r t 3 6 _ _ (A h1 (A h1 (t1 (A h0 (t1 Z))))) (by kernel_rfl) rfl)) fun h1 =>
 (cnd (f := F12_w) (fun h2 =>
 (F12_r t 4 12 _ _ (A h2 (A h2 (t1 (A h1 (t1 (A h0 (t1 Z))))))) (by kernel_rfl) rfl)) fun h2 =>
 (cnd (f := F12_w) (fun h3 =>
 (F12_r t 5 24 _ _ (A h3 (A h3 (t1 (A h2 (t1 (A h1 (t1 (A h0 (t1 Z))))))))) (by kernel_rfl) rfl)) fun h3 =>
 (cnd (f := F12_w) (fun h4 =>
 (F12_r t 5 16 _ _ (A h4 (t1 (A h3 (t1 (A h2 (t1 (A h1 (t1 (A h0 (t1 Z)))))))))) (by kernel_rfl) rfl)) fun h4 =>
 (cnd (f := F12_w) (fun h5 =>
 (F12_r t 6 32 _ _ (A h5 (t1 (A h4 (t1 (A h3 (t1 (A h2 (t1 (A h1 (t1 (A h0 (t1 Z)))))))))))) (by kernel_rfl) rfl)) fun h5 =>
 (cnd (f := F12_w) (fun h6 =>
 (F12_r t 7 64 _ _ (A h6 (t1 (A h5 (t1 (A h4 (t1 (A h3 (t1 (A h2 (t1 (A h1 (t1 (A h0 (t1 Z)))))))))))))) (by kernel_rfl) rfl)) fun h6 =>
 (F12_r t 7 0 _ _ (A h6 (t1 (A h5 (t1 (A h4 (t1 (A h3 (t1 (A h2 (t1 (A h1 (t1 (A h0 (t1 Z)))))))))))))) (by kernel_rfl) rfl))))))))
noncomputable def F12_c : List DV → M ORes := fun l => match l with
  | [.int .i64 t] => M.pure (F12_w (F12 t))
  | _ => M.fail
theorem F12_ok : ConOk prog E0 12 F12_c := conOk_told (fn := f12) (by kernel_rfl) envOk (by kernel_rfl) fun l => by
  unfold F12_c
  split
  · exact .inl ⟨_, rfl, (fun _ _ _ h => by cases h), F12_told _⟩
  · exact .inr rfl
noncomputable def F14 (t : Int) : Int := (cond (Go.Am.ilt t 1) ((cond (Go.Am.ieq t 5) (Int.ofNat 1) ((cond (Go.Am.ieq t 6) (Int.ofNat 2) ((cond (Go.Am.ieq t 7) (Int.ofNat 4) (Int.ofNat 0))))))) ((cond (Go.Am.ilt 4 t) ((cond (Go.Am.ieq t 5) (Int.ofNat 1) ((cond (Go.Am.ieq t 6) (Int.ofNat 2) ((cond (Go.Am.ieq t 7) (Int.ofNat 4) (Int.ofNat 0))))))) (Int.ofNat 1))))
def F14_w (x : Int) : ORes := .val (DV.int Go.IntKind.i64 (x))
abbrev F14_l (t : Int) : List DV := [.int .i64 t]
theorem F14_r (t : Int) (nb mb : Nat) (qq : Prop) (rr : Int) (hq : qq) (he : (qq ∧ F14_w rr = F14_w rr) = Good (evT E0 Go.Am.T0 50 40 14 [.int .i64 t] (S1 (bo nb mb))) (F14_w rr)) (hr : flatR (F14_w rr) = true) : Told prog E0 14 (F14_l t) (F14_w rr) := told_run mixed envOk fnOk globFlat Go.Am.T0_ok (bo nb mb) (he.mp ⟨hq, rfl⟩) rfl hr
theorem F14_told (t : Int) : Told prog E0 14 (F14_l t) (F14_w (F14 t)) := by
 unfold F14
 exact (cnd (f := F14_w) (fun h0 =>
 (cnd (f := F14_w) (fun h1 =>
 (F14_r t 7 64 _ _ (A h1 (u1 (t1 (u2 (A (nt h0) (A (nt h0) (A (nt h0) (t1 Z)))))))) (by kernel_rfl) rfl)) fun h1 =>
 (cnd (f := F14_w) (fun h2 =>
 (F14_r t 8 128 _ _ (A h2 (t1 (A h1 (u1 (t1 (u2 (A (nt h0) (A (nt h0) (A (nt h0) (t1 Z)))))))))) (by kernel_rfl) rfl)) fun h2 =>
 (cnd (f := F14_w) (fun h3 =>
 (F14_r t 9 256 _ _ (A h3 (t1 (A h2 (t1 (A h1 (u1 (t1 (u2 (A (nt h0) (A (nt h0) (A (nt h0) (t1 Z)))))))))))) (by kernel_rfl) rfl)) fun h3 =>
 (F14_r t 9 0 _ _ (A h3 (t1 (A h2 (t1 (A h1 (u1 (t1 (u2 (A (nt h0) (A (nt h0) (A (nt h0) (t1 Z)))))))))))) (by kernel_rfl) rfl))))) fun h0 =>
 (cnd (f := F14_w) (fun h1 =>
 (cnd (f := F14_w) (fun h2 =>
 (F14_r t 7 71 _ _ (A h2 (A (nt h1) (t1 (A (nt h1) (A (nt h1) (A (nt h0) (t1 (A (nt h0) (A (nt h0) (t1 Z)))))))))) (by kernel_rfl) rfl)) fun h2 =>
 (cnd (f := F14_w) (fun h3 =>
 (F14_r t 8 135 _ _ (A h3 (t1 (A h2 (A (nt h1) (t1 (A (nt h1) (A (nt h1) (A (nt h0) (t1 (A (nt h0) (A (nt h0) (t1 Z)))))))))))) (by kernel_rfl) rfl)) fun h3 =>
 (cnd (f := F14_w) (fun h4 =>
 (F14_r t 9 263 _ _ (A h4 (t1 (A h3 (t1 (A h2 (A (nt h1) (t1 (A (nt h1) (A (nt h1) (A (nt h0) (t1 (A (nt h0) (A (nt h0) (t1 Z)))))))))))))) (by kernel_rfl) rfl)) fun h4 =>
 (F14_r t 9 7 _ _ (A h4 (t1 (A h3 (t1 (A h2 (A (nt h1) (t1 (A (nt h1) (A (nt h1) (A (nt h0) (t1 (A (nt h0) (A (nt h0) (t1 Z)))))))))))))) (by kernel_rfl) rfl))))) fun h1 =>
 (F14_r t 7 127 _ _ (t1 (A (nt h1) (A (nt h1) (A (nt h1) (A (nt h0) (t1 (A (nt h0) (A (nt h0) (t1 Z))))))))) (by kernel_rfl) rfl)))
noncomputable def F14_c : List DV → M ORes := fun l => match l with
  | [.int .i64 t] => M.pure (F14_w (F14 t))
  | _ => M.fail
theorem F14_ok : ConOk prog E0 14 F14_c := conOk_told (fn := f14) (by kernel_rfl) envOk (by kernel_rfl) fun l => by
  unfold F14_c
  split
  · exact .inl ⟨_, rfl, (fun _ _ _ h => by cases h), F14_told _⟩
  · exact .inr rfl
noncomputable def F16 (t : Int) : Int := (cond (Go.Am.ieq t 5) (Int.ofNat 4) ((cond (Go.Am.ieq t 6) (Int.ofNat 3) ((cond (Go.Am.ieq t 7) (Int.ofNat 3) (t))))))
def F16_w (x : Int) : ORes := .val (DV.int Go.IntKind.i64 (x))
abbrev F16_l (t : Int) : List DV := [.int .i64 t]
theorem F16_r (t : Int) (nb mb : Nat) (qq : Prop) (rr : Int) (hq : qq) (he : (qq ∧ F16_w rr = F16_w rr) = Good (evT E0 Go.Am.T0 50 40 16 [.int .i64 t] (S1 (bo nb mb))) (F16_w rr)) (hr : flatR (F16_w rr) = true) : Told prog E0 16 (F16_l t) (F16_w rr) := told_run mixed envOk fnOk globFlat Go.Am.T0_ok (bo nb mb) (he.mp ⟨hq, rfl⟩) rfl hr
theorem F16_told (t : Int) : Told prog E0 16 (F16_l t) (F16_w (F16 t)) := by
 unfold F16
 exact (cnd (f := F16_w) (fun h0 =>
 (F16_r t 1 1 _ _ (A h0 (t1 Z)) (by kernel_rfl) rfl)) fun h0 =>
 (cnd (f := F16_w) (fun h1 =>
 (F16_r t 5 30 _ _ (t1 (A h1 (A h1 (A h1 (t1 (A h0 (t1 Z))))))) (by kernel_rfl) rfl)) fun h1 =>
 (cnd (f := F16_w) (fun h2 =>
 (F16_r t 5 16 _ _ (A h2 (A h1 (t1 (A h1 (A h1 (t1 (A h0 (t1 Z)))))))) (by kernel_rfl) rfl)) fun h2 =>
 (F16_r t 5 0 _ _ (A h2 (A h1 (t1 (A h1 (A h1 (t1 (A h0 (t1 Z)))))))) (by kernel_rfl) rfl))))
noncomputable def F16_c : List DV → M ORes := fun l => match l with
  | [.int .i64 t] => M.pure (F16_w (F16 t))
  | _ => M.fail
theorem F16_ok : ConOk prog E0 16 F16_c := conOk_told (fn := f16) (by kernel_rfl) envOk (by kernel_rfl) fun l => by
  unfold F16_c
  split
  · exact .inl ⟨_, rfl, (fun _ _ _ h => by cases h), F16_told _⟩
  · exact .inr rfl
noncomputable def F23 (t : Int) : Int := (cond (Go.Am.ieq t 5) (Int.ofNat 4) ((cond (Go.Am.ieq t 6) (Int.ofNat 3) ((cond (Go.Am.ieq t 7) (Int.ofNat 3) (t))))))
def F23_w (x : Int) : ORes := .val (DV.int Go.IntKind.i64 (x))
abbrev F23_l (t : Int) : List DV := [.int .i64 t]
theorem F23_r (t : Int) (nb mb : Nat) (qq : Prop) (rr : Int) (hq : qq) (he : (qq ∧ F23_w rr = F23_w rr) = Good (evT E0 Go.Am.T0 50 40 23 [.int .i64 t] (S1 (bo nb mb))) (F23_w rr)) (hr : flatR (F23_w rr) = true) : Told prog E0 23 (F23_l t) (F23_w rr) := told_run mixed envOk fnOk globFlat Go.Am.T0_ok (bo nb mb) (he.mp ⟨hq, rfl⟩) rfl hr
theorem F23_told (t : Int) : Told prog E0 23 (F23_l t) (F23_w (F23 t)) := by
 unfold F23
 exact (cnd (f := F23_w) (fun h0 =>
 (F23_r t 1 1 _ _ (A h0 (t1 Z)) (by kernel_rfl) rfl)) fun h0 =>
 (cnd (f := F23_w) (fun h1 =>
 (F23_r t 3 6 _ _ (A h1 (A h1 (t1 (A h0 (t1 Z))))) (by kernel_rfl) rfl)) fun h1 =>
 (cnd (f := F23_w) (fun h2 =>
 (F23_r t 3 4 _ _ (A h2 (t1 (A h1 (t1 (A h0 (t1 Z)))))) (by kernel_rfl) rfl)) fun h2 =>
 (F23_r t 3 0 _ _ (A h2 (t1 (A h1 (t1 (A h0 (t1 Z)))))) (by kernel_rfl) rfl))))
noncomputable def F23_c : List DV → M ORes := fun l => match l with
  | [.int .i64 t] => M.pure (F23_w (F23 t))
  | _ => M.fail
theorem F23_ok : ConOk prog E0 23 F23_c := conOk_told (fn := f23) (by kernel_rfl) envOk (by kernel_rfl) fun l => by
  unfold F23_c
  split
  · exact .inl ⟨_, rfl, (fun _ _ _ h => by cases h), F23_told _⟩
  · exact .inr rfl
end Go.Am
