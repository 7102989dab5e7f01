/- Pl: texts behind the claim: printed by a program of this work, or a plain lemma of it. -/
import Derived.Test.YtbaakikdmbehjaaDoorV4
set_option linter.unusedVariables false
set_option linter.unusedSimpArgs false
set_option linter.unusedSectionVars false
namespace Go.Am
set_option maxRecDepth 100000
theorem iwr64 (n : Int) : iwr .i64 n = (n + 9223372036854775808) % 18446744073709551616 - 9223372036854775808 := by
  have h := wrS_eq 9223372036854775808 (by omega) n
  have e : iwr .i64 n = wrS (2 * 9223372036854775808) 9223372036854775808 n := rfl
  rw [e, h]
  split <;> omega
theorem iwru64 (n : Int) : iwr .u64 n = n % 18446744073709551616 := wrU_eq 18446744073709551616 (by omega) n
theorem ub64 (n : Int) : (Int.ofNat (ub .i64 n)) = n % 18446744073709551616 := by
  have h := wrU_eq 18446744073709551616 (by omega) n
  have e : wrU 18446744073709551616 n = Int.ofNat (ub .i64 n) := by cases n <;> rfl
  rw [← e]; exact h

theorem wrap_eq (t n : Int) : F31 t n = F15 t n := by
  unfold F31 F15
  simp only [ieq_eq, ilt_eq, Bool.cond_decide, iwr64, iwru64]
  have p56 : (2 ^ min (Int.toNat (Int.ofNat 56)) (ibits .i64) : Nat) = 72057594037927936 := by decide
  have p32 : (2 ^ min (Int.toNat (Int.ofNat 32)) (ibits .i64) : Nat) = 4294967296 := by decide
  have p0 : (2 ^ min (Int.toNat (Int.ofNat 0)) (ibits .i64) : Nat) = 1 := by decide
  have q56 : Int.ofNat 72057594037927936 = 72057594037927936 := rfl
  have q32 : Int.ofNat 4294967296 = 4294967296 := rfl
  have q1 : Int.ofNat 1 = 1 := rfl
  simp only [p56, p32, p0, q56, q32, q1]
  have land : Int.ofNat (Nat.land (ub .i64 n) (ub .i64 1)) = n % 2 := by
    have h1 : ub .i64 1 = 1 := by decide
    rw [h1]
    have : Nat.land (ub .i64 n) 1 = ub .i64 n % 2 := Nat.and_one_is_mod _
    rw [this]
    have h2 := ub64 n
    have : Int.ofNat (ub .i64 n % 2) = Int.ofNat (ub .i64 n) % 2 := rfl
    rw [this, h2]; omega
  rw [land]
  split
  · rfl
  split
  · rw [Int.tmod_eq_emod_of_nonneg (by omega)]; omega
  split
  · rw [Int.tmod_eq_emod_of_nonneg (by omega), Int.fdiv_eq_ediv_of_nonneg _ (by omega)]
    split <;> omega
  split
  · rw [Int.tmod_eq_emod_of_nonneg (by omega), Int.fdiv_eq_ediv_of_nonneg _ (by omega)]
    split <;> omega
  split
  · rw [Int.fdiv_eq_ediv_of_nonneg _ (by omega)]
    omega
  by_cases h0 : t < 0
  · rw [if_pos h0]
  · by_cases h5 : t < 5
    · omega
    · rw [if_neg h0, if_neg h5]

theorem wrap0 (t : Int) : F15 t 0 = 0 := by
  rw [← wrap_eq]
  unfold F31
  simp only [ieq_eq, ilt_eq, Bool.cond_decide]
  split; · rfl
  split; · rfl
  split; · rfl
  split; · rfl
  split; · rfl
  split; · rfl
  split; · rfl
  split; · rfl
  by_cases h0 : t < 0
  · rw [if_pos h0]; rfl
  · by_cases h5 : t < 5
    · omega
    · rw [if_neg h0, if_neg h5]; rfl

theorem ieq_comm (a b : Int) : ieq a b = ieq b a := by rw [ieq_eq, ieq_eq]; exact decide_eq_decide.2 ⟨Eq.symm, Eq.symm⟩

/-- a lane's validity -/
theorem lane_eq (n : Int) (p u : Bool) (t : Int) : F22 n p u t = cond p (cond u false (ieq n 0)) (cond u (ieq n 0) (ieq (F15 t n) n)) := by
  rw [← wrap_eq]
  unfold F22 F31
  cases p <;> cases u <;> simp only [cond_true, cond_false, Bool.not_true, Bool.not_false]
  all_goals
    cases h0 : ieq t 0 <;> simp only [cond_true, cond_false]
    cases h1 : ieq t 1 <;> simp only [cond_true, cond_false]
    cases h2 : ieq t 2 <;> simp only [cond_true, cond_false]
    cases h3 : ieq t 3 <;> simp only [cond_true, cond_false]
    cases h4 : ieq t 4 <;> simp only [cond_true, cond_false]
    cases h5 : ieq t 5 <;> simp only [cond_true, cond_false]
    cases h6 : ieq t 6 <;> simp only [cond_true, cond_false]
    cases h7 : ieq t 7 <;> simp only [cond_true, cond_false]
  all_goals (try rfl)
  all_goals first
    | (have e : ieq n 0 = ieq n (Int.ofNat 0) := rfl
       rw [e]; cases ieq n (Int.ofNat 0) <;> rfl)
    | (cases ieq n (Int.ofNat 0) <;> rfl)
    | (cases h8 : ilt t 0 with
       | true => rfl
       | false => cases h9 : ilt t 5 with
         | false => rfl
         | true =>
           exfalso
           simp only [ieq_eq, ilt_eq, decide_eq_true_eq, decide_eq_false_iff_not] at h0 h1 h2 h3 h4 h8 h9
           omega)

theorem n_eq (t : Int) : F12 t = F14 t := by
  unfold F12 F14
  simp only [ieq_eq, ilt_eq, Bool.cond_decide]
  repeat (first | omega | rfl | split)
theorem l_eq (t : Int) : F23 t = F16 t := rfl

/-- the zero lane, as the program looks at it -/
theorem zero_eq (n : Int) (p u : Bool) : (bif ieq n (Int.ofNat 0) then bif bif p then Bool.false else !Bool.false then bif bif u then Bool.false else !Bool.false then Bool.true else Bool.false else Bool.false else Bool.false) = cond p false (cond u false (ieq n 0)) := by
  have e : ieq n 0 = ieq n (Int.ofNat 0) := rfl
  rw [e]
  cases p <;> cases u <;> cases ieq n (Int.ofNat 0) <;> rfl

theorem step_eq (n : Int) (p u : Bool) (t : Int) (c : Bool) {A B : Bool} (h : A = B) :
    (cond c (cond (F22 n p u (F23 t)) A false) (cond (bif ieq n (Int.ofNat 0) then bif bif p then Bool.false else !Bool.false then bif bif u then Bool.false else !Bool.false then Bool.true else Bool.false else Bool.false else Bool.false) A false)) =
    (cond p (cond u (Bool.false) (cond (ieq n 0) (cond c (cond (ieq (F15 (F16 t) n) n) B false) false) false)) (cond u (cond (ieq n 0) (cond c (cond (ieq (F15 (F16 t) n) n) B false) false) false) (cond c (cond (ieq (F15 (F16 t) n) n) B false) (cond (ieq n 0) B false)))) := by
  subst h
  rw [lane_eq, zero_eq, l_eq]
  have hz : ieq n 0 = true → ieq (F15 (F16 t) n) n = true := fun h => by
    have : n = 0 := ieqT h
    subst this
    rw [wrap0]; rfl
  cases hn : ieq n 0 with
  | true =>
    rw [hz hn]
    cases c <;> cases p <;> cases u <;> rfl
  | false => cases c <;> cases p <;> cases u <;> rfl

theorem valid_eq (ya oa : Int) (na0 : Int) (pa0 ua0 : Bool) (na1 : Int) (pa1 ua1 : Bool) (na2 : Int) (pa2 ua2 : Bool) (na3 : Int) (pa3 ua3 : Bool) :
    F8 ya oa na0 pa0 ua0 na1 pa1 ua1 na2 pa2 ua2 na3 pa3 ua3 = F6 ya oa na0 pa0 ua0 na1 pa1 ua1 na2 pa2 ua2 na3 pa3 ua3 := by
  unfold F8 F6
  rw [n_eq]
  refine congrArg (cond _ false) ?_
  exact step_eq _ _ _ _ _ (step_eq _ _ _ _ _ (step_eq _ _ _ _ _ (step_eq _ _ _ _ _ rfl)))

theorem poison_eq (ya oa : Int) (na0 : Int) (pa0 ua0 : Bool) (na1 : Int) (pa1 ua1 : Bool) (na2 : Int) (pa2 ua2 : Bool) (na3 : Int) (pa3 ua3 : Bool) :
    F9 ya oa na0 pa0 ua0 na1 pa1 ua1 na2 pa2 ua2 na3 pa3 ua3 = F10 ya oa na0 pa0 ua0 na1 pa1 ua1 na2 pa2 ua2 na3 pa3 ua3 := by
  unfold F9 F10
  rw [valid_eq]
  rfl

theorem lref_eq (an : Int) (ap au : Bool) (bn : Int) (bp bu : Bool) : F24 an ap au bn bp bu = F13 an ap au bn bp bu := by
  unfold F24 F13
  cases ap <;> cases au <;> cases bp <;> cases bu <;> cases ieq an bn <;> rfl

section
variable (ya oa : Int) (na0 : Int) (pa0 ua0 : Bool) (na1 : Int) (pa1 ua1 : Bool) (na2 : Int) (pa2 ua2 : Bool) (na3 : Int) (pa3 ua3 : Bool)
variable (yb ob : Int) (nb0 : Int) (pb0 ub0 : Bool) (nb1 : Int) (pb1 ub1 : Bool) (nb2 : Int) (pb2 ub2 : Bool) (nb3 : Int) (pb3 ub3 : Bool)

/-- what is asked of the lanes and the object -/
noncomputable def Gr : Bool := F13 na0 pa0 ua0 nb0 pb0 ub0 && (cond (ieq ya 6 || ieq ya 7) (F13 na1 pa1 ua1 nb1 pb1 ub1) true && (cond (ieq ya 7) (F13 na2 pa2 ua2 nb2 pb2 ub2 && F13 na3 pa3 ua3 nb3 pb3 ub3) true && cond (ieq ya 5) (pb0 || ieq oa ob) true))

theorem none8 (h1 : ieq ya 1 = false) (h2 : ieq ya 2 = false) (h3 : ieq ya 3 = false) (h4 : ieq ya 4 = false) (h5 : ieq ya 5 = false) (h6 : ieq ya 6 = false) (h7 : ieq ya 7 = false) :
    F8 ya oa na0 pa0 ua0 na1 pa1 ua1 na2 pa2 ua2 na3 pa3 ua3 = false := by
  unfold F8 F12
  rw [h1, h2, h3, h4, h5, h6, h7]; rfl

theorem and_cond (a b : Bool) : cond a b false = (a && b) := by cases a <;> rfl

theorem F5_eq : F5 ya oa na0 pa0 ua0 na1 pa1 ua1 na2 pa2 ua2 na3 pa3 ua3 yb ob nb0 pb0 ub0 nb1 pb1 ub1 nb2 pb2 ub2 nb3 pb3 ub3 =
    (F8 ya oa na0 pa0 ua0 na1 pa1 ua1 na2 pa2 ua2 na3 pa3 ua3 && (F8 yb ob nb0 pb0 ub0 nb1 pb1 ub1 nb2 pb2 ub2 nb3 pb3 ub3 && (ieq ya yb && Gr ya oa na0 pa0 ua0 na1 pa1 ua1 na2 pa2 ua2 na3 pa3 ua3 ob nb0 pb0 ub0 nb1 pb1 ub1 nb2 pb2 ub2 nb3 pb3 ub3))) := by
  have key : ∀ (g h : Bool) (k : Int), g = h → cond (F8 k oa na0 pa0 ua0 na1 pa1 ua1 na2 pa2 ua2 na3 pa3 ua3) (cond (F8 yb ob nb0 pb0 ub0 nb1 pb1 ub1 nb2 pb2 ub2 nb3 pb3 ub3) (cond (ieq k yb) g false) false) false =
      (F8 k oa na0 pa0 ua0 na1 pa1 ua1 na2 pa2 ua2 na3 pa3 ua3 && (F8 yb ob nb0 pb0 ub0 nb1 pb1 ub1 nb2 pb2 ub2 nb3 pb3 ub3 && (ieq k yb && h))) := by
    intro g h k e; rw [and_cond, and_cond, and_cond, e]
  unfold F5
  cases h0 : ieq ya 0 with
  | true =>
    obtain rfl := ieqT h0
    rw [none8 0 oa na0 pa0 ua0 na1 pa1 ua1 na2 pa2 ua2 na3 pa3 ua3 rfl rfl rfl rfl rfl rfl rfl]; rfl
  | false => cases h1 : ieq ya 1 with
    | true =>
      obtain rfl := ieqT h1
      refine key _ _ 1 ?_
      unfold F5_L0 F5_L1 Gr; cases F13 na0 pa0 ua0 nb0 pb0 ub0 <;> rfl
    | false => cases h2 : ieq ya 2 with
      | true =>
        obtain rfl := ieqT h2
        refine key _ _ 2 ?_
        unfold F5_L2 F5_L3 Gr; cases F13 na0 pa0 ua0 nb0 pb0 ub0 <;> rfl
      | false => cases h3 : ieq ya 3 with
        | true =>
          obtain rfl := ieqT h3
          refine key _ _ 3 ?_
          unfold F5_L4 F5_L5 Gr; cases F13 na0 pa0 ua0 nb0 pb0 ub0 <;> rfl
        | false => cases h4 : ieq ya 4 with
          | true =>
            obtain rfl := ieqT h4
            refine key _ _ 4 ?_
            unfold F5_L6 F5_L7 Gr; cases F13 na0 pa0 ua0 nb0 pb0 ub0 <;> rfl
          | false => cases h5 : ieq ya 5 with
            | true =>
              obtain rfl := ieqT h5
              refine key _ _ 5 ?_
              unfold F5_L8 F5_L9 Gr; cases F13 na0 pa0 ua0 nb0 pb0 ub0 <;> cases pb0 <;> first | rfl | (cases ieq oa ob <;> rfl)
            | false => cases h6 : ieq ya 6 with
              | true =>
                obtain rfl := ieqT h6
                refine key _ _ 6 ?_
                unfold F5_L10 F5_L11 F5_L12 Gr; cases F13 na0 pa0 ua0 nb0 pb0 ub0 <;> cases F13 na1 pa1 ua1 nb1 pb1 ub1 <;> rfl
              | false => cases h7 : ieq ya 7 with
                | true =>
                  obtain rfl := ieqT h7
                  refine key _ _ 7 ?_
                  unfold F5_L13 F5_L14 F5_L15 F5_L16 F5_L17 Gr
                  cases F13 na0 pa0 ua0 nb0 pb0 ub0 <;> cases F13 na1 pa1 ua1 nb1 pb1 ub1 <;> cases F13 na2 pa2 ua2 nb2 pb2 ub2 <;> cases F13 na3 pa3 ua3 nb3 pb3 ub3 <;> rfl
                | false =>
                  rw [none8 ya oa na0 pa0 ua0 na1 pa1 ua1 na2 pa2 ua2 na3 pa3 ua3 h1 h2 h3 h4 h5 h6 h7]; rfl

theorem obj0 (h5 : ieq ya 5 = false) (h : F6 ya oa na0 pa0 ua0 na1 pa1 ua1 na2 pa2 ua2 na3 pa3 ua3 = true) : oa = 0 := by
  rw [← valid_eq] at h
  unfold F8 F8_L0 F8_L1 F8_L2 F8_L3 F8_L4 at h
  rw [h5] at h
  simp only [cond_false] at h
  have key : ∀ (c a b : Bool) (x : Bool), (x = true → oa = 0) → cond c (cond a x false) (cond b x false) = true → oa = 0 := by
    intro c a b x hx h
    cases c <;> cases a <;> cases b <;> cases x <;> first | exact hx rfl | cases h
  cases h0 : ieq (F12 ya) 0 with
  | true => rw [h0] at h; cases h
  | false =>
    rw [h0] at h
    refine key _ _ _ _ (key _ _ _ _ (key _ _ _ _ (key _ _ _ _ ?_))) h
    intro h; exact ieqT h

theorem F11_eq : F11 ya oa na0 pa0 ua0 na1 pa1 ua1 na2 pa2 ua2 na3 pa3 ua3 yb ob nb0 pb0 ub0 nb1 pb1 ub1 nb2 pb2 ub2 nb3 pb3 ub3 =
    (F6 ya oa na0 pa0 ua0 na1 pa1 ua1 na2 pa2 ua2 na3 pa3 ua3 && (F6 yb ob nb0 pb0 ub0 nb1 pb1 ub1 nb2 pb2 ub2 nb3 pb3 ub3 && (ieq ya yb && Gr ya oa na0 pa0 ua0 na1 pa1 ua1 na2 pa2 ua2 na3 pa3 ua3 ob nb0 pb0 ub0 nb1 pb1 ub1 nb2 pb2 ub2 nb3 pb3 ub3))) := by
  have key : ∀ (g h : Bool) (k : Int), (F6 k oa na0 pa0 ua0 na1 pa1 ua1 na2 pa2 ua2 na3 pa3 ua3 = true → F6 k ob nb0 pb0 ub0 nb1 pb1 ub1 nb2 pb2 ub2 nb3 pb3 ub3 = true → g = h) →
      cond (F6 k oa na0 pa0 ua0 na1 pa1 ua1 na2 pa2 ua2 na3 pa3 ua3) (cond (F6 yb ob nb0 pb0 ub0 nb1 pb1 ub1 nb2 pb2 ub2 nb3 pb3 ub3) (cond (ieq k yb) g false) false) false =
      (F6 k oa na0 pa0 ua0 na1 pa1 ua1 na2 pa2 ua2 na3 pa3 ua3 && (F6 yb ob nb0 pb0 ub0 nb1 pb1 ub1 nb2 pb2 ub2 nb3 pb3 ub3 && (ieq k yb && h))) := by
    intro g h k e
    rw [and_cond, and_cond, and_cond]
    cases h1 : F6 k oa na0 pa0 ua0 na1 pa1 ua1 na2 pa2 ua2 na3 pa3 ua3 with
    | false => rfl
    | true => cases h2 : F6 yb ob nb0 pb0 ub0 nb1 pb1 ub1 nb2 pb2 ub2 nb3 pb3 ub3 with
      | false => rfl
      | true => cases h3 : ieq k yb with
        | false => rfl
        | true =>
          obtain rfl := ieqT h3
          rw [e h1 h2]
  have obj : ∀ k : Int, ieq k 5 = false → F6 k oa na0 pa0 ua0 na1 pa1 ua1 na2 pa2 ua2 na3 pa3 ua3 = true → F6 k ob nb0 pb0 ub0 nb1 pb1 ub1 nb2 pb2 ub2 nb3 pb3 ub3 = true → ieq oa ob = true := by
    intro k h5 h1 h2
    rw [obj0 k oa _ _ _ _ _ _ _ _ _ _ _ _ h5 h1, obj0 k ob _ _ _ _ _ _ _ _ _ _ _ _ h5 h2]; rfl
  have hn : ieq ya 1 = false → ieq ya 2 = false → ieq ya 3 = false → ieq ya 4 = false → ieq ya 5 = false → ieq ya 6 = false → ieq ya 7 = false → F6 ya oa na0 pa0 ua0 na1 pa1 ua1 na2 pa2 ua2 na3 pa3 ua3 = false := by
    intro h1 h2 h3 h4 h5 h6 h7; rw [← valid_eq]; exact none8 ya oa na0 pa0 ua0 na1 pa1 ua1 na2 pa2 ua2 na3 pa3 ua3 h1 h2 h3 h4 h5 h6 h7
  unfold F11
  cases h0 : ieq ya 0 with
  | true =>
    obtain rfl := ieqT h0
    rw [hn rfl rfl rfl rfl rfl rfl rfl]; rfl
  | false => cases h1 : ieq ya 1 with
    | true =>
      obtain rfl := ieqT h1
      refine key _ _ 1 fun q1 q2 => ?_
      have ho := obj 1 rfl q1 q2
      unfold F11_L0 F11_L1 Gr; rw [ho, lref_eq]; cases F13 na0 pa0 ua0 nb0 pb0 ub0 <;> cases pb0 <;> rfl
    | false => cases h2 : ieq ya 2 with
      | true =>
        obtain rfl := ieqT h2
        refine key _ _ 2 fun q1 q2 => ?_
        have ho := obj 2 rfl q1 q2
        unfold F11_L2 F11_L3 Gr; rw [ho, lref_eq]; cases F13 na0 pa0 ua0 nb0 pb0 ub0 <;> cases pb0 <;> rfl
      | false => cases h3 : ieq ya 3 with
        | true =>
          obtain rfl := ieqT h3
          refine key _ _ 3 fun q1 q2 => ?_
          have ho := obj 3 rfl q1 q2
          unfold F11_L4 F11_L5 Gr; rw [ho, lref_eq]; cases F13 na0 pa0 ua0 nb0 pb0 ub0 <;> cases pb0 <;> rfl
        | false => cases h4 : ieq ya 4 with
          | true =>
            obtain rfl := ieqT h4
            refine key _ _ 4 fun q1 q2 => ?_
            have ho := obj 4 rfl q1 q2
            unfold F11_L6 F11_L7 Gr; rw [ho, lref_eq]; cases F13 na0 pa0 ua0 nb0 pb0 ub0 <;> cases pb0 <;> rfl
          | false => cases h5 : ieq ya 5 with
            | true =>
              obtain rfl := ieqT h5
              refine key _ _ 5 fun q1 q2 => ?_
              unfold F11_L8 F11_L9 Gr; rw [lref_eq]; cases F13 na0 pa0 ua0 nb0 pb0 ub0 <;> cases pb0 <;> first | rfl | (cases ieq oa ob <;> rfl)
            | false => cases h6 : ieq ya 6 with
              | true =>
                obtain rfl := ieqT h6
                refine key _ _ 6 fun q1 q2 => ?_
                have ho := obj 6 rfl q1 q2
                unfold F11_L10 F11_L11 F11_L12 Gr; rw [ho]; simp only [lref_eq]; cases F13 na0 pa0 ua0 nb0 pb0 ub0 <;> cases F13 na1 pa1 ua1 nb1 pb1 ub1 <;> cases pb0 <;> rfl
              | false => cases h7 : ieq ya 7 with
                | true =>
                  obtain rfl := ieqT h7
                  refine key _ _ 7 fun q1 q2 => ?_
                  have ho := obj 7 rfl q1 q2
                  unfold F11_L13 F11_L14 F11_L15 F11_L16 F11_L17 Gr; rw [ho]; simp only [lref_eq]
                  cases F13 na0 pa0 ua0 nb0 pb0 ub0 <;> cases F13 na1 pa1 ua1 nb1 pb1 ub1 <;> cases F13 na2 pa2 ua2 nb2 pb2 ub2 <;> cases F13 na3 pa3 ua3 nb3 pb3 ub3 <;> cases pb0 <;> rfl
                | false =>
                  rw [hn h1 h2 h3 h4 h5 h6 h7]; rfl

theorem ref_eq : F5 ya oa na0 pa0 ua0 na1 pa1 ua1 na2 pa2 ua2 na3 pa3 ua3 yb ob nb0 pb0 ub0 nb1 pb1 ub1 nb2 pb2 ub2 nb3 pb3 ub3 = F11 ya oa na0 pa0 ua0 na1 pa1 ua1 na2 pa2 ua2 na3 pa3 ua3 yb ob nb0 pb0 ub0 nb1 pb1 ub1 nb2 pb2 ub2 nb3 pb3 ub3 := by
  rw [F5_eq, F11_eq, valid_eq, valid_eq]

theorem valid_law : F4 ya oa na0 pa0 ua0 na1 pa1 ua1 na2 pa2 ua2 na3 pa3 ua3 yb ob nb0 pb0 ub0 nb1 pb1 ub1 nb2 pb2 ub2 nb3 pb3 ub3 = true := by
  unfold F4
  rw [valid_eq, poison_eq, ref_eq]
  generalize F6 ya oa na0 pa0 ua0 na1 pa1 ua1 na2 pa2 ua2 na3 pa3 ua3 = x
  generalize F10 ya oa na0 pa0 ua0 na1 pa1 ua1 na2 pa2 ua2 na3 pa3 ua3 = y
  generalize F11 ya oa na0 pa0 ua0 na1 pa1 ua1 na2 pa2 ua2 na3 pa3 ua3 yb ob nb0 pb0 ub0 nb1 pb1 ub1 nb2 pb2 ub2 nb3 pb3 ub3 = z
  cases x <;> cases y <;> cases z <;> rfl

theorem ieq_self (a : Int) : ieq a a = true := by rw [ieq_eq]; exact decide_eq_true rfl
theorem ieq_tr {a b c : Int} (h : ieq a b = true) (k : ieq b c = true) : ieq a c = true := by
  obtain rfl := ieqT h; exact k
theorem lane_refl (n : Int) (p u : Bool) : F13 n p u n p u = true := by
  unfold F13; rw [ieq_self]; cases p <;> cases u <;> rfl
theorem lane_tr {n : Int} {p u : Bool} {m : Int} {q v : Bool} {k : Int} {r w : Bool} (h : F13 n p u m q v = true) (h' : F13 m q v k r w = true) : F13 n p u k r w = true := by
  have e : ∀ {a b : Int}, ieq a b = true → a = b := ieqT
  unfold F13 at *
  cases h1 : ieq n m with
  | true =>
    have := e h1; subst this
    revert h h'
    cases p <;> cases u <;> cases q <;> cases v <;> cases r <;> cases w <;> cases ieq n k <;> simp
  | false =>
    rw [h1] at h
    revert h h'
    cases p <;> cases u <;> cases q <;> cases v <;> cases r <;> cases w <;> cases ieq n k <;> cases ieq m k <;> simp

theorem Gr_refl : Gr ya oa na0 pa0 ua0 na1 pa1 ua1 na2 pa2 ua2 na3 pa3 ua3 oa na0 pa0 ua0 na1 pa1 ua1 na2 pa2 ua2 na3 pa3 ua3 = true := by
  unfold Gr
  rw [lane_refl, lane_refl, lane_refl, lane_refl, ieq_self]
  cases ieq ya 6 <;> cases ieq ya 7 <;> cases ieq ya 5 <;> cases pa0 <;> rfl
end

theorem order_law (ya oa : Int) (na0 : Int) (pa0 ua0 : Bool) (na1 : Int) (pa1 ua1 : Bool) (na2 : Int) (pa2 ua2 : Bool) (na3 : Int) (pa3 ua3 : Bool)
    (yb ob : Int) (nb0 : Int) (pb0 ub0 : Bool) (nb1 : Int) (pb1 ub1 : Bool) (nb2 : Int) (pb2 ub2 : Bool) (nb3 : Int) (pb3 ub3 : Bool)
    (yc oc : Int) (nc0 : Int) (pc0 uc0 : Bool) (nc1 : Int) (pc1 uc1 : Bool) (nc2 : Int) (pc2 uc2 : Bool) (nc3 : Int) (pc3 uc3 : Bool) :
    F3 ya oa na0 pa0 ua0 na1 pa1 ua1 na2 pa2 ua2 na3 pa3 ua3 yb ob nb0 pb0 ub0 nb1 pb1 ub1 nb2 pb2 ub2 nb3 pb3 ub3 yc oc nc0 pc0 uc0 nc1 pc1 uc1 nc2 pc2 uc2 nc3 pc3 uc3 = true := by
  have hr : F5 ya oa na0 pa0 ua0 na1 pa1 ua1 na2 pa2 ua2 na3 pa3 ua3 ya oa na0 pa0 ua0 na1 pa1 ua1 na2 pa2 ua2 na3 pa3 ua3 = F6 ya oa na0 pa0 ua0 na1 pa1 ua1 na2 pa2 ua2 na3 pa3 ua3 := by
    rw [F5_eq, Gr_refl, ieq_self, valid_eq]; cases F6 ya oa na0 pa0 ua0 na1 pa1 ua1 na2 pa2 ua2 na3 pa3 ua3 <;> rfl
  unfold F3
  rw [hr]
  have hx : ∀ x : Bool, (bif x then x else !x) = true := by intro x; cases x <;> rfl
  rw [hx]
  simp only [cond_true]
  cases h1 : F5 ya oa na0 pa0 ua0 na1 pa1 ua1 na2 pa2 ua2 na3 pa3 ua3 yb ob nb0 pb0 ub0 nb1 pb1 ub1 nb2 pb2 ub2 nb3 pb3 ub3 with
  | false => rfl
  | true => cases h2 : F5 yb ob nb0 pb0 ub0 nb1 pb1 ub1 nb2 pb2 ub2 nb3 pb3 ub3 yc oc nc0 pc0 uc0 nc1 pc1 uc1 nc2 pc2 uc2 nc3 pc3 uc3 with
    | false => rfl
    | true =>
      rw [F5_eq] at h1 h2
      simp only [Bool.and_eq_true] at h1 h2
      obtain ⟨a1, a2, a3, a4⟩ := h1
      obtain ⟨b1, b2, b3, b4⟩ := h2
      obtain rfl := ieqT a3
      have hg : Gr ya oa na0 pa0 ua0 na1 pa1 ua1 na2 pa2 ua2 na3 pa3 ua3 oc nc0 pc0 uc0 nc1 pc1 uc1 nc2 pc2 uc2 nc3 pc3 uc3 = true := by
        unfold Gr at *
        simp only [Bool.and_eq_true] at a4 b4 ⊢
        obtain ⟨c1, c2, c3, c4⟩ := a4
        obtain ⟨d1, d2, d3, d4⟩ := b4
        refine ⟨lane_tr c1 d1, ?_, ?_, ?_⟩
        · cases hq : (ieq ya 6 || ieq ya 7) with
          | false => rfl
          | true => rw [hq] at c2 d2; exact lane_tr c2 d2
        · cases hq : ieq ya 7 with
          | false => rfl
          | true =>
            rw [hq] at c3 d3
            simp only [cond_true, Bool.and_eq_true] at c3 d3 ⊢
            exact ⟨lane_tr c3.1 d3.1, lane_tr c3.2 d3.2⟩
        · cases hq : ieq ya 5 with
          | false => rfl
          | true =>
            rw [hq] at c4 d4
            simp only [cond_true, Bool.or_eq_true] at c4 d4 ⊢
            rcases d4 with h | h
            · exact .inl h
            · rcases c4 with k | k
              · -- b is poison in its first lane: c's is too
                subst k
                refine .inl ?_
                cases hp : pc0 with
                | true => rfl
                | false =>
                  exfalso
                  subst hp
                  obtain rfl := ieqT hq
                  -- a valid poison lane is not unknown
                  revert d1
                  unfold F13
                  cases ub0 <;> cases uc0 <;> cases ieq nb0 nc0 <;> simp
              · exact .inr (ieq_tr k h)
      rw [F5_eq, a1, b2, ieq_tr (ieq_self _) b3, hg]; rfl
end Go.Am
