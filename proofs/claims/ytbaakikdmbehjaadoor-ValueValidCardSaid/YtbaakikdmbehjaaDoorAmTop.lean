/- A closed run of the abstract machine that answers true: the function returns true in every world. -/
import Derived.Test.YtbaakikdmbehjaaDoorAmSim18
set_option linter.unusedVariables false
set_option linter.unusedSimpArgs false
set_option linter.unusedSectionVars false
namespace Go.Am
open Go.RowKit

/-- a closed run that answers true and asks nothing -/
noncomputable def runTrue (r : Option (ORes × St)) : Bool := match r with
  | some (.val (.bool true), ⟨_, _, _, _, ⟨_, _, []⟩⟩) => true
  | _ => false

/-- the laid cells lie in the world -/
def Laid (E : Env) (w : World) : Prop := ∀ (b : Nat) (cs : List DV) (off : Nat) (d : DV), E.glob.get b = some cs → cs[off]? = some d → ∃ v, w.cell? ⟨b, off, none⟩ = some v ∧ ∀ κ, VR κ d v

theorem closed_run {P : Program} {E : Env} (hm : P.follows .mixedOrders = true) (hE : EnvOk P E) (hcode : FnOk E) {L fuel : Nat} {f : FuncId} (h : runTrue (evFn E L fuel f [] St0) = true) {w : World} (hw : Laid E w) :
    Calls P f #[] w fun e w' => e = .returned (.bool true) ∧ Below w.heap.size w w' := by
  cases he : evFn E L fuel f [] St0 with
  | none => rw [he] at h; cases h
  | some x =>
    obtain ⟨r, ⟨hp, n, ep, lg, ⟨sym, ds, phi⟩⟩⟩ := x
    rw [he] at h
    have hr : r = .val (.bool true) ∧ phi = [] := by
      cases r with
      | val v =>
        cases v with
        | bool b =>
          cases b with
          | true =>
            cases phi with
            | nil => exact ⟨rfl, rfl⟩
            | cons _ _ => cases h
          | false => cases h
        | _ => cases h
      | _ => cases h
    obtain ⟨rfl, rfl⟩ := hr
    let κ : Kap := ⟨fun _ => False, fun _ => 0, fun _ => 0, fun _ => 0, fun _ => 0, fun a => w.cell? a⟩
    obtain ⟨_, _, hcall⟩ := callOk (P := P) (N := w.heap.size) (w0 := w) hm hE hcode L fuel f [] St0 _ _ he (fun p hp => by cases hp) (Nat.le_refl _)
    have hR : Rr E w.heap.size w κ St0.heap w := by
      refine ⟨⟨rfl, rfl, rfl, Nat.le_refl _, fun k hk => rfl⟩, Nat.le_refl _, fun p o hp => ?_, fun p q o o' hp => ?_, fun a v ha => ⟨ha, fun p o hp => ?_⟩, fun b cs off d h1 h2 => ?_⟩
      · cases hp
      · cases hp
      · cases hp
      · obtain ⟨v, h3, h4⟩ := hw b cs off d h1 h2
        exact ⟨v, h3, h4 κ⟩
    refine (hcall κ #[] w hR (fun g _ _ h => h) rfl).mono fun e w' he => ?_
    obtain ⟨κ', _, hR', hres⟩ := he
    cases e with
    | returned v => exact ⟨by have : v = .bool true := hres; rw [this], hR'.below⟩
    | _ => exact hres.elim

/-! ### the tables of a seat, told entry by entry -/
def TrP {α : Type} (Q : Nat → α → Prop) : Tr α → (a b : Nat) → Prop
  | .nil, _, _ => True
  | .node v l r, a, b => (match v with
      | some x => Q b x
      | none => True) ∧ TrP Q l (2 * a) (b + a) ∧ TrP Q r (2 * a) (b + 2 * a)

theorem TrP.get {α : Type} {Q : Nat → α → Prop} : ∀ (t : Tr α) (a b : Nat), TrP Q t a b → ∀ m x, t.get m = some x → Q (a * m + b) x
  | .nil, a, b, _, m, x, h => by cases h
  | .node v l r, a, b, hq, m, x, h => by
    obtain ⟨h1, h2, h3⟩ := hq
    rw [Tr.get_node] at h
    by_cases h0 : m = 0
    · subst h0
      rw [if_pos rfl] at h
      subst h
      simpa using h1
    · rw [if_neg h0] at h
      by_cases hm : m % 2 = 1
      · rw [if_pos hm] at h
        have := TrP.get l _ _ h2 (m / 2) x h
        have e : 2 * a * (m / 2) + (b + a) = a * m + b := by
          have : m = 2 * (m / 2) + 1 := by omega
          conv => rhs; rw [this, Nat.mul_add, Nat.mul_one]
          rw [show 2 * a * (m / 2) = a * (2 * (m / 2)) by rw [Nat.mul_comm 2 a, Nat.mul_assoc]]
          omega
        rw [e] at this; exact this
      · rw [if_neg hm] at h
        have := TrP.get r _ _ h3 (m / 2 - 1) x h
        have e : 2 * a * (m / 2 - 1) + (b + 2 * a) = a * m + b := by
          have : m = 2 * (m / 2 - 1) + 2 := by omega
          conv => rhs; rw [this, Nat.mul_add]
          rw [show 2 * a * (m / 2 - 1) = a * (2 * (m / 2 - 1)) by rw [Nat.mul_comm 2 a, Nat.mul_assoc]]
          omega
        rw [e] at this; exact this

def trAll {α : Type} (q : Nat → α → Bool) : Tr α → Nat → Nat → Bool
  | .nil, _, _ => true
  | .node v l r, a, b => (match v with
      | some x => q b x
      | none => true) && (trAll q l (2 * a) (b + a) && trAll q r (2 * a) (b + 2 * a))
theorem trAll_ok {α : Type} {q : Nat → α → Bool} : ∀ (t : Tr α) (a b : Nat), trAll q t a b = true → TrP (fun n x => q n x = true) t a b
  | .nil, _, _, _ => trivial
  | .node v l r, a, b, h => by
    simp only [trAll, Bool.and_eq_true] at h
    refine ⟨?_, trAll_ok l _ _ h.2.1, trAll_ok r _ _ h.2.2⟩
    cases v with
    | none => trivial
    | some x => exact h.1

noncomputable def dvEq (x y : DV) : Bool := match x, y with
  | .undef, .undef => true
  | .bool a, .bool b => a == b
  | .int k a, .int j b => keq k j && ieq a b
  | .str a, .str b => leqb (bl a) (bl b)
  | .nilp, .nilp | .nils, .nils | .nilm, .nilm | .nilf, .nilf | .nili, .nili => true
  | _, _ => false
theorem dvEq_ok {x y : DV} (h : dvEq x y = true) : x = y := by
  unfold dvEq at h
  split at h <;> first | rfl | (cases h; done) | skip
  · rw [eq_of_beq h]
  · simp only [Bool.and_eq_true, ieq_eq, decide_eq_true_eq] at h
    rw [(keq_eq _ _).1 h.1, h.2]
  · rw [leqb_eq] at h
    have := eq_of_beq h
    rename_i a b
    have : a = b := by
      apply ByteArray.ext
      apply Array.ext'
      exact this
    rw [this]
noncomputable def dvsEq : List DV → List DV → Bool
  | [], [] => true
  | a :: l, b :: m => dvEq a b && dvsEq l m
  | _, _ => false
theorem dvsEq_ok : ∀ {l m : List DV}, dvsEq l m = true → l = m
  | [], [], _ => rfl
  | a :: l, b :: m, h => by
    simp only [dvsEq, Bool.and_eq_true] at h
    rw [dvEq_ok h.1, dvsEq_ok h.2]
  | [], _ :: _, h => by cases h
  | _ :: _, [], h => by cases h
def udEq (x y : UD) : Bool := match x, y with
  | .bool, .bool | .string, .string | .struct, .struct | .iface, .iface | .func, .func | .other, .other => true
  | .int k, .int j => keq k j
  | .pointer a, .pointer b | .slice a, .slice b => Nat.beq a b
  | .array n a, .array m b | .map n a, .map m b => Nat.beq n m && Nat.beq a b
  | _, _ => false
theorem udEq_ok {x y : UD} (h : udEq x y = true) : x = y := by
  unfold udEq at h
  split at h <;> first | rfl | (cases h; done) | skip
  · rw [(keq_eq _ _).1 h]
  · rw [beq_true h]
  · rw [beq_true h]
  · simp only [Bool.and_eq_true] at h; rw [beq_true h.1, beq_true h.2]
  · simp only [Bool.and_eq_true] at h; rw [beq_true h.1, beq_true h.2]
def flEq : List (Nat × Nat × Nat) → List (Nat × Nat × Nat) → Bool
  | [], [] => true
  | a :: l, b :: m => Nat.beq a.1 b.1 && (Nat.beq a.2.1 b.2.1 && (Nat.beq a.2.2 b.2.2 && flEq l m))
  | _, _ => false
theorem flEq_ok : ∀ {l m : List (Nat × Nat × Nat)}, flEq l m = true → l = m
  | [], [], _ => rfl
  | (a, b, c) :: l, (a', b', c') :: m, h => by
    simp only [flEq, Bool.and_eq_true] at h
    obtain ⟨h1, h2, h3, h4⟩ := h
    rw [beq_true h1, beq_true h2, beq_true h3, flEq_ok h4]
  | [], _ :: _, h => by cases h
  | _ :: _, [], h => by cases h
noncomputable def tiEq (x y : TI) : Bool := Nat.beq x.size y.size && (Nat.beq x.bytes y.bytes && (dvsEq x.zero y.zero && (udEq x.und y.und && flEq x.flds y.flds)))
theorem tiEq_ok {x y : TI} (h : tiEq x y = true) : x = y := by
  simp only [tiEq, Bool.and_eq_true] at h
  obtain ⟨h1, h2, h3, h4, h5⟩ := h
  cases x; cases y
  simp only at h1 h2 h3 h4 h5
  rw [beq_true h1, beq_true h2, dvsEq_ok h3, udEq_ok h4, flEq_ok h5]

noncomputable def tiB (P : Program) (t : Nat) (i : TI) : Bool := match tiOf P t with
  | some j => tiEq j i
  | none => false
noncomputable def eqB (P : Program) (t : Nat) (b : Bool) : Bool := !b || eqtOk P t
noncomputable def cdB (_ : Nat) (fn : Func) : Bool := match fn.body with
  | some c => codeOk c
  | none => true

theorem envOk_of {P : Program} {E : Env} (h1 : trAll (tiB P) E.ti 1 0 = true) (h2 : TrP (fun f fn => P.funcs[f]? = some fn ∧ (fn.name == "runtime.NumGoroutine") = false) E.fn 1 0) (h3 : trAll (eqB P) E.eqt 1 0 = true) : EnvOk P E := by
  refine ⟨fun t i h => ?_, fun f fn h => ?_, fun t h => ?_⟩
  · have := TrP.get _ _ _ (trAll_ok _ _ _ h1) t i h
    rw [Nat.one_mul, Nat.add_zero] at this
    unfold tiB at this
    split at this
    · rename_i j hj; rw [hj, tiEq_ok this]
    · cases this
  · have := TrP.get _ _ _ h2 f fn h
    rw [Nat.one_mul, Nat.add_zero] at this
    exact this
  · have := TrP.get _ _ _ (trAll_ok _ _ _ h3) t true h
    rw [Nat.one_mul, Nat.add_zero] at this
    simpa [eqB] using this
theorem fnOk_of {E : Env} (h : trAll cdB E.fn 1 0 = true) : FnOk E := fun f fn c hf hc => by
  have := TrP.get _ _ _ (trAll_ok _ _ _ h) f fn hf
  unfold cdB at this
  rw [hc] at this
  exact this
end Go.Am
