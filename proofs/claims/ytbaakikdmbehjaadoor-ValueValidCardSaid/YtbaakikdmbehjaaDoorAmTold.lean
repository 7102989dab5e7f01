/- Small words for printed proofs. -/
import Derived.Test.YtbaakikdmbehjaaDoorAmCon
set_option linter.unusedVariables false
set_option linter.unusedSimpArgs false
set_option linter.unusedSectionVars false
namespace Go.Am
open Go.RowKit
def bo (n m : Nat) : List Bool := Nat.rec (motive := fun _ => Nat → List Bool) (fun _ => []) (fun _ ih m => Nat.beq (m % 2) 1 :: ih (m / 2)) n m
theorem T : true = true := rfl
theorem U : false = false := rfl
theorem idxc (t : Int) (n : Nat) : cond (ilt t 0) false (Nat.blt t.toNat n) = decide (0 ≤ t ∧ t < n) := by
  rw [ilt_eq]
  by_cases h : t < 0
  · rw [decide_eq_true h]
    rw [cond_true]
    rw [decide_eq_false (by omega)]
  · rw [decide_eq_false h, cond_false]
    by_cases h2 : t < n
    · rw [decide_eq_true (by omega)]
      exact Nat.ble_eq_true_of_le (by omega)
    · rw [decide_eq_false (by omega)]
      cases hb : Nat.blt t.toNat n with
      | false => rfl
      | true => have := Nat.le_of_ble_eq_true hb; omega
theorem Z : True := trivial
theorem A {p q : Prop} (h : p) (k : q) : p ∧ q := ⟨h, k⟩
theorem B {p : Prop} (h : p) {r : ORes} : p ∧ r = r := ⟨h, rfl⟩
theorem nt {b v : Bool} (h : b = v) : (!b) = (!v) := by rw [h]
theorem ieqT {a b : Int} (h : ieq a b = true) : a = b := by rw [ieq_eq] at h; exact of_decide_eq_true h

theorem cnd {P : Program} {E : Env} {k : FuncId} {l : List DV} {α : Type} {f : α → ORes} {c : Bool} {a b : α} (ht : c = true → Told P E k l (f a)) (hf : c = false → Told P E k l (f b)) : Told P E k l (f (cond c a b)) := by
  cases c with
  | true => exact ht rfl
  | false => exact hf rfl
theorem cndS {P : Program} {E : Env} {k : FuncId} {x n : Int} {l : Int → List DV} {α : Type} {f : α → ORes} {a b : α} (ht : Told P E k (l n) (f a)) (hf : ieq x n = false → Told P E k (l x) (f b)) : Told P E k (l x) (f (cond (ieq x n) a b)) := by
  cases h : ieq x n with
  | true => obtain rfl := ieqT h; exact ht
  | false => exact hf h

theorem t1 {q : Prop} (h : q) : true = true ∧ q := ⟨rfl, h⟩
theorem t2 {q : Prop} (h : q) : true = true ∧ true = true ∧ q := ⟨rfl, ⟨rfl, h⟩⟩
theorem t3 {q : Prop} (h : q) : true = true ∧ true = true ∧ true = true ∧ q := ⟨rfl, ⟨rfl, ⟨rfl, h⟩⟩⟩
theorem t4 {q : Prop} (h : q) : true = true ∧ true = true ∧ true = true ∧ true = true ∧ q := ⟨rfl, ⟨rfl, ⟨rfl, ⟨rfl, h⟩⟩⟩⟩
theorem t5 {q : Prop} (h : q) : true = true ∧ true = true ∧ true = true ∧ true = true ∧ true = true ∧ q := ⟨rfl, ⟨rfl, ⟨rfl, ⟨rfl, ⟨rfl, h⟩⟩⟩⟩⟩
theorem t6 {q : Prop} (h : q) : true = true ∧ true = true ∧ true = true ∧ true = true ∧ true = true ∧ true = true ∧ q := ⟨rfl, ⟨rfl, ⟨rfl, ⟨rfl, ⟨rfl, ⟨rfl, h⟩⟩⟩⟩⟩⟩
theorem t7 {q : Prop} (h : q) : true = true ∧ true = true ∧ true = true ∧ true = true ∧ true = true ∧ true = true ∧ true = true ∧ q := ⟨rfl, ⟨rfl, ⟨rfl, ⟨rfl, ⟨rfl, ⟨rfl, ⟨rfl, h⟩⟩⟩⟩⟩⟩⟩
theorem t8 {q : Prop} (h : q) : true = true ∧ true = true ∧ true = true ∧ true = true ∧ true = true ∧ true = true ∧ true = true ∧ true = true ∧ q := ⟨rfl, ⟨rfl, ⟨rfl, ⟨rfl, ⟨rfl, ⟨rfl, ⟨rfl, ⟨rfl, h⟩⟩⟩⟩⟩⟩⟩⟩
theorem t9 {q : Prop} (h : q) : true = true ∧ true = true ∧ true = true ∧ true = true ∧ true = true ∧ true = true ∧ true = true ∧ true = true ∧ true = true ∧ q := ⟨rfl, ⟨rfl, ⟨rfl, ⟨rfl, ⟨rfl, ⟨rfl, ⟨rfl, ⟨rfl, ⟨rfl, h⟩⟩⟩⟩⟩⟩⟩⟩⟩
theorem u1 {q : Prop} (h : q) : false = false ∧ q := ⟨rfl, h⟩
theorem u2 {q : Prop} (h : q) : false = false ∧ false = false ∧ q := ⟨rfl, ⟨rfl, h⟩⟩
theorem u3 {q : Prop} (h : q) : false = false ∧ false = false ∧ false = false ∧ q := ⟨rfl, ⟨rfl, ⟨rfl, h⟩⟩⟩
theorem u4 {q : Prop} (h : q) : false = false ∧ false = false ∧ false = false ∧ false = false ∧ q := ⟨rfl, ⟨rfl, ⟨rfl, ⟨rfl, h⟩⟩⟩⟩
theorem u5 {q : Prop} (h : q) : false = false ∧ false = false ∧ false = false ∧ false = false ∧ false = false ∧ q := ⟨rfl, ⟨rfl, ⟨rfl, ⟨rfl, ⟨rfl, h⟩⟩⟩⟩⟩
theorem u6 {q : Prop} (h : q) : false = false ∧ false = false ∧ false = false ∧ false = false ∧ false = false ∧ false = false ∧ q := ⟨rfl, ⟨rfl, ⟨rfl, ⟨rfl, ⟨rfl, ⟨rfl, h⟩⟩⟩⟩⟩⟩
theorem u7 {q : Prop} (h : q) : false = false ∧ false = false ∧ false = false ∧ false = false ∧ false = false ∧ false = false ∧ false = false ∧ q := ⟨rfl, ⟨rfl, ⟨rfl, ⟨rfl, ⟨rfl, ⟨rfl, ⟨rfl, h⟩⟩⟩⟩⟩⟩⟩
theorem u8 {q : Prop} (h : q) : false = false ∧ false = false ∧ false = false ∧ false = false ∧ false = false ∧ false = false ∧ false = false ∧ false = false ∧ q := ⟨rfl, ⟨rfl, ⟨rfl, ⟨rfl, ⟨rfl, ⟨rfl, ⟨rfl, ⟨rfl, h⟩⟩⟩⟩⟩⟩⟩⟩
theorem u9 {q : Prop} (h : q) : false = false ∧ false = false ∧ false = false ∧ false = false ∧ false = false ∧ false = false ∧ false = false ∧ false = false ∧ false = false ∧ q := ⟨rfl, ⟨rfl, ⟨rfl, ⟨rfl, ⟨rfl, ⟨rfl, ⟨rfl, ⟨rfl, ⟨rfl, h⟩⟩⟩⟩⟩⟩⟩⟩⟩

/-- a closed run -/
theorem told_closed {P : Program} {E : Env} (hm : P.follows .mixedOrders = true) (hE : EnvOk P E) (hcode : FnOk E) (hg : GlobFlat E) {L fuel : Nat} {f : FuncId} (h : runTrue (evFn E L fuel f [] St0) = true) : Told P E f [] (.val (.bool true)) := by
  intro N w0 κ hp l' w hR hl
  have hl' : l' = #[] := by
    have := VRL.length _ _ hl
    apply Array.ext'
    simpa using this
  subst hl'
  refine (closed_run hm hE hcode h (w := w) ?_).mono fun e w' he => ⟨he.2, by rw [he.1]; rfl⟩
  intro b cs off d h1 h2
  obtain ⟨v, e1, e2⟩ := hR.glob b cs off d h1 h2
  exact ⟨v, (hR.phi _ v e1).1, fun κ' => VR.flat d v (hg b cs off d h1 h2) e2⟩
end Go.Am
