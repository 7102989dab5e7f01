/- The abstract machine: values, memory, the monad, the operations, the evaluator. Plain definitions. -/
import Derived.Orders
import Derived.Defers
import Derived.Laws.Sem
set_option linter.unusedVariables false
set_option linter.unusedSimpArgs false
set_option linter.unusedSectionVars false
namespace Go.Am
noncomputable section

/-! ### 1. Types of plain data -/
inductive Ty where
  | unit | bool | int (k : IntKind) | str | slice (t : Ty) | pair (a b : Ty)
  deriving DecidableEq

def Ty.den : Ty → Type
  | .unit => Unit
  | .bool => Bool
  | .int _ => Int
  | .str => ByteArray
  | .slice t => List t.den
  | .pair a b => a.den × b.den

/-! ### 2. Abstract values -/
/-- what is known of a slice's capacity: its number, or that it goes to the end of a row of elements of so many cells -/
inductive Cap where
  | ex (c : Nat)
  | op (z : Nat)

inductive DV where
  | undef
  | bool (b : Bool)
  | int (k : IntKind) (n : Int)
  | str (s : ByteArray)
  | ptr (g p off : Nat)
  | bptr (a : Addr)
  | nilp
  | sl (g p off len : Nat) (cap : Cap)
  | bsl (a : Addr) (len cap : Nat)
  | nils
  | lst (t : Ty) (xs : List t.den)
  | lptr (t : Ty) (xs : List t.den) (i off : Nat)
  | map (g p : Nat)
  | nilm
  | func (fn : Fn) (first captured : List DV)
  | nilf
  | iface (t : TypeId) (v : DV)
  | nili
  | agg (cs : List DV)
  | tup (vs : List DV)

def ofV0 : Value → DV
  | .bool b => .bool b
  | .int k n => .int k n
  | .string s => .str s
  | .pointer none => .nilp
  | .slice none 0 0 => .nils
  | .map none => .nilm
  | .nilFunc => .nilf
  | .nilIface => .nili
  | _ => .undef

def ofV : Value → DV
  | .agg cs => .agg (cs.toList.map ofV0)
  | .func (.func f) a b => match a.toList, b.toList with
    | [], [] => .func (.func f) [] []
    | _, _ => .undef
  | v => ofV0 v

def DV.cells : DV → List DV
  | .agg cs => cs
  | v => [v]

/-! ### 3. A binary tree by position -/
inductive Tr (α : Type) where
  | nil
  | node (v : Option α) (l r : Tr α)

def Tr.get {α : Type} (t : Tr α) : Nat → Option α :=
  Tr.rec (motive := fun _ => Nat → Option α) (fun _ => none)
    (fun v _ _ il ir n => cond (Nat.beq n 0) v (cond (Nat.beq (n % 2) 1) (il (n / 2)) (ir (n / 2 - 1)))) t

def Tr.setF {α β : Type} (v : Option α) (f : Nat) : Tr α → Nat → (Tr α → β) → β :=
  Nat.rec (motive := fun _ => Tr α → Nat → (Tr α → β) → β) (fun t _ k => k t)
    (fun _ ih t n k => Tr.rec (motive := fun _ => β)
      (cond (Nat.beq n 0) (k (.node v .nil .nil)) (cond (Nat.beq (n % 2) 1) (ih .nil (n / 2) fun l => k (.node none l .nil)) (ih .nil (n / 2 - 1) fun r => k (.node none .nil r))))
      (fun x l r _ _ => cond (Nat.beq n 0) (k (.node v l r)) (cond (Nat.beq (n % 2) 1) (ih l (n / 2) fun l => k (.node x l r)) (ih r (n / 2 - 1) fun r => k (.node x l r)))) t) f

/-- a strict update, in continuation form -/
def Tr.setK {α β : Type} (v : Option α) (t : Tr α) (n : Nat) (k : Tr α → β) : β := Tr.setF v (n + 1) t n k
def Tr.set {α : Type} (v : Option α) (t : Tr α) (n : Nat) : Tr α := Tr.setK v t n id

theorem beq_t {n m : Nat} (h : n = m) : Nat.beq n m = true := by subst h; exact Nat.beq_refl n
theorem beq_f {n m : Nat} (h : n ≠ m) : Nat.beq n m = false := by
  cases e : Nat.beq n m with
  | false => rfl
  | true => exact absurd (Nat.eq_of_beq_eq_true e) h

theorem Tr.setF_nil0 {α β : Type} (v : Option α) (f n : Nat) (k : Tr α → β) (h : n = 0) : Tr.setF v (f + 1) .nil n k = k (.node v .nil .nil) := by subst h; rfl
theorem Tr.setF_nil1 {α β : Type} (v : Option α) (f n : Nat) (k : Tr α → β) (h : n ≠ 0) (h1 : n % 2 = 1) : Tr.setF v (f + 1) .nil n k = Tr.setF v f .nil (n / 2) fun l => k (.node none l .nil) := by
  show cond (Nat.beq n 0) (k (.node v .nil .nil)) (cond (Nat.beq (n % 2) 1) (Tr.setF v f .nil (n / 2) fun l => k (.node none l .nil)) (Tr.setF v f .nil (n / 2 - 1) fun r => k (.node none .nil r))) = _
  rw [beq_f h, beq_t h1]; rfl
theorem Tr.setF_nil2 {α β : Type} (v : Option α) (f n : Nat) (k : Tr α → β) (h : n ≠ 0) (h1 : n % 2 ≠ 1) : Tr.setF v (f + 1) .nil n k = Tr.setF v f .nil (n / 2 - 1) fun r => k (.node none .nil r) := by
  show cond (Nat.beq n 0) (k (.node v .nil .nil)) (cond (Nat.beq (n % 2) 1) (Tr.setF v f .nil (n / 2) fun l => k (.node none l .nil)) (Tr.setF v f .nil (n / 2 - 1) fun r => k (.node none .nil r))) = _
  rw [beq_f h, beq_f h1]; rfl
theorem Tr.setF_node0 {α β : Type} (v x : Option α) (l r : Tr α) (f n : Nat) (k : Tr α → β) (h : n = 0) : Tr.setF v (f + 1) (.node x l r) n k = k (.node v l r) := by subst h; rfl
theorem Tr.setF_node1 {α β : Type} (v x : Option α) (l r : Tr α) (f n : Nat) (k : Tr α → β) (h : n ≠ 0) (h1 : n % 2 = 1) : Tr.setF v (f + 1) (.node x l r) n k = Tr.setF v f l (n / 2) fun l => k (.node x l r) := by
  show cond (Nat.beq n 0) (k (.node v l r)) (cond (Nat.beq (n % 2) 1) (Tr.setF v f l (n / 2) fun l => k (.node x l r)) (Tr.setF v f r (n / 2 - 1) fun r => k (.node x l r))) = _
  rw [beq_f h, beq_t h1]; rfl
theorem Tr.setF_node2 {α β : Type} (v x : Option α) (l r : Tr α) (f n : Nat) (k : Tr α → β) (h : n ≠ 0) (h1 : n % 2 ≠ 1) : Tr.setF v (f + 1) (.node x l r) n k = Tr.setF v f r (n / 2 - 1) fun r => k (.node x l r) := by
  show cond (Nat.beq n 0) (k (.node v l r)) (cond (Nat.beq (n % 2) 1) (Tr.setF v f l (n / 2) fun l => k (.node x l r)) (Tr.setF v f r (n / 2 - 1) fun r => k (.node x l r))) = _
  rw [beq_f h, beq_f h1]; rfl

theorem Tr.setF_id {α : Type} (v : Option α) : ∀ (f : Nat) (t : Tr α) (n : Nat) {β : Type} (k : Tr α → β), Tr.setF v f t n k = k (Tr.setF v f t n id) := by
  intro f
  induction f with
  | zero => intro t n β k; rfl
  | succ f ih =>
    intro t n β k
    by_cases h : n = 0
    · cases t with
      | nil => rw [Tr.setF_nil0 _ _ _ _ h, Tr.setF_nil0 _ _ _ _ h]; rfl
      | node x l r => rw [Tr.setF_node0 _ _ _ _ _ _ _ h, Tr.setF_node0 _ _ _ _ _ _ _ h]; rfl
    · by_cases h1 : n % 2 = 1
      · cases t with
        | nil => rw [Tr.setF_nil1 _ _ _ _ h h1, Tr.setF_nil1 _ _ _ _ h h1, ih, ih _ _ (fun l => id (Tr.node none l .nil))]; rfl
        | node x l r => rw [Tr.setF_node1 _ _ _ _ _ _ _ h h1, Tr.setF_node1 _ _ _ _ _ _ _ h h1, ih, ih _ _ (fun l => id (Tr.node x l r))]; rfl
      · cases t with
        | nil => rw [Tr.setF_nil2 _ _ _ _ h h1, Tr.setF_nil2 _ _ _ _ h h1, ih, ih _ _ (fun r => id (Tr.node none .nil r))]; rfl
        | node x l r => rw [Tr.setF_node2 _ _ _ _ _ _ _ h h1, Tr.setF_node2 _ _ _ _ _ _ _ h h1, ih, ih _ _ (fun r => id (Tr.node x l r))]; rfl

theorem Tr.setK_eq {α β : Type} (v : Option α) (t : Tr α) (n : Nat) (k : Tr α → β) : Tr.setK v t n k = k (Tr.set v t n) := Tr.setF_id v (n + 1) t n k

theorem Tr.get_nil {α : Type} (n : Nat) : (Tr.nil : Tr α).get n = none := rfl
theorem Tr.get_node {α : Type} (v : Option α) (l r : Tr α) (n : Nat) :
    (Tr.node v l r).get n = if n = 0 then v else if n % 2 = 1 then l.get (n / 2) else r.get (n / 2 - 1) := by
  have e : (Tr.node v l r).get n = cond (Nat.beq n 0) v (cond (Nat.beq (n % 2) 1) (l.get (n / 2)) (r.get (n / 2 - 1))) := rfl
  rw [e]
  by_cases h : n = 0
  · subst h; rfl
  · rw [beq_f h, if_neg h]; simp only [cond_false]
    by_cases h1 : n % 2 = 1
    · rw [beq_t h1, if_pos h1]; rfl
    · rw [beq_f h1, if_neg h1]; rfl

theorem Tr.get_setF {α : Type} (v : Option α) : ∀ (f : Nat) (t : Tr α) (n m : Nat), n < f → (Tr.setF v f t n id).get m = if m = n then v else t.get m := by
  intro f
  induction f with
  | zero => intro t n m h; omega
  | succ f ih =>
    intro t n m hn
    have key : ∀ (x : Option α) (l r : Tr α), (Tr.setF v (f + 1) (.node x l r) n id).get m = if m = n then v else (Tr.node x l r).get m := by
      intro x l r
      by_cases h : n = 0
      · rw [Tr.setF_node0 _ _ _ _ _ _ _ h]; simp only [id]
        rw [Tr.get_node, Tr.get_node]
        by_cases hm : m = 0
        · rw [if_pos hm, if_pos (by omega)]
        · rw [if_neg hm, if_neg (show ¬ m = n by omega), if_neg hm]
      · by_cases h1 : n % 2 = 1
        · rw [Tr.setF_node1 _ _ _ _ _ _ _ h h1, Tr.setF_id]; simp only [id]
          rw [Tr.get_node, ih _ _ _ (by omega), Tr.get_node]
          by_cases hm : m = 0
          · rw [if_pos hm, if_pos hm, if_neg (by omega)]
          · rw [if_neg hm, if_neg hm]
            by_cases h2 : m % 2 = 1
            · rw [if_pos h2, if_pos h2]
              by_cases h3 : m / 2 = n / 2
              · rw [if_pos h3, if_pos (by omega)]
              · rw [if_neg h3, if_neg (by omega)]
            · rw [if_neg h2, if_neg h2, if_neg (by omega)]
        · rw [Tr.setF_node2 _ _ _ _ _ _ _ h h1, Tr.setF_id]; simp only [id]
          rw [Tr.get_node, ih _ _ _ (by omega), Tr.get_node]
          by_cases hm : m = 0
          · rw [if_pos hm, if_pos hm, if_neg (by omega)]
          · rw [if_neg hm, if_neg hm]
            by_cases h2 : m % 2 = 1
            · rw [if_pos h2, if_pos h2, if_neg (by omega)]
            · rw [if_neg h2, if_neg h2]
              by_cases h3 : m / 2 - 1 = n / 2 - 1
              · rw [if_pos h3, if_pos (by omega)]
              · rw [if_neg h3, if_neg (by omega)]
    cases t with
    | nil =>
      have e : Tr.setF v (f + 1) .nil n id = Tr.setF v (f + 1) (.node none .nil .nil) n id := rfl
      rw [e, key, Tr.get_node]
      simp only [Tr.get_nil]
      split
      · rfl
      · split <;> (try split) <;> rfl
    | node x l r => exact key x l r

theorem Tr.get_set {α : Type} (v : Option α) (t : Tr α) (n m : Nat) : (Tr.set v t n).get m = if m = n then v else t.get m :=
  Tr.get_setF v (n + 1) t n m (by omega)

end
end Go.Am
