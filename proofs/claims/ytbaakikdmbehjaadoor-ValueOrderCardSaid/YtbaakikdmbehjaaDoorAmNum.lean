/- The abstract machine's numbers are the model's. -/
import Derived.Test.YtbaakikdmbehjaaDoorAmOps
import Derived.Laws.Sem
import GoSem.Dispatch
set_option linter.unusedVariables false
set_option linter.unusedSimpArgs false
set_option linter.unusedSectionVars false
namespace Go.Am

theorem blt_eq (m n : Nat) : Nat.blt m n = decide (m < n) := by
  by_cases h : m < n
  · rw [decide_eq_true h]; exact Nat.ble_eq_true_of_le h
  · rw [decide_eq_false h]
    cases e : Nat.blt m n with
    | false => rfl
    | true => exact absurd (Nat.le_of_ble_eq_true e) h
theorem ble_eq (m n : Nat) : Nat.ble m n = decide (m ≤ n) := by
  by_cases h : m ≤ n
  · rw [decide_eq_true h]; exact Nat.ble_eq_true_of_le h
  · rw [decide_eq_false h]
    cases e : Nat.ble m n with
    | false => rfl
    | true => exact absurd (Nat.le_of_ble_eq_true e) h
theorem nbeq_eq (m n : Nat) : Nat.beq m n = decide (m = n) := by
  by_cases h : m = n
  · rw [decide_eq_true h]; subst h; exact Nat.beq_refl m
  · rw [decide_eq_false h]
    cases e : Nat.beq m n with
    | false => rfl
    | true => exact absurd (Nat.eq_of_beq_eq_true e) h

theorem ilt_eq (a b : Int) : ilt a b = decide (a < b) := by
  cases a with
  | ofNat m => cases b with
    | ofNat n => show Nat.blt m n = _; rw [blt_eq]; simp
    | negSucc n => show false = _; symm; rw [decide_eq_false_iff_not]; simp; omega
  | negSucc m => cases b with
    | ofNat n => show true = _; symm; rw [decide_eq_true_iff]; simp; omega
    | negSucc n => show Nat.blt n m = _; rw [blt_eq]; congr 1; simp only [eq_iff_iff]; omega
theorem ieq_eq (a b : Int) : ieq a b = decide (a = b) := by
  cases a with
  | ofNat m => cases b with
    | ofNat n => show Nat.beq m n = _; rw [nbeq_eq]; congr 1; simp only [eq_iff_iff]; exact ⟨fun h => by rw [h], fun h => Int.ofNat.inj h⟩
    | negSucc n => show false = _; symm; rw [decide_eq_false_iff_not]; simp
  | negSucc m => cases b with
    | ofNat n => show false = _; symm; rw [decide_eq_false_iff_not]; simp
    | negSucc n => show Nat.beq m n = _; rw [nbeq_eq]; simp
theorem keq_eq (a b : IntKind) : keq a b = true ↔ a = b := by cases a <;> cases b <;> simp [keq]

theorem wrS_eq (h : Nat) (hh : 0 < h) (n : Int) : wrS (2 * h) h n = if n % ((2 * h : Nat) : Int) ≥ (h : Int) then n % ((2 * h : Nat) : Int) - ((2 * h : Nat) : Int) else n % ((2 * h : Nat) : Int) := by
  cases n with
  | ofNat a =>
    show cond (Nat.blt (a % (2 * h)) h) _ _ = _
    have e : (Int.ofNat a) % ((2 * h : Nat) : Int) = ((a % (2 * h) : Nat) : Int) := by simp
    have hlt := Nat.mod_lt a (show 0 < 2 * h by omega)
    rw [e, blt_eq]
    generalize a % (2 * h) = r at *
    by_cases hr : r < h
    · rw [decide_eq_true hr, if_neg (by omega)]; rfl
    · rw [decide_eq_false hr, if_pos (by omega)]; show Int.negSucc (2 * h - 1 - r) = _; omega
  | negSucc a =>
    show cond (Nat.blt (a % (2 * h)) h) _ _ = _
    have hlt := Nat.mod_lt a (show 0 < 2 * h by omega)
    have e : (Int.negSucc a) % ((2 * h : Nat) : Int) = ((2 * h : Nat) : Int) - 1 - ((a % (2 * h) : Nat) : Int) := by
      rw [Int.negSucc_emod _ (by omega)]; simp
    rw [e, blt_eq]
    generalize a % (2 * h) = r at *
    by_cases hr : r < h
    · rw [decide_eq_true hr, if_pos (by omega)]; show Int.negSucc r = _; omega
    · rw [decide_eq_false hr, if_neg (by omega)]; show Int.ofNat (2 * h - 1 - r) = _; simp; omega
theorem wrU_eq (m : Nat) (hm : 0 < m) (n : Int) : wrU m n = n % (m : Int) := by
  cases n with
  | ofNat a => simp [wrU]
  | negSucc a =>
    have hlt := Nat.mod_lt a hm
    rw [Int.negSucc_emod _ (by omega)]
    show Int.ofNat (m - 1 - a % m) = _
    simp; omega
theorem iwr_eq (k : IntKind) (n : Int) : iwr k n = k.wrap n := by
  cases k <;> simp only [iwr, IntKind.wrap, IntKind.signed, IntKind.bits, Bool.true_and, Bool.false_and, decide_eq_true_eq, Bool.false_eq_true, if_false]
  · simpa using wrS_eq 128 (by omega) n
  · simpa using wrS_eq 32768 (by omega) n
  · simpa using wrS_eq 2147483648 (by omega) n
  · simpa using wrS_eq 9223372036854775808 (by omega) n
  · simpa using wrU_eq 256 (by omega) n
  · simpa using wrU_eq 65536 (by omega) n
  · simpa using wrU_eq 4294967296 (by omega) n
  · simpa using wrU_eq 18446744073709551616 (by omega) n
theorem ub_eq (k : IntKind) (n : Int) : ub k n = (BitVec.ofInt k.bits n).toNat := by
  rw [BitVec.toNat_ofInt]
  have key : ∀ m : Nat, 0 < m → (match n with | .ofNat a => a % m | .negSucc a => m - 1 - a % m) = (n % (m : Int)).toNat := by
    intro m hm
    cases n with
    | ofNat a => show a % m = ((a : Int) % (m : Int)).toNat; rw [← Int.natCast_emod, Int.toNat_natCast]
    | negSucc a =>
      have hlt := Nat.mod_lt a hm
      rw [Int.negSucc_emod _ (by omega)]
      show m - 1 - a % m = _
      rw [← Int.natCast_emod]
      omega
  cases k <;> exact key _ (by decide)
theorem ibits_eq (k : IntKind) : ibits k = k.bits := by cases k <;> rfl

section
variable {P : Program} (w : World)
theorem run_binI {t : TypeId} {op : BinOp} {k : IntKind} {a b : Int} {d : DV} (h : binI op k a b = some d) : ∃ v, (∀ w, (binOp op (x := .int k a) (y := .int k b) (xType := t)).run P w = .ok v w) ∧
    ((∃ j n, d = .int j n ∧ v = .int j n) ∨ ∃ c, d = .bool c ∧ v = .bool c) := by
  have not1 : BitVec.ofInt k.bits (-1) = BitVec.allOnes k.bits := by
    apply BitVec.eq_of_toNat_eq; cases k <;> rfl
  cases op <;> simp only [binI, Option.some.injEq, reduceCtorEq] at h <;> subst h
  · exact ⟨.int k (k.wrap (a + b)), fun w => by simp only [binOp, ne_eq, not_true_eq_false, if_false, Op.intArith, Op.intBits, Op.intCmp, Sem.run_pure], .inl ⟨_, _, rfl, by rw [iwr_eq]⟩⟩
  · exact ⟨.int k (k.wrap (a - b)), fun w => by simp only [binOp, ne_eq, not_true_eq_false, if_false, Op.intArith, Op.intBits, Op.intCmp, Sem.run_pure], .inl ⟨_, _, rfl, by rw [iwr_eq]⟩⟩
  · exact ⟨.int k (k.wrap (a * b)), fun w => by simp only [binOp, ne_eq, not_true_eq_false, if_false, Op.intArith, Op.intBits, Op.intCmp, Sem.run_pure], .inl ⟨_, _, rfl, by rw [iwr_eq]⟩⟩
  · exact ⟨.int k (k.wrap (BitVec.ofInt k.bits a &&& BitVec.ofInt k.bits b).toNat), fun w => by simp only [binOp, ne_eq, not_true_eq_false, if_false, Op.intArith, Op.intBits, Op.intCmp, Sem.run_pure], .inl ⟨_, _, rfl, by rw [iwr_eq, ub_eq, ub_eq, BitVec.toNat_and]; rfl⟩⟩
  · exact ⟨.int k (k.wrap (BitVec.ofInt k.bits a ||| BitVec.ofInt k.bits b).toNat), fun w => by simp only [binOp, ne_eq, not_true_eq_false, if_false, Op.intArith, Op.intBits, Op.intCmp, Sem.run_pure], .inl ⟨_, _, rfl, by rw [iwr_eq, ub_eq, ub_eq, BitVec.toNat_or]; rfl⟩⟩
  · exact ⟨.int k (k.wrap (BitVec.ofInt k.bits a ^^^ BitVec.ofInt k.bits b).toNat), fun w => by simp only [binOp, ne_eq, not_true_eq_false, if_false, Op.intArith, Op.intBits, Op.intCmp, Sem.run_pure], .inl ⟨_, _, rfl, by rw [iwr_eq, ub_eq, ub_eq, BitVec.toNat_xor]; rfl⟩⟩
  · exact ⟨.int k (k.wrap (BitVec.ofInt k.bits a &&& ~~~ BitVec.ofInt k.bits b).toNat), fun w => by simp only [binOp, ne_eq, not_true_eq_false, if_false, Op.intArith, Op.intBits, Op.intCmp, Sem.run_pure], .inl ⟨_, _, rfl, by rw [iwr_eq, ub_eq, ub_eq, ub_eq, BitVec.toNat_and, not1, ← BitVec.xor_allOnes, BitVec.toNat_xor]; rfl⟩⟩
  · exact ⟨.bool (a == b), fun w => by simp only [binOp, ne_eq, not_true_eq_false, if_false, Op.intArith, Op.intBits, Op.intCmp, Sem.run_pure], .inr ⟨_, rfl, by rw [ieq_eq]; rfl⟩⟩
  · exact ⟨.bool (a != b), fun w => by simp only [binOp, ne_eq, not_true_eq_false, if_false, Op.intArith, Op.intBits, Op.intCmp, Sem.run_pure], .inr ⟨_, rfl, by rw [ieq_eq]; rfl⟩⟩
  · exact ⟨.bool (a < b), fun w => by simp only [binOp, ne_eq, not_true_eq_false, if_false, Op.intArith, Op.intBits, Op.intCmp, Sem.run_pure], .inr ⟨_, rfl, by rw [ilt_eq]⟩⟩
  · exact ⟨.bool (a ≤ b), fun w => by simp only [binOp, ne_eq, not_true_eq_false, if_false, Op.intArith, Op.intBits, Op.intCmp, Sem.run_pure], .inr ⟨_, rfl, by rw [ilt_eq, ← decide_not]; congr 2; simp⟩⟩
  · exact ⟨.bool (a > b), fun w => by simp only [binOp, ne_eq, not_true_eq_false, if_false, Op.intArith, Op.intBits, Op.intCmp, Sem.run_pure], .inr ⟨_, rfl, by rw [ilt_eq]⟩⟩
  · exact ⟨.bool (a ≥ b), fun w => by simp only [binOp, ne_eq, not_true_eq_false, if_false, Op.intArith, Op.intBits, Op.intCmp, Sem.run_pure], .inr ⟨_, rfl, by rw [ilt_eq, ← decide_not]; congr 2; simp⟩⟩
end
end Go.Am
