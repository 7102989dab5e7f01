/- Orders of operations that may change places: versions of what is written, the marks of a region, logs that do not meet. -/
import Derived.Test.YtbaakikdmbehjaaDoorAmSim13
import Derived.Orders
set_option linter.unusedVariables false
set_option linter.unusedSimpArgs false
set_option linter.unusedSectionVars false
namespace Go.Am

section versions
variable {Loc Val : Type} {val : Nat → Loc → Val} {W : Nat → Loc → Prop} {m : Nat}

/-- what the operations of X, run in some order, leave: at each place the text's last writer's version -/
def Sp (val : Nat → Loc → Val) (W : Nat → Loc → Prop) (m : Nat) (X : Nat → Prop) (cur : Loc → Val) : Prop := ∀ l,
  (∀ k, k < m → X k → W k l → (∀ k', k' < m → X k' → k < k' → ¬ W k' l) → cur l = val (k + 1) l) ∧ ((∀ k, k < m → X k → ¬ W k l) → cur l = val 0 l)

theorem val_same (hkeep : ∀ k, k < m → ∀ l, ¬ W k l → val (k + 1) l = val k l) (l : Loc) (a : Nat) : ∀ d, a + d ≤ m → (∀ k, a ≤ k → k < a + d → ¬ W k l) → val (a + d) l = val a l
  | 0, _, _ => rfl
  | d + 1, hm, h => by
    rw [show a + (d + 1) = (a + d) + 1 from rfl, hkeep (a + d) (by omega) l (h _ (by omega) (by omega))]
    exact val_same hkeep l a d (by omega) fun k h1 h2 => h k h1 (by omega)

theorem last_writer (W : Nat → Loc → Prop) (l : Loc) : ∀ i, (∀ k, k < i → ¬ W k l) ∨ ∃ k, k < i ∧ W k l ∧ ∀ k', k < k' → k' < i → ¬ W k' l
  | 0 => .inl fun k h => by omega
  | i + 1 => by
    by_cases hw : W i l
    · exact .inr ⟨i, by omega, hw, fun k' h1 h2 => by omega⟩
    · rcases last_writer W l i with h | ⟨k, h1, h2, h3⟩
      · exact .inl fun k hk => by
          by_cases e : k = i
          · subst e; exact hw
          · exact h k (by omega)
      · exact .inr ⟨k, by omega, h2, fun k' h4 h5 => by
          by_cases e : k' = i
          · subst e; exact hw
          · exact h3 k' h4 (by omega)⟩

theorem Sp.read (hkeep : ∀ k, k < m → ∀ l, ¬ W k l → val (k + 1) l = val k l) {X : Nat → Prop} {cur : Loc → Val} (h : Sp val W m X cur) {i : Nat} (hi : i ≤ m) {l : Loc}
    (hc : ∀ k, k < m → (k < i ∧ ¬ X k) ∨ (i ≤ k ∧ X k) → ¬ W k l) : cur l = val i l := by
  rcases last_writer W l i with h0 | ⟨k, h1, h2, h3⟩
  · rw [(h l).2 fun k hk hX hw => by
      by_cases hki : k < i
      · exact h0 k hki hw
      · exact hc k hk (.inr ⟨by omega, hX⟩) hw]
    have := val_same hkeep l 0 i (by omega) fun k _ hk => h0 k (by omega)
    rw [Nat.zero_add] at this
    exact this.symm
  · have hX : X k := Classical.byContradiction fun hn => hc k (by omega) (.inl ⟨h1, hn⟩) h2
    rw [(h l).1 k (by omega) hX h2 fun k' hk' hX' hlt hw => by
      by_cases hki : k' < i
      · exact h3 k' hlt hki hw
      · exact hc k' hk' (.inr ⟨by omega, hX'⟩) hw]
    have := val_same hkeep l (k + 1) (i - (k + 1)) (by omega) fun k' a b => h3 k' (by omega) (by omega)
    rw [show k + 1 + (i - (k + 1)) = i by omega] at this
    exact this.symm

theorem Sp.step {X : Nat → Prop} {cur cur' : Loc → Val} (h : Sp val W m X cur) {i : Nat} (hi : i < m) (hw : ∀ l, W i l → cur' l = val (i + 1) l) (hk : ∀ l, ¬ W i l → cur' l = cur l)
    (hc : ∀ l, W i l → ∀ k, k < m → X k → i < k → ¬ W k l) : Sp val W m (fun k => X k ∨ k = i) cur' := by
  intro l
  refine ⟨fun k hkm hX hW hlast => ?_, fun hnone => ?_⟩
  · by_cases hki : k = i
    · subst hki; exact hw l hW
    · have hX : X k := hX.resolve_right hki
      by_cases hWi : W i l
      · exfalso
        by_cases hlt : k < i
        · exact hlast i hi (.inr rfl) hlt hWi
        · exact hc l hWi k hkm hX (by omega) hW
      · rw [hk l hWi]
        exact (h l).1 k hkm hX hW fun k' h1 h2 h3 => hlast k' h1 (.inl h2) h3
  · rw [hk l (hnone i hi (.inr rfl))]
    exact (h l).2 fun k h1 h2 => hnone k h1 (.inl h2)

theorem Sp.start (X : Nat → Prop) (hX : ∀ k, k < m → ¬ X k) : Sp val W m X (val 0) :=
  fun l => ⟨fun k hk h => absurd h (hX k hk), fun _ => rfl⟩
end versions

/-! ### the marks of a region -/
def beforeBits (acc : Array Nat) (o : Oper) : Nat := o.after.foldl (fun s e => if Region.binds .any e then s ||| 2 ^ e.on ||| acc.getD e.on 0 else s) 0

theorem bits_fold (acc : Array Nat) (i : Nat) : ∀ (l : List Edge) (s : Nat), (l.foldl (fun s e => if Region.binds .any e then s ||| 2 ^ e.on ||| acc.getD e.on 0 else s) s).testBit i = true →
    s.testBit i = true ∨ ∃ e ∈ l, Region.binds .any e = true ∧ (i = e.on ∨ (acc.getD e.on 0).testBit i = true)
  | [], s, h => .inl h
  | e :: l, s, h => by
    rw [List.foldl_cons] at h
    rcases bits_fold acc i l _ h with h1 | ⟨e', h2, h3⟩
    · by_cases hb : Region.binds .any e = true
      · rw [if_pos hb, Nat.testBit_or, Nat.testBit_or, Nat.testBit_two_pow] at h1
        simp only [Bool.or_eq_true, decide_eq_true_eq] at h1
        rcases h1 with (h1 | h1) | h1
        · exact .inl h1
        · exact .inr ⟨e, List.mem_cons_self, hb, .inl h1.symm⟩
        · exact .inr ⟨e, List.mem_cons_self, hb, .inr h1⟩
      · rw [if_neg hb] at h1; exact .inl h1
    · exact .inr ⟨e', List.mem_cons_of_mem _ h2, h3⟩

theorem before_app : ∀ (l : List Oper) (acc : Array Nat), ∃ t : Array Nat, l.foldl (fun acc o => acc.push (beforeBits acc o)) acc = acc ++ t ∧ t.size = l.length
  | [], acc => ⟨#[], by simp, rfl⟩
  | o :: l, acc => by
    obtain ⟨t, h1, h2⟩ := before_app l (acc.push (beforeBits acc o))
    refine ⟨#[beforeBits acc o] ++ t, ?_, by simp [h2]; omega⟩
    rw [List.foldl_cons, h1, Array.push_eq_append, Array.append_assoc]

theorem before_get {ops : Array Oper} {j : Nat} {o : Oper} (hj : ops[j]? = some o) {i : Nat} (h : ((Region.before ops).toList[j]?.getD 0).testBit i = true) :
    ∃ e ∈ o.after, Region.binds .any e = true ∧ (i = e.on ∨ (e.on < j ∧ ((Region.before ops).toList[e.on]?.getD 0).testBit i = true)) := by
  have hbe : Region.before ops = ops.toList.foldl (fun acc o => acc.push (beforeBits acc o)) #[] := by
    rw [Array.foldl_toList]; rfl
  have hjl : j < ops.toList.length := by
    have := (Array.getElem?_eq_some_iff.1 hj).1; simpa using this
  have hsplit : ops.toList = ops.toList.take j ++ o :: ops.toList.drop (j + 1) := by
    have : ops.toList[j] = o := by
      have := Array.getElem?_eq_some_iff.1 hj
      obtain ⟨h1, h2⟩ := this
      simpa using h2
    conv => lhs; rw [← List.take_append_drop j ops.toList]
    rw [List.drop_eq_getElem_cons hjl, this]
  obtain ⟨t1, a1, a2⟩ := before_app (ops.toList.take j) #[]
  obtain ⟨t2, b1, b2⟩ := before_app (ops.toList.drop (j + 1)) (t1.push (beforeBits t1 o))
  rw [Array.empty_append] at a1
  have hlen : t1.size = j := by rw [a2, List.length_take]; omega
  have hB : Region.before ops = t1.push (beforeBits t1 o) ++ t2 := by
    rw [hbe, hsplit, List.foldl_append, a1, List.foldl_cons, b1]
  have hold : ∀ q, q < j → (Region.before ops).toList[q]?.getD 0 = t1.getD q 0 := by
    intro q hq
    rw [hB, Array.getElem?_toList, Array.getElem?_append_left (by simp; omega), Array.getElem?_push_lt (by omega)]
    simp [Array.getD_eq_getD_getElem?, show q < t1.size by omega]
  have hnew : (Region.before ops).toList[j]?.getD 0 = beforeBits t1 o := by
    rw [hB, Array.getElem?_toList, Array.getElem?_append_left (by simp; omega), ← hlen, Array.getElem?_push_size]
    rfl
  rw [hnew] at h
  unfold beforeBits at h
  rw [← Array.foldl_toList] at h
  rcases bits_fold t1 i _ _ h with h | ⟨e, he, hb, h⟩
  · simp at h
  · refine ⟨e, Array.mem_toList_iff.1 he, hb, ?_⟩
    rcases h with h | h
    · exact .inl h
    · by_cases hlt : e.on < j
      · exact .inr ⟨hlt, by rw [hold _ hlt]; exact h⟩
      · exfalso
        rw [Array.getD_eq_getD_getElem?, Array.getElem?_eq_none (by omega)] at h
        simp at h

def bit (ops : Array Oper) (j i : Nat) : Bool := ((Region.before ops).toList[j]?.getD 0).testBit i

theorem bit_closed {ops : Array Oper} {S : Nat → Prop} (hS : ∀ j o, S j → ops[j]? = some o → ∀ e ∈ o.after, Region.binds .any e = true → S e.on) :
    ∀ (n j : Nat), j < n → ∀ i o, ops[j]? = some o → (∀ k o, ops[k]? = some o → ∀ e ∈ o.after, Region.binds .any e = true → e.on < k ∧ e.on < ops.size) → S j → bit ops j i = true → S i ∧ i < j
  | 0, j, h => by omega
  | n + 1, j, hn => by
    intro i o ho hed hj hb
    obtain ⟨e, he, hbd, h⟩ := before_get ho hb
    obtain ⟨h1, h2⟩ := hed j o ho e he hbd
    have hSe := hS j o hj ho e he hbd
    rcases h with rfl | ⟨_, h⟩
    · exact ⟨hSe, h1⟩
    · obtain ⟨oe, hoe⟩ : ∃ oe, ops[e.on]? = some oe := ⟨ops[e.on], Array.getElem?_eq_getElem h2⟩
      obtain ⟨a, b⟩ := bit_closed hS n e.on (by omega) i oe hoe hed hSe h
      exact ⟨a, by omega⟩

/-! ### logs -/
theorem anyB_eq {α : Type} (f : α → Bool) : ∀ l : List α, anyB f l = l.any f
  | [] => rfl
  | a :: l => by
    show cond (f a) true (anyB f l) = _
    rw [anyB_eq f l, List.any_cons]
    cases f a <;> rfl
theorem anyB_false {α : Type} {f : α → Bool} {l : List α} (h : anyB f l = false) : ∀ x ∈ l, f x = false := by
  rw [anyB_eq] at h
  intro x hx
  cases hf : f x with
  | false => rfl
  | true => rw [List.any_eq_true.2 ⟨x, hx, hf⟩] at h; cases h

theorem own_false {i : Rec} {p : Nat} (h : own i p = false) : ¬ (i.lo ≤ p ∧ p < i.hi) := by
  unfold own at h
  rw [ble_eq, blt_eq] at h
  intro ⟨a, b⟩
  rw [decide_eq_true a, decide_eq_true b] at h
  cases h
theorem has_false {l : List Nat} {p : Nat} (h : has l p = false) : p ∉ l := by
  intro hp
  have := anyB_false h p hp
  rw [nbeq_eq] at this
  simp at this
theorem meet_false {x y : Nat × Nat × Nat} (h : meet x y = false) : ¬ (x.1 = y.1 ∧ x.2.1 < y.2.1 + y.2.2 ∧ y.2.1 < x.2.1 + x.2.2) := by
  unfold meet at h
  rw [nbeq_eq, blt_eq, blt_eq] at h
  rintro ⟨a, b, c⟩
  rw [decide_eq_true a, decide_eq_true b, decide_eq_true c] at h
  cases h

theorem apartB_spec {i j : Rec} (h : apartB i j = true) :
    (∀ x ∈ j.rl, ¬ (i.lo ≤ x.1 ∧ x.1 < i.hi) ∧ x.1 ∉ i.wo ∧ ∀ y ∈ i.wl, meet x y = false) ∧
    (∀ x ∈ j.wl, ¬ (i.lo ≤ x.1 ∧ x.1 < i.hi) ∧ x.1 ∉ i.wo ∧ (∀ y ∈ i.wl, meet x y = false) ∧ ∀ y ∈ i.rl, meet x y = false) ∧
    (∀ p ∈ j.wo, ¬ (i.lo ≤ p ∧ p < i.hi) ∧ p ∉ i.wo ∧ (∀ y ∈ i.wl, y.1 ≠ p) ∧ ∀ y ∈ i.rl, y.1 ≠ p) := by
  unfold apartB at h
  simp only [Bool.not_eq_true', Bool.or_eq_false_iff] at h
  obtain ⟨⟨h1, h2⟩, h3⟩ := h
  refine ⟨fun x hx => ?_, fun x hx => ?_, fun p hp => ?_⟩
  · have := anyB_false h1 x hx
    simp only [Bool.or_eq_false_iff] at this
    exact ⟨own_false this.1.1, has_false this.1.2, anyB_false this.2⟩
  · have := anyB_false h2 x hx
    simp only [Bool.or_eq_false_iff] at this
    exact ⟨own_false this.1.1.1, has_false this.1.1.2, anyB_false this.1.2, anyB_false this.2⟩
  · have := anyB_false h3 p hp
    simp only [Bool.or_eq_false_iff] at this
    refine ⟨own_false this.1.1.1, has_false this.1.1.2, fun y hy e => ?_, fun y hy e => ?_⟩
    · have := anyB_false this.1.2 y hy
      rw [nbeq_eq, decide_eq_true e] at this; cases this
    · have := anyB_false this.2 y hy
      rw [nbeq_eq, decide_eq_true e] at this; cases this

theorem pairsOk_spec {b : List Nat} {recs : List (Nat × Rec)} (h : pairsOk b recs = true) {x y : Nat × Rec} (hx : x ∈ recs) (hy : y ∈ recs) (hlt : x.1 < y.1) (hb : (b[y.1]?.getD 0).testBit x.1 = false) : apartB x.2 y.2 = true := by
  unfold pairsOk at h
  simp only [Bool.not_eq_true'] at h
  have h1 := anyB_false h y hy
  have h2 := anyB_false h1 x hx
  rw [blt_eq, decide_eq_true hlt] at h2
  simp only [cond_true, lget_eq, hb, Bool.not_false, Bool.true_and, Bool.not_eq_false'] at h2
  exact h2
end Go.Am
