/- The operations of the abstract machine stand for the model's: comparison, binary and unary operators. -/
import Derived.Test.YtbaakikdmbehjaaDoorAmSim6
import Derived.DeepKeys
set_option linter.unusedVariables false
set_option linter.unusedSimpArgs false
set_option linter.unusedSectionVars false
namespace Go.Am
open Go.RowKit

theorem ueq_eq (a b : UInt8) : ueq a b = (a == b) := by
  unfold ueq; rw [nbeq_eq]
  by_cases h : a = b
  · subst h; simp
  · rw [decide_eq_false (fun e => h (UInt8.toNat_inj.1 e))]; exact (beq_eq_false_iff_ne.2 h).symm
theorem leqb_eq : ∀ a b : List UInt8, leqb a b = (a == b)
  | [], [] => rfl
  | [], b :: t => rfl
  | a :: l, [] => rfl
  | a :: l, b :: t => by
    show cond (ueq a b) (leqb l t) false = _
    rw [ueq_eq, leqb_eq l t, List.cons_beq_cons]
    cases a == b <;> rfl
theorem lltb_eq : ∀ a b : List UInt8, lltb a b = Op.bytesLess a b
  | [], [] => rfl
  | [], b :: t => rfl
  | a :: l, [] => rfl
  | a :: l, b :: t => by
    show cond (Nat.blt a.toNat b.toNat) true (cond (ueq a b) (lltb l t) false) = (decide (a < b) || (a == b && Op.bytesLess l t))
    rw [ueq_eq, lltb_eq l t, blt_eq]
    have : decide (a.toNat < b.toNat) = decide (a < b) := rfl
    rw [this]
    cases decide (a < b) <;> cases a == b <;> rfl
theorem bytesLess_or : ∀ a b : List UInt8, (Op.bytesLess a b || a == b) = !Op.bytesLess b a
  | [], [] => rfl
  | [], b :: t => rfl
  | a :: l, [] => rfl
  | a :: l, b :: t => by
    have ih := bytesLess_or l t
    show ((decide (a < b) || (a == b && Op.bytesLess l t)) || (a :: l == b :: t)) = !(decide (b < a) || (b == a && Op.bytesLess t l))
    rw [List.cons_beq_cons]
    by_cases h : a = b
    · subst h
      have hn : decide (a < a) = false := decide_eq_false (UInt8.lt_irrefl a)
      rw [hn]
      simp only [beq_self_eq_true, Bool.true_and, Bool.false_or]
      exact ih
    · have h1 : (a == b) = false := beq_eq_false_iff_ne.2 h
      have h2 : (b == a) = false := beq_eq_false_iff_ne.2 (Ne.symm h)
      rw [h1, h2]
      simp only [Bool.false_and, Bool.or_false]
      have hx : a.toNat ≠ b.toNat := fun e => h (UInt8.toNat_inj.1 e)
      by_cases hlt : a.toNat < b.toNat
      · rw [decide_eq_true (show a < b from hlt), decide_eq_false (show ¬ b < a from fun k => by have : b.toNat < a.toNat := k; omega)]; rfl
      · rw [decide_eq_false (show ¬ a < b from hlt), decide_eq_true (show b < a from (by show b.toNat < a.toNat; omega))]; rfl

theorem bl_toList (s : ByteArray) : s.toList = bl s := ByteArray.toList_eq s

section
variable {P : Program} {E : Env} {N : Nat} {w0 : World}

theorem run_partO {κ : Kap} {t : TypeId} {i : TI} {inf : TypeInfo} {d : TypeDesc} {z : Value} (h : TF P t i inf d z) {cs : List DV} {vs : Array Value} {off : Nat} (hv : VRL κ cs vs.toList) {a : DV} (e : partO i cs off = some a) (w : World) :
    ∃ v, (part t vs off).run P w = .ok v w ∧ VR κ a v := by
  unfold partO at e
  cases ha : i.isAgg with
  | true =>
    rw [ha, ltakeK_eq, ldrop_eq] at e
    simp only [cond_true] at e
    cases hl : lenIs ((cs.drop off).take i.size) i.size with
    | false => rw [hl] at e; cases e
    | true =>
      rw [hl] at e; cases e
      refine ⟨.agg (vs.extract off (off + i.size)), ?_, _, rfl, ?_⟩
      · simp only [Go.part, Sem.run_bind, h.run_agg, Result.andThen_ok, ha, if_true, h.run_size, Sem.run_pure]
      · rw [extract_list]; exact VRL.take _ _ _ (VRL.drop _ _ _ hv)
  | false =>
    rw [ha, lget_eq] at e
    simp only [cond_false] at e
    obtain ⟨v, h1, h2⟩ := VRL.get _ _ hv off a e
    refine ⟨v, ?_, h2⟩
    have h1' : vs[off]? = some v := by rw [← Array.getElem?_toList]; exact h1
    simp only [Go.part, Sem.run_bind, h.run_agg, Result.andThen_ok, ha, Bool.false_eq_true, if_false, h1', Sem.run_pure]

/-- one comparison of the abstract machine stands for the model's -/
def EqS (P : Program) (κ : Kap) (f : TypeId → DV → DV → Option Bool) (d : Nat) : Prop :=
  ∀ t x y x' y' r w, VR κ x x' → VR κ y y' → f t x y = some r → (Op.equalIn d t x' y').run P w = .ok r w

theorem run_eqFs (hE : EnvOk P E) {κ : Kap} {ih : TypeId → DV → DV → Option Bool} {d : Nat} (IH : EqS P κ ih d) {xs ys : List DV} {xs' ys' : Array Value} (hx : VRL κ xs xs'.toList) (hy : VRL κ ys ys'.toList) (w : World) :
    ∀ (fs : List Field) (fl : List (Nat × Nat × TypeId)) (r : Bool), (fs.all fun f => f.name != "_") = true → fs.mapM (fun f => (P.info? f.type).map fun j => (f.offset, j.size, f.type)) = some fl → eqFs E ih xs ys fl = some r →
      (Op.eqFields d xs' ys' fs).run P w = .ok r w
  | [], fl, r, _, hm, e => by
    simp at hm; subst hm; cases e; rfl
  | f :: fs, fl, r, hn, hm, e => by
    rw [List.mapM_cons] at hm
    simp only [bind, Option.bind_eq_some_iff, pure, Option.some.injEq, Option.map_eq_some_iff] at hm
    obtain ⟨_, ⟨jnf, hj, rfl⟩, fl', hm', rfl⟩ := hm
    simp only [List.all_cons, Bool.and_eq_true] at hn
    have hn1 : f.name ≠ "_" := by simpa using hn.1
    change (match E.ti.get f.type with
      | some j => match partO j xs f.offset, partO j ys f.offset with
        | some a, some b => match ih f.type a b, eqFs E ih xs ys fl' with
          | some x, some y => some (cond x y false)
          | _, _ => none
        | _, _ => none
      | none => none) = some r at e
    cases ht : E.ti.get f.type with
    | none => rw [ht] at e; cases e
    | some j =>
      rw [ht] at e
      obtain ⟨inf, dd, z, hf⟩ := TF.of (hE.ti _ _ ht)
      simp only at e
      split at e
      · rename_i a b ha hb
        obtain ⟨a', ra, va⟩ := run_partO hf hx ha w
        obtain ⟨b', rb, vb⟩ := run_partO hf hy hb w
        simp only [Op.eqFields, hn1, ne_eq, not_false_eq_true, if_true, Sem.run_bind, ra, rb, Result.andThen_ok]
        split at e
        · rename_i x y hi e2
          cases e
          rw [IH _ _ _ _ _ _ w va vb hi]
          cases x with
          | true =>
            simp only [Result.andThen_ok, Bool.not_true, Bool.false_eq_true, if_false]
            exact run_eqFs hE IH hx hy w fs fl' y hn.2 hm' e2
          | false => simp only [Result.andThen_ok, Bool.not_false, if_true, Sem.run_pure, cond_false]
        · cases e
      · cases e

theorem run_eqAr {κ : Kap} {ih : DV → DV → Option Bool} {d : Nat} {t : TypeId} {j : TI} {inf : TypeInfo} {dd : TypeDesc} {z : Value} (hf : TF P t j inf dd z)
    (IH : ∀ x y x' y' r w, VR κ x x' → VR κ y y' → ih x y = some r → (Op.equalIn d t x' y').run P w = .ok r w) {xs ys : List DV} {xs' ys' : Array Value} (hx : VRL κ xs xs'.toList) (hy : VRL κ ys ys'.toList) (w : World) :
    ∀ (n i : Nat) (r : Bool), eqAr ih j xs ys n i = some r → (Op.eqItems d t j.size xs' ys' (List.range' i n)).run P w = .ok r w
  | 0, i, r, e => by cases e; rfl
  | n + 1, i, r, e => by
    change (match partO j xs (i * j.size), partO j ys (i * j.size) with
      | some a, some b => match ih a b, eqAr ih j xs ys n (i + 1) with
        | some x, some y => some (cond x y false)
        | _, _ => none
      | _, _ => none) = some r at e
    rw [List.range'_succ]
    split at e
    · rename_i a b ha hb
      obtain ⟨a', ra, va⟩ := run_partO hf hx ha w
      obtain ⟨b', rb, vb⟩ := run_partO hf hy hb w
      simp only [Op.eqItems, Sem.run_bind, ra, rb, Result.andThen_ok]
      split at e
      · rename_i x y hi e2
        cases e
        rw [IH _ _ _ _ _ w va vb hi]
        cases x with
        | true =>
          simp only [Result.andThen_ok, Bool.not_true, Bool.false_eq_true, if_false]
          exact run_eqAr hf IH hx hy w n (i + 1) y e2
        | false => simp only [Result.andThen_ok, Bool.not_false, if_true, Sem.run_pure, cond_false]
      · cases e
    · cases e

theorem TF.bool {t : TypeId} {i : TI} {inf : TypeInfo} {d : TypeDesc} {z : Value} (h : TF P t i inf d z) (hu : i.und = .bool) : d = .bool := by
  have := h.ud; rw [hu] at this; cases d <;> first | rfl | exact ⟨_, rfl⟩ | exact ⟨_, _, _, rfl⟩ | cases this
theorem TF.iface {t : TypeId} {i : TI} {inf : TypeInfo} {d : TypeDesc} {z : Value} (h : TF P t i inf d z) (hu : i.und = .iface) : ∃ ms, d = .interface ms := by
  have := h.ud; rw [hu] at this; cases d <;> first | rfl | exact ⟨_, rfl⟩ | exact ⟨_, _, _, rfl⟩ | cases this
theorem TF.func {t : TypeId} {i : TI} {inf : TypeInfo} {d : TypeDesc} {z : Value} (h : TF P t i inf d z) (hu : i.und = .func) : ∃ a b c, d = .func a b c := by
  have := h.ud; rw [hu] at this; cases d <;> first | rfl | exact ⟨_, rfl⟩ | exact ⟨_, _, _, rfl⟩ | cases this

theorem cond_none {b : Bool} {α : Type} {x : Option α} {r : α} (h : cond b x none = some r) : b = true ∧ x = some r := by cases b; cases h; exact ⟨rfl, h⟩

theorem eqD_ok (hE : EnvOk P E) (κ : Kap) (k : Nat) : ∀ n, EqS P κ (eqD E n) (k + n)
  | 0 => by intro t x y x' y' r w _ _ e; cases e
  | n + 1 => by
    have IH := eqD_ok hE κ k n
    intro t x y x' y' r w hx hy e
    change (match E.ti.get t with
      | none => none
      | some i => _) = some r at e
    cases ht : E.ti.get t with
    | none => rw [ht] at e; cases e
    | some i =>
      obtain ⟨inf, d, z, h⟩ := TF.of (hE.ti _ _ ht)
      rw [ht] at e
      simp only at e
      rw [show k + (n + 1) = (k + n) + 1 from rfl]
      split at e
      · rename_i hu; obtain rfl := h.bool hu
        split at e
        · cases e; cases hx; cases hy
          rename_i a b
          simp only [Op.equalIn, Sem.run_bind, h.run_und, Result.andThen_ok, Sem.run_pure]
          cases a <;> cases b <;> rfl
        · cases e
      · rename_i hu; obtain rfl := h.int hu
        split at e
        · obtain ⟨h1, h2⟩ := cond_none e
          cases h2; cases hx; cases hy
          obtain rfl := (keq_eq _ _).1 h1
          simp only [Op.equalIn, Sem.run_bind, h.run_und, Result.andThen_ok, if_true, Sem.run_pure, ieq_eq]
          rfl
        · cases e
      · rename_i hu; obtain rfl := h.string hu
        split at e
        · cases e; cases hx; cases hy
          simp only [Op.equalIn, Sem.run_bind, h.run_und, Result.andThen_ok, Sem.run_pure, leqb_eq, beq_toListBytes, bl_toList]
        · cases e
      · rename_i e' hu; obtain rfl := h.pointer hu
        split at e
        · cases e; cases hx; cases hy
          simp only [Op.equalIn, Sem.run_bind, h.run_und, Result.andThen_ok, Sem.run_pure]; rfl
        · cases e; cases hx; obtain ⟨_, rfl⟩ := hy
          simp only [Op.equalIn, Sem.run_bind, h.run_und, Result.andThen_ok, Sem.run_pure]; rfl
        · cases e; cases hy; obtain ⟨_, rfl⟩ := hx
          simp only [Op.equalIn, Sem.run_bind, h.run_und, Result.andThen_ok, Sem.run_pure]
        · cases e; cases hx; cases hy
          simp only [Op.equalIn, Sem.run_bind, h.run_und, Result.andThen_ok, Sem.run_pure]; rfl
        · cases e; cases hy; cases hx
          simp only [Op.equalIn, Sem.run_bind, h.run_und, Result.andThen_ok, Sem.run_pure]
        · rename_i g p o g' p' o'
          split at e
          · rename_i j hj
            obtain ⟨jnf, dj, zj, h'⟩ := TF.of (hE.ti _ _ hj)
            obtain ⟨h1, h2⟩ := cond_none e
            obtain ⟨h3, h4⟩ := cond_none h2
            cases h4
            obtain ⟨_, rfl⟩ := hx
            obtain ⟨_, rfl⟩ := hy
            obtain rfl := beq_true h3
            have hz : j.size ≠ 0 := by have := blt_lt h1; omega
            simp only [Op.equalIn, Sem.run_bind, h.run_und, Result.andThen_ok, h'.run_size, ne_eq, hz, not_false_eq_true, if_true, sameAddr, beq_self_eq_true, Sem.run_pure, nbeq_eq]
            congr 1
            by_cases ho : o = o'
            · subst ho; simp
            · rw [decide_eq_false ho]
              apply beq_eq_false_iff_ne.2
              intro hc
              simp only [Addr.mk.injEq] at hc
              omega
          · cases e
        · cases e
      · rename_i hu; obtain rfl := h.slice hu
        split at e
        · cases e; cases hx; cases hy
          simp only [Op.equalIn, Sem.run_bind, h.run_und, Result.andThen_ok, Sem.run_pure]; rfl
        · cases e; cases hx; obtain ⟨o, c, rfl⟩ := VR.sl_form hy
          simp only [Op.equalIn, Sem.run_bind, h.run_und, Result.andThen_ok, Sem.run_pure]; rfl
        · cases e; cases hy; obtain ⟨o, c, rfl⟩ := VR.sl_form hx
          simp only [Op.equalIn, Sem.run_bind, h.run_und, Result.andThen_ok, Sem.run_pure]
        · cases e; cases hx; obtain ⟨_, rfl⟩ := hy
          simp only [Op.equalIn, Sem.run_bind, h.run_und, Result.andThen_ok, Sem.run_pure]; rfl
        · cases e; cases hy; obtain ⟨_, rfl⟩ := hx
          simp only [Op.equalIn, Sem.run_bind, h.run_und, Result.andThen_ok, Sem.run_pure]
        · cases e
      · rename_i hu; obtain rfl := h.map hu
        split at e
        · cases e; cases hx; cases hy
          simp only [Op.equalIn, Sem.run_bind, h.run_und, Result.andThen_ok, Sem.run_pure]; rfl
        · cases e; cases hx; obtain ⟨_, rfl⟩ := hy
          simp only [Op.equalIn, Sem.run_bind, h.run_und, Result.andThen_ok, Sem.run_pure]; rfl
        · cases e; cases hy; obtain ⟨_, rfl⟩ := hx
          simp only [Op.equalIn, Sem.run_bind, h.run_und, Result.andThen_ok, Sem.run_pure]
        · cases e
      · rename_i hu; obtain ⟨_, _, _, rfl⟩ := h.func hu
        split at e
        · cases e; cases hx; cases hy
          simp only [Op.equalIn, Sem.run_bind, h.run_und, Result.andThen_ok, Sem.run_pure]
        · cases e; cases hx; obtain ⟨_, _, rfl, _⟩ := hy
          simp only [Op.equalIn, Sem.run_bind, h.run_und, Result.andThen_ok, Sem.run_pure]
        · cases e; cases hy; obtain ⟨_, _, rfl, _⟩ := hx
          simp only [Op.equalIn, Sem.run_bind, h.run_und, Result.andThen_ok, Sem.run_pure]
        · cases e
      · rename_i hu; obtain ⟨_, rfl⟩ := h.iface hu
        split at e
        · cases e; cases hx; cases hy
          simp only [Op.equalIn, Sem.run_bind, h.run_und, Result.andThen_ok, Sem.run_pure]
        · cases e; cases hx; obtain ⟨_, rfl, _⟩ := hy
          simp only [Op.equalIn, Sem.run_bind, h.run_und, Result.andThen_ok, Sem.run_pure]
        · cases e; cases hy; obtain ⟨_, rfl, _⟩ := hx
          simp only [Op.equalIn, Sem.run_bind, h.run_und, Result.andThen_ok, Sem.run_pure]
        · cases e
      · rename_i hu; obtain ⟨fs, rfl⟩ := h.struct hu
        split at e
        · rename_i xs ys hq
          obtain ⟨vs, rfl, hvs⟩ := hx
          obtain ⟨us, rfl, hus⟩ := hy
          have hq := hE.eqt _ hq
          unfold eqtOk at hq
          simp only [Bool.and_eq_true, Bool.not_eq_true', h.und] at hq
          have hfs : P.fieldsOf t = fs := by simp [Program.fieldsOf, h.und]
          rw [run_equalIn_struct w (k + n) t vs us (by rw [hfs]; exact h.und) hq.1.1, hfs]
          exact run_eqFs hE IH hvs hus w _ _ r hq.2 h.fl e
        · cases e
      · rename_i m e' hu; obtain rfl := h.array hu
        split at e
        · rename_i xs ys j hj
          obtain ⟨vs, rfl, hvs⟩ := hx
          obtain ⟨us, rfl, hus⟩ := hy
          obtain ⟨jnf, dj, zj, h'⟩ := TF.of (hE.ti _ _ hj)
          have hs : P.cellsOf e' = j.size := by simp [Program.cellsOf, h'.info, h'.size]
          rw [run_equalIn_array w (k + n) vs us h.und h'.info, hs, List.range_eq_range']
          exact run_eqAr h' (fun x y x' y' r w h1 h2 h3 => IH _ _ _ _ _ _ w h1 h2 h3) hvs hus w _ _ r e
        · cases e
      · cases e
end
end Go.Am
