/- The operations of the abstract machine stand for the model's: binary and unary operators, conversions. -/
import Derived.Test.YtbaakikdmbehjaaDoorAmSim7
import Derived.Test.YtbaakikdmbehjaaDoorAmLocal2
set_option linter.unusedVariables false
set_option linter.unusedSimpArgs false
set_option linter.unusedSectionVars false
namespace Go.Am
open Go.RowKit
section
variable {P : Program} {E : Env} {N : Nat} {w0 : World}

theorem run_eqGuard_int (op : BinOp) (t : TypeId) (x y : Operand) (k j : IntKind) (a b : Int) (w : World) : (eqGuard op t x y (.int k a) (.int j b)).run P w = .ok () w := by
  cases op <;> rfl
theorem run_eqGuard_str (op : BinOp) (t : TypeId) (x y : Operand) (a b : ByteArray) (w : World) : (eqGuard op t x y (.string a) (.string b)).run P w = .ok () w := by
  cases op <;> rfl

theorem Sim.binInt {κ : Kap} {op : BinOp} {t : TypeId} {k j : IntKind} {a b : Int} : Sim P E N w0 κ VR (M.binInt op k a j b) (binOp op t (.int k a) (.int j b)) := by
  have other : (∀ v, op ≠ v → True) → (∀ kk : IntKind, binOp op t (.int k a) (.int kk b) = binOp op t (.int k a) (.int kk b)) → True := fun _ _ => trivial
  have gen : (M.binInt op k a j b = M.bind (M.chk (keq k j)) fun _ => M.bind (M.opt (binI op k a b)) M.val) → Sim P E N w0 κ VR (M.binInt op k a j b) (binOp op t (.int k a) (.int j b)) := by
    intro e
    rw [e]
    refine Sim.chk (Local.bind (Local.opt _) fun _ => Local.val _) fun h => ?_
    obtain rfl := (keq_eq _ _).1 h
    refine Sim.optB fun d hd => ?_
    obtain ⟨v, hv, hk⟩ := run_binI (P := P) (t := t) hd
    refine Sim.val hv ?_
    rcases hk with ⟨_, _, rfl, rfl⟩ | ⟨_, rfl, rfl⟩ <;> rfl
  cases op
  case shl =>
    refine Sim.chk (Local.val _) fun h => ?_
    rw [ilt_eq] at h
    have hb : ¬ b < 0 := by simpa using h
    refine Sim.val (b := .int k (k.wrap (a * 2 ^ min b.toNat k.bits))) (fun w => ?_) ?_
    · simp only [binOp, Op.shift, hb, if_false, Sem.run_pure]
    · show _ = _
      rw [iwr_eq, ibits_eq]; norm_cast
  case shr =>
    refine Sim.chk (Local.val _) fun h => ?_
    rw [ilt_eq] at h
    have hb : ¬ b < 0 := by simpa using h
    refine Sim.val (b := .int k (a.fdiv (2 ^ min b.toNat k.bits))) (fun w => ?_) ?_
    · simp only [binOp, Op.shift, hb, if_false, Sem.run_pure]
    · show _ = _
      rw [ibits_eq]; norm_cast
  case quo =>
    refine Sim.chk (Local.bind (Local.chk _) fun _ => Local.val _) fun h => ?_
    obtain rfl := (keq_eq _ _).1 h
    refine Sim.chk (Local.val _) fun h => ?_
    rw [ieq_eq] at h
    have hb : ¬ b = 0 := by simpa using h
    refine Sim.val (b := .int k (k.wrap (a.tdiv b))) (fun w => ?_) ?_
    · simp only [binOp, ne_eq, not_true_eq_false, if_false, Op.intDiv, hb, Sem.run_pure]
    · show _ = _
      rw [iwr_eq]
  case rem =>
    refine Sim.chk (Local.bind (Local.chk _) fun _ => Local.val _) fun h => ?_
    obtain rfl := (keq_eq _ _).1 h
    refine Sim.chk (Local.val _) fun h => ?_
    rw [ieq_eq] at h
    have hb : ¬ b = 0 := by simpa using h
    refine Sim.val (b := .int k (a.tmod b)) (fun w => ?_) (show _ = _ from rfl)
    simp only [binOp, ne_eq, not_true_eq_false, if_false, Op.intDiv, hb, Sem.run_pure]
  all_goals exact gen rfl

theorem run_binS {t : TypeId} {op : BinOp} {a b : ByteArray} {d : DV} (h : binS op a b = some d) : ∃ c, d = .bool c ∧ ∀ w, (binOp op t (.string a) (.string b)).run P w = .ok (.bool c) w := by
  cases op <;> simp only [binS, Option.some.injEq, reduceCtorEq] at h <;> subst h <;> refine ⟨_, rfl, fun w => ?_⟩
  · simp only [binOp, Op.stringOp, Sem.run_pure, leqb_eq, bl_toList]
  · simp only [binOp, Op.stringOp, Sem.run_pure, leqb_eq, bl_toList]
  · simp only [binOp, Op.stringOp, Sem.run_pure, lltb_eq, bl_toList]
  · simp only [binOp, Op.stringOp, Sem.run_pure, lltb_eq, bl_toList, bytesLess_or]
  · simp only [binOp, Op.stringOp, Sem.run_pure, lltb_eq, bl_toList, bytesLess_or, Bool.not_not]
  · simp only [binOp, Op.stringOp, Sem.run_pure, lltb_eq, bl_toList]

theorem mkS_app (a b : ByteArray) : mkS (bl a ++ bl b) = a ++ b := by
  apply ByteArray.ext
  rw [ByteArray.data_append]
  apply Array.ext'
  simp [mkS, bl]
theorem bl_size (a : ByteArray) : a.size = (bl a).length := by
  show a.data.size = a.data.toList.length
  simp

theorem VR.nilIface {κ : Kap} {x : DV}  (h : VR κ x .nilIface) : x = .undef ∨ x = .nili := by
  cases x <;> first | exact .inl rfl | exact .inr rfl | exact .inr ⟨_, rfl⟩ | (cases h; done) | (obtain ⟨_, h⟩ := h; cases h; done) | (obtain ⟨_, h, _⟩ := h; cases h; done) | (obtain ⟨_, _, h, _⟩ := h; cases h; done) | (obtain ⟨_, _, h⟩ := VR.sl_form h; cases h; done) | (cases h; exact .inr rfl)
theorem VR.agg {κ : Kap} {x : DV} {vs : Array Value} (h : VR κ x (.agg vs)) : x = .undef ∨ ∃ cs, x = .agg cs := by
  cases x <;> first | exact .inl rfl | exact .inr rfl | exact .inr ⟨_, rfl⟩ | (cases h; done) | (obtain ⟨_, h⟩ := h; cases h; done) | (obtain ⟨_, h, _⟩ := h; cases h; done) | (obtain ⟨_, _, h, _⟩ := h; cases h; done) | (obtain ⟨_, _, h⟩ := VR.sl_form h; cases h; done) | (cases h; exact .inr rfl)
theorem VR.int {κ : Kap} {x : DV} {k : IntKind} {n : Int} (h : VR κ x (.int k n)) : x = .undef ∨ x = .int k n := by
  cases x <;> first | exact .inl rfl | exact .inr rfl | exact .inr ⟨_, rfl⟩ | (cases h; done) | (obtain ⟨_, h⟩ := h; cases h; done) | (obtain ⟨_, h, _⟩ := h; cases h; done) | (obtain ⟨_, _, h, _⟩ := h; cases h; done) | (obtain ⟨_, _, h⟩ := VR.sl_form h; cases h; done) | (cases h; exact .inr rfl)
theorem VR.string {κ : Kap} {x : DV} {s : ByteArray} (h : VR κ x (.string s)) : x = .undef ∨ x = .str s := by
  cases x <;> first | exact .inl rfl | exact .inr rfl | exact .inr ⟨_, rfl⟩ | (cases h; done) | (obtain ⟨_, h⟩ := h; cases h; done) | (obtain ⟨_, h, _⟩ := h; cases h; done) | (obtain ⟨_, _, h, _⟩ := h; cases h; done) | (obtain ⟨_, _, h⟩ := VR.sl_form h; cases h; done) | (cases h; exact .inr rfl)
theorem VR.float {κ : Kap} {x : DV} {k : FloatKind} {n : Nat} (h : VR κ x (.float k n)) : x = .undef ∨ False := by
  cases x <;> first | exact .inl rfl | exact .inr rfl | exact .inr ⟨_, rfl⟩ | (cases h; done) | (obtain ⟨_, h⟩ := h; cases h; done) | (obtain ⟨_, h, _⟩ := h; cases h; done) | (obtain ⟨_, _, h, _⟩ := h; cases h; done) | (obtain ⟨_, _, h⟩ := VR.sl_form h; cases h; done) | (cases h; exact .inr rfl)
theorem VR.complex {κ : Kap} {x : DV} {k : FloatKind} {n m : Nat} (h : VR κ x (.complex k n m)) : x = .undef ∨ False := by
  cases x <;> first | exact .inl rfl | exact .inr rfl | exact .inr ⟨_, rfl⟩ | (cases h; done) | (obtain ⟨_, h⟩ := h; cases h; done) | (obtain ⟨_, h, _⟩ := h; cases h; done) | (obtain ⟨_, _, h, _⟩ := h; cases h; done) | (obtain ⟨_, _, h⟩ := VR.sl_form h; cases h; done) | (cases h; exact .inr rfl)
theorem VR.noFloat {κ : Kap} {x : DV} {v : Value} (h : VR κ x v) (d : x ≠ .undef) : (∀ k n, v ≠ .float k n) ∧ ∀ k n m, v ≠ .complex k n m :=
  ⟨fun k n e => by subst e; rcases VR.float h with h | h; exact d h; exact h, fun k n m e => by subst e; rcases VR.complex h with h | h; exact d h; exact h⟩
theorem binOp_eq {t : TypeId} {x y : Value} (k1 : ∀ k a j b, x = .int k a → y = .int j b → False) (k2 : ∀ a b, x = .string a → y = .string b → False) (k3 : ∀ k n, x ≠ .float k n) (k4 : ∀ k n m, x ≠ .complex k n m) :
    binOp .eql t x y = (do pure (.bool (← Op.equal t x y))) ∧ binOp .neq t x y = (do pure (.bool (!(← Op.equal t x y)))) := by
  cases x with
  | int k a => cases y <;> first | exact ⟨rfl, rfl⟩ | exact (k1 _ _ _ _ rfl rfl).elim
  | string a => cases y <;> first | exact ⟨rfl, rfl⟩ | exact (k2 _ _ rfl rfl).elim
  | float k n => exact (k3 _ _ rfl).elim
  | complex k n m => exact (k4 _ _ _ rfl).elim
  | _ => exact ⟨rfl, rfl⟩
theorem eqD_def {n : Nat} {t : TypeId} {x y : DV} {r : Bool} (e : eqD E n t x y = some r) : x ≠ .undef ∧ y ≠ .undef := by
  cases n with
  | zero => cases e
  | succ n =>
    change (match E.ti.get t with
      | none => none
      | some i => _) = some r at e
    split at e
    · cases e
    · split at e <;> first | (cases e; done) | (split at e <;> first | (cases e; done) | exact ⟨(by rintro ⟨⟩), (by rintro ⟨⟩)⟩)

theorem run_eqGuard_other (op : BinOp) (t : TypeId) (ox oy : Operand) {x y : Value} (h1 : x = .nilIface → y = .nilIface → False) (h2 : ∀ a b, x = .agg a → y = .agg b → False) (w : World) :
    (eqGuard op t ox oy x y).run P w = .ok () w := by
  have key : ∀ o : BinOp, (o = .eql ∨ o = .neq) → (eqGuard o t ox oy x y).run P w = .ok () w := by
    intro o ho
    cases x with
    | nilIface => cases y <;> first | exact (h1 rfl rfl).elim | (rcases ho with rfl | rfl <;> rfl)
    | agg a => cases y <;> first | exact (h2 _ _ rfl rfl).elim | (rcases ho with rfl | rfl <;> rfl)
    | _ => rcases ho with rfl | rfl <;> rfl
  cases op <;> first | exact key _ (.inl rfl) | exact key _ (.inr rfl) | rfl

theorem run_eqTop (hE : EnvOk P E) {κ : Kap} {cst : Bool} {t : TypeId} {x y : DV} {x' y' : Value} {ox oy : Operand} (hc : cst = (isC ox || isC oy)) (hx : VR κ x x') (hy : VR κ y y') {r : Bool} (e : eqTop E cst t x y = some r)
    (op : BinOp) (w : World) : (eqGuard op t ox oy x' y').run P w = .ok () w ∧ (Op.equal t x' y').run P w = .ok r w := by
  have main : eqD E 9 t x y = some r → (Op.equal t x' y').run P w = .ok r w := fun h => eqD_ok hE κ 9991 9 t x y x' y' r w hx hy h
  unfold eqTop at e
  split at e
  · obtain ⟨h1, h2⟩ := cond_none e
    refine ⟨?_, main h2⟩
    cases hx; cases hy
    rw [hc] at h1
    cases op <;> cases ox <;> cases oy <;> first | rfl | cases h1
  · split at e
    · rename_i hq
      obtain ⟨vs, rfl, hvs⟩ := hx
      obtain ⟨us, rfl, hus⟩ := hy
      have hq := hE.eqt _ hq
      unfold eqtOk at hq
      simp only [Bool.and_eq_true, Bool.not_eq_true'] at hq
      exact ⟨run_eqGuard_agg w op t ox oy vs us hq.1.2, main e⟩
    · cases e
  · rename_i h1 h2
    refine ⟨?_, main e⟩
    obtain ⟨dx, dy⟩ := eqD_def e
    refine run_eqGuard_other op t ox oy (fun e1 e2 => ?_) (fun a b e1 e2 => ?_) w
    · subst e1; subst e2
      rcases VR.nilIface hx with rfl | rfl
      · exact dx rfl
      · rcases VR.nilIface hy with rfl | rfl
        · exact dy rfl
        · exact h1 rfl rfl
    · subst e1; subst e2
      rcases VR.agg hx with rfl | ⟨cs, rfl⟩
      · exact dx rfl
      · rcases VR.agg hy with rfl | ⟨cs', rfl⟩
        · exact dy rfl
        · exact h2 _ _ rfl rfl

theorem Sim.opBin (hE : EnvOk P E) {κ : Kap} {cst : Bool} {op : BinOp} {t : TypeId} {x y : DV} {x' y' : Value} {ox oy : Operand} (hc : cst = (isC ox || isC oy)) (hx : VR κ x x') (hy : VR κ y y') :
    Sim P E N w0 κ VR (opBin E op t cst x y) (do eqGuard op t ox oy x' y'; binOp op t x' y') := by
  unfold Am.opBin
  split
  · cases hx; cases hy
    refine Sim.congr (fun w => ?_) (Sim.binInt (op := op) (t := t))
    simp only [Sem.run_bind, run_eqGuard_int, Result.andThen_ok]
  · rename_i a b
    cases hx; cases hy
    refine Sim.congr (s' := binOp op t (.string a) (.string b)) (fun w => ?_) ?_
    · simp only [Sem.run_bind, run_eqGuard_str, Result.andThen_ok]
    · split
      · rw [lappK_eq]
        refine Sim.chk (Local.pure _) fun h => ?_
        have h := ble_le h
        refine Sim.ret (b := .string (a ++ b)) (fun w => ?_) (by rw [mkS_app]; rfl)
        have : ¬ ((a.size + b.size : Nat) : Int) > IntKind.i64.max := by
          rw [bl_size, bl_size]
          have : IntKind.i64.max = 9223372036854775807 := rfl
          omega
        simp only [binOp, Op.stringOp, this, if_false, Sem.run_pure]
      · refine Sim.optB fun d hd => ?_
        obtain ⟨c, rfl, hr⟩ := run_binS (P := P) (t := t) hd
        exact Sim.val hr rfl
  · rename_i n1 n2
    have nint : ∀ r, eqTop E cst t x y = some r → (∀ w, (binOp .eql t x' y').run P w = .ok (.bool r) w) ∧ ∀ w, (binOp .neq t x' y').run P w = .ok (.bool !r) w := by
      intro r e
      have g := fun w => (run_eqTop hE hc hx hy e .eql w).2
      obtain ⟨dx, dy⟩ : x ≠ .undef ∧ y ≠ .undef := by
        unfold eqTop at e
        split at e
        · exact ⟨by rintro ⟨⟩, by rintro ⟨⟩⟩
        · exact ⟨by rintro ⟨⟩, by rintro ⟨⟩⟩
        · exact eqD_def e
      have k1 : (∀ k a j b, x' = .int k a → y' = .int j b → False) := fun k a j b e1 e2 => by
        subst e1; subst e2
        rcases VR.int hx with rfl | rfl
        · exact dx rfl
        · rcases VR.int hy with rfl | rfl
          · exact dy rfl
          · exact n1 _ _ _ _ rfl rfl
      have k2 : (∀ a b, x' = .string a → y' = .string b → False) := fun a b e1 e2 => by
        subst e1; subst e2
        rcases VR.string hx with rfl | rfl
        · exact dx rfl
        · rcases VR.string hy with rfl | rfl
          · exact dy rfl
          · exact n2 _ _ rfl rfl
      have k3 := VR.noFloat hx dx
      have hb := binOp_eq (t := t) k1 k2 k3.1 k3.2
      exact ⟨fun w => by rw [hb.1]; simp only [Sem.run_bind, g, Result.andThen_ok, Sem.run_pure], fun w => by rw [hb.2]; simp only [Sem.run_bind, g, Result.andThen_ok, Sem.run_pure]⟩
    split
    · refine Sim.optB fun r hr => ?_
      refine Sim.val (b := Value.bool r) (fun w => ?_) (show VR κ _ (Value.bool r) from rfl)
      simp only [Sem.run_bind, (run_eqTop hE hc hx hy hr .eql w).1, Result.andThen_ok, (nint r hr).1 w]
    · refine Sim.optB fun r hr => ?_
      refine Sim.val (b := Value.bool !r) (fun w => ?_) (show VR κ _ (Value.bool !r) from rfl)
      simp only [Sem.run_bind, (run_eqTop hE hc hx hy hr .neq w).1, Result.andThen_ok, (nint r hr).2 w]
    · exact Sim.fail
end
end Go.Am
