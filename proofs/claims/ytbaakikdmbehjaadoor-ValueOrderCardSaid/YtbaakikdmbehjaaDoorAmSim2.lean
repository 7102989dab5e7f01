/- The operations of the abstract machine stand for the model's: types, loads, stores, addresses, building. -/
import Derived.Test.YtbaakikdmbehjaaDoorAmSim
set_option linter.unusedVariables false
set_option linter.unusedSimpArgs false
set_option linter.unusedSectionVars false
namespace Go.Am
open Go.RowKit

def udOf : TypeDesc → UD
  | .bool => .bool
  | .int k => .int k
  | .string => .string
  | .pointer e => .pointer e
  | .slice e => .slice e
  | .array n e => .array n e
  | .map k e => .map k e
  | .struct _ => .struct
  | .interface _ => .iface
  | .func _ _ _ => .func
  | _ => .other

def fldsOf (P : Program) : TypeDesc → Option (List (Nat × Nat × TypeId))
  | .struct fs => fs.toList.mapM fun f => (P.info? f.type).map fun j => (f.offset, j.size, f.type)
  | _ => some []

def Value.isAggV : Value → Bool
  | .agg _ => true
  | _ => false
def aggD : TypeDesc → Bool
  | .struct _ | .array _ _ => true
  | _ => false

/-- what the tables of the abstract machine must say of a type -/
def tiOf (P : Program) (t : TypeId) : Option TI := match P.info? t, P.underlying t with
  | some inf, some d => match inf.zero, fldsOf P d with
    | some z, some fl => cond (Value.isAggV z == aggD d) (some ⟨inf.size, inf.bytes, z.cells.toList.map ofV0, udOf d, fl⟩) none
    | _, _ => none
  | _, _ => none

def eqtOk (P : Program) (t : TypeId) : Bool := !P.stoodInHeld t && !P.eqGuardType P.depth t && (match P.underlying t with
  | some (.struct fs) => fs.toList.all fun f => f.name != "_"
  | _ => true)

structure EnvOk (P : Program) (E : Env) : Prop where
  ti : ∀ t i, E.ti.get t = some i → tiOf P t = some i
  fn : ∀ f fn, E.fn.get f = some fn → P.funcs[f]? = some fn ∧ (fn.name == "runtime.NumGoroutine") = false
  eqt : ∀ t, E.eqt.get t = some true → eqtOk P t = true

structure TF (P : Program) (t : TypeId) (i : TI) (inf : TypeInfo) (d : TypeDesc) (z : Value) : Prop where
  info : P.info? t = some inf
  und : P.underlying t = some d
  zero : inf.zero = some z
  size : inf.size = i.size
  bytes : inf.bytes = i.bytes
  zc : i.zero = z.cells.toList.map ofV0
  ud : i.und = udOf d
  fl : fldsOf P d = some i.flds
  ag : Value.isAggV z = i.isAgg

theorem TF.of {P : Program} {t : TypeId} {i : TI} (h : tiOf P t = some i) : ∃ inf d z, TF P t i inf d z := by
  unfold tiOf at h
  split at h
  · rename_i inf d h1 h2
    split at h
    · rename_i z fl h3 h4
      cases hz : (Value.isAggV z == aggD d) with
      | false => rw [hz] at h; cases h
      | true =>
        rw [hz] at h; cases h
        refine ⟨inf, d, z, h1, h2, h3, rfl, rfl, rfl, rfl, h4, ?_⟩
        rw [eq_of_beq hz]
        cases d <;> rfl
    · cases h
  · cases h

theorem VR.ofV0 (κ : Kap) (v : Value) : VR κ (ofV0 v) v := by
  unfold Am.ofV0
  split <;> first | rfl | trivial
theorem VRL.ofV0 (κ : Kap) : ∀ l : List Value, VRL κ (l.map Am.ofV0) l
  | [] => rfl
  | v :: l => ⟨v, l, rfl, VR.ofV0 κ v, VRL.ofV0 κ l⟩
theorem VR.ofV (κ : Kap) (v : Value) : VR κ (ofV v) v := by
  unfold Am.ofV
  split
  · rename_i cs; exact ⟨cs, rfl, VRL.ofV0 κ _⟩
  · rename_i f a b
    split
    · rename_i h1 h2
      exact ⟨a, b, rfl, by rw [h1]; rfl, by rw [h2]; rfl⟩
    · trivial
  · exact VR.ofV0 κ v

section
variable {P : Program} {E : Env} {N : Nat} {w0 : World}

theorem Sim.tiM {α β : Type} {κ : Kap} {Q : Kap → α → β → Prop} {t : TypeId} {k : TI → M α} {s : Sem β} (hE : EnvOk P E)
    (h : ∀ i inf d z, TF P t i inf d z → Sim P E N w0 κ Q (k i) s) : Sim P E N w0 κ Q (tiM E t k) s := by
  unfold Am.tiM
  cases ht : E.ti.get t with
  | none => exact Sim.fail
  | some i =>
    obtain ⟨inf, d, z, hf⟩ := TF.of (hE.ti t i ht)
    exact h i inf d z hf

section
variable {t : TypeId} {i : TI} {inf : TypeInfo} {d : TypeDesc} {z : Value} (w : World)
theorem TF.run_info (h : TF P t i inf d z) : (typeInfo t).run P w = .ok inf w := by
  simp only [typeInfo, Sem.run_bind, run_program, Result.andThen_ok, h.info, Sem.run_pure]
theorem TF.run_und (h : TF P t i inf d z) : (underlying t).run P w = .ok d w := by
  simp only [underlying, Sem.run_bind, run_program, Result.andThen_ok, h.und, Sem.run_pure]
theorem TF.run_size (h : TF P t i inf d z) : (sizeOf t).run P w = .ok i.size w := by
  simp only [sizeOf, Sem.run_bind, h.run_info, Result.andThen_ok, Sem.run_pure, h.size]
theorem TF.run_zero (h : TF P t i inf d z) : (zeroValue t).run P w = .ok z w := by
  simp only [zeroValue, Sem.run_bind, h.run_info, Result.andThen_ok, h.zero, Sem.run_pure]
theorem TF.run_agg (h : TF P t i inf d z) : (isAgg t).run P w = .ok i.isAgg w := by
  simp only [isAgg, Sem.run_bind, h.run_und, Result.andThen_ok]
  unfold TI.isAgg
  rw [h.ud]
  cases d <;> rfl
end

theorem extract_list (cs : Array Value) (off n : Nat) : (cs.extract off (off + n)).toList = (cs.toList.drop off).take n := by
  simp [List.extract_eq_take_drop]

theorem Sim.part {κ : Kap} {t : TypeId} {i : TI} {inf : TypeInfo} {d : TypeDesc} {z : Value} (h : TF P t i inf d z) {cs : List DV} {vs : Array Value} {off : Nat} (hv : VRL κ cs vs.toList) :
    Sim P E N w0 κ VR (M.part i cs off) (part t vs off) := by
  unfold M.part
  split
  · rename_i ha
    rw [ltakeK_eq, ldrop_eq]
    refine Sim.chk (Local.pure _) fun hl => ?_
    refine Sim.ret (b := .agg (vs.extract off (off + i.size))) (fun w => ?_) ⟨_, rfl, ?_⟩
    · simp only [Go.part, Sem.run_bind, h.run_agg, Result.andThen_ok, ha, if_true, h.run_size, Sem.run_pure]
    · rw [extract_list]; exact VRL.take _ _ _ (VRL.drop _ _ _ hv)
  · rename_i ha
    rw [lget_eq]
    cases hc : cs[off]? with
    | none => exact Sim.fail
    | some c =>
      obtain ⟨v, e, hr⟩ := VRL.get _ _ hv off c hc
      refine Sim.ret (b := v) (fun w => ?_) hr
      have e' : vs[off]? = some v := by rw [← e]; simp
      simp only [Go.part, Sem.run_bind, h.run_agg, Result.andThen_ok, ha, Bool.false_eq_true, if_false, e', Sem.run_pure]

theorem Sim.opLoad (hE : EnvOk P E) {κ : Kap} {t : TypeId} {x : DV} {x' : Value} (hx : VR κ x x') : Sim P E N w0 κ VR (opLoad E t x) (Instr.loadAt t x') := by
  unfold Am.opLoad
  refine Sim.tiM hE fun i inf d z h => ?_
  split
  · rename_i g p off
    obtain ⟨hd, rfl⟩ := hx
    split
    · rename_i ha
      refine Sim.congr (s' := loadCells ⟨κ.blk g, κ.bas g + off, none⟩ i.size >>= fun r => Pure.pure (.agg r)) (fun w => ?_) ?_
      · simp only [Instr.loadAt, Instr.sureAddr, loadVar, Sem.run_bind, Sem.run_pure, Result.andThen_ok, h.run_agg, ha, if_true, h.run_size]
      · exact Sim.ldc rfl (fun r => Local.pure _) fun r r' hl hr => Sim.pure ⟨r', rfl, hr⟩
    · rename_i ha
      refine Sim.congr (s' := load ⟨κ.blk g, κ.bas g + off, none⟩) (fun w => ?_) (Sim.ld1 rfl)
      simp only [Instr.loadAt, Instr.sureAddr, loadVar, Sem.run_bind, Sem.run_pure, Result.andThen_ok, h.run_agg, ha, Bool.false_eq_true, if_false]
  · rename_i a
    cases hx
    obtain ⟨b, o, sp⟩ := a
    cases sp with
    | some s => exact Sim.fail
    | none =>
      simp only
      cases hg : E.glob.get b with
      | none => exact Sim.fail
      | some cs =>
        intro S r S' w h0 e hp hR hF
        simp only at e
        have hc : ∀ j c, cs[j]? = some c → ∃ v, w.cell? ⟨b, j, none⟩ = some v ∧ VR κ c v := fun j c hj => by
          obtain ⟨v, h1, h2⟩ := hR.glob b cs j c hg hj
          exact ⟨v, (hR.phi _ _ h1).1, h2⟩
        unfold M.part at e
        cases ha : i.isAgg with
        | true =>
          rw [ha] at e
          simp only at e
          rw [ltakeK_eq, ldrop_eq] at e
          obtain ⟨⟨⟩, S1, e1, e2⟩ := M.bind_some e
          obtain ⟨c1, c2, c3, c4, c5⟩ := M.chk_some e1
          cases e2
          have hl : ((cs.drop o).take i.size).length = i.size := beq_true (c5 hp).1
          have hvs : ∃ vs : List Value, VRL κ ((cs.drop o).take i.size) vs ∧ ∀ j v, vs[j]? = some v → w.cell? ((⟨b, o, none⟩ : Addr).add j) = some v := by
            refine ⟨(List.range i.size).map fun j => (w.cell? ⟨b, o + j, none⟩).getD undef, VRL.mk _ _ (by simp [hl]) fun j c hj => ?_, fun j v hv => ?_⟩
            · have hj' : j < i.size := by have := (List.getElem?_eq_some_iff.1 hj).1; omega
              rw [List.getElem?_take_of_lt hj', List.getElem?_drop] at hj
              obtain ⟨v, h1, h2⟩ := hc (o + j) c hj
              exact ⟨v, by simp [List.getElem?_map, List.getElem?_range, hj', h1], h2⟩
            · have hj' : j < i.size := by have := (List.getElem?_eq_some_iff.1 hv).1; simpa using this
              have hj2 : o + j < cs.length := by simp at hl; omega
              obtain ⟨u, h1, _⟩ := hc (o + j) cs[o + j] (List.getElem?_eq_getElem hj2)
              simp [List.getElem?_map, List.getElem?_range, hj', h1] at hv
              rw [add_cell, h1, hv]
          obtain ⟨vs, h1, h2⟩ := hvs
          have hrun := run_loadCells_list (P := P) (w := w) ⟨b, o, none⟩ vs h2
          rw [VRL.length _ _ h1, hl] at hrun
          refine ⟨κ, .agg vs.toArray, w, Ext.refl _ _ _, ?_, ⟨_, rfl, by simpa using h1⟩, by rw [c1]; exact hR⟩
          simp only [Instr.loadAt, Instr.sureAddr, loadVar, Sem.run_bind, Sem.run_pure, Result.andThen_ok, h.run_agg, ha, if_true, h.run_size, hrun]
        | false =>
          rw [ha] at e
          simp only at e
          rw [lget_eq] at e
          cases hcc : cs[o]? with
          | none => rw [hcc] at e; cases e
          | some c =>
            rw [hcc] at e; cases e
            obtain ⟨v, h1, h2⟩ := hc o r hcc
            refine ⟨κ, v, w, Ext.refl _ _ _, ?_, h2, hR⟩
            simp only [Instr.loadAt, Instr.sureAddr, loadVar, Sem.run_bind, Sem.run_pure, Result.andThen_ok, h.run_agg, ha, Bool.false_eq_true, if_false, run_load, h1]
  · exact Sim.fail

theorem Sim.opStore (hE : EnvOk P E) {κ : Kap} {t : TypeId} {x v : DV} {x' v' : Value} (hx : VR κ x x') (hv : VR κ v v') :
    Sim P E N w0 κ (fun _ _ _ => True) (opStore E t x v) (Instr.storeAt t x' v') := by
  unfold Am.opStore
  refine Sim.tiM hE fun i inf d z h => ?_
  split
  · rename_i g p off
    obtain ⟨hd, rfl⟩ := hx
    refine Sim.chk (Local.stc _ _ _ _) fun hc => ?_
    have hl : v.cells.length = i.size ∧ allScal v.cells = true := by
      cases h1 : lenIs v.cells i.size with
      | false => rw [h1] at hc; cases hc
      | true => rw [h1] at hc; exact ⟨beq_true h1, hc⟩
    have hne : v ≠ .undef := by rintro rfl; exact absurd hl.2 (by decide)
    have hvr := hv.cells hne
    refine Sim.congr (s' := storeCells ⟨κ.blk g, κ.bas g + off, none⟩ v'.cells.toList) (fun w => ?_) (Sim.stc rfl hvr hl.2)
    have e : v'.cells.size = i.size := by have := VRL.length _ _ hvr; simp at this; omega
    simp only [Instr.storeAt, Instr.sureAddr, storeVar, Sem.run_bind, Sem.run_pure, Result.andThen_ok, h.run_size, e, ne_eq, not_true_eq_false, if_false]
  · exact Sim.fail

theorem Sim.newPtr {κ : Kap} {cs : List DV} {elem : TypeId} {C : Array Value} (h : VRL κ cs C.toList) :
    Sim P E N w0 κ VR (M.bind (M.new false cs) fun pe => M.pure (.ptr pe.2 pe.1 0)) (do Pure.pure (Value.pointer (some (← newRow elem C)))) :=
  Sim.bind (Local.new _ _) (fun _ => Local.pure _) (Sim.new h) fun κ' pe ad _ hq => Sim.pure ⟨hq.1, by rw [hq.2.2, hq.2.1]⟩

theorem Sim.opBox {κ : Kap} {elem : TypeId} {x : DV} {x' : Value} (hx : VR κ x x') : Sim P E N w0 κ VR (opBox x) (Instr.box elem x') := by
  unfold Am.opBox
  refine Sim.chk (Local.bind (Local.new _ _) fun _ => Local.pure _) fun hc => ?_
  have hne : x ≠ .undef := by rintro rfl; exact absurd hc (by decide)
  exact Sim.newPtr (hx.cells hne)
theorem Sim.opAlloc (hE : EnvOk P E) {κ : Kap} {t : TypeId} : Sim P E N w0 κ VR (opAlloc E t) (Instr.alloc t true (.tuple #[])) := by
  unfold Am.opAlloc
  refine Sim.tiM hE fun i inf d z h => ?_
  refine Sim.chk (Local.bind (Local.new _ _) fun _ => Local.pure _) fun hc => ?_
  refine Sim.congr (s' := do Pure.pure (Value.pointer (some (← newRow t z.cells)))) (fun w => ?_) (Sim.newPtr (by rw [h.zc]; exact VRL.ofV0 _ _))
  simp only [Instr.alloc, Sem.run_bind, h.run_zero, Result.andThen_ok, newVar, Sem.run_pure]
end
end Go.Am
