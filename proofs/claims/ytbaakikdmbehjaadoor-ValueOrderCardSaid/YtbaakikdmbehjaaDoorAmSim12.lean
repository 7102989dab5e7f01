/- One operation of the abstract machine stands for the model's: builtins, calls, all operations. -/
import Derived.Test.YtbaakikdmbehjaaDoorAmSim11
import Derived.Calls
set_option linter.unusedVariables false
set_option linter.unusedSimpArgs false
set_option linter.unusedSectionVars false
namespace Go.Am
open Go.RowKit

def PanR (κ : Kap) : List (DV × Bool) → List PanicEntry → Prop
  | [], l => l = []
  | d :: ds, l => ∃ p ps, l = p :: ps ∧ VR κ d.1 p.v ∧ p.recovered = d.2 ∧ p.goexit = false ∧ PanR κ ds ps

def ResR (κ : Kap) (r : ORes) (e : Ending) : Prop := match r, e with
  | .val v, .returned v' => VR κ v v'
  | .pan c, .panicked ch => PanR κ c ch
  | _, _ => False

structure FR (κ : Kap) (n : Nat) (t : Tr DV) (a : Act) : Prop where
  size : n ≤ a.tmps.size
  tmp : ∀ i d, t.get i = some d → VR κ d (a.tmps.getD i undef)
  dfr : a.defers = []

theorem FR.mono {κ κ' : Kap} {n : Nat} {t : Tr DV} {a : Act} (h : FR κ n t a) (hk : κ.le κ') : FR κ' n t a :=
  ⟨h.size, fun i d hd => VR.mono hk _ _ (h.tmp i d hd), h.dfr⟩
theorem FR.opnd {κ : Kap} {n : Nat} {t : Tr DV} {a : Act} (h : FR κ n t a) (o : Operand) : VR κ (opnd t o) (a.eval o) := by
  cases o with
  | tmp i =>
    unfold Am.opnd
    simp only
    cases hi : t.get i with
    | none => trivial
    | some d => exact h.tmp i d hi
  | const v => exact VR.ofV κ v
  | global g => rfl
  | func f => exact ⟨#[], #[], rfl, rfl, rfl⟩
theorem FR.opnds {κ : Kap} {n : Nat} {t : Tr DV} {a : Act} (h : FR κ n t a) : ∀ l : List Operand, VRL κ (opnds t l) (l.map a.eval)
  | [] => rfl
  | o :: l => ⟨_, _, rfl, h.opnd o, FR.opnds h l⟩
theorem FR.parts {κ : Kap} {n : Nat} {t : Tr DV} {a : Act} (h : FR κ n t a) : ∀ l : List (Nat × Operand), PRL κ (parts t l) (l.map fun p => (p.1, a.eval p.2))
  | [] => rfl
  | o :: l => ⟨_, _, rfl, h.opnd o.2, FR.parts h l⟩
theorem FR.opt {κ : Kap} {n : Nat} {t : Tr DV} {a : Act} (h : FR κ n t a) (x : Option Operand) : OptR κ (x.map (Am.opnd t)) (x.map a.eval) := by
  cases x with
  | none => trivial
  | some o => exact h.opnd o

section
variable (P : Program) (E : Env) (N : Nat) (w0 : World)

/-- calls of the abstract machine stand for the model's -/
def CallOk (callF : FuncId → List DV → M ORes) : Prop := ∀ f l S r S', callF f l S = some (r, S') → AllP S'.sy.phi → S.lg.thr ≤ S.pos →
  (∃ fn, P.funcs[f]? = some fn ∧ fn.body.isNone = false ∧ (fn.name == "runtime.NumGoroutine") = false) ∧
  (∀ a b c, r ≠ .dfr a b c) ∧
  ∀ κ l' w, Rr E N w0 κ S.heap w → Fresh κ S.ep S'.ep → VRL κ l l'.toList →
    Calls P f l' w fun e w' => ∃ κ', Ext κ κ' S.ep S'.ep ∧ Rr E N w0 κ' S'.heap w' ∧ ResR κ' r e

/-- what follows an operation of which the abstract machine says r -/
def After (κ : Kap) (S S' : St) (r : ORes) (o : Oper) (a : Act) (next : Act → World → Prop) (Q : Exit → Act → World → Prop) : Prop :=
  ∀ κ' w', Ext κ κ' S.ep S'.ep → Rr E N w0 κ' S'.heap w' → match r with
    | .val v => ∀ v', VR κ' v v' → next (a.put o.dst v') w'
    | .pan c => ∀ ch, PanR κ' c ch → Q (.panic ch) a w'
    | .dfr _ _ _ => True

variable {P E N w0}

/-- a computation with a value, as an operation -/
theorem upon_rv {κ : Kap} {m : M DV} {s : Sem Value} {o : Oper} {a : Act} {S : St} {r : ORes} {S' : St} {w : World} {next : Act → World → Prop} {Q : Exit → Act → World → Prop}
    (hm : Sim P E N w0 κ VR m s) (h0 : S.lg.thr ≤ S.pos) (e : rv m S = some (r, S')) (hp : AllP S'.sy.phi) (hR : Rr E N w0 κ S.heap w) (hF : Fresh κ S.ep S'.ep)
    (hk : After E N w0 κ S S' r o a next Q) {x : Sem Next} (hx : x = (do pure (.value (← s)))) : o.upon P a next Q (x.run P w) := by
  unfold rv at e
  obtain ⟨v, S1, e1, e2⟩ := M.bind_some e
  cases e2
  obtain ⟨κ', b, w', x1, x2, x3, x4⟩ := hm S v S' w h0 e1 hp hR hF
  subst hx
  simp only [Sem.run_bind, x2, Result.andThen_ok, Sem.run_pure]
  exact hk κ' w' x1 x4 b x3
theorem upon_ru {κ : Kap} {m : M Unit} {s : Sem Unit} {o : Oper} {a : Act} {S : St} {r : ORes} {S' : St} {w : World} {next : Act → World → Prop} {Q : Exit → Act → World → Prop}
    (hm : Sim P E N w0 κ (fun _ _ _ => True) m s) (h0 : S.lg.thr ≤ S.pos) (e : ru m S = some (r, S')) (hp : AllP S'.sy.phi) (hR : Rr E N w0 κ S.heap w) (hF : Fresh κ S.ep S'.ep)
    (hk : After E N w0 κ S S' r o a next Q) {x : Sem Next} (hx : x = (do s; pure .skip)) : o.upon P a next Q (x.run P w) := by
  unfold ru at e
  obtain ⟨v, S1, e1, e2⟩ := M.bind_some e
  cases e2
  obtain ⟨κ', b, w', x1, x2, x3, x4⟩ := hm S v S' w h0 e1 hp hR hF
  subst hx
  simp only [Sem.run_bind, x2, Result.andThen_ok, Sem.run_pure]
  exact hk κ' w' x1 x4 undef ⟨#[], rfl, rfl⟩

theorem toList_one {α : Type} {l : Array α} {x : α} (h : l.toList = [x]) : l = #[x] := by apply Array.ext'; exact h
theorem toList_two {α : Type} {l : Array α} {x y : α} (h : l.toList = [x, y]) : l = #[x, y] := by apply Array.ext'; exact h

theorem VRL.one {κ : Kap} {x : DV} {l : List Value} (h : VRL κ [x] l) : ∃ v, l = [v] ∧ VR κ x v := by
  obtain ⟨v, vs, rfl, h1, h2⟩ := h; cases h2; exact ⟨v, rfl, h1⟩
theorem VRL.two {κ : Kap} {x y : DV} {l : List Value} (h : VRL κ [x, y] l) : ∃ v u, l = [v, u] ∧ VR κ x v ∧ VR κ y u := by
  obtain ⟨v, vs, rfl, h1, h2⟩ := h
  obtain ⟨u, rfl, h3⟩ := VRL.one h2
  exact ⟨v, u, rfl, h1, h3⟩

theorem upon_builtin (hE : EnvOk P E) {κ : Kap} {b : Builtin} {ats : Array TypeId} {ty : TypeId} {cs : Array Bool} {l : List DV} {l' : Array Value} {o : Oper} {a : Act} {S : St} {r : ORes} {S' : St} {w : World}
    {next : Act → World → Prop} {Q : Exit → Act → World → Prop} (hl : VRL κ l l'.toList)
    (h0 : S.lg.thr ≤ S.pos) (e : evBuiltin E b ats.toList l S = some (r, S')) (hp : AllP S'.sy.phi) (hR : Rr E N w0 κ S.heap w) (hF : Fresh κ S.ep S'.ep)
    (hk : After E N w0 κ S S' r o a next Q) : o.upon P a next Q ((builtin b ats ty cs l').run P w) := by
  generalize hal : ats.toList = al at e
  unfold Am.evBuiltin at e
  split at e
  · rename_i t x
    obtain ⟨v, hv, hx⟩ := VRL.one hl
    rw [toList_one hal, toList_one hv]
    exact upon_rv (Sim.opLen hE (ty := ty) hx) h0 e hp hR hF hk rfl
  · rename_i t x
    obtain ⟨v, hv, hx⟩ := VRL.one hl
    rw [toList_one hal, toList_one hv]
    exact upon_rv (Sim.opCap hE (ty := ty) hx) h0 e hp hR hF hk rfl
  · rename_i t u s x
    obtain ⟨v, y, hv, hs, hx⟩ := VRL.two hl
    rw [toList_two hal, toList_two hv]
    refine upon_rv (s := Builtin.append_ #[t, u] ty #[v, y]) ?_ h0 e hp hR hF hk rfl
    refine Sim.tiM hE fun i inf d z h => ?_
    split
    · exact Sim.fail
    · rename_i hni
      exact Sim.opAppend hE hs hx h (fun kk hkk => hni kk hkk)
  · rename_i t u d x
    obtain ⟨v, y, hv, hs, hx⟩ := VRL.two hl
    rw [toList_two hal, toList_two hv]
    exact upon_rv (Sim.opCopy hE (ty := ty) hs hx) h0 e hp hR hF hk rfl
  · rename_i l0
    exact upon_rv (s := Builtin.min_ ats ty l') (Sim.opMin (mx := false) (ats := ats) (ty := ty) hl) h0 e hp hR hF hk rfl
  · rename_i l0
    exact upon_rv (s := Builtin.max_ ats ty l') (Sim.opMin (mx := true) (ats := ats) (ty := ty) hl) h0 e hp hR hF hk rfl
  · rename_i t ts m k
    obtain ⟨v, y, hv, hs, hx⟩ := VRL.two hl
    have : ats = (t :: ts).toArray := by apply Array.ext'; exact hal
    rw [this, toList_two hv]
    exact upon_rv (Sim.opDelete hE (ty := ty) hs hx) h0 e hp hR hF hk rfl
  · rename_i x
    obtain ⟨v, hv, hx⟩ := VRL.one hl
    rw [toList_one hv]
    split at e
    · rename_i t y
      cases e
      obtain ⟨y', rfl, hy⟩ := hx
      exact hk κ w (Ext.refl _ _ _) hR _ ⟨_, _, rfl, ⟨y', rfl, hy⟩, rfl, rfl, rfl⟩
    · cases e
  · cases e

theorem upon_call (hE : EnvOk P E) {callF : FuncId → List DV → M ORes} (hc : CallOk P E N w0 callF) {κ : Kap} {n : Nat} {t : Tr DV} {c : Call} {o : Oper} {a : Act} {S : St} {r : ORes} {S' : St} {w : World}
    {next : Act → World → Prop} {Q : Exit → Act → World → Prop} (ha : FR κ n t a)
    (h0 : S.lg.thr ≤ S.pos) (e : evCall E callF t c S = some (r, S')) (hp : AllP S'.sy.phi) (hR : Rr E N w0 κ S.heap w) (hF : Fresh κ S.ep S'.ep)
    (hk : After E N w0 κ S S' r o a next Q) : o.upon P a next Q ((do let d ← resolve a.eval c o.type; invoke d.target d.args : Sem Next).run P w) := by
  unfold Am.evCall at e
  have hargs : VRL κ (opnds t c.args.toList) (c.args.map a.eval).toList := by rw [Array.toList_map]; exact ha.opnds _
  generalize hcal : c.callee = cal at e
  cases cal with
  | builtin b =>
    simp only at e
    simp only [resolve, hcal, Sem.run_bind, Sem.run_pure, Result.andThen_ok, invoke]
    exact upon_builtin hE hargs h0 e hp hR hF hk
  | value f =>
    have hf := ha.opnd f
    simp only at e
    generalize hfo : Am.opnd t f = fv at e hf
    split at e
    · rename_i g first cap
      obtain ⟨f', c', hfe, hff, hcc⟩ := hf
      rw [lappK_eq, lappK_eq] at e
      obtain ⟨⟨fn, hfn, hbody, hname⟩, hnd, hcall⟩ := hc _ _ _ _ _ e hp h0
      have hrun : (do let d ← resolve a.eval c o.type; invoke d.target d.args : Sem Next).run P w = .ok (.enter g ((f' ++ c.args.map a.eval) ++ c')) w := by
        simp only [resolve, hcal, hfe, Deferred.ofValue, Sem.run_bind, Sem.run_pure, Result.andThen_ok, invoke, callFunc, run_program, hfn, hname, hbody, Bool.false_eq_true, if_false]
      rw [hrun, Oper.upon_enter]
      have hl : VRL κ (first ++ (opnds t c.args.toList ++ cap)) ((f' ++ c.args.map a.eval) ++ c').toList := by
        rw [Array.toList_append, Array.toList_append, List.append_assoc]
        exact VRL.app _ _ _ _ hff (VRL.app _ _ _ _ hargs hcc)
      refine (hcall κ _ w hR hF hl).mono fun en w' he => ?_
      obtain ⟨κ', x1, x2, x3⟩ := he
      have hk := hk κ' w' x1 x2
      cases r with
      | val v =>
        cases en with
        | returned v' => exact hk v' x3
        | _ => exact x3.elim
      | pan ch =>
        cases en with
        | panicked ch' => exact hk ch' x3
        | _ => exact x3.elim
      | dfr a b c => exact (hnd a b c rfl).elim
    · cases e
  | invoke _ _ => cases e

/-- an operation that only hands a value on -/
theorem upon_val {κ : Kap} {v : DV} {v' : Value} {o : Oper} {a : Act} {S : St} {r : ORes} {S' : St} {w : World} {next : Act → World → Prop} {Q : Exit → Act → World → Prop}
    (hv : VR κ v v') (e : rv (M.pure v) S = some (r, S')) (hR : Rr E N w0 κ S.heap w) (hk : After E N w0 κ S S' r o a next Q) {x : Sem Next} (hx : x.run P w = .ok (.value v') w) : o.upon P a next Q (x.run P w) := by
  cases e
  rw [hx]
  exact hk κ w (Ext.refl _ _ _) hR v' hv

theorem wp_op (hE : EnvOk P E) {callF : FuncId → List DV → M ORes} (hc : CallOk P E N w0 callF) {κ : Kap} {n : Nat} {t : Tr DV} {o : Oper} {a : Act} {S : St} {r : ORes} {S' : St} {w : World}
    {next : Act → World → Prop} {Q : Exit → Act → World → Prop} (ha : FR κ n t a)
    (h0 : S.lg.thr ≤ S.pos) (e : evOp E callF t o.op S = some (r, S')) (hp : AllP S'.sy.phi) (hR : Rr E N w0 κ S.heap w) (hF : Fresh κ S.ep S'.ep)
    (hk : After E N w0 κ S S' r o a next Q) : o.wp P a w next Q := by
  unfold Oper.wp
  unfold Am.evOp at e
  generalize hop : o.op = op at e
  unfold execOp
  simp only [hop]
  cases op <;> simp only at e ⊢
  case move x => exact upon_val (ha.opnd x) e hR hk (by simp only [Sem.run_pure])
  case assign x => exact upon_val (ha.opnd x) e hR hk (by simp only [Sem.run_pure])
  case pick c x y =>
    have hcv := ha.opnd c
    generalize Am.opnd t c = cv at e hcv
    split at e
    · rename_i b
      refine upon_rv (s := do pure (if ← asBool (a.eval c) then a.eval x else a.eval y)) (κ := κ) ?_ h0 (m := M.bind (M.dec b) fun b => M.pure (cond b (Am.opnd t x) (Am.opnd t y))) ?_ hp hR hF hk ?_
      · refine Sim.dec (fun d => Local.pure _) fun d hd => ?_
        subst hd
        have hcv : a.eval c = .bool b := hcv
        cases b with
        | true => exact Sim.ret (b := a.eval x) (fun w => by simp only [hcv, asBool, Sem.run_bind, Sem.run_pure, Result.andThen_ok, if_true]) (ha.opnd x)
        | false => exact Sim.ret (b := a.eval y) (fun w => by simp only [hcv, asBool, Sem.run_bind, Sem.run_pure, Result.andThen_ok, Bool.false_eq_true, if_false]) (ha.opnd y)
      · rw [← e]; unfold rv; rw [M.bind_assoc]
      · simp only [bind_assoc, pure_bind]
    · cases e
  case alloc el => exact upon_rv (Sim.opAlloc hE) h0 e hp hR hF hk rfl
  case box el x => exact upon_rv (Sim.opBox (ha.opnd x)) h0 e hp hR hF hk rfl
  case build ty ps => exact upon_rv (Sim.opBuild hE (by rw [Array.toList_map]; exact ha.parts _)) h0 e hp hR hF hk rfl
  case buildSlice ty m ps => exact upon_rv (Sim.opBuildSlice hE (by rw [Array.toList_map]; exact ha.parts _)) h0 e hp hR hF hk rfl
  case load ty x => exact upon_rv (Sim.opLoad hE (ha.opnd x)) h0 e hp hR hF hk rfl
  case store ty x v => exact upon_ru (Sim.opStore hE (ha.opnd x) (ha.opnd v)) h0 e hp hR hF hk rfl
  case nilCheck x =>
    have hx := ha.opnd x
    generalize Am.opnd t x = xv at e hx
    split at e
    · have hx2 := hx
      obtain ⟨_, hx⟩ := hx
      rw [hx] at hx2 ⊢
      exact upon_val hx2 e hR hk (by simp only [Sem.run_pure])
    · have hx2 := hx
      have hx : a.eval x = _ := hx
      rw [hx] at hx2 ⊢
      exact upon_val hx2 e hR hk (by simp only [Sem.run_pure])
    · have hx2 := hx
      obtain ⟨_, _, hx, _⟩ := hx
      rw [hx] at hx2 ⊢
      exact upon_val hx2 e hR hk (by simp only [Sem.run_pure])
    · have hx2 := hx
      obtain ⟨_, hx, _⟩ := hx
      rw [hx] at hx2 ⊢
      exact upon_val hx2 e hR hk (by simp only [Sem.run_pure])
    · cases e
  case binOp bop ty x y fl => exact upon_rv (Sim.opBin hE (ox := x) (oy := y) rfl (ha.opnd x) (ha.opnd y)) h0 e hp hR hF hk rfl
  case unOp uop ty x => exact upon_rv (Sim.opUn (ha.opnd x)) h0 e hp hR hF hk rfl
  case convert ta tb x => exact upon_rv (Sim.opConvert hE (ha.opnd x)) h0 e hp hR hF hk rfl
  case makeInterface ty x =>
    refine upon_rv (s := Instr.makeInterface ty (a.eval x)) (κ := κ) ?_ h0 e hp hR hF hk rfl
    refine Sim.tiM hE fun i inf d z h => ?_
    split
    · exact Sim.fail
    · rename_i hni
      have hd : ∀ ms, d ≠ .interface ms := by rintro ms rfl; exact hni h.ud
      refine Sim.ret (b := .iface ty (a.eval x)) (fun w => ?_) ⟨_, rfl, ha.opnd x⟩
      simp only [Instr.makeInterface, Sem.run_bind, h.run_und, Result.andThen_ok]
      cases d <;> first | exact (hd _ rfl).elim | rfl
  case makeFunc fn fs cs =>
    have hv : VR κ (.func fn (Am.opnds t fs.toList) (Am.opnds t cs.toList)) (.func fn (fs.map a.eval) (cs.map a.eval)) :=
      ⟨_, _, rfl, by rw [Array.toList_map]; exact ha.opnds _, by rw [Array.toList_map]; exact ha.opnds _⟩
    exact upon_val hv e hR hk (by simp only [Instr.makeFunc, Sem.run_bind, Sem.run_pure, Result.andThen_ok])
  case makeMap ty rs =>
    cases rs with
    | none => exact upon_rv (Sim.opMakeMap (t := ty)) h0 e hp hR hF hk rfl
    | some _ => cases e
  case makeSlice ty l c => exact upon_rv (Sim.opMakeSlice hE (ha.opnd l) (ha.opnd c)) h0 e hp hR hF hk rfl
  case slice ty x l h m => exact upon_rv (Sim.opSlice hE (ha.opnd x) (ha.opt l) (ha.opt h) (ha.opt m)) h0 e hp hR hF hk rfl
  case fieldAddr ty x f => exact upon_rv (Sim.opFieldAddr hE (ha.opnd x)) h0 e hp hR hF hk rfl
  case field ty x f => exact upon_rv (Sim.opField hE (ha.opnd x)) h0 e hp hR hF hk rfl
  case indexAddr ty x i => exact upon_rv (Sim.opIndexAddr hE (ha.opnd x) (ha.opnd i)) h0 e hp hR hF hk rfl
  case index ty x i => exact upon_rv (Sim.opIndex hE (ha.opnd x) (ha.opnd i)) h0 e hp hR hF hk rfl
  case lookup ty x i ok => exact upon_rv (Sim.opLookup hE (ha.opnd x) (ha.opnd i)) h0 e hp hR hF hk rfl
  case mapUpdate ty m k v => exact upon_ru (Sim.opMapUpdate hE (ha.opnd m) (ha.opnd k) (ha.opnd v)) h0 e hp hR hF hk rfl
  case insert ty m k v => exact upon_ru (Sim.opMapUpdate hE (ha.opnd m) (ha.opnd k) (ha.opnd v)) h0 e hp hR hF hk rfl
  case typeAssert x xt ty ok => exact upon_rv (Sim.opAssert hE (ha.opnd x)) h0 e hp hR hF hk rfl
  case extract x i =>
    have hx := ha.opnd x
    generalize Am.opnd t x = xv at e hx
    split at e
    · rename_i vs
      obtain ⟨us, hus, hvs⟩ := hx
      refine upon_rv (s := Instr.extract (a.eval x) i) (κ := κ) ?_ h0 e hp hR hF hk rfl
      rw [lget_eq]
      cases hi : vs[i]? with
      | none => exact Sim.fail
      | some d =>
        obtain ⟨v, h1, h2⟩ := VRL.get _ _ hvs i d hi
        rw [Array.getElem?_toList] at h1
        exact Sim.ret (b := v) (fun w => by rw [hus]; simp only [Instr.extract, h1, Sem.run_pure]) h2
    · cases e
  case call c => exact upon_call hE hc ha h0 e hp hR hF hk
  case panic x =>
    have hx := ha.opnd x
    generalize Am.opnd t x = xv at e hx
    split at e
    · rename_i ty y
      cases e
      obtain ⟨y', hx, hy⟩ := hx
      rw [hx]
      exact hk κ w (Ext.refl _ _ _) hR _ ⟨_, _, rfl, ⟨y', rfl, hy⟩, rfl, rfl, rfl⟩
    · cases e
  all_goals cases e
end
end Go.Am
