/- Regions whose order is drawn. -/
import Derived.Test.YtbaakikdmbehjaaDoorAmOrd
set_option linter.unusedVariables false
set_option linter.unusedSimpArgs false
set_option linter.unusedSectionVars false
namespace Go.Am
open Go.RowKit

/-- the check of a region whose order is drawn: edges go back, operations that may change places share no temporaries -/
def drawOk (ops : Array Oper) : Bool :=
  (List.range ops.size).all fun j => match ops[j]? with
    | none => false
    | some o => (o.after.toList.all fun e => !Region.binds .any e || Nat.blt e.on j) && (List.range j).all fun i => match ops[i]? with
      | none => false
      | some x => bit ops j i || Oper.apart ops x o

theorem drawOk_spec {ops : Array Oper} (h : drawOk ops = true) :
    (∀ k o, ops[k]? = some o → ∀ e ∈ o.after, Region.binds .any e = true → e.on < k ∧ e.on < ops.size) ∧
    (∀ i j x y, ops[i]? = some x → ops[j]? = some y → i < j → bit ops j i = false → Oper.apart ops x y = true) := by
  unfold drawOk at h
  rw [List.all_eq_true] at h
  refine ⟨fun k o ho e he hb => ?_, fun i j x y hx hy hij hb => ?_⟩
  · have hk := (Array.getElem?_eq_some_iff.1 ho).1
    have := h k (List.mem_range.2 hk)
    rw [ho] at this
    simp only [Bool.and_eq_true, List.all_eq_true] at this
    have h1 := this.1 e (Array.mem_toList_iff.2 he)
    rw [hb] at h1
    have h2 : Nat.blt e.on k = true := h1
    have := blt_lt h2
    exact ⟨this, by omega⟩
  · have hj := (Array.getElem?_eq_some_iff.1 hy).1
    have := h j (List.mem_range.2 hj)
    rw [hy] at this
    simp only [Bool.and_eq_true, List.all_eq_true] at this
    have h1 := this.2 i (List.mem_range.2 hij)
    rw [hx, hb] at h1
    exact h1

section
variable {E : Env} {callF : FuncId → List DV → M ORes}

theorem opnds_congr {t t' : Tr DV} : ∀ (l : List Operand), (∀ x ∈ l, opnd t x = opnd t' x) → opnds t l = opnds t' l
  | [], _ => rfl
  | o :: l, h => by
    show opnd t o :: opnds t l = opnd t' o :: opnds t' l
    rw [h o List.mem_cons_self, opnds_congr l fun x hx => h x (List.mem_cons_of_mem _ hx)]
theorem parts_congr {t t' : Tr DV} : ∀ (l : List (Nat × Operand)), (∀ x ∈ l, opnd t x.2 = opnd t' x.2) → parts t l = parts t' l
  | [], _ => rfl
  | o :: l, h => by
    show (o.1, opnd t o.2) :: parts t l = (o.1, opnd t' o.2) :: parts t' l
    rw [h o List.mem_cons_self, parts_congr l fun x hx => h x (List.mem_cons_of_mem _ hx)]

theorem evOp_congr {t t' : Tr DV} (op : Op) (h : ∀ x ∈ op.operands, opnd t x = opnd t' x) : evOp E callF t op = evOp E callF t' op := by
  unfold Am.evOp
  cases op
  case build ty ps =>
    simp only
    rw [parts_congr ps.toList fun x hx => h x.2 (by simp only [Op.operands]; simp only [List.mem_toArray, List.mem_map]; exact ⟨x, hx, rfl⟩)]
  case buildSlice ty n ps =>
    simp only
    rw [parts_congr ps.toList fun x hx => h x.2 (by simp only [Op.operands]; simp only [List.mem_toArray, List.mem_map]; exact ⟨x, hx, rfl⟩)]
  case makeFunc fn fs cs =>
    simp only
    rw [opnds_congr fs.toList fun x hx => h x (by simp only [Op.operands, Array.mem_append]; exact .inl (Array.mem_toList_iff.1 hx)),
      opnds_congr cs.toList fun x hx => h x (by simp only [Op.operands, Array.mem_append]; exact .inr (Array.mem_toList_iff.1 hx))]
  case slice ty x l hh m =>
    have e1 := h x (by simp [Op.operands])
    have e2 : l.map (opnd t) = l.map (opnd t') := by
      cases l with
      | none => rfl
      | some y => simp only [Option.map_some]; rw [h y (by simp [Op.operands])]
    have e3 : hh.map (opnd t) = hh.map (opnd t') := by
      cases hh with
      | none => rfl
      | some y => simp only [Option.map_some]; rw [h y (by simp [Op.operands])]
    have e4 : m.map (opnd t) = m.map (opnd t') := by
      cases m with
      | none => rfl
      | some y => simp only [Option.map_some]; rw [h y (by simp [Op.operands])]
    simp only [e1, e2, e3, e4]
  case call c =>
    simp only
    unfold Am.evCall
    have ha : opnds t c.args.toList = opnds t' c.args.toList := opnds_congr _ fun x hx => h x (by
      simp only [Op.operands, Call.operands]
      cases c.callee <;> simp [Array.mem_toList_iff.1 hx])
    cases hc : c.callee with
    | builtin b => simp only [ha]
    | value f =>
      have hf := h f (by simp only [Op.operands, Call.operands, hc]; simp)
      simp only [ha, hf]
    | invoke _ _ => rfl
  case pick c x y => simp only [h c (by simp [Op.operands]), h x (by simp [Op.operands]), h y (by simp [Op.operands])]
  case move x => simp only [h x (by simp [Op.operands])]
  case assign x => simp only [h x (by simp [Op.operands])]
  case box el x => simp only [h x (by simp [Op.operands])]
  case load ty x => simp only [h x (by simp [Op.operands])]
  case store ty x y => simp only [h x (by simp [Op.operands]), h y (by simp [Op.operands])]
  case nilCheck x => simp only [h x (by simp [Op.operands])]
  case binOp a b x y c => simp only [h x (by simp [Op.operands]), h y (by simp [Op.operands])]
  case unOp a b x => simp only [h x (by simp [Op.operands])]
  case convert a b x => simp only [h x (by simp [Op.operands])]
  case makeInterface a x => simp only [h x (by simp [Op.operands])]
  case makeSlice a x y => simp only [h x (by simp [Op.operands]), h y (by simp [Op.operands])]
  case fieldAddr a x b => simp only [h x (by simp [Op.operands])]
  case field a x b => simp only [h x (by simp [Op.operands])]
  case indexAddr a x y => simp only [h x (by simp [Op.operands]), h y (by simp [Op.operands])]
  case index a x y => simp only [h x (by simp [Op.operands]), h y (by simp [Op.operands])]
  case lookup a x y b => simp only [h x (by simp [Op.operands]), h y (by simp [Op.operands])]
  case mapUpdate a x y z => simp only [h x (by simp [Op.operands]), h y (by simp [Op.operands]), h z (by simp [Op.operands])]
  case insert a x y z => simp only [h x (by simp [Op.operands]), h y (by simp [Op.operands]), h z (by simp [Op.operands])]
  case typeAssert x a b c => simp only [h x (by simp [Op.operands])]
  case extract x a => simp only [h x (by simp [Op.operands])]
  case panic x => simp only [h x (by simp [Op.operands])]
  case makeMap ty r => cases r <;> rfl
  all_goals rfl

/-- one operation with its guard -/
noncomputable def opM (E : Env) (callF : FuncId → List DV → M ORes) (all : List Oper) (t : Tr DV) (o : Oper) : M ORes := M.bind (wantedM all t o.guard) fun w => match w with
  | false => M.pure (.val (.tup []))
  | true => evOp E callF t o.op

theorem Local.opM (hloc : ∀ f l, Local (callF f l)) (all : List Oper) (t : Tr DV) (o : Oper) : Local (opM E callF all t o) := by
  unfold Am.opM
  refine Local.bind (Local.wantedM _ _ _) fun w => ?_
  cases w with
  | false => exact Local.pure _
  | true => exact Local.evOp E hloc t o.op

theorem mem_looksAt {ops : Array Oper} {o : Oper} {d : Nat} (h : (.tmp d : Operand) ∈ o.op.operands) : d ∈ o.looksAt ops := by
  unfold Oper.looksAt
  refine List.mem_append.2 (.inl (List.mem_filterMap.2 ⟨.tmp d, Array.mem_toList_iff.2 h, rfl⟩))

theorem opM_congr {ops : Array Oper} {t t' : Tr DV} {o : Oper} (h : ∀ d, d ∈ o.looksAt ops → t.get d = t'.get d) : opM E callF ops.toList t o = opM E callF ops.toList t' o := by
  have h1 : evOp E callF t o.op = evOp E callF t' o.op := evOp_congr o.op fun x hx => by
    cases x with
    | tmp d => unfold Am.opnd; simp only; rw [h d (mem_looksAt hx)]
    | _ => rfl
  have h2 : wantedM ops.toList t o.guard = wantedM ops.toList t' o.guard := by
    unfold Am.wantedM
    cases hg : o.guard with
    | none => rfl
    | some g =>
      obtain ⟨j, want⟩ := g
      simp only [lget_eq]
      cases hj : ops.toList[j]? with
      | none => rfl
      | some oj =>
        simp only
        cases hd : oj.dst with
        | none => rfl
        | some d =>
          simp only
          rw [h d (by
            unfold Oper.looksAt
            rw [hg]
            refine List.mem_append.2 (.inr ?_)
            rw [Array.getElem?_toList] at hj
            simp only [hj, Option.bind_some, hd]
            simp)]
  unfold Am.opM
  rw [h1, h2]

/-- the text's run, stage by stage -/
structure Trace (E : Env) (callF : FuncId → List DV → M ORes) (all l : List Oper) (i0 : Nat) (n : Nat) (St : Nat → St) (T : Nat → Tr DV) (V : Nat → DV) (R : Nat → Rec) : Prop where
  run : ∀ (k : Nat) (o : Oper), l[k]? = some o → M.op (opM E callF all (T k) o) (St k) = some ((.val (V k), R k), St (k + 1))
  put : ∀ (k : Nat) (o : Oper), l[k]? = some o → match o.dst with
    | none => T (k + 1) = T k
    | some d => d < n ∧ T (k + 1) = Tr.set (some (V k)) (T k) d

theorem trace_of {all : List Oper} {n : Nat} {df : List (Fn × List DV × List DV)} : ∀ (l : List Oper) (i : Nat) (t : Tr DV) (rs : List (Nat × Rec)) (S : St) (f' : AF) (rs' : List (Nat × Rec)) (S' : St),
    evDrawOps E callF all l i ⟨n, t, df⟩ rs S = some ((f', rs'), S') → ∃ (ST : Nat → St) (T : Nat → Tr DV) (V : Nat → DV) (R : Nat → Rec),
      ST 0 = S ∧ T 0 = t ∧ ST l.length = S' ∧ f' = ⟨n, T l.length, df⟩ ∧ (∀ x ∈ rs, x ∈ rs') ∧ (∀ k, k < l.length → (i + k, R k) ∈ rs') ∧ Trace E callF all l i n ST T V R
  | [], i, t, rs, S, f', rs', S', e => by
    cases e
    exact ⟨fun _ => S, fun _ => t, fun _ => .undef, fun _ => ⟨0, 0, [], [], []⟩, rfl, rfl, rfl, rfl, fun x hx => hx, fun k hk => by simp at hk, ⟨fun k o h => by simp at h, fun k o h => by simp at h⟩⟩
  | o :: l, i, t, rs, S, f', rs', S', e => by
    change M.bind (M.op (opM E callF all t o)) (fun r => match r with
        | (.val v, rc) => putK n t o.dst v fun t => evDrawOps E callF all l (i + 1) ⟨n, t, df⟩ ((i, rc) :: rs)
        | _ => M.fail) S = some ((f', rs'), S') at e
    obtain ⟨r, S1, e1, e2⟩ := M.bind_some e
    obtain ⟨r, rc⟩ := r
    cases r with
    | val v =>
      simp only at e2
      unfold putK at e2
      have main : ∀ t', evDrawOps E callF all l (i + 1) ⟨n, t', df⟩ ((i, rc) :: rs) S1 = some ((f', rs'), S') → (match o.dst with
            | none => t' = t
            | some d => d < n ∧ t' = Tr.set (some v) t d) → ∃ (ST : Nat → St) (T : Nat → Tr DV) (V : Nat → DV) (R : Nat → Rec),
          ST 0 = S ∧ T 0 = t ∧ ST (l.length + 1) = S' ∧ f' = ⟨n, T (l.length + 1), df⟩ ∧ (∀ x ∈ rs, x ∈ rs') ∧ (∀ k, k < l.length + 1 → (i + k, R k) ∈ rs') ∧ Trace E callF all (o :: l) i n ST T V R := by
        intro t' e3 hput
        obtain ⟨ST, T, V, R, h1, h2, h3, h4, h5, h6, h7⟩ := trace_of l (i + 1) t' _ S1 f' rs' S' e3
        refine ⟨fun k => match k with | 0 => S | k + 1 => ST k, fun k => match k with | 0 => t | k + 1 => T k, fun k => match k with | 0 => v | k + 1 => V k, fun k => match k with | 0 => rc | k + 1 => R k,
          rfl, rfl, h3, h4, fun x hx => h5 x (List.mem_cons_of_mem _ hx), fun k hk => ?_, ⟨fun k o' ho => ?_, fun k o' ho => ?_⟩⟩
        · cases k with
          | zero => exact h5 _ List.mem_cons_self
          | succ k => have := h6 k (by omega); rw [show i + (k + 1) = i + 1 + k by omega]; exact this
        · cases k with
          | zero => simp at ho; subst ho; show _ = some ((_, _), ST 0); rw [h1]; exact e1
          | succ k => rw [List.getElem?_cons_succ] at ho; exact h7.run k o' ho
        · cases k with
          | zero => simp at ho; subst ho; show (match o.dst with | none => T 0 = t | some d => d < n ∧ T 0 = Tr.set (some v) t d); rw [h2]; exact hput
          | succ k => rw [List.getElem?_cons_succ] at ho; exact h7.put k o' ho
      cases hd : o.dst with
      | none => rw [hd] at e2; exact main t e2 (by rw [hd])
      | some d =>
        rw [hd] at e2
        simp only at e2
        cases hb : Nat.blt d n with
        | false => rw [hb] at e2; cases e2
        | true =>
          rw [hb] at e2
          simp only [cond_true] at e2
          rw [Tr.setK_eq] at e2
          exact main _ e2 (by rw [hd]; exact ⟨blt_lt hb, rfl⟩)
    | _ => cases e2
end
end Go.Am
