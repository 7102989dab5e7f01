/- The operations of a region in the text's order. -/
import Derived.Test.YtbaakikdmbehjaaDoorAmSim12
set_option linter.unusedVariables false
set_option linter.unusedSimpArgs false
set_option linter.unusedSectionVars false
namespace Go.Am
open Go.RowKit

def ExR (κ : Kap) (x : AEx) (e : Exit) : Prop := match x, e with
  | .normal, .normal => True
  | .exit n, .exit m => n = m
  | .ret, .ret => True
  | .pan c, .panic ch => PanR κ c ch
  | _, _ => False

def FRA (κ : Kap) (f : AF) (a : Act) : Prop := f.df = [] ∧ FR κ f.n f.t a

theorem FR.put {κ : Kap} {n : Nat} {t : Tr DV} {a : Act} (h : FR κ n t a) {d : Nat} {v : DV} {v' : Value} (hd : d < n) (hv : VR κ v v') : FR κ n (Tr.set (some v) t d) (a.put (some d) v') := by
  refine ⟨?_, fun i x hx => ?_, h.dfr⟩
  · show n ≤ (a.tmps.setIfInBounds d v').size
    rw [Array.size_setIfInBounds]; exact h.size
  · rw [Tr.get_set] at hx
    show VR κ x ((a.tmps.setIfInBounds d v').getD i undef)
    split at hx
    · rename_i hid
      cases hx
      subst hid
      have hlt : i < a.tmps.size := Nat.lt_of_lt_of_le hd h.size
      simp only [Array.getD_eq_getD_getElem?, Array.getElem?_setIfInBounds_self_of_lt hlt, Option.getD_some]
      exact hv
    · rename_i hid
      rw [Array.getD_eq_getD_getElem?, Array.getElem?_setIfInBounds_ne (Ne.symm hid), ← Array.getD_eq_getD_getElem?]
      exact h.tmp i x hx

theorem putK_some {α : Type} {n : Nat} {t : Tr DV} {dst : Option Nat} {v : DV} {k : Tr DV → M α} {S : St} {r : α} {S' : St} (e : putK n t dst v k S = some (r, S')) :
    ∃ t', k t' S = some (r, S') ∧ ∀ (κ : Kap) (a : Act) (v' : Value), FR κ n t a → VR κ v v' → FR κ n t' (a.put dst v') := by
  unfold putK at e
  cases dst with
  | none => exact ⟨t, e, fun κ a v' h _ => h⟩
  | some d =>
    simp only at e
    cases hb : Nat.blt d n with
    | false => rw [hb] at e; cases e
    | true =>
      rw [hb] at e
      simp only [cond_true] at e
      rw [Tr.setK_eq] at e
      exact ⟨_, e, fun κ a v' h hv => h.put (blt_lt hb) hv⟩

theorem putK_local {α : Type} {n : Nat} {t : Tr DV} {dst : Option Nat} {v : DV} {k : Tr DV → M α} (hk : ∀ t, Local (k t)) : Local (putK n t dst v k) := by
  unfold putK
  split
  · exact hk _
  · rename_i d
    cases Nat.blt d n with
    | false => exact Local.fail
    | true => simp only [cond_true]; rw [Tr.setK_eq]; exact hk _

section
variable {P : Program} {E : Env} {N : Nat} {w0 : World}

theorem wanted_some {κ : Kap} {ops : Array Oper} {n : Nat} {t : Tr DV} {a : Act} (ha : FR κ n t a) {o : Oper} {S : St} {b : Bool} {S' : St} (e : wantedM ops.toList t o.guard S = some (b, S')) (hp : AllP S'.sy.phi) :
    Region.wanted o (yielded ops a.tmps) = b ∧ S'.heap = S.heap ∧ S'.pos = S.pos ∧ S'.ep = S.ep ∧ S'.lg = S.lg := by
  unfold wantedM at e
  unfold Region.wanted
  cases hg : o.guard with
  | none =>
    rw [hg] at e
    cases e
    exact ⟨rfl, rfl, rfl, rfl, rfl⟩
  | some g =>
    obtain ⟨j, want⟩ := g
    rw [hg] at e
    simp only [lget_eq] at e
    cases ho : ops.toList[j]? with
    | none => rw [ho] at e; cases e
    | some oj =>
      rw [ho] at e
      simp only at e
      have ho' : ops[j]? = some oj := by rw [← Array.getElem?_toList]; exact ho
      cases hd : oj.dst with
      | none => rw [hd] at e; cases e
      | some d =>
        rw [hd] at e
        simp only at e
        cases ht : t.get d with
        | none => rw [ht] at e; cases e
        | some x =>
          rw [ht] at e
          have hx := ha.tmp d x ht
          have hy : yielded ops a.tmps j = match a.tmps[d]? with | some (.bool b) => some b | _ => none := by
            unfold yielded
            simp only [ho', Option.bind_some, hd]
            rfl
          simp only [hy]
          rw [Array.getD_eq_getD_getElem?] at hx
          cases x with
          | bool q =>
            simp only at e
            obtain ⟨dq, S1, e1, e2⟩ := M.bind_some e
            obtain ⟨h1, h2, h3, h4, h5⟩ := M.dec_some e1
            cases e2
            obtain ⟨rfl, _⟩ := h5 hp
            refine ⟨?_, h1, h2, h3, h4⟩
            have hx : a.tmps[d]?.getD undef = .bool q := hx
            cases hq : a.tmps[d]? with
            | none => rw [hq] at hx; cases hx
            | some u =>
              rw [hq] at hx
              have hx : u = .bool q := hx
              subst hx
              cases q <;> cases want <;> rfl
          | tup l =>
            cases l with
            | nil =>
              cases e
              refine ⟨?_, rfl, rfl, rfl, rfl⟩
              obtain ⟨vs, hx, hvs⟩ := hx
              cases hq : a.tmps[d]? with
              | none => rfl
              | some u =>
                rw [hq] at hx
                have hx : u = .tuple vs := hx
                subst hx
                rfl
            | cons _ _ => cases e
          | _ => cases e

theorem undef_tup (κ : Kap) : VR κ (.tup []) undef := ⟨#[], rfl, rfl⟩

theorem wpOps_sim (hE : EnvOk P E) {callF : FuncId → List DV → M ORes} (hc : CallOk P E N w0 callF) (hloc : ∀ f l, Local (callF f l)) {ops : Array Oper} {Q : Exit → Act → World → Prop} :
    ∀ (l : List Oper) (i : Nat), ops.toList.drop i = l → ∀ (κ : Kap) (f : AF) (a : Act) (S : St) (x : AEx) (f' : AF) (S' : St) (w : World), S.lg.thr ≤ S.pos →
      evOps E callF ops.toList l f S = some ((x, f'), S') → AllP S'.sy.phi → Rr E N w0 κ S.heap w → Fresh κ S.ep S'.ep → FRA κ f a →
      (∀ κ' e a' w', Ext κ κ' S.ep S'.ep → Rr E N w0 κ' S'.heap w' → ExR κ' x e → FRA κ' f' a' → Q e a' w') → wpOps P ops Q (List.range' i l.length) a w := by
  intro l
  induction l with
  | nil =>
    intro i hl κ f a S x f' S' w h0 e hp hR hF hA hk
    cases e
    exact hk κ .normal a w (Ext.refl _ _ _) hR trivial hA
  | cons o l ih =>
    intro i hl κ f a S x f' S' w h0 e hp hR hF hA hk
    have hoi : ops[i]? = some o := by
      have : ops.toList[i]? = some o := by
        have h1 : (ops.toList.drop i)[0]? = some o := by rw [hl]; rfl
        simpa using h1
      rw [← Array.getElem?_toList]; exact this
    have hl' : ops.toList.drop (i + 1) = l := by
      rw [← List.drop_drop, hl]; rfl
    rw [List.length_cons, List.range'_succ]
    simp only [wpOps, hoi]
    obtain ⟨n, t, df⟩ := f
    obtain ⟨hdf, hA⟩ := hA
    simp only at hdf hA
    subst hdf
    have hlr : ∀ f, Local (evOps E callF ops.toList l f) := fun f => Local.evOps E hloc _ _ _
    change (M.bind (Am.wantedM ops.toList t o.guard) fun w => match w with
        | false => putK n t o.dst (.tup []) fun t => evOps E callF ops.toList l ⟨n, t, []⟩
        | true => M.bind (evOp E callF t o.op) fun r => match r with
          | .val v => putK n t o.dst v fun t => evOps E callF ops.toList l ⟨n, t, []⟩
          | .pan c => M.pure (.pan c, ⟨n, t, []⟩)
          | .dfr fn cap args => putK n t o.dst (.tup []) fun t => evOps E callF ops.toList l ⟨n, t, (fn, cap, args) :: []⟩) S = _ at e
    obtain ⟨b, S1, e1, e2⟩ := M.bind_some e
    have f1 := (Local.wantedM _ _ _).facts h0 e1
    cases b with
    | false =>
      simp only at e2
      obtain ⟨t', e3, hput⟩ := putK_some e2
      have f2 := (hlr ⟨n, t', []⟩).facts f1.1 e3
      obtain ⟨hw, c1, c2, c3, c4⟩ := wanted_some hA e1 (f2.2.2.1 hp)
      rw [hw]
      simp only [Bool.false_eq_true, if_false]
      refine ih (i + 1) hl' κ ⟨n, t', []⟩ (a.put o.dst undef) S1 x f' S' w f1.1 e3 hp (by rw [c1]; exact hR) (by rw [c3]; exact hF) ⟨rfl, hput κ a undef hA (undef_tup κ)⟩ ?_
      intro κ' e a' w' x1 x2 x3 x4
      exact hk κ' e a' w' (by rw [← c3]; exact x1) x2 x3 x4
    | true =>
      simp only at e2
      obtain ⟨r, S2, e3, e4⟩ := M.bind_some e2
      have f2 := (Local.evOp E hloc t o.op).facts f1.1 e3
      have f3 : AllP S2.sy.phi ∧ S2.ep ≤ S'.ep := by
        cases r with
        | val v =>
          obtain ⟨t', e5, _⟩ := putK_some e4
          have f3 := (hlr ⟨n, t', []⟩).facts f2.1 e5
          exact ⟨f3.2.2.1 hp, f3.2.1⟩
        | pan c => cases e4; exact ⟨hp, Nat.le_refl _⟩
        | dfr fn cap args =>
          obtain ⟨t', e5, _⟩ := putK_some e4
          have f3 := (hlr _).facts f2.1 e5
          exact ⟨f3.2.2.1 hp, f3.2.1⟩
      obtain ⟨hw, c1, c2, c3, c4⟩ := wanted_some hA e1 (f2.2.2.1 f3.1)
      rw [hw]
      simp only [if_true]
      left
      have hF1 : Fresh κ S1.ep S'.ep := by rw [c3]; exact hF
      refine wp_op hE hc hA f1.1 e3 f3.1 (by rw [c1]; exact hR) (hF1.left f3.2) ?_
      intro κ' w' x1 x2
      cases r with
      | val v =>
        simp only
        intro v' hv
        obtain ⟨t', e5, hput⟩ := putK_some e4
        refine ih (i + 1) hl' κ' ⟨n, t', []⟩ (a.put o.dst v') S2 x f' S' w' f2.1 e5 hp x2 (hF1.right f2.2.1 x1) ⟨rfl, hput κ' a v' (hA.mono x1.le) hv⟩ ?_
        intro κ'' e a' w'' y1 y2 y3 y4
        exact hk κ'' e a' w'' (by rw [← c3]; exact x1.trans f2.2.1 f3.2 y1) y2 y3 y4
      | pan c =>
        simp only
        intro ch hch
        cases e4
        exact hk κ' (.panic ch) a w' (by rw [← c3]; exact x1) x2 hch ⟨rfl, hA.mono x1.le⟩
      | dfr fn cap args => trivial
end
end Go.Am
