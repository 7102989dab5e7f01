/- Code run up to a place inside it. -/
import Derived.Test.YtbaakikdmbehjaaDoorAmCon
set_option linter.unusedVariables false
set_option linter.unusedSimpArgs false
set_option linter.unusedSectionVars false
namespace Go.Am
open Go.RowKit

/-- what waits behind a place of the code -/
inductive KF where
  | seq (c : Code)
  | blk (i : Nat)
  | lp (c : Code)

/-- the part of the code at a path -/
noncomputable def sub (p : List Nat) : Code → Code := List.rec (motive := fun _ => Code → Code) (fun c => c) (fun i _ ih c => match c with
  | .seq x y => cond (Nat.beq i 0) (ih x) (ih y)
  | .cond _ x y => cond (Nat.beq i 0) (ih x) (ih y)
  | .block _ x => ih x
  | .loop x => ih x
  | c => c) p
/-- what waits behind the part at a path; through no loop -/
noncomputable def stk (p : List Nat) : Code → List KF → List KF := List.rec (motive := fun _ => Code → List KF → List KF) (fun _ K => K) (fun i _ ih c K => match c with
  | .seq x y => cond (Nat.beq i 0) (ih x (.seq y :: K)) (ih y K)
  | .cond _ x y => cond (Nat.beq i 0) (ih x K) (ih y K)
  | .block j x => ih x (.blk j :: K)
  | _ => K) p

/-- a loop about to begin a round -/
def LP (P : Program) (c : Code) (Q : Exit → Act → World → Prop) (a : Act) (w : World) : Prop :=
  ∀ b k cs, ∃ e a' w', Q e a' w' ∧ Arrives P (lone (b.at a (.code c :: .inLoop c :: k)) cs w) b k cs e a' w'
theorem LP.wp {P : Program} {c : Code} {Q : Exit → Act → World → Prop} {a : Act} {w : World} (h : LP P c Q a w) : (Code.loop c).wp P Q a w := by
  intro b k cs
  obtain ⟨e, a', w', hq, harr⟩ := h b k cs
  exact ⟨e, a', w', hq, .of_steps (.one step_loop) harr⟩
theorem LP.round {P : Program} {c : Code} {Q : Exit → Act → World → Prop} {a : Act} {w : World} (h : c.wp P (Exit.then (LP P c Q) Q) a w) : LP P c Q a w := by
  intro b k cs
  obtain ⟨e, a₁, w₁, hq, harr⟩ := h b (.inLoop c :: k) cs
  cases e with
  | normal =>
    obtain ⟨e₂, a₂, w₂, hq₂, harr₂⟩ := hq b k cs
    exact ⟨e₂, a₂, w₂, hq₂, .of_steps (Steps.trans harr (.one step_inLoop)) harr₂⟩
  | exit id => exact ⟨_, a₁, w₁, hq, .pass (x := .inLoop c) rfl (fun _ _ => .inl (by simp)) harr⟩
  | goto l => exact ⟨_, a₁, w₁, hq, .pass (x := .inLoop c) rfl (fun _ _ => .inl (by simp)) harr⟩
  | ret => exact ⟨_, a₁, w₁, hq, .pass (x := .inLoop c) rfl (fun _ _ => .inl (by simp)) harr⟩
  | panic ch => exact ⟨_, a₁, w₁, hq, .pass (x := .inLoop c) rfl (fun _ _ => .inl (by simp)) harr⟩
  | outgrown => exact ⟨_, a₁, w₁, hq, .pass (x := .inLoop c) rfl (fun _ _ => .inl (by simp)) harr⟩

def wpK (P : Program) (K : List KF) (Q : Exit → Act → World → Prop) : Exit → Act → World → Prop := match K with
  | [] => Q
  | .seq c :: K => Exit.then (fun a w => c.wp P (wpK P K Q) a w) (wpK P K Q)
  | .blk i :: K => Exit.inBlock i (wpK P K Q)
  | .lp c :: K => Exit.then (LP P c (wpK P K Q)) (wpK P K Q)

section
variable (E : Env) (callF : FuncId → List DV → M ORes) (L : Nat)
/-- runs up to the place at path p: 'none' there; 'some x' where the code ended without coming there -/
noncomputable def evPre (p : List Nat) : Code → AF → M (Option AEx × AF) := List.rec (motive := fun _ => Code → AF → M (Option AEx × AF)) (fun _ a => M.pure (none, a)) (fun i _ ih c a => match c with
  | .seq x y => cond (Nat.beq i 0)
      (M.bind (ih x a) fun r => match r with
        | (some .normal, a) => M.bind (evCode E callF L y a) fun r => M.pure (some r.1, r.2)
        | r => M.pure r)
      (M.bind (evCode E callF L x a) fun r => match r with
        | (.normal, a) => ih y a
        | (x, a) => M.pure (some x, a))
  | .cond o x y => match opnd a.t o with
      | .bool b => M.bind (M.dec b) fun b => cond b
          (cond (Nat.beq i 0) (ih x a) (M.bind (evCode E callF L x a) fun r => M.pure (some r.1, r.2)))
          (cond (Nat.beq i 0) (M.bind (evCode E callF L y a) fun r => M.pure (some r.1, r.2)) (ih y a))
      | _ => M.fail
  | .block j x => M.bind (ih x a) fun r => match r with
      | (some (.exit k), a) => cond (Nat.beq k j) (M.pure (some .normal, a)) (M.pure (some (.exit k), a))
      | r => M.pure r
  | _ => M.fail) p

theorem evPre_local (hloc : ∀ f l, Local (callF f l)) : ∀ (p : List Nat) (c : Code) (a : AF), Local (evPre E callF L p c a)
  | [], c, a => Local.pure _
  | i :: p, c, a => by
    have ih := evPre_local hloc p
    cases c with
    | seq x y =>
      show Local (cond (Nat.beq i 0)
        (M.bind (Am.evPre E callF L p x a) fun r => match r with
          | (some .normal, a) => M.bind (evCode E callF L y a) fun r => M.pure (some r.1, r.2)
          | r => M.pure r)
        (M.bind (evCode E callF L x a) fun r => match r with
          | (.normal, a) => Am.evPre E callF L p y a
          | (x, a) => M.pure (some x, a)))
      cases Nat.beq i 0 with
      | true =>
        refine Local.bind (ih x a) fun r => ?_
        obtain ⟨o, b⟩ := r
        split
        · exact Local.bind (Local.evCode E hloc L _ _) fun r => Local.pure _
        · exact Local.pure _
      | false =>
        refine Local.bind (Local.evCode E hloc L _ _) fun r => ?_
        obtain ⟨o, b⟩ := r
        split
        · exact ih y _
        · exact Local.pure _
    | cond o x y =>
      show Local (match opnd a.t o with
        | .bool b => M.bind (M.dec b) fun b => cond b
          (cond (Nat.beq i 0) (Am.evPre E callF L p x a) (M.bind (evCode E callF L x a) fun r => M.pure (some r.1, r.2)))
          (cond (Nat.beq i 0) (M.bind (evCode E callF L y a) fun r => M.pure (some r.1, r.2)) (Am.evPre E callF L p y a))
        | _ => M.fail)
      split
      · refine Local.bind (Local.dec _) fun b => ?_
        cases b <;> cases Nat.beq i 0 <;> first | exact ih _ _ | exact Local.bind (Local.evCode E hloc L _ _) fun r => Local.pure _
      · exact Local.fail
    | block j x =>
      refine Local.bind (ih x a) fun r => ?_
      obtain ⟨o, b⟩ := r
      split
      · cases Nat.beq _ j <;> exact Local.pure _
      · exact Local.pure _
    | _ => exact Local.fail
end

section
variable {P : Program} {E : Env} {N : Nat} {w0 : World}

theorem wpK_nil (Q : Exit → Act → World → Prop) : wpK P [] Q = Q := rfl

theorem wp_pre (hm : P.follows .mixedOrders = true) (hE : EnvOk P E) {callF : FuncId → List DV → M ORes} (hc : CallOk P E N w0 callF) (hloc : ∀ f l, Local (callF f l)) (L : Nat) :
    ∀ (p : List Nat) (c : Code), codeOk c = true → ∀ (K : List KF) (κ : Kap) (f : AF) (a : Act) (S : St) (o : Option AEx) (f' : AF) (S' : St) (w : World) (Q : Exit → Act → World → Prop), S.lg.thr ≤ S.pos →
      evPre E callF L p c f S = some ((o, f'), S') → AllP S'.sy.phi → Rr E N w0 κ S.heap w → Fresh κ S.ep S'.ep → FRA κ f a →
      (∀ κ' a' w', Ext κ κ' S.ep S'.ep → Rr E N w0 κ' S'.heap w' → FRA κ' f' a' → match o with
        | none => (sub p c).wp P (wpK P (stk p c K) Q) a' w'
        | some x => ∀ e, ExR κ' x e → wpK P K Q e a' w') → c.wp P (wpK P K Q) a w
  | [], c, hok, K, κ, f, a, S, o, f', S', w, Q, h0, e, hp, hR, hF, hA, hk => by
    cases e
    exact hk κ a w (Ext.refl _ _ _) hR hA
  | i :: p, c, hok, K, κ, f, a, S, o, f', S', w, Q, h0, e, hp, hR, hF, hA, hk => by
    have ih := wp_pre hm hE hc hloc L p
    have full : ∀ (c : Code), codeOk c = true → ∀ (κ : Kap) (f : AF) (a : Act) (S : St) (w : World) (Q' : Exit → Act → World → Prop), S.lg.thr ≤ S.pos → Rr E N w0 κ S.heap w → Fresh κ S.ep S'.ep → FRA κ f a →
        M.bind (evCode E callF L c f) (fun r => M.pure (some r.1, r.2)) S = some ((o, f'), S') →
        (∀ κ' a' w', Ext κ κ' S.ep S'.ep → Rr E N w0 κ' S'.heap w' → FRA κ' f' a' → ∀ x, o = some x → ∀ e, ExR κ' x e → Q' e a' w') → c.wp P Q' a w := by
      intro c hok κ f a S w Q' h0 hR hF hA e hk
      obtain ⟨⟨x1, f1⟩, S1, e1, e2⟩ := M.bind_some e
      cases e2
      exact wp_code hm hE hc hloc L c hok κ f a S x1 _ _ w Q' h0 e1 hp hR hF hA fun κ' en a' w' y1 y2 y3 y4 => hk κ' a' w' y1 y2 y4 x1 rfl en y3
    cases c with
    | seq x y =>
      simp only [codeOk, Bool.and_eq_true] at hok
      cases hi : Nat.beq i 0 with
      | true =>
        change (cond (Nat.beq i 0)
          (M.bind (Am.evPre E callF L p x f) fun r => match r with
            | (some .normal, a) => M.bind (evCode E callF L y a) fun r => M.pure (some r.1, r.2)
            | r => M.pure r) _) S = some ((o, f'), S') at e
        have hs : sub (i :: p) (.seq x y) = sub p x := by show cond (Nat.beq i 0) (sub p x) (sub p y) = _; rw [hi]; rfl
        have hst : stk (i :: p) (.seq x y) K = stk p x (.seq y :: K) := by show cond (Nat.beq i 0) (stk p x (.seq y :: K)) (stk p y K) = _; rw [hi]; rfl
        rw [hs, hst] at hk
        rw [hi] at e
        obtain ⟨⟨o1, f1⟩, S1, e1, e2⟩ := M.bind_some e
        have F1 := (evPre_local E callF L hloc p x f).facts h0 e1
        refine wp_seq ?_
        by_cases ho : o1 = some .normal
        · subst ho
          simp only at e2
          have F2 := (Local.bind (Local.evCode E hloc L y f1) fun r => Local.pure (some r.1, r.2)).facts F1.1 e2
          refine ih x hok.1 (.seq y :: K) κ f a S (some .normal) f1 S1 w Q h0 e1 (F2.2.2.1 hp) hR (hF.left F2.2.1) hA ?_
          intro κ' a' w' y1 y2 y4 en hen
          cases en with
          | normal =>
            refine full y hok.2 κ' f1 a' S1 w' _ F1.1 y2 (hF.right F1.2.1 y1) y4 e2 ?_
            intro κ'' a'' w'' z1 z2 z4 x' hx' e' he'
            have := hk κ'' a'' w'' (y1.trans F1.2.1 F2.2.1 z1) z2 z4
            rw [hx'] at this
            exact this e' he'
          | _ => exact hen.elim
        · have he : o1 = o ∧ f1 = f' ∧ S1 = S' := by
            cases o1 with
            | none => cases e2; exact ⟨rfl, rfl, rfl⟩
            | some x1 => cases x1 <;> first | exact absurd rfl ho | (cases e2; exact ⟨rfl, rfl, rfl⟩)
          obtain ⟨rfl, rfl, rfl⟩ := he
          refine ih x hok.1 (.seq y :: K) κ f a S o1 f1 S1 w Q h0 e1 hp hR hF hA ?_
          intro κ' a' w' y1 y2 y4
          have hk' := hk κ' a' w' y1 y2 y4
          cases o1 with
          | none => exact hk'
          | some x1 =>
            intro en hen
            refine then_ne ?_ (hk' en hen)
            rintro rfl
            cases x1 <;> first | exact ho rfl | exact hen.elim
      | false =>
        change (cond (Nat.beq i 0) _
          (M.bind (evCode E callF L x f) fun r => match r with
            | (.normal, a) => Am.evPre E callF L p y a
            | (x, a) => M.pure (some x, a))) S = some ((o, f'), S') at e
        have hs : sub (i :: p) (.seq x y) = sub p y := by show cond (Nat.beq i 0) (sub p x) (sub p y) = _; rw [hi]; rfl
        have hst : stk (i :: p) (.seq x y) K = stk p y K := by show cond (Nat.beq i 0) (stk p x (.seq y :: K)) (stk p y K) = _; rw [hi]; rfl
        rw [hs, hst] at hk
        rw [hi] at e
        obtain ⟨⟨x1, f1⟩, S1, e1, e2⟩ := M.bind_some e
        have F1 := (Local.evCode E hloc L x f).facts h0 e1
        refine wp_seq ?_
        by_cases hx : x1 = .normal
        · subst hx
          simp only at e2
          have F2 := (evPre_local E callF L hloc p y f1).facts F1.1 e2
          refine wp_code hm hE hc hloc L x hok.1 κ f a S .normal f1 S1 w _ h0 e1 (F2.2.2.1 hp) hR (hF.left F2.2.1) hA ?_
          intro κ' en a' w' y1 y2 y3 y4
          cases en with
          | normal =>
            refine ih y hok.2 K κ' f1 a' S1 o f' S' w' Q F1.1 e2 hp y2 (hF.right F1.2.1 y1) y4 ?_
            intro κ'' a'' w'' z1 z2 z4
            exact hk κ'' a'' w'' (y1.trans F1.2.1 F2.2.1 z1) z2 z4
          | _ => exact y3.elim
        · have he : o = some x1 ∧ f1 = f' ∧ S1 = S' := by
            cases x1 <;> first
              | exact absurd rfl hx
              | (cases e2; exact ⟨rfl, rfl, rfl⟩)
          obtain ⟨rfl, rfl, rfl⟩ := he
          refine wp_code hm hE hc hloc L x hok.1 κ f a S x1 f1 S1 w _ h0 e1 hp hR hF hA ?_
          intro κ' en a' w' y1 y2 y3 y4
          refine then_ne ?_ (hk κ' a' w' y1 y2 y4 en y3)
          rintro rfl
          cases x1 <;> first | exact hx rfl | exact y3.elim
    | cond oo x y =>
      simp only [codeOk, Bool.and_eq_true] at hok
      have ho := hA.2.opnd oo
      change (match Am.opnd f.t oo with
        | .bool b => M.bind (M.dec b) fun b => cond b
          (cond (Nat.beq i 0) (Am.evPre E callF L p x f) (M.bind (evCode E callF L x f) fun r => M.pure (some r.1, r.2)))
          (cond (Nat.beq i 0) (M.bind (evCode E callF L y f) fun r => M.pure (some r.1, r.2)) (Am.evPre E callF L p y f))
        | _ => M.fail) S = some ((o, f'), S') at e
      generalize Am.opnd f.t oo = ov at e ho
      split at e
      · rename_i b
        obtain ⟨d, S1, e1, e2⟩ := M.bind_some e
        obtain ⟨c1', c2', c3, c4, c5⟩ := M.dec_some e1
        have F1 := (Local.dec b).facts h0 e1
        have hoa : a.eval oo = .bool b := ho
        have hs : sub (i :: p) (.cond oo x y) = cond (Nat.beq i 0) (sub p x) (sub p y) := rfl
        have hst : stk (i :: p) (.cond oo x y) K = cond (Nat.beq i 0) (stk p x K) (stk p y K) := rfl
        rw [hs, hst] at hk
        have hp1 : AllP S1.sy.phi := by
          have key : ∀ m : M (Option AEx × AF), Local m → m S1 = some ((o, f'), S') → AllP S1.sy.phi := fun m hl h => (hl.facts F1.1 h).2.2.1 hp
          cases d with
          | true =>
            cases hi : Nat.beq i 0 with
            | true => rw [hi] at e2; exact key _ (evPre_local E callF L hloc p x f) e2
            | false => rw [hi] at e2; exact key _ (Local.bind (Local.evCode E hloc L x f) fun r => Local.pure _) e2
          | false =>
            cases hi : Nat.beq i 0 with
            | true => rw [hi] at e2; exact key _ (Local.bind (Local.evCode E hloc L y f) fun r => Local.pure _) e2
            | false => rw [hi] at e2; exact key _ (evPre_local E callF L hloc p y f) e2
        obtain ⟨rfl, _⟩ := c5 hp1
        refine wp_cond hoa ?_
        cases b with
        | true =>
          simp only [if_true]
          cases hi : Nat.beq i 0 with
          | true =>
            rw [hi] at e2 hk
            exact ih x hok.1 K κ f a S1 o f' S' w Q F1.1 e2 hp (by rw [c1']; exact hR) (by rw [c3]; exact hF) hA (by rw [c3]; exact hk)
          | false =>
            rw [hi] at e2 hk
            refine full x hok.1 κ f a S1 w _ F1.1 (by rw [c1']; exact hR) (by rw [c3]; exact hF) hA e2 ?_
            intro κ'' a'' w'' z1 z2 z4 x' hx' e' he'
            have := hk κ'' a'' w'' (by rw [← c3]; exact z1) z2 z4
            rw [hx'] at this
            exact this e' he'
        | false =>
          simp only [Bool.false_eq_true, if_false]
          cases hi : Nat.beq i 0 with
          | true =>
            rw [hi] at e2 hk
            refine full y hok.2 κ f a S1 w _ F1.1 (by rw [c1']; exact hR) (by rw [c3]; exact hF) hA e2 ?_
            intro κ'' a'' w'' z1 z2 z4 x' hx' e' he'
            have := hk κ'' a'' w'' (by rw [← c3]; exact z1) z2 z4
            rw [hx'] at this
            exact this e' he'
          | false =>
            rw [hi] at e2 hk
            exact ih y hok.2 K κ f a S1 o f' S' w Q F1.1 e2 hp (by rw [c1']; exact hR) (by rw [c3]; exact hF) hA (by rw [c3]; exact hk)
      · cases e
    | block j x =>
      change M.bind (Am.evPre E callF L p x f) (fun r => match r with
        | (some (.exit k), a) => cond (Nat.beq k j) (M.pure (some AEx.normal, a)) (M.pure (some (.exit k), a))
        | r => M.pure r) S = some ((o, f'), S') at e
      have hs : sub (i :: p) (.block j x) = sub p x := rfl
      have hst : stk (i :: p) (.block j x) K = stk p x (.blk j :: K) := rfl
      rw [hs, hst] at hk
      obtain ⟨⟨o1, f1⟩, S1, e1, e2⟩ := M.bind_some e
      refine wp_block ?_
      by_cases ho : ∃ k, o1 = some (.exit k)
      · obtain ⟨k, rfl⟩ := ho
        simp only at e2
        have h3 : f1 = f' ∧ S1 = S' ∧ ((k = j ∧ o = some .normal) ∨ (k ≠ j ∧ o = some (.exit k))) := by
          cases hj : Nat.beq k j with
          | true => rw [hj] at e2; cases e2; exact ⟨rfl, rfl, .inl ⟨beq_true hj, rfl⟩⟩
          | false => rw [hj] at e2; cases e2; exact ⟨rfl, rfl, .inr ⟨fun h => (by subst h; rw [Nat.beq_refl] at hj; cases hj), rfl⟩⟩
        obtain ⟨rfl, rfl, h3⟩ := h3
        refine ih x (by simpa [codeOk] using hok) (.blk j :: K) κ f a S (some (.exit k)) f1 S1 w Q h0 e1 hp hR hF hA ?_
        intro κ' a' w' y1 y2 y4 en hen
        have hk' := hk κ' a' w' y1 y2 y4
        cases en with
        | exit j' =>
          have hen : k = j' := hen
          subst hen
          show (if k = j then wpK P K Q .normal a' w' else wpK P K Q (.exit k) a' w')
          rcases h3 with ⟨rfl, rfl⟩ | ⟨hne, rfl⟩
          · rw [if_pos rfl]; exact hk' .normal trivial
          · rw [if_neg hne]; exact hk' (.exit k) rfl
        | _ => exact hen.elim
      · have he : o1 = o ∧ f1 = f' ∧ S1 = S' := by
          cases o1 with
          | none => cases e2; exact ⟨rfl, rfl, rfl⟩
          | some x1 => cases x1 <;> first | exact absurd ⟨_, rfl⟩ ho | (cases e2; exact ⟨rfl, rfl, rfl⟩)
        obtain ⟨rfl, rfl, rfl⟩ := he
        refine ih x (by simpa [codeOk] using hok) (.blk j :: K) κ f a S o1 f1 S1 w Q h0 e1 hp hR hF hA ?_
        intro κ' a' w' y1 y2 y4
        have hk' := hk κ' a' w' y1 y2 y4
        cases o1 with
        | none => exact hk'
        | some x1 =>
          intro en hen
          have q := hk' en hen
          cases en with
          | exit j' => cases x1 <;> first | exact (ho ⟨_, rfl⟩).elim | exact hen.elim
          | _ => exact q
    | _ => cases e
end
end Go.Am
