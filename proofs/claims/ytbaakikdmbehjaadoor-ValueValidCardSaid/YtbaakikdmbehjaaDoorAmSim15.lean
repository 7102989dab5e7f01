/- A region whose order is drawn does in every order what it does in the text's. -/
import Derived.Test.YtbaakikdmbehjaaDoorAmSim14
set_option linter.unusedVariables false
set_option linter.unusedSimpArgs false
set_option linter.unusedSectionVars false
namespace Go.Am
open Go.RowKit

inductive Loc where
  | mt (p : Nat)
  | ce (p j : Nat)
  | tm (d : Nat)

noncomputable def valOf (S : St) (t : Tr DV) : Loc → Option Meta × Option DV
  | .mt p => (S.mt p, none)
  | .ce p j => (none, S.ce p j)
  | .tm d => (none, t.get d)

/-- what an operation reads and writes -/
def RD (ops : Array Oper) (F : Nat → Foot) (k : Nat) : Loc → Prop
  | .mt p => (F k).rm p
  | .ce p j => (F k).rc p j
  | .tm d => ∃ o, ops[k]? = some o ∧ d ∈ o.looksAt ops
def WR (ops : Array Oper) (F : Nat → Foot) (k : Nat) : Loc → Prop
  | .mt p => (F k).wo p
  | .ce p j => (F k).wo p ∨ (F k).wc p j
  | .tm d => ∃ o, ops[k]? = some o ∧ o.dst = some d

/-- the facts of one operation in the text's run -/
structure OpF (E : Env) (callF : FuncId → List DV → M ORes) (all : List Oper) (o : Oper) (S S' : St) (t : Tr DV) (v : DV) (ro : Rec) (F : Foot) : Prop where
  lo : ro.lo = S.pos
  hi : ro.hi = S'.pos
  le : S.pos ≤ S'.pos
  ep : S.ep ≤ S'.ep
  phi : AllP S'.sy.phi → AllP S.sy.phi
  keep : Keeps F S S'
  rm : ∀ p, p < S.pos → F.rm p → (∃ x ∈ ro.rl, x.1 = p) ∨ (∃ x ∈ ro.wl, x.1 = p)
  rc : ∀ p j, p < S.pos → F.rc p j → ∃ x ∈ ro.rl, x.1 = p ∧ x.2.1 ≤ j ∧ j < x.2.1 + x.2.2
  wc : ∀ p j, p < S.pos → F.wc p j → ∃ x ∈ ro.wl, x.1 = p ∧ x.2.1 ≤ j ∧ j < x.2.1 + x.2.2
  wo : ∀ p, p < S.pos → F.wo p → p ∈ ro.wo
  again : ∀ h, (∀ p, F.rm p → St.mt ⟨h, 0, 0, ⟨0, [], [], []⟩, ⟨false, [], []⟩⟩ p = S.mt p) → (∀ p j, F.rc p j → St.ce ⟨h, 0, 0, ⟨0, [], [], []⟩, ⟨false, [], []⟩⟩ p j = S.ce p j) →
    ∃ T', opM E callF all t o ⟨h, S.pos, S.ep, ⟨S.pos, [], [], []⟩, S.sy⟩ = some (.val v, T') ∧ T'.ep = S'.ep ∧ (AllP S'.sy.phi → AllP T'.sy.phi) ∧
      Keeps F ⟨h, S.pos, S.ep, ⟨S.pos, [], [], []⟩, S.sy⟩ T' ∧ Wrote F T' S'

theorem opF_of {E : Env} {callF : FuncId → List DV → M ORes} (hloc : ∀ f l, Local (callF f l)) {all : List Oper} {o : Oper} {S S' : St} {t : Tr DV} {v : DV} {rc : Rec}
    (h : M.op (opM E callF all t o) S = some ((.val v, rc), S')) : ∃ F, OpF E callF all o S S' t v rc F := by
  obtain ⟨S1, h1, hr, rfl⟩ := M.op_some h
  simp only at h1 hr
  subst hr
  obtain ⟨F, D, s1, k1, c1, r1⟩ := Local.opM hloc all t o _ _ _ (Nat.le_refl _) h1
  have e1 : S1.lg.rl = D.rl := by have := s1.rl; simpa using this
  have e2 : S1.lg.wl = D.wl := by have := s1.wl; simpa using this
  have e3 : S1.lg.wo = D.wo := by have := s1.wo; simpa using this
  refine ⟨F, rfl, rfl, s1.pos, s1.ep, fun hp => ?_, ⟨k1.mt, k1.ce, k1.bnd⟩, ?_, ?_, ?_, ?_, fun hh hm hc => ?_⟩
  · have := s1.phi
    simp only at this hp
    rw [this] at hp
    exact hp.right
  · simp only [e1, e2]; exact c1.rm
  · simp only [e1]; exact c1.rc
  · simp only [e2]; exact c1.wc
  · simp only [e3]; exact c1.wo
  · obtain ⟨r, hds⟩ : ∃ r, S.sy.ds = D.ds ++ r := ⟨_, s1.ds⟩
    obtain ⟨T1, t1, t2, tp, te, tk, tw⟩ := r1 ⟨hh, S.pos, S.ep, ⟨S.pos, [], [], []⟩, S.sy⟩ ⟨rfl, rfl, rfl, rfl, ⟨r, hds⟩⟩ ⟨hm, hc⟩
    refine ⟨T1, t1, te, fun hp => ?_, tk, ⟨tw.mt, tw.co, tw.ce⟩⟩
    rw [t2.phi]
    have := s1.phi
    simp only at this hp
    rw [this] at hp
    exact hp

/-- operations that may change places do not touch the same -/
theorem noconf {E : Env} {callF : FuncId → List DV → M ORes} {ops : Array Oper} {ST : Nat → St} {T : Nat → Tr DV} {V : Nat → DV} {R : Nat → Rec} {F : Nat → Foot}
    (hF : ∀ (k : Nat) (o : Oper), ops[k]? = some o → OpF E callF ops.toList o (ST k) (ST (k + 1)) (T k) (V k) (R k) (F k)) (hmono : ∀ a b, a ≤ b → b ≤ ops.size → (ST a).pos ≤ (ST b).pos)
    {i j : Nat} {x y : Oper} (hx : ops[i]? = some x) (hy : ops[j]? = some y) (hij : i < j) (hap : apartB (R i) (R j) = true) (htm : Oper.apart ops x y = true) (l : Loc) :
    ¬ (WR ops F i l ∧ RD ops F j l) ∧ ¬ (RD ops F i l ∧ WR ops F j l) ∧ ¬ (WR ops F i l ∧ WR ops F j l) := by
  have fi := hF i x hx
  have fj := hF j y hy
  have hjs := (Array.getElem?_eq_some_iff.1 hy).1
  have hlo : (ST (i + 1)).pos ≤ (ST j).pos := hmono _ _ (by omega) (by omega)
  obtain ⟨a1, a2, a3⟩ := apartB_spec hap
  obtain ⟨t1, t2, t3⟩ := Oper.apart_spec htm
  rw [fi.lo, fi.hi] at a1 a2 a3
  have bnd : ∀ p, ((F i).rm p ∨ (∃ j, (F i).rc p j) ∨ (∃ j, (F i).wc p j) ∨ (F i).wo p) → p < (ST j).pos := fun p h => Nat.lt_of_lt_of_le (fi.keep.bnd p h) hlo
  -- p was touched by i: it is of i's making or in its logs
  have wo_i : ∀ p, (F i).wo p → ((ST i).pos ≤ p ∧ p < (ST (i + 1)).pos) ∨ p ∈ (R i).wo := fun p h => by
    by_cases hp : p < (ST i).pos
    · exact .inr (fi.wo p hp h)
    · exact .inl ⟨by omega, fi.keep.bnd p (.inr (.inr (.inr h)))⟩
  have wc_i : ∀ p q, (F i).wc p q → ((ST i).pos ≤ p ∧ p < (ST (i + 1)).pos) ∨ ∃ x ∈ (R i).wl, x.1 = p ∧ x.2.1 ≤ q ∧ q < x.2.1 + x.2.2 := fun p q h => by
    by_cases hp : p < (ST i).pos
    · exact .inr (fi.wc p q hp h)
    · exact .inl ⟨by omega, fi.keep.bnd p (.inr (.inr (.inl ⟨q, h⟩)))⟩
  have rc_i : ∀ p q, (F i).rc p q → ((ST i).pos ≤ p ∧ p < (ST (i + 1)).pos) ∨ ∃ x ∈ (R i).rl, x.1 = p ∧ x.2.1 ≤ q ∧ q < x.2.1 + x.2.2 := fun p q h => by
    by_cases hp : p < (ST i).pos
    · exact .inr (fi.rc p q hp h)
    · exact .inl ⟨by omega, fi.keep.bnd p (.inr (.inl ⟨q, h⟩))⟩
  have rm_i : ∀ p, (F i).rm p → ((ST i).pos ≤ p ∧ p < (ST (i + 1)).pos) ∨ (∃ x ∈ (R i).rl, x.1 = p) ∨ ∃ x ∈ (R i).wl, x.1 = p := fun p h => by
    by_cases hp : p < (ST i).pos
    · exact .inr (fi.rm p hp h)
    · exact .inl ⟨by omega, fi.keep.bnd p (.inl h)⟩
  have meet2 : ∀ (u v : Nat × Nat × Nat) (p q : Nat), u.1 = p → u.2.1 ≤ q → q < u.2.1 + u.2.2 → v.1 = p → v.2.1 ≤ q → q < v.2.1 + v.2.2 → meet u v = false → False := by
    intro u v p q h1 h2 h3 h4 h5 h6 hm
    exact meet_false hm ⟨by omega, by omega, by omega⟩
  cases l with
  | tm d =>
    refine ⟨?_, ?_, ?_⟩
    · rintro ⟨⟨o, ho, hd⟩, ⟨o', ho', hd'⟩⟩
      rw [hx] at ho; cases ho
      rw [hy] at ho'; cases ho'
      exact t1 d hd hd'
    · rintro ⟨⟨o, ho, hd⟩, ⟨o', ho', hd'⟩⟩
      rw [hx] at ho; cases ho
      rw [hy] at ho'; cases ho'
      exact t3 d hd' hd
    · rintro ⟨⟨o, ho, hd⟩, ⟨o', ho', hd'⟩⟩
      rw [hx] at ho; cases ho
      rw [hy] at ho'; cases ho'
      exact t2 d hd hd'
  | mt p =>
    have woW : (F i).wo p → (F j).wo p → False := fun h1 h2 => by
      have hp := bnd p (.inr (.inr (.inr h1)))
      obtain ⟨b1, b2, b3, b4⟩ := a3 p (fj.wo p hp h2)
      rcases wo_i p h1 with h | h
      · exact b1 h
      · exact b2 h
    refine ⟨?_, ?_, ?_⟩
    · rintro ⟨h1, h2⟩
      have hp := bnd p (.inr (.inr (.inr h1)))
      have h2 : (F j).rm p := h2
      rcases fj.rm p hp h2 with ⟨u, hu, rfl⟩ | ⟨u, hu, rfl⟩
      · obtain ⟨b1, b2, b3⟩ := a1 u hu
        rcases wo_i _ h1 with h | h
        · exact b1 h
        · exact b2 h
      · obtain ⟨b1, b2, b3, b4⟩ := a2 u hu
        rcases wo_i _ h1 with h | h
        · exact b1 h
        · exact b2 h
    · rintro ⟨h1, h2⟩
      have h1 : (F i).rm p := h1
      have hp := bnd p (.inl h1)
      obtain ⟨b1, b2, b3, b4⟩ := a3 p (fj.wo p hp h2)
      rcases rm_i p h1 with h | ⟨u, hu, e⟩ | ⟨u, hu, e⟩
      · exact b1 h
      · exact b4 u hu e
      · exact b3 u hu e
    · rintro ⟨h1, h2⟩; exact woW h1 h2
  | ce p q =>
    refine ⟨?_, ?_, ?_⟩
    · rintro ⟨h1, h2⟩
      have h2 : (F j).rc p q := h2
      rcases h1 with h1 | h1
      · have hp := bnd p (.inr (.inr (.inr h1)))
        obtain ⟨u, hu, e, _, _⟩ := fj.rc p q hp h2
        subst e
        obtain ⟨b1, b2, b3⟩ := a1 u hu
        rcases wo_i _ h1 with h | h
        · exact b1 h
        · exact b2 h
      · have hp := bnd p (.inr (.inr (.inl ⟨q, h1⟩)))
        obtain ⟨u, hu, e, u1, u2⟩ := fj.rc p q hp h2
        obtain ⟨b1, b2, b3⟩ := a1 u hu
        rcases wc_i _ _ h1 with h | ⟨v, hv, e', v1, v2⟩
        · exact b1 (by rw [e]; exact h)
        · exact meet2 u v p q e u1 u2 e' v1 v2 (b3 v hv)
    · rintro ⟨h1, h2⟩
      have h1 : (F i).rc p q := h1
      have hp := bnd p (.inr (.inl ⟨q, h1⟩))
      rcases h2 with h2 | h2
      · obtain ⟨b1, b2, b3, b4⟩ := a3 p (fj.wo p hp h2)
        rcases rc_i _ _ h1 with h | ⟨v, hv, e', v1, v2⟩
        · exact b1 h
        · exact b4 v hv e'
      · obtain ⟨u, hu, e, u1, u2⟩ := fj.wc p q hp h2
        obtain ⟨b1, b2, b3, b4⟩ := a2 u hu
        rcases rc_i _ _ h1 with h | ⟨v, hv, e', v1, v2⟩
        · exact b1 (by rw [e]; exact h)
        · exact meet2 u v p q e u1 u2 e' v1 v2 (b4 v hv)
    · rintro ⟨h1, h2⟩
      rcases h1 with h1 | h1
      · have hp := bnd p (.inr (.inr (.inr h1)))
        rcases h2 with h2 | h2
        · obtain ⟨b1, b2, b3, b4⟩ := a3 p (fj.wo p hp h2)
          rcases wo_i p h1 with h | h
          · exact b1 h
          · exact b2 h
        · obtain ⟨u, hu, e, u1, u2⟩ := fj.wc p q hp h2
          obtain ⟨b1, b2, b3, b4⟩ := a2 u hu
          rcases wo_i p h1 with h | h
          · exact b1 (by rw [e]; exact h)
          · exact b2 (by rw [e]; exact h)
      · have hp := bnd p (.inr (.inr (.inl ⟨q, h1⟩)))
        rcases h2 with h2 | h2
        · obtain ⟨b1, b2, b3, b4⟩ := a3 p (fj.wo p hp h2)
          rcases wc_i p q h1 with h | ⟨v, hv, e', v1, v2⟩
          · exact b1 h
          · exact b3 v hv e'
        · obtain ⟨u, hu, e, u1, u2⟩ := fj.wc p q hp h2
          obtain ⟨b1, b2, b3, b4⟩ := a2 u hu
          rcases wc_i p q h1 with h | ⟨v, hv, e', v1, v2⟩
          · exact b1 (by rw [e]; exact h)
          · exact meet2 u v p q e u1 u2 e' v1 v2 (b3 v hv)
end Go.Am
