/- Code and functions of the abstract machine stand for the model's. -/
import Derived.Test.YtbaakikdmbehjaaDoorAmSim16
import Derived.LoopN
set_option linter.unusedVariables false
set_option linter.unusedSimpArgs false
set_option linter.unusedSectionVars false
namespace Go.Am
open Go.RowKit

/-- every region of the code whose order is drawn passes the check -/
def codeOk : Code → Bool
  | .region _ ops draw => !draw || drawOk ops
  | .seq a b => codeOk a && codeOk b
  | .cond _ a b => codeOk a && codeOk b
  | .block _ c => codeOk c
  | .loop c => codeOk c
  | _ => true

section
variable {P : Program} {E : Env} {N : Nat} {w0 : World}

theorem wp_draw (hm : P.follows .mixedOrders = true) (hE : EnvOk P E) {callF : FuncId → List DV → M ORes} (hc : CallOk P E N w0 callF) (hloc : ∀ f l, Local (callF f l)) {id : Nat} {ops : Array Oper} (hdraw : drawOk ops = true)
    {κ : Kap} {f : AF} {a : Act} {S : St} {x : AEx} {f' : AF} {S' : St} {w : World} (h0 : S.lg.thr ≤ S.pos)
    (e : evDraw E callF ops f S = some ((x, f'), S')) (hp : AllP S'.sy.phi) (hR : Rr E N w0 κ S.heap w) (hF : Fresh κ S.ep S'.ep) (hA : FRA κ f a) {Q : Exit → Act → World → Prop}
    (hk : ∀ κ' e a' w', Ext κ κ' S.ep S'.ep → Rr E N w0 κ' S'.heap w' → ExR κ' x e → FRA κ' f' a' → Q e a' w') : (Code.region id ops true).wp P Q a w := by
  obtain ⟨n, t, df⟩ := f
  obtain ⟨hdf, hA⟩ := hA
  simp only at hdf hA
  subst hdf
  unfold Am.evDraw at e
  obtain ⟨r, S1, e1, e2⟩ := M.bind_some e
  obtain ⟨f1, rs⟩ := r
  obtain ⟨u, S2, e3, e4⟩ := M.bind_some e2
  obtain ⟨c1, c2, c3, c4, c5⟩ := M.chk_some e3
  have hx : x = .normal ∧ f' = f1 ∧ S' = S2 := by
    change some ((AEx.normal, f1), S2) = some ((x, f'), S') at e4
    simp only [Option.some.injEq, Prod.mk.injEq] at e4
    exact ⟨e4.1.1.symm, e4.1.2.symm, e4.2.symm⟩
  obtain ⟨rfl, rfl, rfl⟩ := hx
  obtain ⟨hpairs, hp1⟩ := c5 hp
  obtain ⟨ST, T, V, R, s0, t0, sm, hf1, _, hmem, tr⟩ := trace_of ops.toList 0 t [] S f' rs S1 e1
  have hlen : ops.toList.length = ops.size := by simp
  rw [hlen] at sm hf1 hmem
  have tl : ∀ (k : Nat) (o : Oper), ops[k]? = some o → ops.toList[k]? = some o := fun k o h => by rw [Array.getElem?_toList]; exact h
  have hex : ∀ k, ∃ F, ∀ o, ops[k]? = some o → OpF E callF ops.toList o (ST k) (ST (k + 1)) (T k) (V k) (R k) F := fun k => by
    cases ho : ops[k]? with
    | none => exact ⟨.none, fun o h => by cases h⟩
    | some o =>
      obtain ⟨F, hF⟩ := opF_of hloc (tr.run k o (tl k o ho))
      exact ⟨F, fun o' h => by cases h; exact hF⟩
  obtain ⟨F, hFo⟩ : ∃ F : Nat → Foot, ∀ k o, ops[k]? = some o → OpF E callF ops.toList o (ST k) (ST (k + 1)) (T k) (V k) (R k) (F k) := ⟨fun k => (hex k).choose, fun k => (hex k).choose_spec⟩
  have some_of : ∀ k, k < ops.size → ∃ o, ops[k]? = some o := fun k hk => ⟨ops[k], Array.getElem?_eq_getElem hk⟩
  have mono : ∀ a d, a + d ≤ ops.size → (ST a).pos ≤ (ST (a + d)).pos ∧ (ST a).ep ≤ (ST (a + d)).ep ∧ (AllP (ST (a + d)).sy.phi → AllP (ST a).sy.phi) := by
    intro a d
    induction d with
    | zero => intro _; exact ⟨Nat.le_refl _, Nat.le_refl _, fun h => h⟩
    | succ d ih =>
      intro hd
      obtain ⟨i1, i2, i3⟩ := ih (by omega)
      obtain ⟨o, ho⟩ := some_of (a + d) (by omega)
      have f := hFo _ o ho
      exact ⟨Nat.le_trans i1 f.le, Nat.le_trans i2 f.ep, fun h => i3 (f.phi h)⟩
  have hpos : ∀ a b, a ≤ b → b ≤ ops.size → (ST a).pos ≤ (ST b).pos := fun a b hab hb => by
    have := (mono a (b - a) (by omega)).1; rw [show a + (b - a) = b by omega] at this; exact this
  have hep : ∀ a b, a ≤ b → b ≤ ops.size → (ST a).ep ≤ (ST b).ep := fun a b hab hb => by
    have := (mono a (b - a) (by omega)).2.1; rw [show a + (b - a) = b by omega] at this; exact this
  have hphi : ∀ k, k ≤ ops.size → AllP (ST k).sy.phi := fun k hk => by
    refine (mono k (ops.size - k) (by omega)).2.2 ?_
    rw [show k + (ops.size - k) = ops.size by omega, sm]; exact hp1
  have hap : ∀ i j, i < j → j < ops.size → bit ops j i = false → apartB (R i) (R j) = true := fun i j hij hj hb => by
    have m1 := hmem i (by omega)
    have m2 := hmem j hj
    rw [Nat.zero_add] at m1 m2
    exact pairsOk_spec hpairs m1 m2 hij hb
  refine wp_region_any hm ?_
  refine wpAny_sim (N := N) (w0 := w0) (κ0 := κ) hE hc hloc hdraw hFo (fun k o ho => tr.put k o (tl k o ho)) hap hphi hpos hep (Q := Q) ?_ ops.size (Array.replicate ops.size false) S.heap t κ a _ ?_ ?_
  · intro κ' a' w' x1 x2 x3
    refine hk κ' .normal a' w' ?_ ?_ trivial ?_
    · rw [s0, sm] at x1; rw [c3]; exact x1
    · rw [sm] at x2; rw [c1]; exact x2
    · rw [hf1]; exact ⟨rfl, x3⟩
  · have hrep : ∀ k, (Array.replicate ops.size false).getD k false = false := fun k => by
      rw [Array.getD_eq_getD_getElem?, Array.getElem?_replicate]
      split <;> rfl
    refine ⟨by simp, ?_, fun k hk _ g g1 g2 => ?_, ?_, fun k o h => ?_, hR.drew, hA⟩
    · exact ⟨Kap.le.refl κ, fun g hg => .inl hg⟩
    · refine hF g ?_ ?_
      · have := hep 0 k (by omega) (by omega); rw [s0] at this; omega
      · have := hep (k + 1) ops.size (by omega) (by omega); rw [sm] at this; rw [c3]; omega
    · have : valOf (hst S.heap) t = valOf (ST 0) (T 0) := by
        rw [s0, t0]; funext l; cases l <;> rfl
      rw [this]
      exact Sp.start _ fun k hk => by rw [hrep]; exact Bool.false_ne_true
    · rw [hrep] at h; cases h
  · rw [Array.toList_replicate, List.countP_replicate]; simp

theorem evDraw_local {callF : FuncId → List DV → M ORes} (hloc : ∀ f l, Local (callF f l)) (ops : Array Oper) (f : AF) : Local (evDraw E callF ops f) := Local.evDraw E hloc ops f

/-- what code must do where the abstract machine goes through -/
def CodeS (P : Program) (E : Env) (N : Nat) (w0 : World) (c : Code) (m : AF → M (AEx × AF)) : Prop :=
  ∀ (κ : Kap) (f : AF) (a : Act) (S : St) (x : AEx) (f' : AF) (S' : St) (w : World) (Q : Exit → Act → World → Prop), S.lg.thr ≤ S.pos →
    m f S = some ((x, f'), S') → AllP S'.sy.phi → Rr E N w0 κ S.heap w → Fresh κ S.ep S'.ep → FRA κ f a →
    (∀ κ' e a' w', Ext κ κ' S.ep S'.ep → Rr E N w0 κ' S'.heap w' → ExR κ' x e → FRA κ' f' a' → Q e a' w') → c.wp P Q a w

theorem then_ne {K : Act → World → Prop} {Q : Exit → Act → World → Prop} {e : Exit} {a : Act} {w : World} (h : e ≠ .normal) (q : Q e a w) : Exit.then K Q e a w := by
  cases e <;> first | exact q | exact absurd rfl h

theorem rounds_sim {c : Code} {m : AF → M (AEx × AF)} (hm : CodeS P E N w0 c m) (hl : ∀ f, Local (m f)) : ∀ (L : Nat) (κ : Kap) (f : AF) (a : Act) (S : St) (x : AEx) (f' : AF) (S' : St) (w : World) (Q : Exit → Act → World → Prop), S.lg.thr ≤ S.pos →
    iter m L f S = some ((x, f'), S') → AllP S'.sy.phi → Rr E N w0 κ S.heap w → Fresh κ S.ep S'.ep → FRA κ f a →
    (∀ κ' e a' w', Ext κ κ' S.ep S'.ep → Rr E N w0 κ' S'.heap w' → ExR κ' x e → FRA κ' f' a' → Q e a' w') → Code.rounds P c Q L a w
  | 0, κ, f, a, S, x, f', S', w, Q, h0, e, _, _, _, _, _ => by cases e
  | L + 1, κ, f, a, S, x, f', S', w, Q, h0, e, hp, hR, hF, hA, hk => by
    change M.bind (m f) (fun r => match r with
      | (.normal, a) => iter m L a
      | r => M.pure r) S = some ((x, f'), S') at e
    obtain ⟨⟨x1, f1⟩, S1, e1, e2⟩ := M.bind_some e
    have F1 := (hl f).facts h0 e1
    have hli : ∀ f, Local (iter m L f) := fun f => Local.iter hl L f
    show c.wp P (Exit.then (Code.rounds P c Q L) Q) a w
    by_cases hx : x1 = .normal
    · subst hx
      simp only at e2
      have F2 := (hli f1).facts F1.1 e2
      refine hm κ f a S .normal f1 S1 w _ h0 e1 (F2.2.2.1 hp) hR (hF.left F2.2.1) hA ?_
      intro κ' e a' w' y1 y2 y3 y4
      cases e with
      | normal =>
        refine rounds_sim hm hl L κ' f1 a' S1 x f' S' w' Q F1.1 e2 hp y2 (hF.right F1.2.1 y1) y4 ?_
        intro κ'' e a'' w'' z1 z2 z3 z4
        exact hk κ'' e a'' w'' (y1.trans F1.2.1 F2.2.1 z1) z2 z3 z4
      | _ => exact y3.elim
    · have he : x1 = x ∧ f1 = f' ∧ S1 = S' := by
        cases x1 <;> first
          | exact absurd rfl hx
          | (change some ((_, f1), S1) = some ((x, f'), S') at e2
             simp only [Option.some.injEq, Prod.mk.injEq] at e2
             exact ⟨e2.1.1, e2.1.2, e2.2⟩)
      obtain ⟨rfl, rfl, rfl⟩ := he
      refine hm κ f a S x1 f1 S1 w _ h0 e1 hp hR hF hA ?_
      intro κ' e a' w' y1 y2 y3 y4
      refine then_ne ?_ (hk κ' e a' w' y1 y2 y3 y4)
      rintro rfl
      cases x1 <;> first | exact hx rfl | exact y3.elim

theorem FRA.of {κ : Kap} {f : AF} {a : Act} (h : FRA κ f a) : FR κ f.n f.t a := h.2

theorem wp_code (hm : P.follows .mixedOrders = true) (hE : EnvOk P E) {callF : FuncId → List DV → M ORes} (hc : CallOk P E N w0 callF) (hloc : ∀ f l, Local (callF f l)) (L : Nat) : ∀ c : Code, codeOk c = true → CodeS P E N w0 c (evCode E callF L c) := by
  intro c
  induction c with
  | skip =>
    intro _ κ f a S x f' S' w Q h0 e hp hR hF hA hk
    cases e
    exact wp_skip (hk κ .normal a w (Ext.refl _ _ _) hR trivial hA)
  | region id ops draw =>
    intro hok κ f a S x f' S' w Q h0 e hp hR hF hA hk
    cases draw with
    | true =>
      have hd : drawOk ops = true := by simpa [codeOk] using hok
      exact wp_draw hm hE hc hloc hd h0 e hp hR hF hA hk
    | false =>
      refine wp_region ?_
      rw [List.range_eq_range']
      have hlen : ops.toList.length = ops.size := by simp
      rw [← hlen]
      exact wpOps_sim hE hc hloc ops.toList 0 rfl κ f a S x f' S' w h0 e hp hR hF hA hk
  | seq c1 c2 ih1 ih2 =>
    intro hok κ f a S x f' S' w Q h0 e hp hR hF hA hk
    simp only [codeOk, Bool.and_eq_true] at hok
    change M.bind (evCode E callF L c1 f) (fun r => match r with
      | (.normal, a) => evCode E callF L c2 a
      | r => M.pure r) S = some ((x, f'), S') at e
    obtain ⟨⟨x1, f1⟩, S1, e1, e2⟩ := M.bind_some e
    have F1 := (Local.evCode E hloc L c1 f).facts h0 e1
    refine wp_seq ?_
    by_cases hx : x1 = .normal
    · subst hx
      simp only at e2
      have F2 := (Local.evCode E hloc L c2 f1).facts F1.1 e2
      refine ih1 hok.1 κ f a S .normal f1 S1 w _ h0 e1 (F2.2.2.1 hp) hR (hF.left F2.2.1) hA ?_
      intro κ' e a' w' y1 y2 y3 y4
      cases e with
      | normal =>
        refine ih2 hok.2 κ' f1 a' S1 x f' S' w' Q F1.1 e2 hp y2 (hF.right F1.2.1 y1) y4 ?_
        intro κ'' e a'' w'' z1 z2 z3 z4
        exact hk κ'' e a'' w'' (y1.trans F1.2.1 F2.2.1 z1) z2 z3 z4
      | _ => exact y3.elim
    · have he : x1 = x ∧ f1 = f' ∧ S1 = S' := by
        cases x1 <;> first
          | exact absurd rfl hx
          | (change some ((_, f1), S1) = some ((x, f'), S') at e2
             simp only [Option.some.injEq, Prod.mk.injEq] at e2
             exact ⟨e2.1.1, e2.1.2, e2.2⟩)
      obtain ⟨rfl, rfl, rfl⟩ := he
      refine ih1 hok.1 κ f a S x1 f1 S1 w _ h0 e1 hp hR hF hA ?_
      intro κ' e a' w' y1 y2 y3 y4
      refine then_ne ?_ (hk κ' e a' w' y1 y2 y3 y4)
      rintro rfl
      cases x1 <;> first | exact hx rfl | exact y3.elim
  | cond o c1 c2 ih1 ih2 =>
    intro hok κ f a S x f' S' w Q h0 e hp hR hF hA hk
    simp only [codeOk, Bool.and_eq_true] at hok
    have ho := hA.2.opnd o
    change (match Am.opnd f.t o with
      | .bool b => M.bind (M.dec b) fun b => cond b (evCode E callF L c1 f) (evCode E callF L c2 f)
      | _ => M.fail) S = some ((x, f'), S') at e
    generalize Am.opnd f.t o = ov at e ho
    split at e
    · rename_i b
      obtain ⟨d, S1, e1, e2⟩ := M.bind_some e
      obtain ⟨c1', c2', c3, c4, c5⟩ := M.dec_some e1
      have F1 := (Local.dec b).facts h0 e1
      have hoa : a.eval o = .bool b := ho
      have hp1 : AllP S1.sy.phi := by
        cases d with
        | true => exact ((Local.evCode E hloc L c1 f).facts F1.1 e2).2.2.1 hp
        | false => exact ((Local.evCode E hloc L c2 f).facts F1.1 e2).2.2.1 hp
      obtain ⟨rfl, _⟩ := c5 hp1
      refine wp_cond hoa ?_
      cases b with
      | true =>
        simp only [if_true]
        exact ih1 hok.1 κ f a S1 x f' S' w Q F1.1 e2 hp (by rw [c1']; exact hR) (by rw [c3]; exact hF) hA (by rw [c3]; exact hk)
      | false =>
        simp only [Bool.false_eq_true, if_false]
        exact ih2 hok.2 κ f a S1 x f' S' w Q F1.1 e2 hp (by rw [c1']; exact hR) (by rw [c3]; exact hF) hA (by rw [c3]; exact hk)
    · cases e
  | block i c ih =>
    intro hok κ f a S x f' S' w Q h0 e hp hR hF hA hk
    change M.bind (evCode E callF L c f) (fun r => match r with
      | (.exit j, a) => cond (Nat.beq j i) (M.pure (.normal, a)) (M.pure (.exit j, a))
      | r => M.pure r) S = some ((x, f'), S') at e
    obtain ⟨⟨x1, f1⟩, S1, e1, e2⟩ := M.bind_some e
    refine wp_block ?_
    have he : f1 = f' ∧ S1 = S' ∧ ((∃ j, x1 = .exit j ∧ ((j = i ∧ x = .normal) ∨ (j ≠ i ∧ x = .exit j))) ∨ ((∀ j, x1 ≠ .exit j) ∧ x = x1)) := by
      cases x1 with
      | exit j =>
        simp only at e2
        cases hj : Nat.beq j i with
        | true =>
          rw [hj] at e2
          change some ((AEx.normal, f1), S1) = some ((x, f'), S') at e2
          simp only [Option.some.injEq, Prod.mk.injEq] at e2
          exact ⟨e2.1.2, e2.2, .inl ⟨j, rfl, .inl ⟨beq_true hj, e2.1.1.symm⟩⟩⟩
        | false =>
          rw [hj] at e2
          change some ((AEx.exit j, f1), S1) = some ((x, f'), S') at e2
          simp only [Option.some.injEq, Prod.mk.injEq] at e2
          refine ⟨e2.1.2, e2.2, .inl ⟨j, rfl, .inr ⟨fun h => ?_, e2.1.1.symm⟩⟩⟩
          subst h; rw [Nat.beq_refl] at hj; cases hj
      | _ =>
        change some ((_, f1), S1) = some ((x, f'), S') at e2
        simp only [Option.some.injEq, Prod.mk.injEq] at e2
        exact ⟨e2.1.2, e2.2, .inr ⟨fun j h => (by cases h), e2.1.1.symm⟩⟩
    obtain ⟨rfl, rfl, hx⟩ := he
    refine ih (by simpa [codeOk] using hok) κ f a S x1 f1 S1 w _ h0 e1 hp hR hF hA ?_
    intro κ' e a' w' y1 y2 y3 y4
    rcases hx with ⟨j, rfl, hj⟩ | ⟨hne, rfl⟩
    · cases e with
      | exit j' =>
        have y3 : j = j' := y3
        subst y3
        show (if j = i then Q .normal a' w' else Q (.exit j) a' w')
        rcases hj with ⟨rfl, rfl⟩ | ⟨hji, rfl⟩
        · rw [if_pos rfl]; exact hk κ' .normal a' w' y1 y2 trivial y4
        · rw [if_neg hji]; exact hk κ' (.exit j) a' w' y1 y2 rfl y4
      | _ => exact y3.elim
    · have q := hk κ' e a' w' y1 y2 y3 y4
      cases e with
      | exit j' => cases x <;> first | exact (hne _ rfl).elim | exact y3.elim
      | _ => exact q
  | loop c ih =>
    intro hok κ f a S x f' S' w Q h0 e hp hR hF hA hk
    exact wp_loop_rounds L (rounds_sim (ih (by simpa [codeOk] using hok)) (fun f => Local.evCode E hloc L c f) L κ f a S x f' S' w Q h0 e hp hR hF hA hk)
  | exit i =>
    intro _ κ f a S x f' S' w Q h0 e hp hR hF hA hk
    cases e
    exact wp_exit (hk κ (.exit i) a w (Ext.refl _ _ _) hR rfl hA)
  | ret =>
    intro _ κ f a S x f' S' w Q h0 e hp hR hF hA hk
    cases e
    exact wp_ret (hk κ .ret a w (Ext.refl _ _ _) hR trivial hA)
  | _ =>
    intro _ κ f a S x f' S' w Q h0 e
    cases e
end
end Go.Am
