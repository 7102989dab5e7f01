/- Functions of the abstract machine stand for the model's. -/
import Derived.Test.YtbaakikdmbehjaaDoorAmSim17
set_option linter.unusedVariables false
set_option linter.unusedSimpArgs false
set_option linter.unusedSectionVars false
namespace Go.Am
open Go.RowKit

theorem argsK_get : ∀ (args : List DV) (k : Nat) (t : Tr DV) (i : Nat), (argsK args k t id).get i = if k ≤ i ∧ i < k + args.length then args[i - k]? else t.get i
  | [], k, t, i => by rw [if_neg (by simp)]; rfl
  | a :: args, k, t, i => by
    show (Tr.setK (some a) t k fun t => argsK args (k + 1) t id).get i = _
    rw [Tr.setK_eq, argsK_get args (k + 1) _ i, Tr.get_set]
    by_cases h1 : i = k
    · subst h1
      rw [if_neg (by omega), if_pos rfl, if_pos (by simp), Nat.sub_self]; rfl
    · by_cases h2 : k + 1 ≤ i ∧ i < k + 1 + args.length
      · rw [if_pos h2, if_pos (by simp only [List.length_cons]; omega), show i - k = (i - (k + 1)) + 1 by omega, List.getElem?_cons_succ]
      · rw [if_neg h2, if_neg h1, if_neg (by simp only [List.length_cons]; omega)]

section
variable {P : Program} {E : Env} {N : Nat} {w0 : World}

def resG (tmps : Array Value) (r : ResultVar) : Sem Value := match r with
  | .tmp t => pure (tmps.getD t undef)
  | .cell a t => do loadVar t (← asAddr (tmps.getD a undef))

theorem andThen_ok {α β : Type} {r : Result α} {f : α → World → Result β} {b : β} {w' : World} (h : r.andThen f = .ok b w') : ∃ a w1, r = .ok a w1 ∧ f a w1 = .ok b w' := by
  cases r with
  | ok a w1 => exact ⟨a, w1, rfl, h⟩
  | halt x w1 => cases h
theorem run_load_same {a : Addr} {w w' : World} {b : Value} (h : (load a).run P w = .ok b w') : w' = w := by
  unfold load at h
  unfold Sem.run at h
  split at h
  · cases h; rfl
  · split at h
    · cases h; rfl
    · cases h
theorem run_loadCells_same {a : Addr} : ∀ (n i : Nat) (acc : Array Value) (w w' : World) (b : Array Value), (loadCellsFrom a i n acc).run P w = .ok b w' → w' = w
  | 0, i, acc, w, w', b, h => by cases h; rfl
  | n + 1, i, acc, w, w', b, h => by
    simp only [loadCellsFrom, Sem.run_bind] at h
    obtain ⟨v, w1, h1, h2⟩ := andThen_ok h
    rw [run_loadCells_same n _ _ _ _ _ h2, run_load_same h1]
theorem run_underlying_same {t : TypeId} {w w' : World} {d : TypeDesc} (h : (underlying t).run P w = .ok d w') : w' = w := by
  simp only [underlying, Sem.run_bind, run_program, Result.andThen_ok] at h
  split at h
  · cases h; rfl
  · cases h
theorem run_sizeOf_same {t : TypeId} {w w' : World} {d : Nat} (h : (sizeOf t).run P w = .ok d w') : w' = w := by
  simp only [sizeOf, typeInfo, Sem.run_bind, run_program, Result.andThen_ok] at h
  obtain ⟨i, w1, h1, h2⟩ := andThen_ok h
  cases h2
  split at h1
  · cases h1; rfl
  · cases h1
theorem run_loadVar_same {t : TypeId} {a : Addr} {w w' : World} {b : Value} (h : (loadVar t a).run P w = .ok b w') : w' = w := by
  simp only [loadVar, isAgg, Sem.run_bind] at h
  obtain ⟨g, w1, h1, h2⟩ := andThen_ok h
  obtain ⟨d, w2, h3, h4⟩ := andThen_ok h1
  have e2 := run_underlying_same h3
  have e1 : w1 = w2 := by
    cases d <;> (cases h4; rfl)
  cases g with
  | true =>
    simp only [if_true, Sem.run_bind] at h2
    obtain ⟨n, w3, h5, h6⟩ := andThen_ok h2
    obtain ⟨cs, w4, h7, h8⟩ := andThen_ok h6
    cases h8
    rw [run_loadCells_same _ _ _ _ _ _ h7, run_sizeOf_same h5, e1, e2]
  | false =>
    simp only [Bool.false_eq_true, if_false] at h2
    rw [run_load_same h2, e1, e2]

theorem opLoad_still {t : TypeId} {x : DV} {S S' : St} {d : DV} (e : opLoad E t x S = some (d, S')) : S'.heap = S.heap ∧ S'.ep = S.ep := by
  unfold Am.opLoad Am.tiM at e
  cases ht : E.ti.get t with
  | none => rw [ht] at e; cases e
  | some i =>
    rw [ht] at e
    simp only at e
    cases x with
    | ptr g p off =>
      simp only at e
      cases hi : i.isAgg with
      | true =>
        rw [hi] at e
        obtain ⟨⟨g', r⟩, S1, e1, e2⟩ := M.bind_some e
        obtain ⟨opn, cs, hg, hc, hr, rfl⟩ := M.rowCells_some e1
        obtain ⟨u, S2, e3, e4⟩ := M.bind_some e2
        obtain ⟨c1, c2, c3, c4, c5⟩ := M.chk_some e3
        cases e4
        exact ⟨c1, c3⟩
      | false =>
        rw [hi] at e
        obtain ⟨⟨g', r⟩, S1, e1, e2⟩ := M.bind_some e
        obtain ⟨opn, cs, hg, hd, rfl⟩ := M.rowCell_some e1
        obtain ⟨u, S2, e3, e4⟩ := M.bind_some e2
        obtain ⟨c1, c2, c3, c4, c5⟩ := M.chk_some e3
        cases e4
        exact ⟨c1, c3⟩
    | bptr a =>
      simp only at e
      cases hs : a.spot with
      | some _ => rw [hs] at e; cases e
      | none =>
        rw [hs] at e
        simp only at e
        cases hgl : E.glob.get a.block with
        | none => rw [hgl] at e; cases e
        | some cs =>
          rw [hgl] at e
          simp only at e
          unfold M.part at e
          cases hag : i.isAgg with
          | true =>
            rw [hag] at e
            simp only [ltakeK_eq] at e
            obtain ⟨u, S2, e3, e4⟩ := M.bind_some e
            obtain ⟨c1, c2, c3, c4, c5⟩ := M.chk_some e3
            cases e4
            exact ⟨c1, c3⟩
          | false =>
            rw [hag] at e
            simp only at e
            cases hl : lget cs a.off with
            | none => rw [hl] at e; cases e
            | some c => rw [hl] at e; cases e; exact ⟨rfl, rfl⟩
    | _ => cases e

theorem resMs_sim (hE : EnvOk P E) {n : Nat} {t : Tr DV} {a : Act} : ∀ (l : List ResultVar) (κ : Kap) (S : St) (vs : List DV) (S' : St) (w : World), FR κ n t a → resMs E t l S = some (vs, S') → AllP S'.sy.phi → S.lg.thr ≤ S.pos → Rr E N w0 κ S.heap w →
    S'.ep = S.ep ∧ ∃ (κ' : Kap) (us : List Value), Ext κ κ' S.ep S.ep ∧ Rr E N w0 κ' S'.heap w ∧ VRL κ' vs us ∧ (l.mapM (resG a.tmps)).run P w = .ok us w
  | [], κ, S, vs, S', w, ha, e, hp, h0, hR => by
    cases e
    exact ⟨rfl, κ, [], Ext.refl _ _ _, hR, rfl, by simp [Sem.run_pure]⟩
  | r :: l, κ, S, vs, S', w, ha, e, hp, h0, hR => by
    change M.bind (resM E t r) (fun v => M.bind (Am.resMs E t l) fun vs => M.pure (v :: vs)) S = some (vs, S') at e
    obtain ⟨v, S1, e1, e2⟩ := M.bind_some e
    obtain ⟨vs1, S2, e3, e4⟩ := M.bind_some e2
    cases e4
    cases r with
    | tmp i =>
      change some (Am.opnd t (.tmp i), S) = some (v, S1) at e1
      simp only [Option.some.injEq, Prod.mk.injEq] at e1
      obtain ⟨rfl, rfl⟩ := e1
      obtain ⟨q, κ', us, x1, x2, h1, h2⟩ := resMs_sim hE l κ _ _ _ w ha e3 hp h0 hR
      refine ⟨q, κ', a.tmps.getD i undef :: us, x1, x2, ⟨_, _, rfl, VR.mono x1.le _ _ (ha.opnd (.tmp i)), h1⟩, ?_⟩
      rw [List.mapM_cons]
      simp only [resG, Sem.run_bind, Sem.run_pure, Result.andThen_ok, h2]
    | cell i ty =>
      change opLoad E ty (Am.opnd t (.tmp i)) S = some (v, S1) at e1
      have F1 := (Local.opLoad E ty (Am.opnd t (.tmp i))).facts h0 e1
      have F2 := (Local.resMs E t l).facts F1.1 e3
      obtain ⟨s1, s2⟩ := opLoad_still e1
      obtain ⟨κ1, b, w1, x1, x2, x3, x4⟩ := Sim.opLoad hE (ha.opnd (.tmp i)) S v S1 w h0 e1 (F2.2.2.1 hp) hR (fun g g1 g2 => by omega)
      have hlv : ∃ ad, a.eval (.tmp i) = .pointer (some ad) ∧ (loadVar ty ad).run P w = .ok b w1 := by
        generalize a.eval (.tmp i) = x' at x2
        unfold Instr.loadAt at x2
        rw [Sem.run_bind] at x2
        obtain ⟨ad, w2, y1, y2⟩ := andThen_ok x2
        cases x' with
        | pointer q =>
          cases q with
          | some ad' => cases y1; exact ⟨_, rfl, y2⟩
          | none => cases y1
        | _ => cases y1
      obtain ⟨ad, had, hlv⟩ := hlv
      have hw := run_loadVar_same hlv
      subst hw
      obtain ⟨q, κ', us, z1, z2, h1, h2⟩ := resMs_sim hE l κ1 _ _ _ w1 (ha.mono x1.le) e3 hp F1.1 x4
      refine ⟨q.trans s2, κ', b :: us, ⟨x1.le.trans z1.le, fun g hg => ?_⟩, z2, ⟨_, _, rfl, VR.mono z1.le _ _ x3, h1⟩, ?_⟩
      · rcases z1.dom g hg with h | h
        · rcases x1.dom g h with h | h
          · exact .inl h
          · omega
        · omega
      · rw [List.mapM_cons]
        have had' : a.tmps.getD i undef = .pointer (some ad) := had
        simp only [resG, had', asAddr, Sem.run_bind, Sem.run_pure, Result.andThen_ok, hlv, h2]

theorem results_sim (hE : EnvOk P E) {κ : Kap} {n : Nat} {t : Tr DV} {a : Act} (ha : FR κ n t a) {fn : Func} {S : St} {vs : List DV} {S' : St} {w : World} (e : resMs E t fn.results.toList S = some (vs, S')) (hp : AllP S'.sy.phi) (h0 : S.lg.thr ≤ S.pos) (hR : Rr E N w0 κ S.heap w) :
    S'.ep = S.ep ∧ ∃ (κ' : Kap) (v : Value), Ext κ κ' S.ep S.ep ∧ Rr E N w0 κ' S'.heap w ∧ (results fn a.tmps).run P w = .ok v w ∧ VR κ' (match vs with | [x] => x | vs => .tup vs) v := by
  obtain ⟨q, κ', us, x1, x2, h1, h2⟩ := resMs_sim hE _ _ _ _ _ w ha e hp h0 hR
  have hrun : (results fn a.tmps).run P w = .ok (if h : us.toArray.size = 1 then us.toArray[0] else .tuple us.toArray) w := by
    have : results fn a.tmps = (do let vs ← fn.results.mapM (resG a.tmps); pure (if h : vs.size = 1 then vs[0] else .tuple vs)) := by
      rfl
    rw [this, Array.mapM_eq_mapM_toList]
    simp only [Sem.run_bind, map_eq_pure_bind, h2, Result.andThen_ok, Sem.run_pure]
  refine ⟨q, κ', _, x1, x2, hrun, ?_⟩
  have hl := VRL.length _ _ h1
  have many : vs.length ≠ 1 → VR κ' (.tup vs) (if h : us.toArray.size = 1 then us.toArray[0] else .tuple us.toArray) := by
    intro hne
    have : ¬ us.toArray.size = 1 := by simp only [List.size_toArray]; omega
    rw [dif_neg this]
    exact ⟨us.toArray, rfl, h1⟩
  rcases vs with _ | ⟨x, _ | ⟨y, vs⟩⟩
  · exact many (by simp)
  · obtain ⟨v, rfl, hv⟩ := VRL.one h1
    exact hv
  · exact many (by simp)

/-- every body passes the check of its drawn regions -/
def FnOk (E : Env) : Prop := ∀ f fn c, E.fn.get f = some fn → fn.body = some c → codeOk c = true

theorem stepOk (hm : P.follows .mixedOrders = true) (hE : EnvOk P E) (hcode : FnOk E) (L : Nat) {callF : FuncId → List DV → M ORes} (ih : CallOk P E N w0 callF) (hloc : ∀ f l, Local (callF f l)) : CallOk P E N w0 (evStep E L callF) := by
  intro f l S r S' e hp h0
  unfold Am.evStep at e
  cases hfn : E.fn.get f with
  | none => rw [hfn] at e; cases e
  | some fn =>
    rw [hfn] at e
    simp only at e
    cases hb : fn.body with
    | none => rw [hb] at e; cases e
    | some c =>
      rw [hb] at e
      simp only at e
      rw [argsK_eq] at e
      obtain ⟨hP, hname⟩ := hE.fn f fn hfn
      obtain ⟨⟨x, f1⟩, S1, e1, e2⟩ := M.bind_some e
      have F1 := (Local.evCode E hloc L c _).facts h0 e1
      have F2 := (Local.finish E fn (x, f1)).facts F1.1 e2
      refine ⟨⟨fn, hP, by rw [hb]; rfl, hname⟩, ?_, ?_⟩
      · rintro a b c rfl
        obtain ⟨n, t, df⟩ := f1
        unfold Am.finish at e2
        cases df with
        | cons _ _ => cases e2
        | nil =>
          cases x with
          | normal =>
            obtain ⟨vs, S2, e3, e4⟩ := M.bind_some e2
            split at e4 <;> cases e4
          | ret =>
            obtain ⟨vs, S2, e3, e4⟩ := M.bind_some e2
            split at e4 <;> cases e4
          | pan c => cases e2
          | exit n => cases e2
      · intro κ l' w hR hF hl
        refine calls_of_wp hP hb ?_
        have hlen := VRL.length _ _ hl
        refine wp_code hm hE ih hloc L c (hcode f fn c hfn hb) κ _ _ S x f1 S1 w _ h0 e1 (F2.2.2.1 hp) hR (hF.left F2.2.1) ⟨rfl, ?_⟩ ?_
        · refine ⟨?_, fun i d hd => ?_, rfl⟩
          · simp only [Array.size_append, Array.size_replicate]; omega
          · simp only [argsK_get] at hd
            by_cases hi : 0 ≤ i ∧ i < 0 + l.length
            · rw [if_pos hi, Nat.sub_zero] at hd
              obtain ⟨v, h1, h2⟩ := VRL.get _ _ hl i d hd
              have hlt : i < l'.size := by simp at hlen; omega
              rw [Array.getD_eq_getD_getElem?, Array.getElem?_append_left hlt, ← Array.getElem?_toList, h1]
              exact h2
            · rw [if_neg hi] at hd; cases hd
        · intro κ' en a' w' y1 y2 y3 y4
          have hext : Ext κ κ' S.ep S'.ep := ⟨y1.le, fun g hg => by
            rcases y1.dom g hg with h | h
            · exact .inl h
            · exact .inr (by have := F2.2.1; omega)⟩
          obtain ⟨n, t, df⟩ := f1
          obtain ⟨hdf, hA⟩ := y4
          simp only at hdf hA
          subst hdf
          have fin : (x = .normal ∨ x = .ret) → a'.defers = [] ∧ ∃ v, (results fn a'.tmps).run P w' = .ok v w' ∧ ∃ κ', Ext κ κ' S.ep S'.ep ∧ Rr E N w0 κ' S'.heap w' ∧ ResR κ' r (.returned v) := by
            intro hx
            have e2' : M.bind (resMs E t fn.results.toList) (fun vs => match vs with
                | [v] => M.pure (ORes.val v)
                | vs => M.pure (.val (.tup vs))) S1 = some (r, S') := by
              rcases hx with rfl | rfl <;> exact e2
            obtain ⟨vs, S2, e3, e4⟩ := M.bind_some e2'
            have hS2 : S2 = S' := by rcases vs with _ | ⟨z, _ | ⟨y, vs⟩⟩ <;> cases e4 <;> rfl
            obtain ⟨q, κ2, v, z1, z2, hv, hvr⟩ := results_sim hE hA e3 (by rw [hS2]; exact hp) F1.1 y2
            refine ⟨hA.dfr, v, hv, κ2, ⟨hext.le.trans z1.le, fun g hg => ?_⟩, ?_, ?_⟩
            · rcases z1.dom g hg with h | h
              · exact hext.dom g h
              · omega
            · rw [← hS2]; exact z2
            · rcases vs with _ | ⟨z, _ | ⟨y, vs⟩⟩ <;> cases e4 <;> exact hvr
          cases x with
          | normal =>
            cases en with
            | normal => exact fin (.inl rfl)
            | _ => exact y3.elim
          | ret =>
            cases en with
            | ret => exact fin (.inr rfl)
            | _ => exact y3.elim
          | pan c =>
            cases en with
            | panic ch =>
              change some (ORes.pan c, S1) = some (r, S') at e2
              simp only [Option.some.injEq, Prod.mk.injEq] at e2
              obtain ⟨rfl, rfl⟩ := e2
              exact ⟨hA.dfr, κ', hext, y2, y3⟩
            | _ => exact y3.elim
          | exit m => cases e2
theorem callOk (hm : P.follows .mixedOrders = true) (hE : EnvOk P E) (hcode : FnOk E) (L : Nat) : ∀ fuel, CallOk P E N w0 (evFn E L fuel)
  | 0 => by intro f l S r S' e; cases e
  | fuel + 1 => stepOk hm hE hcode L (callOk hm hE hcode L fuel) (fun f l => Local.evFn E L fuel f l)
end
end Go.Am
