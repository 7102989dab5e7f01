/- The operations of the abstract machine stand for the model's: maps written. -/
import Derived.Test.YtbaakikdmbehjaaDoorAmSim9
set_option linter.unusedVariables false
set_option linter.unusedSimpArgs false
set_option linter.unusedSectionVars false
namespace Go.Am
open Go.RowKit
section
variable {P : Program} {E : Env} {N : Nat} {w0 : World}
theorem Sim.opMapUpdate (hE : EnvOk P E) {κ : Kap} {t : TypeId} {m k v : DV} {m' k' v' : Value} (hm : VR κ m m') (hk : VR κ k k') (hv : VR κ v v') :
    Sim P E N w0 κ (fun _ _ _ => True) (opMapUpdate E t m k v) (Instr.mapUpdate t m' k' v') := by
  unfold Am.opMapUpdate
  refine Sim.tiM hE fun i inf d z h => ?_
  split
  · rename_i kt e hue
    obtain rfl := h.map hue
    refine Sim.fit hE fun ki kinf kd kz hkt hfit => ?_
    split
    · rename_i g p
      obtain ⟨hdom, rfl⟩ := hm
      intro S a S' w h0 e hp hR hF
      obtain ⟨g', es, c, S1, hg, e2, c1, c2, c3, c4, c5⟩ := rdMap_some (X := fun g' _ _ => cond (Nat.beq g g') (keyOk k) false) e
      obtain ⟨r, S2, e3, e4⟩ := M.bind_some e2
      have hfind : findE k es 0 = some r ∧ S2 = S1 := by
        unfold M.opt at e3
        cases hq : findE k es 0 with
        | none => rw [hq] at e3; cases e3
        | some r' => rw [hq] at e3; cases e3; exact ⟨rfl, rfl⟩
      obtain ⟨hfind, rfl⟩ := hfind
      obtain ⟨⟨_, ms, hb, hms⟩, _, _⟩ := hR.obj p _ hg
      have fk := run_findKey (P := P) hkt hfit hk hms hfind w
      rcases fk with ⟨rfl, hf⟩ | ⟨jx, vo, vo', rfl, hf, hvo, hj, eo, heo, rfl, hkeq⟩
      · clear e
        change lappK es [(k, v, c)] (fun es => M.wrO p (.map g' es (c + 1))) S2 = _ at e4
        rw [lappK_eq] at e4
        cases M.wrO_some e4
        obtain ⟨h1, h2⟩ := cond_and (c5 hp)
        obtain rfl : g = g' := beq_true h1
        have hget : (getObj (κ.blk g)).run P w = .ok (.map ms c) w := by simp [getObj, Sem.run, hb]
        obtain ⟨W, hR', hset⟩ := hR.putMap (P := P) (c' := c + 1) (es' := es ++ [(k, v, c)]) (ms := ms.push { key := k', val := v', born := c }) hg (by
          rw [Array.toList_push]; exact ERL.app _ _ _ _ hms ⟨_, _, rfl, hk, h2, hv, rfl, rfl⟩)
        refine ⟨κ, (), W, ?_, ?_, trivial, ?_⟩
        · show Ext κ κ S.ep S2.ep; rw [c2]; exact Ext.refl _ _ _
        · show (Instr.mapUpdate t (.map (some (κ.blk g))) k' v').run P w = _
          simp only [Instr.mapUpdate, Sem.run_bind, h.run_und, Result.andThen_ok, hget, run_checkKey hkt hfit, hf]
          exact hset
        · simp only [c1]; exact hR'
      · change updE p g' c jx k v es S2 = _ at e4
        unfold Am.updE at e4
        rw [lget_eq, heo] at e4
        simp only [lputK_eq] at e4
        cases hes : lput jx [(k, v, eo.2.2)] es with
        | none => rw [hes] at e4; cases e4
        | some es' =>
          rw [hes] at e4
          change M.wrO p (.map g' es' c) S2 = _ at e4
          cases M.wrO_some e4
          obtain ⟨h1, h2⟩ := cond_and (c5 hp)
          obtain rfl : g = g' := beq_true h1
          have hget : (getObj (κ.blk g)).run P w = .ok (.map ms c) w := by simp [getObj, Sem.run, hb]
          obtain ⟨m0, hm0, hmk, _, _, _⟩ := ERL.get _ _ hms jx eo heo
          rw [Array.getElem?_toList] at hm0
          obtain ⟨W, hR', hset⟩ := hR.putMap (P := P) (c' := c) (es' := es') (ms := ms.modify jx fun x => { x with key := k', val := v' }) hg (ERL.set hms heo hk h2 hv hes)
          refine ⟨κ, (), W, ?_, ?_, trivial, ?_⟩
          · show Ext κ κ S.ep S2.ep; rw [c2]; exact Ext.refl _ _ _
          · show (Instr.mapUpdate t (.map (some (κ.blk g))) k' v').run P w = _
            simp only [Instr.mapUpdate, Sem.run_bind, h.run_und, Result.andThen_ok, hget, run_checkKey hkt hfit, hf, hm0, Option.map_some, Option.getD_some, Instr.keyThatStays, same_key hk hmk hkeq, if_true, Sem.run_pure]
            exact hset
          · simp only [c1]; exact hR'
    · exact Sim.fail
  · exact Sim.fail

theorem Sim.opDelete (hE : EnvOk P E) {κ : Kap} {t ty : TypeId} {ats : List TypeId} {m k : DV} {m' k' : Value} (hm : VR κ m m') (hk : VR κ k k') :
    Sim P E N w0 κ VR (opDelete E t m k) (Builtin.delete_ (t :: ats).toArray ty #[m', k']) := by
  unfold Am.opDelete
  refine Sim.tiM hE fun i inf d z h => ?_
  have tup0 : VR κ (.tup []) (.tuple #[]) := ⟨_, rfl, rfl⟩
  split
  · rename_i kt e hue
    obtain rfl := h.map hue
    refine Sim.fit hE fun ki kinf kd kz hkt hfit => ?_
    split
    · rename_i g p
      obtain ⟨hdom, rfl⟩ := hm
      intro S a S' w h0 e hp hR hF
      obtain ⟨g', es, c, S1, hg, e2, c1, c2, c3, c4, c5⟩ := rdMap_some (X := fun g' _ _ => cond (Nat.beq g g') (keyOk k) false) e
      obtain ⟨r, S2, e3, e4⟩ := M.bind_some e2
      have hfind : findE k es 0 = some r ∧ S2 = S1 := by
        unfold M.opt at e3
        cases hq : findE k es 0 with
        | none => rw [hq] at e3; cases e3
        | some r' => rw [hq] at e3; cases e3; exact ⟨rfl, rfl⟩
      obtain ⟨hfind, rfl⟩ := hfind
      obtain ⟨⟨_, ms, hb, hms⟩, _, _⟩ := hR.obj p _ hg
      have fk := run_findKey (P := P) hkt hfit hk hms hfind w
      rcases fk with ⟨rfl, hf⟩ | ⟨jx, vo, vo', rfl, hf, hvo, hj, eo, heo, rfl, hkeq⟩
      · change M.bind (M.wrO p (.map g' es c)) (fun _ => M.pure (DV.tup [])) S2 = _ at e4
        cases M.wrO_bind e4
        obtain ⟨h1, h2⟩ := cond_and (c5 hp)
        obtain rfl : g = g' := beq_true h1
        have hget : (getObj (κ.blk g)).run P w = .ok (.map ms c) w := by simp [getObj, Sem.run, hb]
        obtain ⟨W, hR', hset⟩ := hR.putMap (P := P) (c' := c) (es' := es) (ms := ms) hg hms
        refine ⟨κ, .tuple #[], W, ?_, ?_, tup0, ?_⟩
        · show Ext κ κ S.ep S2.ep; rw [c2]; exact Ext.refl _ _ _
        · show (Builtin.delete_ (t :: ats).toArray ty #[.map (some (κ.blk g)), k']).run P w = _
          simp only [Builtin.delete_, List.getElem?_toArray, List.getElem?_cons_zero, List.getElem?_cons_succ, Sem.run_bind, h.run_und, Result.andThen_ok, hget, run_checkKey hkt hfit, hf, hset, Sem.run_pure]
        · simp only [c1]; exact hR'
      · change ltakeK jx es (fun a => lappK a (ldrop (jx + 1) es) fun es => M.bind (M.wrO p (.map g' es c)) fun _ => M.pure (DV.tup [])) S2 = _ at e4
        rw [ltakeK_eq, lappK_eq, ldrop_eq] at e4
        cases M.wrO_bind e4
        obtain ⟨h1, h2⟩ := cond_and (c5 hp)
        obtain rfl : g = g' := beq_true h1
        have hget : (getObj (κ.blk g)).run P w = .ok (.map ms c) w := by simp [getObj, Sem.run, hb]
        have hms' : ERL κ (es.take jx ++ es.drop (jx + 1)) (ms.eraseIdxIfInBounds jx).toList := by
          have hl := ERL.length _ _ hms
          have : (ms.eraseIdxIfInBounds jx).toList = ms.toList.take jx ++ ms.toList.drop (jx + 1) := by
            have hlt : jx < ms.size := by simp at hl; omega
            simp only [Array.eraseIdxIfInBounds, hlt, dif_pos, Array.toList_eraseIdx, List.eraseIdx_eq_take_drop_succ]
          rw [this]
          exact ERL.app _ _ _ _ (ERL.take _ _ _ hms) (ERL.drop _ _ _ hms)
        obtain ⟨W, hR', hset⟩ := hR.putMap (P := P) (c' := c) hg hms'
        refine ⟨κ, .tuple #[], W, ?_, ?_, tup0, ?_⟩
        · show Ext κ κ S.ep S2.ep; rw [c2]; exact Ext.refl _ _ _
        · show (Builtin.delete_ (t :: ats).toArray ty #[.map (some (κ.blk g)), k']).run P w = _
          simp only [Builtin.delete_, List.getElem?_toArray, List.getElem?_cons_zero, List.getElem?_cons_succ, Sem.run_bind, h.run_und, Result.andThen_ok, hget, run_checkKey hkt hfit, hf, hset, Sem.run_pure]
        · simp only [c1]; exact hR'
    · cases hm
      refine Sim.ret (b := .tuple #[]) (fun w => ?_) tup0
      simp only [Builtin.delete_, List.getElem?_toArray, List.getElem?_cons_zero, List.getElem?_cons_succ, Sem.run_bind, h.run_und, Result.andThen_ok, run_checkKey hkt hfit, Sem.run_pure]
    · exact Sim.fail
  · exact Sim.fail

theorem Sim.opMakeMap {κ : Kap} {t : TypeId} : Sim P E N w0 κ VR opMakeMap (Instr.makeMap t none) := by
  intro S a S' w h0 e hp hR hF
  unfold Am.opMakeMap at e
  rw [M.bind_of (M.fresh_eq S)] at e
  simp only at e
  cases M.wrO_bind e
  have he : ¬ κ.dom S.ep := hF S.ep (Nat.le_refl _) (Nat.lt_succ_self _)
  refine ⟨κ.add S.ep w.heap.size 0 0 0, .map (some w.heap.size), w.alloc (.map #[] 0), Ext.add he _ _ _ _, ?_, ⟨.inr rfl, ?_⟩, ?_⟩
  · simp only [Instr.makeMap, Sem.run_bind, run_newObj, Result.andThen_ok, Sem.run_pure]
    try rfl
  · show _ = Value.map (some (if S.ep = S.ep then w.heap.size else _)); rw [if_pos rfl]
  · refine hR.alloc he rfl 0 0 0 ⟨.inr rfl, #[], ?_, rfl⟩
    show (w.alloc _).heap[if S.ep = S.ep then w.heap.size else _]? = _
    rw [if_pos rfl]; exact heap_alloc w _
end
end Go.Am
