/- The operations of the abstract machine stand for the model's: conversions, assertions, maps. -/
import Derived.Test.YtbaakikdmbehjaaDoorAmSim8
set_option linter.unusedVariables false
set_option linter.unusedSimpArgs false
set_option linter.unusedSectionVars false
namespace Go.Am
open Go.RowKit
section
variable {P : Program} {E : Env} {N : Nat} {w0 : World}

theorem Sim.opUn {κ : Kap} {op : UnOp} {x : DV} {x' : Value} (hx : VR κ x x') : Sim P E N w0 κ VR (opUn op x) (Op.unary op x') := by
  unfold Am.opUn
  split
  · rename_i k n
    cases hx
    exact Sim.val (b := Value.int k (k.wrap (0 - n))) (fun w => by simp only [Op.unary, Op.intArith, Sem.run_pure]) (by show _ = _; rw [iwr_eq])
  · rename_i k n
    cases hx
    refine Sim.val (b := Value.int k (k.wrap (BitVec.ofInt k.bits (if k.signed then -1 else k.max) ^^^ BitVec.ofInt k.bits n).toNat)) (fun w => by simp only [Op.unary, Op.intBits, Sem.run_pure]) ?_
    show _ = _
    rw [iwr_eq, ub_eq, ub_eq, BitVec.toNat_xor]
    have : BitVec.ofInt k.bits (if k.signed then -1 else k.max) = BitVec.ofInt k.bits (-1) := by
      apply BitVec.eq_of_toNat_eq; cases k <;> rfl
    rw [this]; rfl
  · rename_i b
    cases hx
    exact Sim.val (b := Value.bool !b) (fun w => by simp only [Op.unary, Sem.run_pure]) (show VR κ _ (Value.bool !b) from rfl)
  · exact Sim.fail

theorem VR.zeroDV {κ : Kap} {t : TypeId} {i : TI} {inf : TypeInfo} {d : TypeDesc} {z : Value} (h : TF P t i inf d z) : VR κ (zeroDV i) z := by
  have ha := h.ag
  have hc := h.zc
  unfold Am.zeroDV
  split
  · rename_i hi
    rw [hi] at ha
    cases z <;> first | cases ha | skip
    rename_i cs
    exact ⟨cs, rfl, by rw [hc]; exact VRL.ofV0 κ _⟩
  · rename_i hi
    rw [hi] at ha
    split
    · rename_i y hy
      rw [hc] at hy
      have : z.cells = #[z] := by cases z <;> first | rfl | cases ha
      rw [this] at hy
      cases hy
      exact VR.ofV0 κ z
    · trivial

theorem Sim.opAssert (hE : EnvOk P E) {κ : Kap} {x : DV} {x' : Value} {xt t : TypeId} {ok : Bool} (hx : VR κ x x') : Sim P E N w0 κ VR (opAssert E x t ok) (Instr.typeAssert x' xt t ok) := by
  unfold Am.opAssert
  refine Sim.tiM hE fun i inf d z h => ?_
  split
  · exact Sim.fail
  · rename_i hni
    have hd : ∀ ms, d ≠ .interface ms := by rintro ms rfl; exact hni h.ud
    have hz : VR κ (zeroDV i) z := VR.zeroDV h
    split
    · rename_i u v
      obtain ⟨v', rfl, hv⟩ := hx
      cases hb : Nat.beq u t with
      | true =>
        obtain rfl := beq_true hb
        cases ok with
        | true =>
          refine Sim.ret (b := .tuple #[v', .bool true]) (fun w => ?_) ⟨_, rfl, v', _, rfl, hv, _, _, rfl, rfl, rfl⟩
          simp only [Instr.typeAssert, Sem.run_bind, h.run_und, Result.andThen_ok]
          cases d <;> first | exact (hd _ rfl).elim | simp [Sem.run_pure]
        | false =>
          refine Sim.ret (b := v') (fun w => ?_) hv
          simp only [Instr.typeAssert, Sem.run_bind, h.run_und, Result.andThen_ok]
          cases d <;> first | exact (hd _ rfl).elim | simp [Sem.run_pure]
      | false =>
        have hne : u ≠ t := fun e => by subst e; rw [Nat.beq_refl] at hb; cases hb
        cases ok with
        | true =>
          refine Sim.ret (b := .tuple #[z, .bool false]) (fun w => ?_) ⟨_, rfl, z, _, rfl, hz, _, _, rfl, rfl, rfl⟩
          simp only [Instr.typeAssert, Sem.run_bind, h.run_und, Result.andThen_ok]
          cases d <;> first | exact (hd _ rfl).elim | simp [hne, h.run_zero, Sem.run_pure]
        | false => exact Sim.fail
    · cases hx
      cases ok with
      | true =>
        refine Sim.ret (b := .tuple #[z, .bool false]) (fun w => ?_) ⟨_, rfl, z, _, rfl, hz, _, _, rfl, rfl, rfl⟩
        simp only [Instr.typeAssert, Sem.run_bind, h.run_und, Result.andThen_ok]
        cases d <;> first | exact (hd _ rfl).elim | simp [h.run_zero, Sem.run_pure]
      | false => exact Sim.fail
    · exact Sim.fail

theorem Sim.opMin {κ : Kap} {mx : Bool} {l : List DV} {l' : Array Value} {ats : Array TypeId} {ty : TypeId} (hl : VRL κ l l'.toList) :
    Sim P E N w0 κ VR (opMin mx l) (if mx then Builtin.max_ ats ty l' else Builtin.min_ ats ty l') := by
  unfold Am.opMin
  split
  · rename_i x y
    obtain ⟨x', r1, e1, hx, y', r2, e2, hy, e3⟩ := hl
    subst e2; subst e3
    unfold Am.opMin2
    split
    · rename_i k a j b
      cases hx; cases hy
      refine Sim.dec (fun d => Local.pure _) fun c hc => ?_
      cases mx with
      | true =>
        refine Sim.ret (b := .int k (if b > a then b else a)) (fun w => ?_) ?_
        · simp only [if_true, Builtin.max_, e1, List.foldlM_cons, List.foldlM_nil, Sem.run_bind, Builtin.max2, Sem.run_pure, Result.andThen_ok]
        · rw [show cond true (ilt a b) (ilt b a) = ilt a b from rfl, ilt_eq] at hc
          subst hc
          by_cases h : a < b <;> simp [h, VR]
      | false =>
        refine Sim.ret (b := .int k (if b < a then b else a)) (fun w => ?_) ?_
        · simp only [Bool.false_eq_true, if_false, Builtin.min_, e1, List.foldlM_cons, List.foldlM_nil, Sem.run_bind, Builtin.min2, Sem.run_pure, Result.andThen_ok]
        · rw [show cond false (ilt a b) (ilt b a) = ilt b a from rfl, ilt_eq] at hc
          subst hc
          by_cases h : b < a <;> simp [h, VR]
    · exact Sim.fail
  · exact Sim.fail

/-! ### maps -/
theorem Sim.fit (hE : EnvOk P E) {α β : Type} {κ : Kap} {Q : Kap → α → β → Prop} {t : TypeId} {k : DV} {f : Unit → M α} {s : Sem β}
    (h : ∀ i inf d z, TF P t i inf d z → keyFit i.und k = true → Sim P E N w0 κ Q (f ()) s) : Sim P E N w0 κ Q (M.bind (M.fit E t k) f) s := by
  unfold M.fit Am.tiM
  cases ht : E.ti.get t with
  | none => intro S a S' w _ e; cases e
  | some i =>
    obtain ⟨inf, d, z, hf⟩ := TF.of (hE.ti t i ht)
    refine Sim.optB fun u hu => ?_
    cases hk : keyFit i.und k with
    | false => rw [hk] at hu; cases hu
    | true => exact h i inf d z hf hk

theorem run_checkKeyN {t : TypeId} {i : TI} {inf : TypeInfo} {d : TypeDesc} {z : Value} (h : TF P t i inf d z) {k : DV} {k' : Value} (hk : keyFit i.und k = true) (b : Bool) (w : World) (n : Nat) : (Instr.checkKey b (n + 1) t k').run P w = .ok () w := by
  have e : i.und = udOf d := h.ud
  rw [e] at hk
  simp only [Instr.checkKey, Sem.run_bind, h.run_und, Result.andThen_ok]
  cases d <;> first | (cases k <;> cases hk; done) | rfl
theorem run_checkKey {t : TypeId} {i : TI} {inf : TypeInfo} {d : TypeDesc} {z : Value} (h : TF P t i inf d z) {k : DV} {k' : Value} (hk : keyFit i.und k = true) (b : Bool) (w : World) : (Instr.checkKey b 10000 t k').run P w = .ok () w :=
  run_checkKeyN h hk b w 9999

theorem sameNow_ok {κ : Kap} {d : TypeDesc} {k e : DV} {k' e' : Value} (hf : keyFit (udOf d) k = true) (hk : VR κ k k') (he : VR κ e e') {b : Bool} (h : keyEq k e = some b) : Instr.sameNow d k' e' = some b := by
  unfold keyEq at h
  split at h
  · obtain ⟨h1, h2⟩ := cond_none h
    cases h2; cases hk; cases he
    obtain rfl := (keq_eq _ _).1 h1
    cases d <;> first | (cases hf; done) | skip
    simp only [Instr.sameNow, if_true, ieq_eq]
    rfl
  · cases h; cases hk; cases he
    cases d <;> first | (cases hf; done) | skip
    simp only [Instr.sameNow, leqb_eq, beq_toListBytes, bl_toList]
  · cases h; cases hk; cases he
    cases d <;> first | (cases hf; done) | skip
    rename_i a b
    simp only [Instr.sameNow]
    cases a <;> cases b <;> rfl
  · cases h

theorem findNow_ok {κ : Kap} {d : TypeDesc} {k : DV} {k' : Value} (hf : keyFit (udOf d) k = true) (hk : VR κ k k') : ∀ (es : List (DV × DV × Nat)) (ms : List MapEntry) (i : Nat) (r : Option (Nat × DV)), ERL κ es ms → findE k es i = some r →
    (r = none ∧ Instr.findNow d k' ms i = some none) ∨ ∃ j v v', r = some (j, v) ∧ Instr.findNow d k' ms i = some (some (j, v')) ∧ VR κ v v' ∧ i ≤ j ∧ j < i + es.length ∧ ∃ e, es[j - i]? = some e ∧ e.2.1 = v ∧ keyEq k e.1 = some true
  | [], ms, i, r, hr, h => by cases hr; cases h; exact .inl ⟨rfl, rfl⟩
  | e :: es, ms, i, r, hr, h => by
    obtain ⟨m, ms', rfl, h1, h2, h3, h4, h5⟩ := hr
    change (match keyEq k e.1 with
      | some true => some (some (i, e.2.1))
      | some false => findE k es (i + 1)
      | none => none) = some r at h
    split at h
    · rename_i hq
      cases h
      refine .inr ⟨i, e.2.1, m.val, rfl, ?_, h3, Nat.le_refl _, by simp, e, by simp, rfl, hq⟩
      simp only [Instr.findNow, sameNow_ok hf hk h1 hq]
    · rename_i hq
      have hs := sameNow_ok hf hk h1 hq
      rcases findNow_ok hf hk es ms' (i + 1) r h5 h with ⟨rfl, hn⟩ | ⟨j, v, v', rfl, hn, hv, hij, hj, e', he, hev, hke⟩
      · exact .inl ⟨rfl, by simp only [Instr.findNow, hs]; exact hn⟩
      · refine .inr ⟨j, v, v', rfl, by simp only [Instr.findNow, hs]; exact hn, hv, by omega, by simp only [List.length_cons]; omega, e', ?_, hev, hke⟩
        rw [show j - i = (j - (i + 1)) + 1 by omega, List.getElem?_cons_succ]; exact he
    · cases h

theorem run_findKey {κ : Kap} {t : TypeId} {i : TI} {inf : TypeInfo} {d : TypeDesc} {z : Value} (h : TF P t i inf d z) {k : DV} {k' : Value} (hf : keyFit i.und k = true) (hk : VR κ k k') {es : List (DV × DV × Nat)} {ms : List MapEntry} {r : Option (Nat × DV)}
    (hr : ERL κ es ms) (e : findE k es 0 = some r) (w : World) :
    (r = none ∧ (Instr.findKey t k' ms).run P w = .ok none w) ∨ ∃ j v v', r = some (j, v) ∧ (Instr.findKey t k' ms).run P w = .ok (some (j, v')) w ∧ VR κ v v' ∧ j < es.length ∧ ∃ e, es[j]? = some e ∧ e.2.1 = v ∧ keyEq k e.1 = some true := by
  rw [h.ud] at hf
  rcases findNow_ok hf hk es ms 0 r hr e with ⟨rfl, hn⟩ | ⟨j, v, v', rfl, hn, hv, _, hj, e', he, h1, h2⟩
  · exact .inl ⟨rfl, by simp only [Instr.findKey, Sem.run_bind, h.run_und, Result.andThen_ok, hn, Sem.run_pure]⟩
  · exact .inr ⟨j, v, v', rfl, by simp only [Instr.findKey, Sem.run_bind, h.run_und, Result.andThen_ok, hn, Sem.run_pure], hv, by omega, e', by simpa using he, h1, h2⟩

theorem ERL.length {κ : Kap} : ∀ (es : List (DV × DV × Nat)) (ms : List MapEntry), ERL κ es ms → ms.length = es.length
  | [], ms, h => by cases h; rfl
  | e :: es, ms, h => by obtain ⟨m, ms', rfl, _, _, _, _, h5⟩ := h; simp [ERL.length es ms' h5]

theorem rdMap_some {α : Type} {p : Nat} {X : Nat → List (DV × DV × Nat) → Nat → Bool} {k : Nat → List (DV × DV × Nat) → Nat → M α} {S : St} {a : α} {S' : St}
    (h : (M.bind (M.rdO p) fun o => match o with
      | .map g' es c => M.bind (M.chk (X g' es c)) fun _ => k g' es c
      | _ => M.fail) S = some (a, S')) : ∃ g' es c S1, S.heap.get p = some (.map g' es c) ∧ k g' es c S1 = some (a, S') ∧ S1.heap = S.heap ∧ S1.ep = S.ep ∧ S1.pos = S.pos ∧ S1.lg.thr = S.lg.thr ∧ (AllP S1.sy.phi → X g' es c = true) := by
  obtain ⟨o, S1, e1, e2⟩ := M.bind_some h
  obtain ⟨hg, _, rfl⟩ := M.rdO_some e1
  cases o with
  | map g' es c =>
    simp only at e2
    obtain ⟨u, S2, e3, e4⟩ := M.bind_some e2
    obtain ⟨c1, c2, c3, c4, c5⟩ := M.chk_some e3
    exact ⟨g', es, c, S2, hg, e4, c1, c3, c2, by rw [c4], fun hp => (c5 hp).1⟩
  | _ => cases e2

theorem Sim.opLookup (hE : EnvOk P E) {κ : Kap} {t : TypeId} {m k : DV} {m' k' : Value} {ok : Bool} (hm : VR κ m m') (hk : VR κ k k') :
    Sim P E N w0 κ VR (opLookup E t m k ok) (Instr.lookup t m' k' ok) := by
  unfold Am.opLookup
  refine Sim.tiM hE fun i inf d z h => ?_
  split
  · rename_i kt e hue
    obtain rfl := h.map hue
    refine Sim.fit hE fun ki kinf kd kz hkt hfit => ?_
    refine Sim.tiM hE fun j jnf d' zj h' => ?_
    have hz : VR κ (zeroDV j) zj := VR.zeroDV h'
    have tupR : ∀ v v' b, VR κ v v' → VR κ (.tup [v, .bool b]) (.tuple #[v', .bool b]) := fun v v' b hv => ⟨_, rfl, v', _, rfl, hv, _, _, rfl, rfl, rfl⟩
    have none_ : ∀ (s : Sem Value), (∀ w, s.run P w = .ok (if ok then .tuple #[zj, .bool false] else zj) w) → Sim P E N w0 κ VR (M.pure (cond ok (.tup [zeroDV j, .bool false]) (zeroDV j))) s := by
      intro s hs
      refine Sim.ret hs ?_
      cases ok with
      | true => exact tupR _ _ _ hz
      | false => exact hz
    simp only
    split
    · cases hm
      refine none_ _ fun w => ?_
      have hf : (Instr.findKey kt k' []).run P w = .ok none w := by
        simp only [Instr.findKey, Sem.run_bind, hkt.run_und, Result.andThen_ok, Instr.findNow, Sem.run_pure]
      simp only [Instr.lookup, Sem.run_bind, h.run_und, Result.andThen_ok, Sem.run_pure, run_checkKey hkt hfit, hf, h'.run_zero]
    · rename_i g p
      obtain ⟨hdom, rfl⟩ := hm
      intro S a S' w h0 e hp hR hF
      obtain ⟨g', es, c, S1, hg, e2, c1, c2, c3, c4, c5⟩ := rdMap_some e
      obtain ⟨r, S2, e3, e4⟩ := M.bind_some e2
      have hfind : findE k es 0 = some r ∧ S2 = S1 := by
        unfold M.opt at e3
        cases hq : findE k es 0 with
        | none => rw [hq] at e3; cases e3
        | some r' => rw [hq] at e3; cases e3; exact ⟨rfl, rfl⟩
      obtain ⟨hfind, rfl⟩ := hfind
      have hp2 : AllP S2.sy.phi := by
        cases r with
        | none => cases e4; exact hp
        | some q => cases e4; exact hp
      obtain rfl : g = g' := beq_true (c5 hp2)
      obtain ⟨⟨_, ms, hb, hms⟩, _, _⟩ := hR.obj p _ hg
      have fk := run_findKey (P := P) hkt hfit hk hms hfind w
      have hget : (getObj (κ.blk g)).run P w = .ok (.map ms c) w := by simp [getObj, Sem.run, hb]
      rcases fk with ⟨rfl, hf⟩ | ⟨jx, v, v', rfl, hf, hv, _, _⟩
      · cases e4
        rw [c1, c2]
        refine ⟨κ, if ok then .tuple #[zj, .bool false] else zj, w, Ext.refl _ _ _, ?_, ?_, hR⟩
        · show (Instr.lookup t (.map (some (κ.blk g))) k' ok).run P w = _
          simp only [Instr.lookup, Sem.run_bind, h.run_und, Result.andThen_ok, hget, Sem.run_pure, run_checkKey hkt hfit, hf, h'.run_zero]
        · cases ok with
          | true => exact tupR _ _ _ hz
          | false => exact hz
      · cases e4
        rw [c1, c2]
        refine ⟨κ, if ok then .tuple #[v', .bool true] else v', w, Ext.refl _ _ _, ?_, ?_, hR⟩
        · show (Instr.lookup t (.map (some (κ.blk g))) k' ok).run P w = _
          simp only [Instr.lookup, Sem.run_bind, h.run_und, Result.andThen_ok, hget, Sem.run_pure, run_checkKey hkt hfit, hf]
        · cases ok with
          | true => exact tupR _ _ _ hv
          | false => exact hv
    · exact Sim.fail
  · exact Sim.fail

theorem Rr.putMap {κ : Kap} {h : Tr Obj} {w : World} (hR : Rr E N w0 κ h w) {p g c c' : Nat} {es es' : List (DV × DV × Nat)} {ms : Array MapEntry} (hg : h.get p = some (.map g es c)) (he : ERL κ es' ms.toList) :
    ∃ W, Rr E N w0 κ (Tr.set (some (.map g es' c')) h p) W ∧ (setObj (κ.blk g) (.map ms c')).run P w = .ok () W := by
  obtain ⟨⟨hdom, ms0, hb, _⟩, hN, hlt⟩ := hR.obj p _ hg
  have hlt : κ.blk g < w.heap.size := hlt
  have other : ∀ k, k ≠ κ.blk g → (w.heap.setIfInBounds (κ.blk g) (.map ms c'))[k]? = w.heap[k]? := fun k hk => Array.getElem?_setIfInBounds_ne (Ne.symm hk)
  refine ⟨{ w with heap := w.heap.setIfInBounds (κ.blk g) (.map ms c') }, ?_, by simp [setObj, Sem.run, hb]⟩
  refine hR.put (o := .map g es' c') (Kap.le.refl κ) rfl (below_of hR.below hN rfl rfl rfl (by simp) other) (by simp) (fun q o' hq hqp => other _ (hR.apart q p o' _ hq hg hqp)) (fun a v ha => ?_)
    ⟨hdom, ms, ?_, he⟩ hN (by show κ.blk g < _; simpa using hlt) (fun q o' hq hqp => (hR.apart q p o' _ hq hg hqp).symm) (fun a v ha => show κ.blk g ≠ a.block from (hR.phi a v ha).2 p (.map g es c) hg)
  · have := hR.phi a v ha
    rw [World.cell?_of_block (w := w) (other _ (Ne.symm (this.2 p _ hg)))]; exact this.1
  · show (w.heap.setIfInBounds (κ.blk g) (.map ms c'))[κ.blk g]? = _
    rw [Array.getElem?_setIfInBounds_self_of_lt hlt]

theorem ERL.app {κ : Kap} : ∀ (es : List (DV × DV × Nat)) (ms : List MapEntry) (fs : List (DV × DV × Nat)) (ns : List MapEntry), ERL κ es ms → ERL κ fs ns → ERL κ (es ++ fs) (ms ++ ns)
  | [], ms, fs, ns, h, k => by cases h; exact k
  | e :: es, ms, fs, ns, h, k => by
    obtain ⟨m, ms', rfl, h1, h2, h3, h4, h5⟩ := h
    exact ⟨m, ms' ++ ns, rfl, h1, h2, h3, h4, ERL.app es ms' fs ns h5 k⟩
theorem ERL.get {κ : Kap} : ∀ (es : List (DV × DV × Nat)) (ms : List MapEntry), ERL κ es ms → ∀ (i : Nat) (e : DV × DV × Nat), es[i]? = some e → ∃ m, ms[i]? = some m ∧ VR κ e.1 m.key ∧ keyOk e.1 = true ∧ VR κ e.2.1 m.val ∧ m.born = e.2.2
  | [], ms, h, i, e, he => by simp at he
  | e0 :: es, ms, h, i, e, he => by
    obtain ⟨m, ms', rfl, h1, h2, h3, h4, h5⟩ := h
    cases i with
    | zero => simp at he; subst he; exact ⟨m, rfl, h1, h2, h3, h4⟩
    | succ i => rw [List.getElem?_cons_succ] at he ⊢; exact ERL.get es ms' h5 i e he
theorem ERL.mk {κ : Kap} : ∀ (es : List (DV × DV × Nat)) (ms : List MapEntry), ms.length = es.length → (∀ (i : Nat) (e : DV × DV × Nat), es[i]? = some e → ∃ m, ms[i]? = some m ∧ VR κ e.1 m.key ∧ keyOk e.1 = true ∧ VR κ e.2.1 m.val ∧ m.born = e.2.2) → ERL κ es ms
  | [], ms, hl, h => List.eq_nil_of_length_eq_zero hl
  | e :: es, [], hl, h => by simp at hl
  | e :: es, m :: ms, hl, h => by
    obtain ⟨m', h0, h1, h2, h3, h4⟩ := h 0 e rfl
    cases h0
    exact ⟨m, ms, rfl, h1, h2, h3, h4, ERL.mk es ms (by simpa using hl) fun i e he => h (i + 1) e he⟩
theorem ERL.set {κ : Kap} {es es' : List (DV × DV × Nat)} {ms : Array MapEntry} (h : ERL κ es ms.toList) {j : Nat} {e : DV × DV × Nat} {k v : DV} {k' v' : Value} (he : es[j]? = some e) (hk : VR κ k k') (hko : keyOk k = true) (hv : VR κ v v')
    (hs : lput j [(k, v, e.2.2)] es = some es') : ERL κ es' (ms.modify j fun x => { x with key := k', val := v' }).toList := by
  obtain ⟨l1, l2, l3⟩ := lput_length _ _ _ _ hs
  have hl := ERL.length _ _ h
  refine ERL.mk _ _ (by rw [Array.length_toList, Array.size_modify, l1, ← hl]; simp) fun i x hx => ?_
  rw [l3] at hx
  rw [Array.getElem?_toList, Array.getElem?_modify]
  by_cases hi : i = j
  · subst hi
    simp at hx
    subst hx
    obtain ⟨m, hm, _, _, _, h4⟩ := ERL.get _ _ h i e he
    rw [Array.getElem?_toList] at hm
    rw [hm]
    exact ⟨{ m with key := k', val := v' }, by simp, hk, hko, hv, h4⟩
  · rw [if_neg (by simp; omega)] at hx
    rw [if_neg (Ne.symm hi)]
    obtain ⟨m, hm, h1⟩ := ERL.get _ _ h i x hx
    rw [Array.getElem?_toList] at hm
    exact ⟨m, hm, h1⟩
theorem ERL.take {κ : Kap} : ∀ (n : Nat) (es : List (DV × DV × Nat)) (ms : List MapEntry), ERL κ es ms → ERL κ (es.take n) (ms.take n)
  | 0, es, ms, h => rfl
  | n + 1, [], ms, h => by cases h; rfl
  | n + 1, e :: es, ms, h => by obtain ⟨m, ms', rfl, h1, h2, h3, h4, h5⟩ := h; exact ⟨m, ms'.take n, rfl, h1, h2, h3, h4, ERL.take n es ms' h5⟩
theorem ERL.drop {κ : Kap} : ∀ (n : Nat) (es : List (DV × DV × Nat)) (ms : List MapEntry), ERL κ es ms → ERL κ (es.drop n) (ms.drop n)
  | 0, es, ms, h => h
  | n + 1, [], ms, h => by cases h; rfl
  | n + 1, e :: es, ms, h => by obtain ⟨m, ms', rfl, h1, h2, h3, h4, h5⟩ := h; exact ERL.drop n es ms' h5

theorem same_key {κ : Kap} {k e : DV} {k' e' : Value} (hk : VR κ k k') (he : VR κ e e') (h : keyEq k e = some true) : Instr.sameBits 10000 e' k' = true := by
  unfold keyEq at h
  split at h
  · obtain ⟨h1, h2⟩ := cond_none h
    cases hk; cases he
    obtain rfl := (keq_eq _ _).1 h1
    rw [ieq_eq] at h2
    simp only [Option.some.injEq, decide_eq_true_eq] at h2
    subst h2
    simp only [Instr.sameBits, beq_self_eq_true, Bool.and_self]
  · cases hk; cases he
    rw [leqb_eq] at h
    simp only [Option.some.injEq, beq_iff_eq] at h
    simp only [Instr.sameBits, beq_toListBytes, bl_toList, h, beq_self_eq_true]
  · cases hk; cases he
    rename_i a b
    cases a <;> cases b <;> first | (simp only [Instr.sameBits]; rfl) | cases h
  · cases h

end
end Go.Am
