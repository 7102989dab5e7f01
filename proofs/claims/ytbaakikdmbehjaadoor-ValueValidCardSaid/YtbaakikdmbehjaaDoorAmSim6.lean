/- The operations, continued: append, copy. -/
import Derived.Test.YtbaakikdmbehjaaDoorAmSim5
set_option linter.unusedVariables false
set_option linter.unusedSimpArgs false
set_option linter.unusedSectionVars false
namespace Go.Am
open Go.RowKit

theorem growBy_le (n B : Nat) (hB : n + (n + 768) / 4 ≤ B) : ∀ (r c : Nat), c ≤ B → Builtin.growBy n r c ≤ B := by
  intro r
  induction r with
  | zero => intro c h; exact h
  | succ r ih =>
    intro c h
    simp only [Builtin.growBy]
    split
    · exact h
    · exact ih _ (by omega)
theorem nextcap_le (n c : Nat) (h : c < n) : Builtin.nextslicecap n c ≤ 2 * n + 192 := by
  unfold Builtin.nextslicecap
  split
  · omega
  · split
    · omega
    · exact growBy_le n (2 * n + 192) (by omega) 4 c (by omega)
theorem room_ok {n c : Nat} {j : TI} (h : room n j = true) (hc : c < n) : Builtin.nextslicecap n c * j.bytes ≤ 2 ^ 48 ∧ n ≤ 1099511627776 ∧ lenIs j.zero j.size = true ∧ 0 < j.size := by
  obtain ⟨h1, h2⟩ := cond_and h
  obtain ⟨h2, h3⟩ := cond_and h2
  have h1 := ble_le h1
  have hn := nextcap_le n c hc
  have e1 : n * (j.bytes + 1) = n * j.bytes + n := Nat.mul_succ _ _
  have hb : j.bytes ≤ n * j.bytes := Nat.le_mul_of_pos_left _ (by omega)
  refine ⟨Nat.le_trans (Nat.mul_le_mul_right _ hn) ?_, by omega, h2, blt_lt h3⟩
  rw [Nat.add_mul, Nat.mul_assoc]
  omega

section
variable {P : Program} {E : Env} {N : Nat} {w0 : World}

theorem run_lenOf {κ : Kap} {x : DV} {x' : Value} (hx : VR κ x x') {n : Nat} (h : lenOf x = some n) (w : World) : (Builtin.lenOf x').run P w = .ok n w := by
  cases x with
  | sl g p off len cap => cases h; obtain ⟨o, c, rfl⟩ := hx.sl_form; rfl
  | bsl a len cap => cases h; obtain ⟨_, hx⟩ := hx; cases hx; rfl
  | nils => cases h; cases hx; rfl
  | str s => cases h; cases hx; simp [Builtin.lenOf, bl]
  | _ => cases h

/-- what append does behind its arguments' look -/
def appTail (j : TI) (e : TypeId) (z : Value) (base : Option Addr) (sLen sCap n : Nat) (x' : Value) : Sem Value :=
  if sLen + n ≤ sCap then
    Builtin.firstCells j.size n x' >>= fun new => (match base with | some a => storeCells (a.add (sLen * j.size)) new.toList | none => Pure.pure ()) >>= fun _ => Pure.pure (.slice base (sLen + n) sCap)
  else choose (.appendCap (sLen + n) sCap e) >>= fun c => Builtin.firstCells j.size sLen (.slice base sLen sCap) >>= fun old => Builtin.firstCells j.size n x' >>= fun new =>
    newRow e (old ++ new ++ Builtin.zeroCells z.cells (c - (sLen + n))) >>= fun a => Pure.pure (.slice (some a) (sLen + n) c)

theorem run_append {κ : Kap} {t u ty e : TypeId} {i j k : TI} {inf jnf knf : TypeInfo} {dk : TypeDesc} {z zj zk : Value} (h : TF P t i inf (.slice e) z) {dj : TypeDesc} (h' : TF P e j jnf dj zj) (hu : TF P u k knf dk zk)
    (hk : ∀ kk, k.und ≠ .int kk) {x : DV} {x' : Value} (hx : VR κ x x') {n : Nat} (hn : lenOf x = some n) (base : Option Addr) (sLen sCap : Nat)
    (hroom : ¬ (sLen + n ≤ sCap) → room (sLen + n) j = true) (w : World) :
    (Builtin.append_ #[t, u] ty #[.slice base sLen sCap, x']).run P w = (appTail j e zj base sLen sCap n x').run P w := by
  have hdk : ∀ kk, dk ≠ .int kk := fun kk e => by subst e; exact absurd hu.ud (hk kk)
  have fin : ∀ w, (appTail j e zj base sLen sCap n x').run P w = (if sLen + n ≤ sCap then
      Builtin.firstCells j.size n x' >>= fun new => (match base with | some a => storeCells (a.add (sLen * j.size)) new.toList | none => Pure.pure ()) >>= fun _ => Pure.pure (.slice base (sLen + n) sCap)
    else choose (.appendCap (sLen + n) sCap e) >>= fun c => Builtin.firstCells j.size sLen (.slice base sLen sCap) >>= fun old => Builtin.firstCells j.size n x' >>= fun new =>
      newRow e (old ++ new ++ Builtin.zeroCells zj.cells (c - (sLen + n))) >>= fun a => Pure.pure (.slice (some a) (sLen + n) c) : Sem Value).run P w := fun _ => rfl
  rw [fin]
  by_cases hc : sLen + n ≤ sCap
  · rw [if_pos hc]
    cases dk with
    | int kk => exact absurd rfl (hdk kk)
    | _ =>
      simp only [Builtin.append_, List.getElem?_toArray, List.getElem?_cons_zero, List.getElem?_cons_succ, Sem.run_bind, h.run_und, hu.run_und, h'.run_size, Result.andThen_ok, Sem.run_pure, Bool.false_eq_true, if_false, run_lenOf hx hn, hc, if_true, Bool.not_false]
      cases base <;> simp only [Sem.run_bind, Sem.run_pure, Result.andThen_ok]
  · rw [if_neg hc]
    obtain ⟨r1, r2, r3, r4⟩ := room_ok (hroom hc) (by omega : sCap < sLen + n)
    have hmax : ¬ (((sLen + n : Nat) : Int) > IntKind.i64.max) := by
      have : IntKind.i64.max = 9223372036854775807 := by decide
      rw [this]; omega
    have hlim : ¬ (Builtin.nextslicecap (sLen + n) sCap * j.bytes > 2 ^ 48) := by omega
    cases dk with
    | int kk => exact absurd rfl (hdk kk)
    | _ =>
      simp only [Builtin.append_, List.getElem?_toArray, List.getElem?_cons_zero, List.getElem?_cons_succ, Sem.run_bind, h.run_und, hu.run_und, h'.run_size, Result.andThen_ok, Sem.run_pure, Bool.false_eq_true, if_false, run_lenOf hx hn, hc, if_true, Bool.not_false, h'.run_info, h'.bytes, hmax, hlim, false_and, run_askRoom, h'.run_zero]

theorem run_first0 {κ : Kap} {x : DV} {x' : Value} (hx : VR κ x x') {n : Nat} (h : lenOf x = some n) (size : Nat) (w : World) : (Builtin.firstCells size 0 x').run P w = .ok #[] w := by
  cases x with
  | sl g p off len cap => obtain ⟨o, c, rfl⟩ := hx.sl_form; simp only [Builtin.firstCells, Nat.zero_mul]; rfl
  | bsl a len cap => obtain ⟨_, hx⟩ := hx; cases hx; simp only [Builtin.firstCells, Nat.zero_mul]; rfl
  | nils => cases hx; rfl
  | str s => cases hx; simp [Builtin.firstCells]
  | _ => cases h

theorem Sim.grow {κ : Kap} {s x : DV} {x' : Value} {e : TypeId} {j : TI} {jnf : TypeInfo} {dj : TypeDesc} {zj : Value} (h' : TF P e j jnf dj zj) {base : Option Addr} {sLen sCap n : Nat} (hs : VR κ s (.slice base sLen sCap)) (hl : lenOf s = some sLen)
    (hx : VR κ x x') (hn : lenOf x = some n) (hc : ¬ (sLen + n ≤ sCap)) : Sim P E N w0 κ VR (grow E j s x sLen n) (appTail j e zj base sLen sCap n x') := by
  have locN : ∀ r : List DV, Local (M.bind (M.new true r) fun pe => M.pure (DV.sl pe.2 pe.1 0 (sLen + n) (.op j.size))) := fun r => Local.bind (Local.new _ _) fun _ => Local.pure _
  refine Sim.chk (Local.firstK fun _ => Local.firstK fun _ => Local.lappK fun _ => locN _) fun hr => ?_
  obtain ⟨r1, r2, r3, r4⟩ := room_ok hr (by omega : sCap < sLen + n)
  unfold appTail
  rw [if_neg hc]
  refine Sim.draw fun c hcc => ?_
  refine Sim.firstK hs (fun m hm => by rw [hl] at hm; cases hm; exact Nat.le_refl _) (fun _ => Local.firstK fun _ => Local.lappK fun _ => locN _) fun old old' ho hol => ?_
  refine Sim.firstK hx (fun m hm => by rw [hn] at hm; cases hm; exact Nat.le_refl _) (fun _ => Local.lappK fun _ => locN _) fun new new' hw hwl => ?_
  rw [lappK_eq]
  have hzs : zj.cells.size = j.size := by have h1 : j.zero.length = j.size := beq_true r3; rw [h'.zc] at h1; simpa using h1
  have l1 := VRL.length _ _ ho
  have l2 := VRL.length _ _ hw
  simp only [Array.length_toList] at l1 l2
  refine Sim.newOpen (z := j.size) ?_ (by rw [List.length_append, hol, hwl, Nat.add_mul]) ?_ hcc r4
  · have e1 : ((old' ++ new' ++ Builtin.zeroCells zj.cells (c - (sLen + n))).toList.take (old ++ new).length) = old'.toList ++ new'.toList := by
      rw [Array.toList_append, Array.toList_append, List.take_append_of_le_length (by simp; omega)]
      apply List.take_of_length_le; simp; omega
    rw [e1]; exact VRL.app _ _ _ _ ho hw
  · rw [Array.size_append, Array.size_append, size_zeroCells, hzs, l1, l2, hol, hwl, ← Nat.add_mul, ← Nat.add_mul]
    apply Nat.mul_le_mul_right; omega

/-! ### readings alone -/
theorem M.bind_assoc {α β γ : Type} (m : M α) (f : α → M β) (g : β → M γ) : M.bind (M.bind m f) g = M.bind m fun a => M.bind (f a) g := by
  funext S
  unfold M.bind
  cases m S with
  | none => rfl
  | some x => rfl
theorem M.pure_bind {α β : Type} (a : α) (f : α → M β) : M.bind (M.pure a) f = f a := rfl

/-- what a reading keeps -/
structure Still (S S' : St) : Prop where
  heap : S'.heap = S.heap
  pos : S'.pos = S.pos
  ep : S'.ep = S.ep
  thr : S'.lg.thr = S.lg.thr

theorem ldc_read {κ : Kap} {g p off c : Nat} {S S' : St} {r : List DV} {w : World} {ad : Addr} (ha : c = 0 ∨ ad = ⟨κ.blk g, κ.bas g + off, none⟩) (e : M.ldc g p off c M.pure S = some (r, S')) (hp : AllP S'.sy.phi) (hR : Rr E N w0 κ S.heap w) :
    Still S S' ∧ r.length = c ∧ (∃ opn cs, S.heap.get p = some (.cells g opn cs) ∧ (off + c ≤ cs.length ∨ c = 0) ∧ r = (cs.drop off).take c) ∧ ∃ r' : Array Value, (loadCells ad c).run P w = .ok r' w ∧ VRL κ r r'.toList := by
  obtain ⟨⟨g', r0⟩, S1, e1, e2⟩ := M.bind_some e
  obtain ⟨opn, cs, hg, hc, hr, rfl⟩ := M.rowCells_some e1
  simp only at hr hg e2
  obtain ⟨⟨⟩, S2, e3, e4⟩ := M.bind_some e2
  obtain ⟨c1, c2, c3, c4, c5⟩ := M.chk_some e3
  cases e4
  simp only at c1 c2 c3 c4
  obtain rfl : g = g' := beq_true (c5 hp).1
  obtain ⟨hdom, C, elem, fr, hb, hrow⟩ := hR.row hg
  have hlen : r.length = c := by rw [hr]; simp; omega
  refine ⟨⟨c1, c2, c3, by rw [c4]⟩, hlen, ⟨opn, cs, hg, hc, hr⟩, ?_⟩
  rcases ha with rfl | rfl
  · exact ⟨#[], rfl, by rw [List.eq_nil_of_length_eq_zero hlen]; rfl⟩
  have hcells : ∀ j d, r[j]? = some d → ∃ v, C[κ.bas g + off + j]? = some v ∧ VR κ d v := by
    intro j d hd
    rw [hr, List.getElem?_take] at hd
    split at hd
    · rw [List.getElem?_drop] at hd
      obtain ⟨v, hv, hvr⟩ := hrow.cell (off + j) d hd
      exact ⟨v, by rw [Nat.add_assoc]; exact hv, hvr⟩
    · cases hd
  have hvs : ∃ vs : List Value, VRL κ r vs ∧ ∀ j v, vs[j]? = some v → C[κ.bas g + off + j]? = some v := by
    refine ⟨(List.range r.length).map fun j => (C[κ.bas g + off + j]?).getD undef, VRL.mk _ _ (by simp) fun j d hd => ?_, fun j v hv => ?_⟩
    · obtain ⟨v, hv, hvr⟩ := hcells j d hd
      have hj : j < r.length := (List.getElem?_eq_some_iff.1 hd).1
      exact ⟨v, by simp [List.getElem?_map, List.getElem?_range, hj, hv], hvr⟩
    · have hj : j < r.length := by have := (List.getElem?_eq_some_iff.1 hv).1; simpa using this
      obtain ⟨u, hu, _⟩ := hcells j r[j] (List.getElem?_eq_getElem hj)
      simp [List.getElem?_map, List.getElem?_range, hj, hu] at hv
      rw [hu, hv]
  obtain ⟨vs, hvr, hC⟩ := hvs
  have hl : vs.length = c := by rw [VRL.length _ _ hvr, hlen]
  have hrun := run_loadCells_list (P := P) (w := w) ⟨κ.blk g, κ.bas g + off, none⟩ vs (fun j v hv => by rw [add_cell, cell_of hb]; exact hC j v hv)
  rw [hl] at hrun
  exact ⟨vs.toArray, hrun, by simpa using hvr⟩

theorem firstK_bind {β : Type} (size n : Nat) (x : DV) (k : List DV → M β) : firstK E size n x k = M.bind (firstK E size n x M.pure) k := by
  unfold Am.firstK
  cases x with
  | sl g p off len cap => simp only [M.ldc, M.bind_assoc, M.pure_bind]
  | nils => rfl
  | str s => simp only [M.bind_assoc, ltakeK_eq, M.pure_bind]
  | bsl a len cap =>
    obtain ⟨b, o, sp⟩ := a
    cases sp with
    | some s => rfl
    | none =>
      simp only
      cases E.glob.get b with
      | none => rfl
      | some cs => simp only [ltakeK_eq, M.bind_assoc, M.pure_bind]
  | _ => rfl

theorem chk_still {b : Bool} {S : St} {u : Unit} {S' : St} (h : M.chk b S = some (u, S')) : Still S S' := by
  obtain ⟨c1, c2, c3, c4, c5⟩ := M.chk_some h
  exact ⟨c1, c2, c3, by rw [c4]⟩

theorem first_read {κ : Kap} {size n : Nat} {x : DV} {x' : Value} {S S' : St} {r : List DV} {w : World} (hx : VR κ x x') (hn : ∀ m, lenOf x = some m → n ≤ m) (e : firstK E size n x M.pure S = some (r, S'))
    (hp : AllP S'.sy.phi) (hR : Rr E N w0 κ S.heap w) : Still S S' ∧ r.length = n * size ∧ ∃ r' : Array Value, (Builtin.firstCells size n x').run P w = .ok r' w ∧ VRL κ r r'.toList := by
  have hsim := Sim.firstK (P := P) (N := N) (w0 := w0) (E := E) (Q := fun κ' (a : List DV) (b : Array Value) => True) (k := M.pure) (f' := fun r => Pure.pure r) (size := size) hx hn (fun r => Local.pure r) fun r r' _ _ => Sim.pure trivial
  cases x with
  | sl g p off len cap =>
    have hn' : n ≤ len := hn len rfl
    cases cap with
    | ex c =>
      obtain ⟨hd, hlc, rfl⟩ := hx
      obtain ⟨h1, h2, _, h3⟩ := ldc_read (P := P) (.inr rfl) e hp hR
      exact ⟨h1, h2, h3⟩
    | op z =>
      obtain ⟨hd, hz, o, c, rfl, hlc, ho⟩ := hx
      rcases ho with ⟨rfl, ho⟩ | h0
      · obtain ⟨h1, h2, _, h3⟩ := ldc_read (P := P) (.inr rfl) e hp hR
        exact ⟨h1, h2, h3⟩
      · have : n = 0 := by omega
        subst this
        obtain ⟨h1, h2, _, h3⟩ := ldc_read (P := P) (ad := ⟨κ.blk g, o, none⟩) (.inl (Nat.zero_mul size)) e hp hR
        exact ⟨h1, h2, h3⟩
  | nils =>
    cases hx
    have : n = 0 := by have := hn 0 rfl; omega
    subst this
    cases e
    exact ⟨⟨rfl, rfl, rfl, rfl⟩, by simp, #[], rfl, rfl⟩
  | str s =>
    cases hx
    obtain ⟨⟨⟩, S1, e1, e2⟩ := M.bind_some e
    rw [ltakeK_eq] at e2
    cases e2
    obtain ⟨c1, c2, c3, c4, c5⟩ := M.chk_some e1
    have hs := beq_true (c5 hp).1
    subst hs
    have hn' : n ≤ (bl s).length := hn _ rfl
    refine ⟨chk_still e1, by simp; omega, _, rfl, ?_⟩
    have e : ((s.extract 0 n).data.map fun b => Value.int .u8 b.toNat).toList = ((bl s).take n).map fun b => Value.int .u8 b.toNat := by
      simp [bl, ByteArray.data_extract, List.extract_eq_take_drop]
    rw [e]
    generalize (bl s).take n = l
    induction l with
    | nil => rfl
    | cons b l ih => exact ⟨_, _, rfl, rfl, ih⟩
  | bsl a len cap =>
    obtain ⟨hlc, hx⟩ := hx
    cases hx
    obtain ⟨b, o, sp⟩ := a
    cases sp with
    | some s => cases e
    | none =>
      unfold Am.firstK at e
      simp only at e
      cases hg : E.glob.get b with
      | none => rw [hg] at e; cases e
      | some cs =>
        rw [hg] at e
        simp only at e
        rw [ltakeK_eq, ldrop_eq] at e
        obtain ⟨⟨⟩, S1, e1, e2⟩ := M.bind_some e
        cases e2
        obtain ⟨c1, c2, c3, c4, c5⟩ := M.chk_some e1
        have hl : ((cs.drop o).take (n * size)).length = n * size := beq_true (c5 hp).1
        have hc : ∀ j c, cs[j]? = some c → ∃ v, w.cell? ⟨b, j, none⟩ = some v ∧ VR κ c v := fun j c hj => by
          obtain ⟨v, h1, h2⟩ := hR.glob b cs j c hg hj
          exact ⟨v, (hR.phi _ _ h1).1, h2⟩
        have hvs : ∃ vs : List Value, VRL κ ((cs.drop o).take (n * size)) vs ∧ ∀ j v, vs[j]? = some v → w.cell? ((⟨b, o, none⟩ : Addr).add j) = some v := by
          refine ⟨(List.range (n * size)).map fun j => (w.cell? ⟨b, o + j, none⟩).getD undef, VRL.mk _ _ (by simp [hl]) fun j c hj => ?_, fun j v hv => ?_⟩
          · have hj' : j < n * size := by have := (List.getElem?_eq_some_iff.1 hj).1; omega
            rw [List.getElem?_take_of_lt hj', List.getElem?_drop] at hj
            obtain ⟨v, h1, h2⟩ := hc (o + j) c hj
            exact ⟨v, by simp [List.getElem?_map, List.getElem?_range, hj', h1], h2⟩
          · have hj' : j < n * size := by have := (List.getElem?_eq_some_iff.1 hv).1; simpa using this
            have hj2 : o + j < cs.length := by simp at hl; omega
            obtain ⟨u, h1, _⟩ := hc (o + j) cs[o + j] (List.getElem?_eq_getElem hj2)
            simp [List.getElem?_map, List.getElem?_range, hj', h1] at hv
            rw [add_cell, h1, hv]
        obtain ⟨vs, h1, h2⟩ := hvs
        have hrun := run_loadCells_list (P := P) (w := w) ⟨b, o, none⟩ vs h2
        rw [VRL.length _ _ h1, hl] at hrun
        exact ⟨chk_still e1, hl, vs.toArray, hrun, by simpa using h1⟩
  | _ => cases e

/-- Append to a row that goes to the end of its block: where there is room it is written in place, and the elder stamp ends. -/
theorem Sim.here {κ : Kap} {g p off len n z : Nat} {x : DV} {x' : Value} {c : Nat} {sz : Nat} (hz : 0 < z ∧ κ.esz g = z) (hd : κ.dom g) (ho : off + c * z = κ.endc g) (hlc : len ≤ c) (hc : len + n ≤ c)
    (hx : VR κ x x') (hn : lenOf x = some n) :
    Sim P E N w0 κ VR (M.ldc g p off (len * z) fun old => Am.firstK E z n x fun new => lappK old new fun cs =>
          M.bind (M.chk (allScal new)) fun _ => M.bind M.stamp fun e => M.bind (M.wrO p (.cells e true cs)) fun _ => forceNat (len + n) fun m => M.pure (DV.sl e p 0 m (.op z)))
      (Builtin.firstCells z n x' >>= fun new => storeCells ((⟨κ.blk g, κ.bas g + off, none⟩ : Addr).add (len * z)) new.toList >>= fun _ => Pure.pure (Value.slice (some ⟨κ.blk g, κ.bas g + off, none⟩) (len + n) c)) := by
  have locT : ∀ (cs new : List DV), Local (M.bind (M.chk (allScal new)) fun _ => M.bind M.stamp fun e => M.bind (M.wrO p (.cells e true cs)) fun _ => forceNat (len + n) fun m => M.pure (DV.sl e p 0 m (.op z))) :=
    fun cs new => Local.bind (Local.chk _) fun _ => Local.bind Local.stamp fun _ => Local.bind (Local.wrO _ _) fun _ => Local.forceNat fun _ => Local.pure _
  intro S a S' w h0 e hp hR hF
  -- the elder cells
  obtain ⟨⟨g', old⟩, S1, e1, e2⟩ := M.bind_some e
  obtain ⟨opn, cs, hg, hcs, hr, rfl⟩ := M.rowCells_some e1
  simp only at hr hg e2
  obtain ⟨⟨⟩, S2, e3, e4⟩ := M.bind_some e2
  obtain ⟨c1, c2, c3, c4, c5⟩ := M.chk_some e3
  simp only at c1 c2 c3 c4
  have h0' : S2.lg.thr ≤ S2.pos := by rw [c4, c2]; exact h0
  have loc2 : Local (Am.firstK E z n x fun new => lappK old new fun cs =>
          M.bind (M.chk (allScal new)) fun _ => M.bind M.stamp fun e => M.bind (M.wrO p (.cells e true cs)) fun _ => forceNat (len + n) fun m => M.pure (DV.sl e p 0 m (.op z))) :=
    Local.firstK fun _ => Local.lappK fun _ => locT _ _
  obtain ⟨t2, l2, p2, q2, _, _⟩ := loc2.facts h0' e4
  obtain rfl : g = g' := beq_true (c5 (p2 hp)).1
  have hlen : old.length = len * z := by rw [hr]; simp; omega
  -- the new ones, and the write
  have step : ∀ (new : List DV) (new' : Array Value), VRL κ new new'.toList → new.length = n * z → ∀ (T : St) (b : DV) (T' : St) (w : World), T.heap.get p = some (.cells g opn cs) →
      (M.bind (M.chk (allScal new)) fun _ => M.bind M.stamp fun e => M.bind (M.wrO p (.cells e true (old ++ new))) fun _ => forceNat (len + n) fun m => M.pure (DV.sl e p 0 m (.op z))) T = some (b, T') →
      AllP T'.sy.phi → Rr E N w0 κ T.heap w → Fresh κ T.ep T'.ep →
      ∃ κ' v w', Ext κ κ' T.ep T'.ep ∧ (storeCells ((⟨κ.blk g, κ.bas g + off, none⟩ : Addr).add (len * z)) new'.toList >>= fun _ => Pure.pure (Value.slice (some ⟨κ.blk g, κ.bas g + off, none⟩) (len + n) c) : Sem Value).run P w = .ok v w' ∧ VR κ' b v ∧ Rr E N w0 κ' T'.heap w' := by
    intro new new' hv hl T b T' w hT e hp hR hF
    obtain ⟨⟨⟩, T1, e1, e2⟩ := M.bind_some e
    obtain ⟨c1, c2, c3, c4, c5⟩ := M.chk_some e1
    rw [M.bind_of (M.stamp_eq T1)] at e2
    have e2 := M.wrO_bind e2
    rw [forceNat_eq] at e2
    cases e2
    have hs := (c5 hp).1
    simp only at hF ⊢
    rw [c1]
    rw [c3] at hF ⊢
    obtain ⟨hdom, C, elem, fr, hb, hrow⟩ := hR.row hT
    obtain ⟨o1, o2⟩ := hrow.opn (by rw [hz.2]; exact hz.1)
    have he : ¬ κ.dom T.ep := hF T.ep (Nat.le_refl _) (Nat.lt_succ_self _)
    have b1 : (κ.add T.ep (κ.blk g) (κ.bas g + off) (c * z) z).blk T.ep = κ.blk g := if_pos rfl
    have b2 : (κ.add T.ep (κ.blk g) (κ.bas g + off) (c * z) z).bas T.ep = κ.bas g + off := if_pos rfl
    have b3 : (κ.add T.ep (κ.blk g) (κ.bas g + off) (c * z) z).endc T.ep = c * z := if_pos rfl
    have b4 : (κ.add T.ep (κ.blk g) (κ.bas g + off) (c * z) z).esz T.ep = z := if_pos rfl
    have hul := VRL.length _ _ hv
    simp only [Array.length_toList] at hul
    have hone : ∀ u ∈ new'.toList, u.oneCell' = true := by
      intro u hu
      obtain ⟨i, hi⟩ := List.mem_iff_getElem?.1 hu
      have hlt : i < new.length := by have := (List.getElem?_eq_some_iff.1 hi).1; simp at this; omega
      obtain ⟨v, h1, h2⟩ := VRL.get _ _ hv i new[i] (List.getElem?_eq_getElem hlt)
      rw [hi] at h1; cases h1
      exact (scal_one h2 (allScal_mem hs _ (List.getElem_mem hlt))).1
    have hcz : (len + n) * z ≤ c * z := Nat.mul_le_mul_right z hc
    rw [Nat.add_mul] at hcz
    obtain ⟨C', w', r1, r2, r3, r4, r5, r6, r7, r8, r9⟩ := run_storeCells_row (P := P) (b := κ.blk g) (w := w) (C := C) new'.toList (κ.bas g + off + len * z) 0 C w hb (by simp; omega) hone hrow.frz
    refine ⟨κ.add T.ep (κ.blk g) (κ.bas g + off) (c * z) z, _, w', Ext.add he _ _ _ _, ?_, ⟨.inr rfl, ⟨hz.1, b4⟩, κ.bas g + off, c, rfl, hc, .inl ⟨by rw [b2]; rfl, by rw [b3]; omega⟩⟩, ?_⟩
    · rw [Sem.run_bind, add_cell, r1, b1]; rfl
    · obtain ⟨ho', hN, hlt⟩ := hR.obj p _ hT
      refine hR.put (p := p) (o := .cells T.ep true (old ++ new)) (Kap.add_le he _ _ _ _) rfl (below_of hR.below hN r5 r6 r7 r4 r8) (by omega) (fun q o' hq hqp => r8 _ (hR.apart q p o' _ hq hT hqp)) (fun a v ha => ?_) ?_ (by show N ≤ (κ.add _ _ _ _ _).blk T.ep; rw [b1]; exact hN)
        (by show (κ.add _ _ _ _ _).blk T.ep < _; rw [b1, r4]; exact hlt) (fun q o' hq hqp => by show (κ.add _ _ _ _ _).blk T.ep ≠ _; rw [b1]; exact (hR.apart q p o' _ hq hT hqp).symm) (fun a v ha => by show (κ.add _ _ _ _ _).blk T.ep ≠ _; rw [b1]; exact (hR.phi a v ha).2 p _ hT)
      · have := hR.phi a v ha
        rw [World.cell?_of_block (w := w) (r8 _ (this.2 p _ hT).symm)]; exact this.1
      · refine ⟨.inr rfl, C', elem, fr, by rw [b1]; exact r2, ⟨?_, fun j d hj => ?_, by rw [r3]; exact hrow.frz, fun _ => ?_⟩⟩
        · rw [b2, List.length_append, hlen, hl]; omega
        · rw [b2, r9]
          simp only [Array.length_toList, Nat.add_zero]
          by_cases hjl : j < old.length
          · rw [List.getElem?_append_left hjl] at hj
            rw [if_neg (by omega)]
            rw [hr, List.getElem?_take_of_lt (by omega), List.getElem?_drop] at hj
            obtain ⟨v, hv1, hv2⟩ := hrow.cell (off + j) d hj
            exact ⟨v, by rw [Nat.add_assoc]; exact hv1, VR.mono (Kap.add_le he _ _ _ _) _ _ hv2⟩
          · rw [List.getElem?_append_right (by omega)] at hj
            obtain ⟨u, hu1, hu2⟩ := VRL.get _ _ hv _ d hj
            have hjn : j - old.length < new.length := (List.getElem?_eq_some_iff.1 hj).1
            rw [if_pos (by omega)]
            exact ⟨u, by rw [← hu1]; congr 1; omega, VR.mono (Kap.add_le he _ _ _ _) _ _ hu2⟩
        · rw [b2, b3, List.length_append, hlen, hl]; omega
  rw [firstK_bind] at e4
  obtain ⟨new, S3, f1, f2⟩ := M.bind_some e4
  rw [lappK_eq] at f2
  have f0 := (Local.firstK (E := E) (size := z) (n := n) (x := x) (k := M.pure) (fun r => Local.pure r)).facts h0' f1
  have f3 := (locT (old ++ new) new).facts f0.1 f2
  obtain ⟨s1, s2, new', s3, s4⟩ := first_read (P := P) hx (fun m hm => by rw [hn] at hm; cases hm; exact Nat.le_refl _) f1 (f3.2.2.1 hp) (by rw [c1]; exact hR)
  have hR3 : Rr E N w0 κ S3.heap w := by rw [s1.heap, c1]; exact hR
  have hep : S3.ep = S.ep := by rw [s1.ep, c3]
  obtain ⟨κ', v, w', x1, x2, x3, x4⟩ := step new new' s4 s2 S3 a S' w (by rw [s1.heap, c1]; exact hg) f2 hp hR3 (by rw [hep]; exact hF)
  rw [hep] at x1
  exact ⟨κ', v, w', x1, by rw [Sem.run_bind, s3]; exact x2, x3, x4⟩

theorem Sim.ldc' {α γ : Type} {κ : Kap} {Q : Kap → α → γ → Prop} {g p off c : Nat} {ad : Addr} {k : List DV → M α} {f' : Array Value → Sem γ} (ha : c = 0 ∨ ad = ⟨κ.blk g, κ.bas g + off, none⟩)
    (hk : ∀ r, Local (k r)) (h : ∀ r (r' : Array Value), r.length = c → VRL κ r r'.toList → Sim P E N w0 κ Q (k r) (f' r')) :
    Sim P E N w0 κ Q (M.ldc g p off c k) (loadCells ad c >>= f') := by
  rcases ha with rfl | ha
  · refine Sim.congr (s' := f' #[]) (fun w => by rw [Sem.run_bind, run_loadCells0]; rfl) (Sim.ldcL hk fun r hr => h r #[] hr ?_)
    rw [List.eq_nil_of_length_eq_zero hr]; rfl
  · exact Sim.ldc ha hk h

/-- the stamp of a row is moved to a new block -/
theorem Sim.moved {κ : Kap} {cs new : List DV} {p : Nat} {elem : TypeId} {C : Array Value} {need c z : Nat} (h : VRL κ cs (C.toList.take cs.length)) (hl : cs.length = need * z) (hC : c * z ≤ C.size) (hc : need ≤ c) (hz : 0 < z) :
    Sim P E N w0 κ VR (M.bind (M.chk (allScal new)) fun _ => M.bind M.stamp fun e => M.bind (M.wrO p (.cells e true cs)) fun _ => forceNat need fun m => M.pure (DV.sl e p 0 m (.op z))) (do Pure.pure (Value.slice (some (← newRow elem C)) need c)) := by
  refine Sim.chk (Local.bind Local.stamp fun _ => Local.bind (Local.wrO _ _) fun _ => Local.forceNat fun _ => Local.pure _) fun _ => ?_
  intro S a S' w h0 e hp hR hF
  rw [M.bind_of (M.stamp_eq S)] at e
  have e := M.wrO_bind e
  rw [forceNat_eq] at e
  cases e
  have he : ¬ κ.dom S.ep := hF S.ep (Nat.le_refl _) (Nat.lt_succ_self _)
  have b1 : (κ.add S.ep w.heap.size 0 (c * z) z).blk S.ep = w.heap.size := if_pos rfl
  have b2 : (κ.add S.ep w.heap.size 0 (c * z) z).bas S.ep = 0 := if_pos rfl
  have b3 : (κ.add S.ep w.heap.size 0 (c * z) z).endc S.ep = c * z := if_pos rfl
  have b4 : (κ.add S.ep w.heap.size 0 (c * z) z).esz S.ep = z := if_pos rfl
  have hnc : need * z ≤ c * z := Nat.mul_le_mul_right z hc
  refine ⟨κ.add S.ep w.heap.size 0 (c * z) z, Value.slice (some ⟨w.heap.size, 0, none⟩) need c, w.alloc (.cells C elem), Ext.add he _ _ _ _, ?_, ⟨.inr rfl, ⟨hz, b4⟩, 0, c, ?_, hc, .inl ⟨by rw [b2], by rw [b3]; simp⟩⟩, ?_⟩
  · simp only [newRow, Sem.run_bind, run_newObj, Result.andThen_ok, Sem.run_pure]; rfl
  · rw [b1]
  · refine hR.alloc (p := p) (o := .cells S.ep true cs) he rfl 0 (c * z) z ⟨.inr rfl, C, elem, (0, 0), ?_, ?_⟩
    · rw [b1]; exact heap_alloc w _
    · refine ⟨by rw [b2]; omega, fun j d hj => ?_, fun j _ h => by omega, fun _ => by rw [b2, b3]; omega⟩
      obtain ⟨v, hv, hr⟩ := VRL.get _ _ h j d hj
      have hjl : j < cs.length := (List.getElem?_eq_some_iff.1 hj).1
      rw [List.getElem?_take_of_lt hjl] at hv
      exact ⟨v, by rw [b2, Nat.zero_add, ← Array.getElem?_toList]; exact hv, VR.mono (Kap.add_le he _ _ _ _) _ _ hr⟩

theorem Sim.opAppend (hE : EnvOk P E) {κ : Kap} {t u ty : TypeId} {s x : DV} {s' x' : Value} (hs : VR κ s s') (hx : VR κ x x') {k : TI} {knf : TypeInfo} {dk : TypeDesc} {zk : Value} (hu : TF P u k knf dk zk) (hk : ∀ kk, k.und ≠ .int kk) :
    Sim P E N w0 κ VR (opAppend E t s x) (Builtin.append_ #[t, u] ty #[s', x']) := by
  unfold Am.opAppend
  refine Sim.tiM hE fun i inf d z h => ?_
  split
  · rename_i e hue
    obtain rfl := h.slice hue
    refine Sim.tiM hE fun j jnf d' zj h' => ?_
    split
    · rename_i n hn
      have same : ∀ (base : Option Addr) (len c : Nat), len ≤ c → n = 0 → ∀ w, (Builtin.append_ #[t, u] ty #[.slice base len c, x']).run P w = .ok (.slice base len c) w := by
        intro base len c hlc h0 w
        subst h0
        rw [run_append h h' hu hk hx hn base len c (fun hh => absurd hlc (by omega)) w]
        unfold appTail
        rw [if_pos (by omega)]
        simp only [Sem.run_bind, run_first0 hx hn, Result.andThen_ok]
        cases base <;> rfl
      have fresh : ∀ (s : DV) (base : Option Addr) (len c : Nat), VR κ s (.slice base len c) → lenOf s = some len → ¬ (len + n ≤ c) → Sim P E N w0 κ VR (Am.grow E j s x len n) (Builtin.append_ #[t, u] ty #[.slice base len c, x']) := by
        intro s base len c hs hl hc
        by_cases hr : room (len + n) j = true
        · exact Sim.congr (run_append h h' hu hk hx hn base len c (fun _ => hr)) (Sim.grow h' hs hl hx hn hc)
        · refine Sim.chk (Local.firstK fun _ => Local.firstK fun _ => Local.lappK fun _ => Local.bind (Local.new _ _) fun _ => Local.pure _) fun hh => absurd hh hr
      cases s with
      | nils =>
        cases hs
        by_cases h0 : n = 0
        · rw [beq_t h0]; exact Sim.ret (same none 0 0 (Nat.le_refl _) h0) rfl
        · rw [beq_f h0]; exact fresh .nils none 0 0 rfl rfl (by omega)
      | bsl a len c =>
        obtain ⟨hlc, hs⟩ := hs
        cases hs
        simp only
        rw [ble_eq]
        by_cases hc : len + n ≤ c
        · rw [decide_eq_true hc]; exact Sim.fail
        · rw [decide_eq_false hc]; exact fresh (.bsl a len c) (some a) len c ⟨hlc, rfl⟩ rfl hc
      | sl g p off len cap =>
        cases cap with
        | ex c =>
          obtain ⟨hd, hlc, rfl⟩ := hs
          simp only
          rw [ble_eq]
          by_cases hc : len + n ≤ c
          · rw [decide_eq_true hc]
            refine Sim.congr (run_append h h' hu hk hx hn _ len c (fun hh => absurd hc hh)) ?_
            unfold appTail
            rw [if_pos hc]
            refine Sim.firstK hx (fun m hm => by rw [hn] at hm; cases hm; exact Nat.le_refl _) (fun _ => Local.bind (Local.chk _) fun _ => Local.bind (Local.stc _ _ _ _) fun _ => Local.pure _) fun new new' hw hwl => ?_
            refine Sim.chk (Local.bind (Local.stc _ _ _ _) fun _ => Local.pure _) fun hsc => ?_
            refine Sim.bind (Local.stc _ _ _ _) (fun _ => Local.pure _) (Sim.stc (by rw [add_cell, Nat.add_assoc]) hw hsc) fun κ' _ _ hle _ => ?_
            exact Sim.pure ⟨hle.dom g hd, hc, by rw [hle.blk g hd, hle.bas g hd]⟩
          · rw [decide_eq_false hc]; exact fresh (.sl g p off len (.ex c)) _ len c ⟨hd, hlc, rfl⟩ rfl hc
        | op y =>
          have hs0 := hs
          obtain ⟨hd, hz, o, c, rfl, hlc, ho⟩ := hs
          by_cases h0 : n = 0
          · simp only [beq_t h0]; exact Sim.ret (same _ len c hlc h0) hs0
          · simp only [beq_f h0]
            have locK : ∀ old : List DV, Local (Am.firstK E j.size n x fun new => lappK old new fun cs =>
                M.bind (M.chk (allScal new)) fun _ => M.bind M.stamp fun e => M.bind (M.wrO p (.cells e true cs)) fun _ => forceNat (len + n) fun m => M.pure (DV.sl e p 0 m (.op y))) :=
              fun old => Local.firstK fun _ => Local.lappK fun _ => Local.bind (Local.chk _) fun _ => Local.bind Local.stamp fun _ => Local.bind (Local.wrO _ _) fun _ => Local.forceNat fun _ => Local.pure _
            refine Sim.chk (Local.ldc _ _ _ _ locK) fun hch => ?_
            obtain ⟨hr, hyz⟩ := cond_and hch
            have hyz := beq_true hyz
            subst hyz
            refine Sim.congr (run_append h h' hu hk hx hn _ len c (fun _ => hr)) ?_
            unfold appTail
            by_cases hc : len + n ≤ c
            · rw [if_pos hc]
              rcases ho with ⟨rfl, ho⟩ | h00
              · exact Sim.here (sz := 0) hz hd ho hlc hc hx hn
              · omega
            · rw [if_neg hc]
              obtain ⟨r1, r2, r3, r4⟩ := room_ok hr (by omega : c < len + n)
              refine Sim.draw fun c2 hcc => ?_
              refine Sim.ldc' (ad := ⟨κ.blk g, o, none⟩) (by
                rcases ho with ⟨rfl, _⟩ | h00
                · exact .inr rfl
                · left; have : len = 0 := by omega
                  rw [this, Nat.zero_mul]) locK fun old old' hol hov => ?_
              refine Sim.firstK hx (fun m hm => by rw [hn] at hm; cases hm; exact Nat.le_refl _) (fun _ => Local.lappK fun _ => Local.bind (Local.chk _) fun _ => Local.bind Local.stamp fun _ => Local.bind (Local.wrO _ _) fun _ => Local.forceNat fun _ => Local.pure _) fun new new' hw hwl => ?_
              rw [lappK_eq]
              have hzs : zj.cells.size = j.size := by have h1 : j.zero.length = j.size := beq_true r3; rw [h'.zc] at h1; simpa using h1
              have l1 := VRL.length _ _ hov
              have l2 := VRL.length _ _ hw
              simp only [Array.length_toList] at l1 l2
              refine Sim.moved (z := j.size) ?_ (by rw [List.length_append, hol, hwl, Nat.add_mul]) ?_ hcc r4
              · have e1 : ((old' ++ new' ++ Builtin.zeroCells zj.cells (c2 - (len + n))).toList.take (old ++ new).length) = old'.toList ++ new'.toList := by
                  rw [Array.toList_append, Array.toList_append, List.take_append_of_le_length (by simp; omega)]
                  apply List.take_of_length_le; simp; omega
                rw [e1]; exact VRL.app _ _ _ _ hov hw
              · rw [Array.size_append, Array.size_append, size_zeroCells, hzs, l1, l2, hol, hwl, ← Nat.add_mul, ← Nat.add_mul]
                apply Nat.mul_le_mul_right; omega
      | _ => exact Sim.fail
    · exact Sim.fail
  · exact Sim.fail

theorem Sim.opCopy (hE : EnvOk P E) {κ : Kap} {t u ty : TypeId} {s x : DV} {s' x' : Value} (hs : VR κ s s') (hx : VR κ x x') :
    Sim P E N w0 κ VR (opCopy E t s x) (Builtin.copy_ #[t, u] ty #[s', x']) := by
  unfold Am.opCopy
  refine Sim.tiM hE fun i inf d z h => ?_
  split
  · rename_i e hue
    obtain rfl := h.slice hue
    refine Sim.tiM hE fun j jnf d' zj h' => ?_
    split
    · rename_i n hn
      have run : ∀ (base : Option Addr) (len c : Nat) (w : World), (Builtin.copy_ #[t, u] ty #[.slice base len c, x']).run P w =
          (Builtin.firstCells j.size (Nat.min n len) x' >>= fun cells => (match base with | some a => storeCells a cells.toList | none => Pure.pure ()) >>= fun _ => Pure.pure (goInt (Nat.min n len)) : Sem Value).run P w := by
        intro base len c w
        simp only [Builtin.copy_, List.getElem?_toArray, List.getElem?_cons_zero, List.getElem?_cons_succ, Sem.run_bind, h.run_und, Result.andThen_ok, run_lenOf hx hn, h'.run_size]
        congr 1
        funext r w
        cases base <;> simp only [Sem.run_bind, Sem.run_pure, Result.andThen_ok]
      cases s with
      | nils =>
        cases hs
        refine Sim.ret (b := goInt 0) (fun w => ?_) rfl
        rw [run]
        have e0 : Nat.min n 0 = 0 := Nat.min_zero n
        simp only [e0, Sem.run_bind, run_first0 hx hn, Result.andThen_ok, Sem.run_pure]
        rfl
      | sl g p off len cap =>
        have hm : ∀ m, lenOf x = some m → Nat.min n len ≤ m := fun m hm => by rw [hn] at hm; cases hm; exact Nat.min_le_left _ _
        simp only []
        rw [show (M.bind (M.val (goI (Nat.min n len))) fun v => Am.firstK E j.size (Nat.min n len) x fun new => M.bind (M.chk (allScal new)) fun _ => M.bind (M.stc g p off new) fun _ => M.pure v) =
          (Am.firstK E j.size (Nat.min n len) x fun new => M.bind (M.chk (allScal new)) fun _ => M.bind (M.stc g p off new) fun _ => M.pure (goI (Nat.min n len))) from by
            funext S; rw [M.bind_of (M.val_eq _ S)]]
        have exact_ : ∀ (ad : Addr) (len' c : Nat), s' = .slice (some ad) len c → ad = ⟨κ.blk g, κ.bas g + off, none⟩ → Sim P E N w0 κ VR (Am.firstK E j.size (Nat.min n len) x fun new => M.bind (M.chk (allScal new)) fun _ => M.bind (M.stc g p off new) fun _ => M.pure (goI (Nat.min n len))) (Builtin.copy_ #[t, u] ty #[s', x']) := by
          intro ad len' c e1 e2
          subst e1
          refine Sim.congr (run _ _ _) ?_
          refine Sim.firstK hx hm (fun _ => Local.bind (Local.chk _) fun _ => Local.bind (Local.stc _ _ _ _) fun _ => Local.pure _) fun new new' hw hwl => ?_
          refine Sim.chk (Local.bind (Local.stc _ _ _ _) fun _ => Local.pure _) fun hsc => ?_
          exact Sim.bind (Local.stc _ _ _ _) (fun _ => Local.pure _) (Sim.stc e2 hw hsc) fun κ' _ _ hle _ => Sim.pure rfl
        cases cap with
        | ex c => obtain ⟨hd, hlc, e⟩ := hs; exact exact_ _ 0 c e rfl
        | op y =>
          obtain ⟨hd, hz, o, c, e, hlc, ho⟩ := hs
          rcases ho with ⟨rfl, ho⟩ | h00
          · exact exact_ _ 0 c e rfl
          · have hl0 : len = 0 := by omega
            subst e
            refine Sim.congr (run _ _ _) ?_
            refine Sim.firstK hx hm (fun _ => Local.bind (Local.chk _) fun _ => Local.bind (Local.stc _ _ _ _) fun _ => Local.pure _) fun new new' hw hwl => ?_
            refine Sim.chk (Local.bind (Local.stc _ _ _ _) fun _ => Local.pure _) fun hsc => ?_
            have hn0 : new'.toList = [] := by
              apply List.eq_nil_of_length_eq_zero
              rw [VRL.length _ _ hw, hwl, hl0, show Nat.min n 0 = 0 from Nat.min_zero n, Nat.zero_mul]
            have e0 : ∀ (ad : Addr), storeCells ad new'.toList = storeCells ⟨κ.blk g, κ.bas g + off, none⟩ new'.toList := by intro ad; rw [hn0]; rfl
            simp only [e0]
            exact Sim.bind (Local.stc _ _ _ _) (fun _ => Local.pure _) (Sim.stc rfl hw hsc) fun κ' _ _ hle _ => Sim.pure rfl
      | _ => exact Sim.fail
    · exact Sim.fail
  · exact Sim.fail
end
end Go.Am
