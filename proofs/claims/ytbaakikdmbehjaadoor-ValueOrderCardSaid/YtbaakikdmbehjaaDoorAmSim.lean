/- The abstract machine's computations and the model's, side by side: the frame and the primitives. -/
import Derived.Test.YtbaakikdmbehjaaDoorAmRel
set_option linter.unusedVariables false
set_option linter.unusedSimpArgs false
set_option linter.unusedSectionVars false
namespace Go.Am
open Go.RowKit

def AllP (l : List Prop) : Prop := ∀ p ∈ l, p
theorem AllP.right {a b : List Prop} (h : AllP (a ++ b)) : AllP b := fun p hp => h p (List.mem_append_right _ hp)

structure Ext (κ κ' : Kap) (a b : Nat) : Prop where
  le : κ.le κ'
  dom : ∀ g, κ'.dom g → κ.dom g ∨ (a ≤ g ∧ g < b)
def Fresh (κ : Kap) (a b : Nat) : Prop := ∀ g, a ≤ g → g < b → ¬ κ.dom g
theorem Ext.refl (κ : Kap) (a b : Nat) : Ext κ κ a b := ⟨Kap.le.refl κ, fun _ h => .inl h⟩
theorem Ext.trans {κ κ' κ'' : Kap} {a b c : Nat} (hab : a ≤ b) (hbc : b ≤ c) (h : Ext κ κ' a b) (k : Ext κ' κ'' b c) : Ext κ κ'' a c :=
  ⟨h.le.trans k.le, fun g hg => by
    rcases k.dom g hg with h' | h'
    · rcases h.dom g h' with h'' | h''
      · exact .inl h''
      · exact .inr (by omega)
    · exact .inr (by omega)⟩
theorem Fresh.left {κ : Kap} {a b c : Nat} (h : Fresh κ a c) (hbc : b ≤ c) : Fresh κ a b := fun g h1 h2 => h g h1 (by omega)
theorem Fresh.right {κ κ' : Kap} {a b c : Nat} (h : Fresh κ a c) (hab : a ≤ b) (k : Ext κ κ' a b) : Fresh κ' b c := fun g h1 h2 hd => by
  rcases k.dom g hd with h' | h'
  · exact h g (by omega) h2 h'
  · omega

section
variable (P : Program) (E : Env) (N : Nat) (w0 : World)

def Sim {α β : Type} (κ : Kap) (Q : Kap → α → β → Prop) (m : M α) (s : Sem β) : Prop :=
  ∀ S a S' w, S.lg.thr ≤ S.pos → m S = some (a, S') → AllP S'.sy.phi → Rr E N w0 κ S.heap w → Fresh κ S.ep S'.ep →
    ∃ κ' b w', Ext κ κ' S.ep S'.ep ∧ s.run P w = .ok b w' ∧ Q κ' a b ∧ Rr E N w0 κ' S'.heap w'

variable {P E N w0}
theorem Sim.fail {α β : Type} {κ : Kap} {Q : Kap → α → β → Prop} {s : Sem β} : Sim P E N w0 κ Q M.fail s := by
  intro S a S' w _ h; cases h
theorem Sim.pure {α β : Type} {κ : Kap} {Q : Kap → α → β → Prop} {a : α} {b : β} (h : Q κ a b) : Sim P E N w0 κ Q (M.pure a) (Pure.pure b) := by
  intro S a' S' w _ e _ hR _
  cases e
  exact ⟨κ, b, w, Ext.refl _ _ _, rfl, h, hR⟩
theorem Sim.ret {α β : Type} {κ : Kap} {Q : Kap → α → β → Prop} {a : α} {b : β} {s : Sem β} (hs : ∀ w, s.run P w = .ok b w) (h : Q κ a b) : Sim P E N w0 κ Q (M.pure a) s := by
  intro S a' S' w _ e _ hR _
  cases e
  exact ⟨κ, b, w, Ext.refl _ _ _, hs w, h, hR⟩
theorem Sim.congr {α β : Type} {κ : Kap} {Q : Kap → α → β → Prop} {m : M α} {s s' : Sem β} (hs : ∀ w, s.run P w = s'.run P w) (h : Sim P E N w0 κ Q m s') : Sim P E N w0 κ Q m s := by
  intro S a S' w h0 e hp hR hF
  obtain ⟨κ', b, w', h1, h2, h3, h4⟩ := h S a S' w h0 e hp hR hF
  exact ⟨κ', b, w', h1, (hs w).trans h2, h3, h4⟩
theorem Sim.mono {α β : Type} {κ : Kap} {Q Q' : Kap → α → β → Prop} {m : M α} {s : Sem β} (h : Sim P E N w0 κ Q m s) (hQ : ∀ κ' a b, κ.le κ' → Q κ' a b → Q' κ' a b) : Sim P E N w0 κ Q' m s := by
  intro S a S' w h0 e hp hR hF
  obtain ⟨κ', b, w', h1, h2, h3, h4⟩ := h S a S' w h0 e hp hR hF
  exact ⟨κ', b, w', h1, h2, hQ _ _ _ h1.le h3, h4⟩

/-- the facts of a local computation that a step needs -/
theorem Local.facts {α : Type} {m : M α} (hm : Local m) {S : St} {a : α} {S' : St} (h0 : S.lg.thr ≤ S.pos) (h : m S = some (a, S')) :
    S'.lg.thr ≤ S'.pos ∧ S.ep ≤ S'.ep ∧ (AllP S'.sy.phi → AllP S.sy.phi) ∧ S.pos ≤ S'.pos ∧ S'.lg.thr = S.lg.thr ∧ S'.sy.sym = S.sy.sym := by
  obtain ⟨F, D, s, _, _, _⟩ := hm S a S' h0 h
  exact ⟨by rw [s.thr]; exact Nat.le_trans h0 s.pos, s.ep, by rw [s.phi]; exact AllP.right, s.pos, s.thr, s.sym⟩

theorem Sim.bind {α β γ δ : Type} {κ : Kap} {Q : Kap → α → β → Prop} {Q' : Kap → γ → δ → Prop} {m : M α} {s : Sem β} {f : α → M γ} {f' : β → Sem δ}
    (hm : Local m) (hf : ∀ a, Local (f a)) (h : Sim P E N w0 κ Q m s) (k : ∀ κ' a b, κ.le κ' → Q κ' a b → Sim P E N w0 κ' Q' (f a) (f' b)) :
    Sim P E N w0 κ Q' (M.bind m f) (s >>= f') := by
  intro S c S'' w h0 e hp hR hF
  obtain ⟨a, S', e1, e2⟩ := M.bind_some e
  obtain ⟨t1, l1, p1, q1, _, _⟩ := hm.facts h0 e1
  obtain ⟨t2, l2, p2, q2, _, _⟩ := (hf a).facts t1 e2
  obtain ⟨κ', b, w', x1, x2, x3, x4⟩ := h S a S' w h0 e1 (p2 hp) hR (hF.left l2)
  obtain ⟨κ'', d, w'', y1, y2, y3, y4⟩ := k κ' a b x1.le x3 S' c S'' w' t1 e2 hp x4 (hF.right l1 x1)
  exact ⟨κ'', d, w'', x1.trans l1 l2 y1, by rw [Sem.run_bind, x2]; exact y2, y3, y4⟩

theorem M.chk_some {b : Bool} {S : St} {u : Unit} {S' : St} (h : M.chk b S = some (u, S')) : S'.heap = S.heap ∧ S'.pos = S.pos ∧ S'.ep = S.ep ∧ S'.lg = S.lg ∧ (AllP S'.sy.phi → b = true ∧ AllP S.sy.phi) := by
  rcases S with ⟨hp, n, e, lg, ⟨sym, ds, phi⟩⟩
  cases sym with
  | true => cases h; exact ⟨rfl, rfl, rfl, rfl, fun h => ⟨h (b = true) (List.mem_cons_self ..), fun p hp => h p (List.mem_cons_of_mem _ hp)⟩⟩
  | false =>
    cases b with
    | true => cases h; exact ⟨rfl, rfl, rfl, rfl, fun h => ⟨rfl, h⟩⟩
    | false => cases h
theorem Sim.chk {α β : Type} {κ : Kap} {Q : Kap → α → β → Prop} {b : Bool} {f : Unit → M α} {s : Sem β} (hf : Local (f ())) (h : b = true → Sim P E N w0 κ Q (f ()) s) :
    Sim P E N w0 κ Q (M.bind (M.chk b) f) s := by
  intro S c S'' w h0 e hp hR hF
  obtain ⟨⟨⟩, S', e1, e2⟩ := M.bind_some e
  obtain ⟨c1, c2, c3, c4, c5⟩ := M.chk_some e1
  have h0' : S'.lg.thr ≤ S'.pos := by rw [c4, c2]; exact h0
  obtain ⟨t2, l2, p2, q2, _, _⟩ := hf.facts h0' e2
  have := h (c5 (p2 hp)).1 S' c S'' w h0' e2 hp (by rw [c1]; exact hR) (by rw [c3]; exact hF)
  rw [c3] at this; exact this
theorem M.dec_some {b : Bool} {S : St} {d : Bool} {S' : St} (h : M.dec b S = some (d, S')) : S'.heap = S.heap ∧ S'.pos = S.pos ∧ S'.ep = S.ep ∧ S'.lg = S.lg ∧ (AllP S'.sy.phi → b = d ∧ AllP S.sy.phi) := by
  rcases S with ⟨hp, n, e, lg, ⟨sym, ds, phi⟩⟩
  cases sym with
  | true =>
    cases ds with
    | nil => cases h
    | cons d' ds =>
      have h' : some (d', (⟨hp, n, e, lg, ⟨true, ds, (b = d') :: phi⟩⟩ : St)) = some (d, S') := h
      injection h' with h'
      injection h' with h1 h2
      subst h1 h2
      exact ⟨rfl, rfl, rfl, rfl, fun h => ⟨h (b = d') (List.mem_cons_self ..), fun p hp => h p (List.mem_cons_of_mem _ hp)⟩⟩
  | false =>
    cases b with
    | true => cases h; exact ⟨rfl, rfl, rfl, rfl, fun h => ⟨rfl, h⟩⟩
    | false => cases h; exact ⟨rfl, rfl, rfl, rfl, fun h => ⟨rfl, h⟩⟩
theorem Sim.dec {α β : Type} {κ : Kap} {Q : Kap → α → β → Prop} {b : Bool} {f : Bool → M α} {s : Sem β} (hf : ∀ d, Local (f d)) (h : ∀ d, b = d → Sim P E N w0 κ Q (f d) s) :
    Sim P E N w0 κ Q (M.bind (M.dec b) f) s := by
  intro S c S'' w h0 e hp hR hF
  obtain ⟨d, S', e1, e2⟩ := M.bind_some e
  obtain ⟨c1, c2, c3, c4, c5⟩ := M.dec_some e1
  have h0' : S'.lg.thr ≤ S'.pos := by rw [c4, c2]; exact h0
  obtain ⟨t2, l2, p2, q2, _, _⟩ := (hf d).facts h0' e2
  have := h d (c5 (p2 hp)).1 S' c S'' w h0' e2 hp (by rw [c1]; exact hR) (by rw [c3]; exact hF)
  rw [c3] at this; exact this
theorem Sim.val {β : Type} {κ : Kap} {Q : Kap → DV → β → Prop} {v : DV} {b : β} {s : Sem β} (hs : ∀ w, s.run P w = .ok b w) (h : Q κ v b) : Sim P E N w0 κ Q (M.val v) s := by
  have : M.val v = M.pure v := funext fun S => M.val_eq v S
  rw [this]; exact Sim.ret hs h
theorem Sim.opt {α β : Type} {κ : Kap} {Q : Kap → α → β → Prop} {o : Option α} {b : β} {s : Sem β} (h : ∀ a, o = some a → (∀ w, s.run P w = .ok b w) ∧ Q κ a b) : Sim P E N w0 κ Q (M.opt o) s := by
  cases o with
  | none => exact Sim.fail
  | some a => exact Sim.ret (h a rfl).1 (h a rfl).2
theorem Sim.optB {α γ β : Type} {κ : Kap} {Q : Kap → γ → β → Prop} {o : Option α} {f : α → M γ} {s : Sem β} (h : ∀ a, o = some a → Sim P E N w0 κ Q (f a) s) : Sim P E N w0 κ Q (M.bind (M.opt o) f) s := by
  cases o with
  | none => intro S c S'' w h0 e; cases e
  | some a => exact h a rfl

/-! ### cells -/
theorem add_cell (b o j : Nat) : (⟨b, o, none⟩ : Addr).add j = ⟨b, o + j, none⟩ := by
  unfold Addr.add; split
  · rename_i h; subst h; rfl
  · rfl
theorem cell_of {w : World} {b o : Nat} {C : Array Value} {e : TypeId} {f : Nat × Nat} (h : w.heap[b]? = some (.cells C e f)) : w.cell? ⟨b, o, none⟩ = C[o]? := by
  unfold World.cell?; simp [h]

theorem Rr.row {κ : Kap} {h : Tr Obj} {w : World} (hR : Rr E N w0 κ h w) {p g : Nat} {opn : Bool} {cs : List DV} (hp : h.get p = some (.cells g opn cs)) :
    κ.dom g ∧ ∃ C elem fr, w.heap[κ.blk g]? = some (.cells C elem fr) ∧ RowR κ g opn cs C fr := (hR.obj p _ hp).1

theorem Sim.ld1 {κ : Kap} {g p off : Nat} {ad : Addr} (ha : ad = ⟨κ.blk g, κ.bas g + off, none⟩) : Sim P E N w0 κ VR (M.ld1 g p off) (load ad) := by
  intro S d S' w h0 e hp hR hF
  obtain ⟨⟨g', d'⟩, S1, e1, e2⟩ := M.bind_some e
  obtain ⟨opn, cs, hg, hd, rfl⟩ := M.rowCell_some e1
  obtain ⟨⟨⟩, S2, e3, e4⟩ := M.bind_some e2
  obtain ⟨c1, c2, c3, c4, c5⟩ := M.chk_some e3
  cases e4
  obtain rfl : g = g' := beq_true (c5 hp).1
  obtain ⟨hdom, C, elem, fr, hb, hrow⟩ := hR.row hg
  obtain ⟨v, hv, hvr⟩ := hrow.cell off d' hd
  subst ha
  refine ⟨κ, v, w, Ext.refl _ _ _, ?_, hvr, by rw [c1]; exact hR⟩
  rw [run_load, cell_of hb, hv]

theorem Sim.ldc {α γ : Type} {κ : Kap} {Q : Kap → α → γ → Prop} {g p off c : Nat} {ad : Addr} {k : List DV → M α} {f' : Array Value → Sem γ} (ha : ad = ⟨κ.blk g, κ.bas g + off, none⟩)
    (hk : ∀ r, Local (k r)) (h : ∀ r (r' : Array Value), r.length = c → VRL κ r r'.toList → Sim P E N w0 κ Q (k r) (f' r')) :
    Sim P E N w0 κ Q (M.ldc g p off c k) (loadCells ad c >>= f') := by
  intro S x S' w h0 e hp hR hF
  obtain ⟨⟨g', r⟩, S1, e1, e2⟩ := M.bind_some e
  obtain ⟨opn, cs, hg, hc, hr, rfl⟩ := M.rowCells_some e1
  simp only at hr hg e2
  obtain ⟨⟨⟩, S2, e3, e4⟩ := M.bind_some e2
  obtain ⟨c1, c2, c3, c4, c5⟩ := M.chk_some e3
  simp only at c1 c2 c3 c4
  have h0' : S2.lg.thr ≤ S2.pos := by rw [c4, c2]; exact h0
  obtain ⟨t2, l2, p2, q2, _, _⟩ := (hk r).facts h0' e4
  obtain rfl : g = g' := beq_true (c5 (p2 hp)).1
  obtain ⟨hdom, C, elem, fr, hb, hrow⟩ := hR.row hg
  have hlen : r.length = c := by rw [hr]; simp; omega
  have hcells : ∀ j d, r[j]? = some d → ∃ v, C[κ.bas g + off + j]? = some v ∧ VR κ d v := by
    intro j d hd
    rw [hr, List.getElem?_take] at hd
    split at hd
    · rw [List.getElem?_drop] at hd
      obtain ⟨v, hv, hvr⟩ := hrow.cell (off + j) d hd
      exact ⟨v, by rw [Nat.add_assoc]; exact hv, hvr⟩
    · cases hd
  have hvs : ∃ vs : List Value, VRL κ r vs ∧ ∀ j v, vs[j]? = some v → C[κ.bas g + off + j]? = some v := by
    refine ⟨(List.range r.length).map fun j => (C[κ.bas g + off + j]?).getD undef, VRL.mk _ _ (by simp) fun j d hd => ?_, fun j v hv => ?_⟩
    · obtain ⟨v, hv, hvr⟩ := hcells j d hd
      have hj : j < r.length := (List.getElem?_eq_some_iff.1 hd).1
      exact ⟨v, by simp [List.getElem?_map, List.getElem?_range, hj, hv], hvr⟩
    · have hj : j < r.length := by have := (List.getElem?_eq_some_iff.1 hv).1; simpa using this
      obtain ⟨u, hu, _⟩ := hcells j r[j] (List.getElem?_eq_getElem hj)
      simp [List.getElem?_map, List.getElem?_range, hj, hu] at hv
      rw [hu, hv]
  obtain ⟨vs, hvr, hC⟩ := hvs
  have hl : vs.length = c := by rw [VRL.length _ _ hvr, hlen]
  subst ha
  have hrun := run_loadCells_list (P := P) (w := w) ⟨κ.blk g, κ.bas g + off, none⟩ vs (fun j v hv => by rw [add_cell, cell_of hb]; exact hC j v hv)
  rw [hl] at hrun
  obtain ⟨κ', b, w', x1, x2, x3, x4⟩ := h r vs.toArray hlen (by simpa using hvr) S2 x S' w h0' e4 hp (by rw [c1]; exact hR) (by rw [c3]; exact hF)
  rw [c3] at x1
  refine ⟨κ', b, w', x1, ?_, x3, x4⟩
  rw [Sem.run_bind, hrun]; exact x2

theorem ERL.mono {κ κ' : Kap} (h : κ.le κ') : ∀ (es : List (DV × DV × Nat)) (ms : List MapEntry), ERL κ es ms → ERL κ' es ms
  | [], _, e => e
  | e :: es, l, hh => by obtain ⟨m, ms, rfl, h1, h2, h3, h4, h5⟩ := hh; exact ⟨m, ms, rfl, VR.mono h _ _ h1, h2, VR.mono h _ _ h3, h4, ERL.mono h es ms h5⟩
theorem RowR.mono {κ κ' : Kap} (h : κ.le κ') {g : Nat} {opn : Bool} {cs : List DV} {C : Array Value} {fr : Nat × Nat} (hd : κ.dom g) (r : RowR κ g opn cs C fr) : RowR κ' g opn cs C fr :=
  ⟨by rw [h.bas g hd]; exact r.size, fun j d hj => by obtain ⟨v, h1, h2⟩ := r.cell j d hj; exact ⟨v, by rw [h.bas g hd]; exact h1, VR.mono h _ _ h2⟩, r.frz,
    fun ho => by rw [h.bas g hd, h.endc g hd]; exact r.opn (by rw [← h.esz g hd]; exact ho)⟩
theorem OR.keep {κ κ' : Kap} {o : Obj} {w w' : World} (h : OR κ o w) (hk : κ.le κ') (hw : w'.heap[κ.blk o.g]? = w.heap[κ.blk o.g]?) : OR κ' o w' := by
  cases o with
  | cells g opn cs =>
    obtain ⟨hd, C, elem, fr, hb, hr⟩ := h
    refine ⟨hk.dom g hd, C, elem, fr, ?_, hr.mono hk hd⟩
    rw [hk.blk g hd]; exact hw.trans hb
  | vec g opn t xs => exact h.elim
  | map g es c =>
    obtain ⟨hd, ms, hb, hr⟩ := h
    refine ⟨hk.dom g hd, ms, ?_, hr.mono hk⟩
    rw [hk.blk g hd]; exact hw.trans hb
  | siter g s pos =>
    obtain ⟨hd, hb⟩ := h
    refine ⟨hk.dom g hd, ?_⟩
    rw [hk.blk g hd]; exact hw.trans hb

/-- An object is laid at position p. -/
theorem Rr.put {κ κ' : Kap} {h : Tr Obj} {w w' : World} (hR : Rr E N w0 κ h w) {p : Nat} {o : Obj} (hk : κ.le κ') (hphi : κ'.phi = κ.phi)
    (hbelow : Below N w0 w') (hsize : w.heap.size ≤ w'.heap.size)
    (hold : ∀ q o', h.get q = some o' → q ≠ p → w'.heap[κ.blk o'.g]? = w.heap[κ.blk o'.g]?)
    (hcell : ∀ a v, κ.phi a = some v → w'.cell? a = some v)
    (ho : OR κ' o w') (hN : N ≤ κ'.blk o.g) (hlt : κ'.blk o.g < w'.heap.size)
    (hne : ∀ q o', h.get q = some o' → q ≠ p → κ'.blk o.g ≠ κ.blk o'.g) (hnp : ∀ a v, κ.phi a = some v → κ'.blk o.g ≠ a.block) :
    Rr E N w0 κ' (Tr.set (some o) h p) w' := by
  have dom : ∀ q o', h.get q = some o' → κ'.blk o'.g = κ.blk o'.g := fun q o' hq => hk.blk _ (hR.obj q o' hq).1.dom
  refine ⟨hbelow, Nat.le_trans hR.big hsize, fun q o' hq => ?_, fun q r o1 o2 h1 h2 hqr => ?_, fun a v ha => ⟨hcell a v (hphi ▸ ha), fun q o' hq => ?_⟩, fun b cs off d h1 h2 => ?_⟩
  · rw [Tr.get_set] at hq
    split at hq
    · cases hq; exact ⟨ho, hN, hlt⟩
    · rename_i hqp
      obtain ⟨h1, h2, h3⟩ := hR.obj q o' hq
      rw [dom q o' hq]
      exact ⟨h1.keep hk (hold q o' hq hqp), h2, by omega⟩
  · rw [Tr.get_set] at h1 h2
    split at h1
    · cases h1
      rw [if_neg (by omega)] at h2
      rw [dom r o2 h2]; exact hne r o2 h2 (by omega)
    · rename_i hq
      split at h2
      · cases h2
        rw [dom q o1 h1]; exact fun e => hne q o1 h1 hq e.symm
      · rw [dom q o1 h1, dom r o2 h2]; exact hR.apart q r o1 o2 h1 h2 hqr
  · rw [Tr.get_set] at hq
    rw [hphi] at ha
    split at hq
    · cases hq; exact hnp a v ha
    · rw [dom q o' hq]; exact (hR.phi a v ha).2 q o' hq
  · obtain ⟨v, e1, e2⟩ := hR.glob b cs off d h1 h2
    exact ⟨v, by rw [hphi]; exact e1, VR.mono hk _ _ e2⟩

/-- one stamp more -/
def Kap.add (κ : Kap) (e b s c z : Nat) : Kap :=
  { dom := fun g => κ.dom g ∨ g = e, blk := fun g => if g = e then b else κ.blk g, bas := fun g => if g = e then s else κ.bas g,
    endc := fun g => if g = e then c else κ.endc g, esz := fun g => if g = e then z else κ.esz g, phi := κ.phi }
theorem Kap.add_le {κ : Kap} {e : Nat} (h : ¬ κ.dom e) (b s c z : Nat) : κ.le (κ.add e b s c z) := by
  have ne : ∀ g, κ.dom g → g ≠ e := fun g hg he => h (he ▸ hg)
  exact ⟨fun g hg => .inl hg, fun g hg => if_neg (ne g hg), fun g hg => if_neg (ne g hg), fun g hg => if_neg (ne g hg), fun g hg => if_neg (ne g hg), fun a v hv => hv⟩

theorem heap_alloc (w : World) (X : Go.Obj) : (w.alloc X).heap[w.heap.size]? = some X := by
  show (w.heap.push X)[w.heap.size]? = some X
  simp

/-- A new block, and the object that stands for it. -/
theorem Rr.alloc {κ : Kap} {h : Tr Obj} {w : World} (hR : Rr E N w0 κ h w) {p e : Nat} {o : Obj} {X : Go.Obj} (he : ¬ κ.dom e) (hg : o.g = e) (s c z : Nat)
    (ho : OR (κ.add e w.heap.size s c z) o (w.alloc X)) : Rr E N w0 (κ.add e w.heap.size s c z) (Tr.set (some o) h p) (w.alloc X) := by
  have hb : (κ.add e w.heap.size s c z).blk o.g = w.heap.size := by rw [hg]; exact if_pos rfl
  refine hR.put (Kap.add_le he _ _ _ _) rfl (hR.below.alloc hR.big X) (by simp) (fun q o' hq _ => Below.heap_alloc _ _ _ (hR.obj q o' hq).2.2) (fun a v ha => ?_) ho
    (by rw [hb]; exact hR.big) (by rw [hb]; simp) (fun q o' hq _ => by rw [hb]; have := (hR.obj q o' hq).2.2; omega) (fun a v ha => ?_)
  · have hc := (hR.phi a v ha).1
    rw [World.cell?_alloc_lt _ _ _ (World.block_lt_of_cell? w a hc)]; exact hc
  · rw [hb]
    have := World.block_lt_of_cell? w a (hR.phi a v ha).1
    omega

theorem Ext.add {κ : Kap} {e : Nat} (h : ¬ κ.dom e) (b s c z : Nat) : Ext κ (κ.add e b s c z) e (e + 1) :=
  ⟨Kap.add_le h _ _ _ _, fun g hg => by rcases hg with hg | hg; exact .inl hg; exact .inr (by omega)⟩

/-- what 'M.new' answers -/
def RowQ (κ : Kap) (pe : Nat × Nat) (ad : Addr) : Prop := κ.dom pe.2 ∧ κ.bas pe.2 = 0 ∧ ad = ⟨κ.blk pe.2, 0, none⟩

theorem M.new_eq (opn : Bool) (cs : List DV) (S : St) : M.new opn cs S =
    some ((S.pos, S.ep), ⟨Tr.set (some (.cells S.ep opn cs)) S.heap S.pos, S.pos + 1, S.ep + 1, ⟨S.lg.thr, S.lg.rl, S.lg.wl, (if S.pos < S.lg.thr then [S.pos] else []) ++ S.lg.wo⟩, S.sy⟩) := by
  unfold M.new
  rw [M.bind_of (M.fresh_eq S)]
  simp only
  rw [M.bind_of (M.wrO_of (Nat.lt_succ_self _))]
  rfl

/-- A closed row is made. -/
theorem Sim.new {κ : Kap} {cs : List DV} {elem : TypeId} {C : Array Value} (h : VRL κ cs C.toList) :
    Sim P E N w0 κ RowQ (M.new false cs) (newRow elem C) := by
  intro S a S' w h0 e hp hR hF
  rw [M.new_eq] at e
  cases e
  have he : ¬ κ.dom S.ep := hF S.ep (Nat.le_refl _) (Nat.lt_succ_self _)
  refine ⟨κ.add S.ep w.heap.size 0 0 0, ⟨w.heap.size, 0, none⟩, w.alloc (.cells C elem), Ext.add he _ _ _ _, ?_, ⟨.inr rfl, if_pos rfl, ?_⟩, ?_⟩
  · simp only [newRow, Sem.run_bind, run_newObj, Result.andThen_ok, Sem.run_pure]; rfl
  · show _ = (⟨if S.ep = S.ep then w.heap.size else _, 0, none⟩ : Addr); rw [if_pos rfl]
  · refine hR.alloc he rfl 0 0 0 ⟨.inr rfl, C, elem, (0, 0), ?_, ?_⟩
    · show (w.alloc _).heap[if S.ep = S.ep then w.heap.size else _]? = _
      rw [if_pos rfl]; exact heap_alloc w _
    · have hb : (κ.add S.ep w.heap.size 0 0 0).bas S.ep = 0 := if_pos rfl
      have hl := VRL.length _ _ h
      have hz : (κ.add S.ep w.heap.size 0 0 0).esz S.ep = 0 := if_pos rfl
      refine ⟨by rw [hb]; simp at hl; omega, fun j d hj => ?_, fun j _ h => by omega, fun h => by rw [hz] at h; omega⟩
      obtain ⟨v, hv, hr⟩ := VRL.get _ _ h j d hj
      exact ⟨v, by rw [hb, Nat.zero_add, ← Array.getElem?_toList]; exact hv, VR.mono (Kap.add_le he _ _ _ _) _ _ hr⟩

/-! ### stores -/
theorem run_storeCells_row {w : World} {b : Nat} {C : Array Value} {e : TypeId} {fr : Nat × Nat} : ∀ (vs : List Value) (o i : Nat) (C : Array Value) (w : World), w.heap[b]? = some (.cells C e fr) →
    o + i + vs.length ≤ C.size → (∀ v ∈ vs, v.oneCell' = true) → (∀ j, j < C.size → ¬ (fr.1 ≤ j ∧ j < fr.2)) →
    ∃ C' w', (storeCells ⟨b, o, none⟩ vs i).run P w = .ok () w' ∧ w'.heap[b]? = some (.cells C' e fr) ∧ C'.size = C.size ∧ w'.heap.size = w.heap.size ∧ w'.os = w.os ∧ w'.tape = w.tape ∧ w'.output = w.output ∧
      (∀ k, k ≠ b → w'.heap[k]? = w.heap[k]?) ∧ ∀ j, C'[j]? = if o + i ≤ j ∧ j < o + i + vs.length then vs[j - (o + i)]? else C[j]? := by
  intro vs
  induction vs with
  | nil =>
    intro o i C w hb hl _ _
    exact ⟨C, w, rfl, hb, rfl, rfl, rfl, rfl, rfl, fun _ _ => rfl, fun j => by rw [if_neg (by simp)]⟩
  | cons v vs ih =>
    intro o i C w hb hl h1 hf
    simp only [List.length_cons] at hl
    have hc : w.cell? ⟨b, o + i, none⟩ = some (C[o + i]'(by omega)) := by rw [cell_of hb]; exact Array.getElem?_eq_getElem (by omega)
    have hfr : w.frozen? ⟨b, o + i, none⟩ = false := by
      unfold World.frozen?
      simp only [hb]
      have := hf (o + i) (by omega)
      cases h : (decide (fr.1 ≤ o + i) && decide (o + i < fr.2)) with
      | false => rfl
      | true => simp at h; exact absurd h this
    have hst : (store ((⟨b, o, none⟩ : Addr).add i) v).run P w = .ok () (w.setCell ⟨b, o + i, none⟩ v) := by
      rw [add_cell, run_store P w _ v _ (h1 v (List.mem_cons_self ..)), hc]
      simp only [hfr]; rfl
    have hb' : (w.setCell ⟨b, o + i, none⟩ v).heap[b]? = some (.cells (C.setIfInBounds (o + i) v) e fr) := by
      simp [World.setCell, Array.getElem?_modify, hb]
    obtain ⟨C', w', r1, r2, r3, r4, r5, r6, r7, r8, r9⟩ := ih o (i + 1) (C.setIfInBounds (o + i) v) (w.setCell ⟨b, o + i, none⟩ v) hb' (by simp; omega) (fun u hu => h1 u (List.mem_cons_of_mem _ hu)) (by simpa using hf)
    refine ⟨C', w', ?_, r2, by rw [r3]; simp, by rw [r4]; simp, by rw [r5]; rfl, by rw [r6]; rfl, by rw [r7]; rfl, fun k hk => ?_, fun j => ?_⟩
    · simp only [storeCells, Sem.run_bind, hst, Result.andThen_ok]; exact r1
    · rw [r8 k hk]; exact Below.heap_setCell _ _ _ _ hk
    · rw [r9 j]
      simp only [List.length_cons]
      by_cases hj : o + i ≤ j ∧ j < o + i + (vs.length + 1)
      · rw [if_pos hj]
        by_cases hj2 : j = o + i
        · subst hj2
          rw [if_neg (by omega), Nat.sub_self, List.getElem?_cons_zero, Array.getElem?_setIfInBounds_self_of_lt (by omega)]
        · rw [if_pos (by omega), show j - (o + i) = (j - (o + (i + 1))) + 1 by omega, List.getElem?_cons_succ]
      · rw [if_neg hj, if_neg (by omega), Array.getElem?_setIfInBounds_ne (by omega)]

theorem below_of {N : Nat} {w0 w w' : World} {b : Nat} (h : Below N w0 w) (hb : N ≤ b) (h1 : w'.os = w.os) (h2 : w'.tape = w.tape) (h3 : w'.output = w.output) (h4 : w'.heap.size = w.heap.size)
    (h5 : ∀ k, k ≠ b → w'.heap[k]? = w.heap[k]?) : Below N w0 w' :=
  ⟨h1.trans h.os, h2.trans h.tape, h3.trans h.output, by rw [h4]; exact h.size, fun k hk => (h5 k (by omega)).trans (h.block k hk)⟩

/-- Cells of an own row are written. -/
theorem Sim.stc {κ : Kap} {g p off : Nat} {ad : Addr} {vs : List DV} {us : List Value} (ha : ad = ⟨κ.blk g, κ.bas g + off, none⟩) (hv : VRL κ vs us) (hs : allScal vs = true) :
    Sim P E N w0 κ (fun _ _ _ => True) (M.stc g p off vs) (storeCells ad us) := by
  intro S a S' w h0 e hp hR hF
  obtain ⟨g', S1, e1, e2⟩ := M.bind_some e
  obtain ⟨opn, cs, cs', hg, hc, rfl⟩ := M.rowPut_some e1
  obtain ⟨c1, c2, c3, c4, c5⟩ := M.chk_some e2
  obtain rfl : g = g' := beq_true (c5 hp).1
  obtain ⟨hdom, C, elem, fr, hb, hrow⟩ := hR.row hg
  obtain ⟨l1, l2, l3⟩ := lput_length vs off cs cs' hc
  have hul := VRL.length _ _ hv
  have hone : ∀ u ∈ us, u.oneCell' = true := by
    intro u hu
    obtain ⟨i, hi⟩ := List.mem_iff_getElem?.1 hu
    have hlt : i < vs.length := by rw [← hul]; exact (List.getElem?_eq_some_iff.1 hi).1
    obtain ⟨v, h1, h2⟩ := VRL.get _ _ hv i vs[i] (List.getElem?_eq_getElem hlt)
    rw [hi] at h1; cases h1
    exact (scal_one h2 (allScal_mem hs _ (List.getElem_mem hlt))).1
  subst ha
  have hsz := hrow.size
  obtain ⟨C', w', r1, r2, r3, r4, r5, r6, r7, r8, r9⟩ := run_storeCells_row (P := P) (w := w) (C := C) us (κ.bas g + off) 0 C w hb (by omega) hone hrow.frz
  refine ⟨κ, (), w', Ext.refl _ _ _, r1, trivial, ?_⟩
  rw [c1]
  obtain ⟨ho, hN, hlt⟩ := hR.obj p _ hg
  refine hR.put (Kap.le.refl κ) rfl (below_of hR.below hN r5 r6 r7 r4 r8) (by omega) (fun q o' hq hqp => r8 _ (hR.apart q p o' _ hq hg hqp)) (fun a v ha => ?_) ?_ hN (by rw [r4]; exact hlt)
    (fun q o' hq hqp => (hR.apart q p o' _ hq hg hqp).symm) (fun a v ha => show κ.blk g ≠ a.block from (hR.phi a v ha).2 p (.cells g opn cs) hg)
  · have := hR.phi a v ha
    rw [World.cell?_of_block (w := w) (r8 _ (this.2 p _ hg).symm)]; exact this.1
  · refine ⟨hdom, C', elem, fr, r2, ⟨by omega, fun j d hj => ?_, by rw [r3]; exact hrow.frz, fun h => by have := hrow.opn h; omega⟩⟩
    rw [l3] at hj
    rw [r9]
    by_cases hjj : off ≤ j ∧ j < off + vs.length
    · rw [if_pos hjj] at hj
      rw [if_pos (by omega)]
      obtain ⟨u, h1, h2⟩ := VRL.get _ _ hv _ d hj
      exact ⟨u, by rw [← h1]; congr 1; omega, h2⟩
    · rw [if_neg hjj] at hj
      rw [if_neg (by omega)]
      exact hrow.cell j d hj
end
end Go.Am
