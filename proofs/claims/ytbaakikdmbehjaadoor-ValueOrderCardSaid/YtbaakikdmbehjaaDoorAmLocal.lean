/- What a computation of the abstract machine reads and writes, and that it does the same wherever that is the same. -/
import Derived.Test.YtbaakikdmbehjaaDoorAmEval
set_option linter.unusedVariables false
set_option linter.unusedSimpArgs false
set_option linter.unusedSectionVars false
namespace Go.Am

inductive Meta where
  | row (g : Nat) (opn : Bool) (n : Nat)
  | whole (o : Obj)

def Obj.meta_ : Obj → Meta
  | .cells g opn cs => .row g opn cs.length
  | o => .whole o
def Obj.cell_ (o : Obj) (j : Nat) : Option DV := match o with
  | .cells _ _ cs => cs[j]?
  | _ => none

noncomputable def St.mt (S : St) (p : Nat) : Option Meta := (S.heap.get p).map Obj.meta_
noncomputable def St.ce (S : St) (p j : Nat) : Option DV := (S.heap.get p).bind fun o => o.cell_ j

/-- footprints -/
structure Foot where
  rm : Nat → Prop
  rc : Nat → Nat → Prop
  wc : Nat → Nat → Prop
  wo : Nat → Prop

def Foot.none : Foot := ⟨fun _ => False, fun _ _ => False, fun _ _ => False, fun _ => False⟩
def Foot.or (F G : Foot) : Foot := ⟨fun p => F.rm p ∨ G.rm p, fun p j => F.rc p j ∨ G.rc p j, fun p j => F.wc p j ∨ G.wc p j, fun p => F.wo p ∨ G.wo p⟩

/-- The same but for F's writes. -/
structure Keeps (F : Foot) (S S' : St) : Prop where
  mt : ∀ p, ¬ F.wo p → S'.mt p = S.mt p
  ce : ∀ p j, ¬ F.wo p → ¬ F.wc p j → S'.ce p j = S.ce p j
  bnd : ∀ p, (F.rm p ∨ (∃ j, F.rc p j) ∨ (∃ j, F.wc p j) ∨ F.wo p) → p < S'.pos

/-- T' and S' agree on what F writes. -/
structure Wrote (F : Foot) (T' S' : St) : Prop where
  mt : ∀ p, F.wo p → T'.mt p = S'.mt p
  co : ∀ p j, F.wo p → T'.ce p j = S'.ce p j
  ce : ∀ p j, F.wc p j → T'.ce p j = S'.ce p j

structure Reads (F : Foot) (T S : St) : Prop where
  mt : ∀ p, F.rm p → T.mt p = S.mt p
  ce : ∀ p j, F.rc p j → T.ce p j = S.ce p j

structure Diff where
  rl : List (Nat × Nat × Nat)
  wl : List (Nat × Nat × Nat)
  wo : List Nat
  ds : List Bool
  phi : List Prop

def Diff.nil : Diff := ⟨[], [], [], [], []⟩
def Diff.app (D E : Diff) : Diff := ⟨E.rl ++ D.rl, E.wl ++ D.wl, E.wo ++ D.wo, D.ds ++ E.ds, E.phi ++ D.phi⟩

/-- from S to S' by the differences D -/
structure Step (D : Diff) (S S' : St) : Prop where
  thr : S'.lg.thr = S.lg.thr
  sym : S'.sy.sym = S.sy.sym
  pos : S.pos ≤ S'.pos
  ep : S.ep ≤ S'.ep
  rl : S'.lg.rl = D.rl ++ S.lg.rl
  wl : S'.lg.wl = D.wl ++ S.lg.wl
  wo : S'.lg.wo = D.wo ++ S.lg.wo
  ds : S.sy.ds = D.ds ++ S'.sy.ds
  phi : S'.sy.phi = D.phi ++ S.sy.phi

/-- the log covers the footprints below the threshold -/
structure Covers (thr : Nat) (D : Diff) (F : Foot) : Prop where
  rm : ∀ p, p < thr → F.rm p → (∃ x ∈ D.rl, x.1 = p) ∨ (∃ x ∈ D.wl, x.1 = p)
  rc : ∀ p j, p < thr → F.rc p j → ∃ x ∈ D.rl, x.1 = p ∧ x.2.1 ≤ j ∧ j < x.2.1 + x.2.2
  wc : ∀ p j, p < thr → F.wc p j → ∃ x ∈ D.wl, x.1 = p ∧ x.2.1 ≤ j ∧ j < x.2.1 + x.2.2
  wo : ∀ p, p < thr → F.wo p → p ∈ D.wo

/-- T may take S's place at the start of a computation that asks the oracle D.ds. -/
structure Like (D : Diff) (T S : St) : Prop where
  pos : T.pos = S.pos
  ep : T.ep = S.ep
  thr : T.lg.thr = S.lg.thr
  sym : T.sy.sym = S.sy.sym
  ds : ∃ r, T.sy.ds = D.ds ++ r

def Local {α : Type} (m : M α) : Prop := ∀ S a S', S.lg.thr ≤ S.pos → m S = some (a, S') → ∃ (F : Foot) (D : Diff),
  Step D S S' ∧ Keeps F S S' ∧ Covers S.lg.thr D F ∧
  ∀ T, Like D T S → Reads F T S → ∃ T', m T = some (a, T') ∧ Step D T T' ∧ T'.pos = S'.pos ∧ T'.ep = S'.ep ∧ Keeps F T T' ∧ Wrote F T' S'

theorem Step.nil (S : St) : Step .nil S S := ⟨rfl, rfl, Nat.le_refl _, Nat.le_refl _, rfl, rfl, rfl, rfl, rfl⟩
theorem Keeps.refl (S : St) : Keeps .none S S := ⟨fun _ _ => rfl, fun _ _ _ _ => rfl, fun _ h => by rcases h with h | ⟨_, h⟩ | ⟨_, h⟩ | h <;> exact h.elim⟩
theorem Step.trans {D E : Diff} {S S' S'' : St} (h : Step D S S') (k : Step E S' S'') : Step (D.app E) S S'' :=
  ⟨k.thr.trans h.thr, k.sym.trans h.sym, Nat.le_trans h.pos k.pos, Nat.le_trans h.ep k.ep,
    by rw [k.rl, h.rl]; exact (List.append_assoc ..).symm, by rw [k.wl, h.wl]; exact (List.append_assoc ..).symm, by rw [k.wo, h.wo]; exact (List.append_assoc ..).symm,
    by rw [h.ds, k.ds]; exact (List.append_assoc ..).symm, by rw [k.phi, h.phi]; exact (List.append_assoc ..).symm⟩

theorem Local.pure {α : Type} (a : α) : Local (M.pure a) := by
  intro S b S' _ h
  cases h
  exact ⟨.none, .nil, Step.nil _, Keeps.refl _, ⟨fun _ _ h => h.elim, fun _ _ _ h => h.elim, fun _ _ _ h => h.elim, fun _ _ h => h.elim⟩, fun T hT _ =>
    ⟨T, rfl, Step.nil _, hT.pos, hT.ep, Keeps.refl _, ⟨fun _ h => h.elim, fun _ _ h => h.elim, fun _ _ h => h.elim⟩⟩⟩
theorem Local.fail {α : Type} : Local (M.fail : M α) := by intro S b S' _ h; cases h
theorem Local.opt {α : Type} (o : Option α) : Local (M.opt o) := by
  cases o with
  | none => exact Local.fail
  | some a => exact Local.pure a

theorem M.bind_some {α β : Type} {m : M α} {f : α → M β} {S : St} {b : β} {S' : St} (h : M.bind m f S = some (b, S')) : ∃ a S1, m S = some (a, S1) ∧ f a S1 = some (b, S') := by
  unfold M.bind at h
  split at h
  · rename_i a S1 h1; exact ⟨a, S1, h1, h⟩
  · cases h
theorem M.bind_of {α β : Type} {m : M α} {f : α → M β} {S : St} {a : α} {S1 : St} (h : m S = some (a, S1)) : M.bind m f S = f a S1 := by
  unfold M.bind; rw [h]

theorem Local.bind {α β : Type} {m : M α} {f : α → M β} (hm : Local m) (hf : ∀ a, Local (f a)) : Local (M.bind m f) := by
  intro S b S'' h0 h
  obtain ⟨a, S', h1, h2⟩ := M.bind_some h
  obtain ⟨F, D, s1, k1, c1, r1⟩ := hm S a S' h0 h1
  obtain ⟨G, E, s2, k2, c2, r2⟩ := hf a S' b S'' (by rw [s1.thr]; exact Nat.le_trans h0 s1.pos) h2
  have keeps : ∀ {X Y Z : St}, Y.pos ≤ Z.pos → Keeps F X Y → Keeps G Y Z → Keeps (F.or G) X Z := by
    intro X Y Z hpos hx hy
    refine ⟨fun p hp => ?_, fun p j hp hj => ?_, fun p hp => ?_⟩
    · rw [hy.mt p fun h => hp (.inr h), hx.mt p fun h => hp (.inl h)]
    · rw [hy.ce p j (fun h => hp (.inr h)) (fun h => hj (.inr h)), hx.ce p j (fun h => hp (.inl h)) (fun h => hj (.inl h))]
    · rcases hp with (h | h) | ⟨j, h | h⟩ | ⟨j, h | h⟩ | (h | h)
      · exact Nat.lt_of_lt_of_le (hx.bnd p (.inl h)) hpos
      · exact hy.bnd p (.inl h)
      · exact Nat.lt_of_lt_of_le (hx.bnd p (.inr (.inl ⟨j, h⟩))) hpos
      · exact hy.bnd p (.inr (.inl ⟨j, h⟩))
      · exact Nat.lt_of_lt_of_le (hx.bnd p (.inr (.inr (.inl ⟨j, h⟩)))) hpos
      · exact hy.bnd p (.inr (.inr (.inl ⟨j, h⟩)))
      · exact Nat.lt_of_lt_of_le (hx.bnd p (.inr (.inr (.inr h)))) hpos
      · exact hy.bnd p (.inr (.inr (.inr h)))
  refine ⟨F.or G, D.app E, s1.trans s2, keeps s2.pos k1 k2, ?_, ?_⟩
  · rw [s1.thr] at c2
    refine ⟨fun p hp h => ?_, fun p j hp h => ?_, fun p j hp h => ?_, fun p hp h => ?_⟩
    · rcases h with h | h
      · rcases c1.rm p hp h with ⟨x, hx, e⟩ | ⟨x, hx, e⟩
        · exact .inl ⟨x, List.mem_append_right _ hx, e⟩
        · exact .inr ⟨x, List.mem_append_right _ hx, e⟩
      · rcases c2.rm p hp h with ⟨x, hx, e⟩ | ⟨x, hx, e⟩
        · exact .inl ⟨x, List.mem_append_left _ hx, e⟩
        · exact .inr ⟨x, List.mem_append_left _ hx, e⟩
    · rcases h with h | h
      · obtain ⟨x, hx, e⟩ := c1.rc p j hp h; exact ⟨x, List.mem_append_right _ hx, e⟩
      · obtain ⟨x, hx, e⟩ := c2.rc p j hp h; exact ⟨x, List.mem_append_left _ hx, e⟩
    · rcases h with h | h
      · obtain ⟨x, hx, e⟩ := c1.wc p j hp h; exact ⟨x, List.mem_append_right _ hx, e⟩
      · obtain ⟨x, hx, e⟩ := c2.wc p j hp h; exact ⟨x, List.mem_append_left _ hx, e⟩
    · rcases h with h | h
      · exact List.mem_append_right _ (c1.wo p hp h)
      · exact List.mem_append_left _ (c2.wo p hp h)
  · intro T hT hR
    obtain ⟨r, hr⟩ := hT.ds
    obtain ⟨T', e1, t1, tp, te, tk, tw⟩ := r1 T ⟨hT.pos, hT.ep, hT.thr, hT.sym, ⟨E.ds ++ r, by rw [hr]; exact List.append_assoc ..⟩⟩ ⟨fun p h => hR.mt p (.inl h), fun p j h => hR.ce p j (.inl h)⟩
    have hds : T'.sy.ds = E.ds ++ r := by
      have := t1.ds
      rw [hr] at this
      have e : D.ds ++ (E.ds ++ r) = D.ds ++ T'.sy.ds := by rw [← this]; exact (List.append_assoc ..).symm
      exact (List.append_cancel_left e).symm
    obtain ⟨T'', e2, t2, tp2, te2, tk2, tw2⟩ := r2 T' ⟨tp, te, by rw [t1.thr, s1.thr, hT.thr], by rw [t1.sym, s1.sym, hT.sym], ⟨r, hds⟩⟩
      ⟨fun p h => by
        by_cases hw : F.wo p
        · exact tw.mt p hw
        · rw [tk.mt p hw, k1.mt p hw]; exact hR.mt p (.inr h),
       fun p j h => by
        by_cases hw : F.wo p
        · exact tw.co p j hw
        · by_cases hc : F.wc p j
          · exact tw.ce p j hc
          · rw [tk.ce p j hw hc, k1.ce p j hw hc]; exact hR.ce p j (.inr h)⟩
    refine ⟨T'', by rw [M.bind_of e1]; exact e2, t1.trans t2, tp2, te2, keeps t2.pos tk tk2, ?_⟩
    have cells : ∀ p j, (T'.ce p j = S'.ce p j) → T''.ce p j = S''.ce p j := by
      intro p j h
      by_cases hw : G.wo p
      · exact tw2.co p j hw
      · by_cases hc : G.wc p j
        · exact tw2.ce p j hc
        · rw [tk2.ce p j hw hc, k2.ce p j hw hc, h]
    refine ⟨fun p h => ?_, fun p j h => ?_, fun p j h => ?_⟩
    · by_cases hw : G.wo p
      · exact tw2.mt p hw
      · rw [tk2.mt p hw, k2.mt p hw]; exact tw.mt p (h.resolve_right hw)
    · rcases h with h | h
      · exact cells p j (tw.co p j h)
      · exact tw2.co p j h
    · rcases h with h | h
      · exact cells p j (tw.ce p j h)
      · exact tw2.ce p j h

/-- A computation that leaves memory alone, and asks and notes the same everywhere. -/
theorem Local.ctl {α : Type} {m : M α} (h : ∀ hp n e lg sy a S', m ⟨hp, n, e, lg, sy⟩ = some (a, S') → ∃ n' e' dds dphi, n ≤ n' ∧ e ≤ e' ∧
    (∃ r, sy.ds = dds ++ r ∧ S' = ⟨hp, n', e', lg, ⟨sy.sym, r, dphi ++ sy.phi⟩⟩) ∧
    ∀ hp2 lg2 phi2 r2, m ⟨hp2, n, e, lg2, ⟨sy.sym, dds ++ r2, phi2⟩⟩ = some (a, ⟨hp2, n', e', lg2, ⟨sy.sym, r2, dphi ++ phi2⟩⟩)) : Local m := by
  rintro ⟨hp, n, e, lg, sy⟩ a S' _ hm
  obtain ⟨n', e', dds, dphi, hn, he, ⟨r, hr, rfl⟩, hT⟩ := h _ _ _ _ _ _ _ hm
  refine ⟨.none, ⟨[], [], [], dds, dphi⟩, ⟨rfl, rfl, hn, he, rfl, rfl, rfl, hr, rfl⟩, ⟨fun _ _ => rfl, fun _ _ _ _ => rfl, fun _ h => by rcases h with h | ⟨_, h⟩ | ⟨_, h⟩ | h <;> exact h.elim⟩,
    ⟨fun _ _ h => h.elim, fun _ _ _ h => h.elim, fun _ _ _ h => h.elim, fun _ _ h => h.elim⟩, ?_⟩
  rintro ⟨hp2, n2, e2, lg2, ⟨sym2, ds2, phi2⟩⟩ hT2 _
  obtain ⟨h1, h2, h3, h4, ⟨r2, h5⟩⟩ := hT2
  simp only at h1 h2 h3 h4 h5
  subst h1 h2 h4 h5
  exact ⟨_, hT hp2 lg2 phi2 r2, ⟨rfl, rfl, hn, he, rfl, rfl, rfl, rfl, rfl⟩, rfl, rfl, ⟨fun _ _ => rfl, fun _ _ _ _ => rfl, fun _ h => by rcases h with h | ⟨_, h⟩ | ⟨_, h⟩ | h <;> exact h.elim⟩,
    ⟨fun _ h => h.elim, fun _ _ h => h.elim, fun _ _ h => h.elim⟩⟩

theorem Local.chk (b : Bool) : Local (M.chk b) := by
  refine Local.ctl ?_
  rintro hp n e lg ⟨sym, ds, phi⟩ a S' h
  cases sym with
  | true =>
    cases h
    exact ⟨n, e, [], [b = true], Nat.le_refl _, Nat.le_refl _, ⟨ds, rfl, rfl⟩, fun hp2 lg2 phi2 r2 => rfl⟩
  | false =>
    cases b with
    | true => cases h; exact ⟨n, e, [], [], Nat.le_refl _, Nat.le_refl _, ⟨ds, rfl, rfl⟩, fun hp2 lg2 phi2 r2 => rfl⟩
    | false => cases h
theorem Local.dec (b : Bool) : Local (M.dec b) := by
  refine Local.ctl ?_
  rintro hp n e lg ⟨sym, ds, phi⟩ a S' h
  cases sym with
  | true =>
    cases ds with
    | nil => cases h
    | cons d ds =>
      have h' : some (d, (⟨hp, n, e, lg, ⟨true, ds, (b = d) :: phi⟩⟩ : St)) = some (a, S') := h
      injection h' with h'
      injection h' with h1 h2
      subst h1 h2
      exact ⟨n, e, [d], [b = d], Nat.le_refl _, Nat.le_refl _, ⟨ds, rfl, rfl⟩, fun hp2 lg2 phi2 r2 => rfl⟩
  | false =>
    cases b with
    | true => cases h; exact ⟨n, e, [], [], Nat.le_refl _, Nat.le_refl _, ⟨ds, rfl, rfl⟩, fun hp2 lg2 phi2 r2 => rfl⟩
    | false => cases h; exact ⟨n, e, [], [], Nat.le_refl _, Nat.le_refl _, ⟨ds, rfl, rfl⟩, fun hp2 lg2 phi2 r2 => rfl⟩
theorem M.val_eq (v : DV) (S : St) : M.val v S = some (v, S) := by
  rcases S with ⟨hp, n, e, lg, ⟨sym, ds, phi⟩⟩
  cases sym with
  | true => rfl
  | false =>
    cases v with
    | int k x => exact forceInt_eq x (fun x => some (DV.int k x, (⟨hp, n, e, lg, ⟨false, ds, phi⟩⟩ : St)))
    | bool b => cases b <;> rfl
    | _ => rfl
theorem Local.val (v : DV) : Local (M.val v) := by
  have : M.val v = M.pure v := funext fun S => M.val_eq v S
  rw [this]; exact Local.pure v
theorem M.fresh_eq (S : St) : M.fresh S = some ((S.pos, S.ep), { S with pos := S.pos + 1, ep := S.ep + 1 }) := by
  rcases S with ⟨hp, n, e, lg, sy⟩
  exact (forceNat_eq (n + 1) (fun n' => forceNat (e + 1) fun e' => some ((n, e), (⟨hp, n', e', lg, sy⟩ : St)))).trans (forceNat_eq (e + 1) (fun e' => some ((n, e), (⟨hp, n + 1, e', lg, sy⟩ : St))))
theorem M.stamp_eq (S : St) : M.stamp S = some (S.ep, { S with ep := S.ep + 1 }) := by
  rcases S with ⟨hp, n, e, lg, sy⟩
  exact forceNat_eq (e + 1) (fun e' => some (e, (⟨hp, n, e', lg, sy⟩ : St)))
theorem Local.fresh : Local M.fresh := by
  refine Local.ctl ?_
  rintro hp n e lg ⟨sym, ds, phi⟩ a S' h
  rw [M.fresh_eq] at h
  cases h
  exact ⟨n + 1, e + 1, [], [], by omega, by omega, ⟨ds, rfl, rfl⟩, fun hp2 lg2 phi2 r2 => by rw [M.fresh_eq]; rfl⟩
theorem Local.stamp : Local M.stamp := by
  refine Local.ctl ?_
  rintro hp n e lg ⟨sym, ds, phi⟩ a S' h
  rw [M.stamp_eq] at h
  cases h
  exact ⟨n, e + 1, [], [], by omega, by omega, ⟨ds, rfl, rfl⟩, fun hp2 lg2 phi2 r2 => by rw [M.stamp_eq]; rfl⟩

/-! ### memory -/
theorem beq_true {a b : Nat} (h : Nat.beq a b = true) : a = b := Nat.eq_of_beq_eq_true h

theorem St.mt_set (h : Tr Obj) (p : Nat) (o : Obj) (n e : Nat) (lg : Log) (sy : Sy) (q : Nat) :
    St.mt ⟨Tr.set (some o) h p, n, e, lg, sy⟩ q = if q = p then some o.meta_ else (h.get q).map Obj.meta_ := by
  show ((Tr.set (some o) h p).get q).map _ = _
  rw [Tr.get_set]; split <;> rfl
theorem St.ce_set (h : Tr Obj) (p : Nat) (o : Obj) (n e : Nat) (lg : Log) (sy : Sy) (q j : Nat) :
    St.ce ⟨Tr.set (some o) h p, n, e, lg, sy⟩ q j = if q = p then o.cell_ j else (h.get q).bind fun o => o.cell_ j := by
  show ((Tr.set (some o) h p).get q).bind _ = _
  rw [Tr.get_set]; split <;> rfl

theorem logW (thr p : Nat) (h : Tr Obj) (n e : Nat) (rl wl : List (Nat × Nat × Nat)) (wo : List Nat) (sy : Sy) :
    (cond (Nat.blt p thr) (some ((), (⟨h, n, e, ⟨thr, rl, wl, p :: wo⟩, sy⟩ : St))) (some ((), ⟨h, n, e, ⟨thr, rl, wl, wo⟩, sy⟩))) =
      some ((), ⟨h, n, e, ⟨thr, rl, wl, (if p < thr then [p] else []) ++ wo⟩, sy⟩) := by
  by_cases hp : p < thr
  · rw [show Nat.blt p thr = true from Nat.ble_eq_true_of_le hp, if_pos hp]; rfl
  · rw [show Nat.blt p thr = false from by
      cases e : Nat.blt p thr with
      | false => rfl
      | true => exact absurd (Nat.le_of_ble_eq_true e) hp, if_neg hp]; rfl

/-- a computation that touches p alone -/
def LocalAt {α : Type} (p : Nat) (m : M α) : Prop := ∀ S a S', p < S.pos → S.lg.thr ≤ S.pos → m S = some (a, S') → ∃ (F : Foot) (D : Diff),
  Step D S S' ∧ Keeps F S S' ∧ Covers S.lg.thr D F ∧
  ∀ T, Like D T S → Reads F T S → ∃ T', m T = some (a, T') ∧ Step D T T' ∧ T'.pos = S'.pos ∧ T'.ep = S'.ep ∧ Keeps F T T' ∧ Wrote F T' S'
theorem M.at_some {α : Type} {p : Nat} {m : M α} {S : St} {r : α × St} (h : M.at p m S = some r) : p < S.pos ∧ m S = some r := by
  rcases S with ⟨hp, n, e, lg, sy⟩
  change cond (Nat.blt p n) (m ⟨hp, n, e, lg, sy⟩) none = some r at h
  cases hb : Nat.blt p n with
  | false => rw [hb] at h; cases h
  | true => rw [hb] at h; exact ⟨Nat.le_of_ble_eq_true hb, h⟩
theorem M.at_of {α : Type} {p : Nat} {m : M α} {S : St} (h : p < S.pos) : M.at p m S = m S := by
  rcases S with ⟨hp, n, e, lg, sy⟩
  change cond (Nat.blt p n) (m ⟨hp, n, e, lg, sy⟩) none = _
  rw [show Nat.blt p n = true from Nat.ble_eq_true_of_le h]; rfl
theorem Local.at {α : Type} {p : Nat} {m : M α} (h : LocalAt p m) : Local (M.at p m) := by
  intro S a S' h0 e
  obtain ⟨hlt, e⟩ := M.at_some e
  obtain ⟨F, D, s, k, c, r⟩ := h S a S' hlt h0 e
  refine ⟨F, D, s, k, c, fun T hT hR => ?_⟩
  rw [M.at_of (by rw [hT.pos]; exact hlt)]
  exact r T hT hR

theorem M.wrO'_eq (p : Nat) (o : Obj) (S : St) : M.wrO' p o S =
    some ((), ⟨Tr.set (some o) S.heap p, S.pos, S.ep, ⟨S.lg.thr, S.lg.rl, S.lg.wl, (if p < S.lg.thr then [p] else []) ++ S.lg.wo⟩, S.sy⟩) := by
  rcases S with ⟨hp, n, e, ⟨thr, rl, wl, wo⟩, sy⟩
  show Tr.setK (some o) hp p _ = _
  rw [Tr.setK_eq]
  exact logW thr p _ n e rl wl wo sy

theorem Local.wrO' (p : Nat) (o : Obj) : LocalAt p (M.wrO' p o) := by
  rintro S ⟨⟩ S' hlt _ h
  rw [M.wrO'_eq] at h
  cases h
  refine ⟨⟨fun _ => False, fun _ _ => False, fun _ _ => False, fun q => q = p⟩, ⟨[], [], if p < S.lg.thr then [p] else [], [], []⟩, ⟨rfl, rfl, Nat.le_refl _, Nat.le_refl _, rfl, rfl, rfl, rfl, rfl⟩, ?_, ?_, ?_⟩
  · exact ⟨fun q hq => by rw [St.mt_set, if_neg hq]; rfl, fun q j hq _ => by rw [St.ce_set, if_neg hq]; rfl, fun q h => Nat.lt_of_le_of_lt (Nat.le_of_eq (show q = p from by rcases h with h | ⟨_, h⟩ | ⟨_, h⟩ | h <;> first | exact False.elim h | exact h | exact h.1)) (show p < S.pos from hlt)⟩
  · refine ⟨fun _ _ h => h.elim, fun _ _ _ h => h.elim, fun _ _ _ h => h.elim, fun q hq h => ?_⟩
    subst h
    show q ∈ (if q < S.lg.thr then [q] else [])
    rw [if_pos hq]; exact List.mem_singleton.2 rfl
  · intro T hT _
    refine ⟨_, M.wrO'_eq p o T, ⟨rfl, rfl, Nat.le_refl _, Nat.le_refl _, rfl, rfl, by rw [hT.thr], rfl, rfl⟩, hT.pos, hT.ep, ?_, ?_⟩
    · exact ⟨fun q hq => by rw [St.mt_set, if_neg hq]; rfl, fun q j hq _ => by rw [St.ce_set, if_neg hq]; rfl, fun q h => Nat.lt_of_le_of_lt (Nat.le_of_eq (show q = p from by rcases h with h | ⟨_, h⟩ | ⟨_, h⟩ | h <;> first | exact False.elim h | exact h | exact h.1)) (show p < T.pos from hT.pos ▸ hlt)⟩
    · refine ⟨fun q hq => ?_, fun q j hq => ?_, fun _ _ h => h.elim⟩
      · rw [St.mt_set, St.mt_set, if_pos hq, if_pos hq]
      · rw [St.ce_set, St.ce_set, if_pos hq, if_pos hq]

theorem M.rdO'_some {p : Nat} {S : St} {o : Obj} {S' : St} (h : M.rdO' p S = some (o, S')) : S.heap.get p = some o ∧ (∃ m, o.meta_ = .whole m ∧ m = o) ∧
    S' = ⟨S.heap, S.pos, S.ep, ⟨S.lg.thr, (if p < S.lg.thr then [(p, 0, 0)] else []) ++ S.lg.rl, S.lg.wl, S.lg.wo⟩, S.sy⟩ := by
  rcases S with ⟨hp, n, e, ⟨thr, rl, wl, wo⟩, sy⟩
  change (match hp.get p with
    | none => none
    | some o => _) = _ at h
  cases hg : hp.get p with
  | none => rw [hg] at h; cases h
  | some o' =>
    rw [hg] at h
    cases o' with
    | cells g opn cs => cases h
    | _ =>
      by_cases hp' : p < thr
      · rw [show Nat.blt p thr = true from Nat.ble_eq_true_of_le hp'] at h
        cases h
        exact ⟨rfl, ⟨_, rfl, rfl⟩, by simp [hp']⟩
      · rw [show Nat.blt p thr = false from by
          cases e : Nat.blt p thr with
          | false => rfl
          | true => exact absurd (Nat.le_of_ble_eq_true e) hp'] at h
        cases h
        exact ⟨rfl, ⟨_, rfl, rfl⟩, by simp [hp']⟩

theorem M.rdO'_of {p : Nat} {S : St} {o : Obj} (hg : S.heap.get p = some o) (hm : o.meta_ = .whole o) : M.rdO' p S =
    some (o, ⟨S.heap, S.pos, S.ep, ⟨S.lg.thr, (if p < S.lg.thr then [(p, 0, 0)] else []) ++ S.lg.rl, S.lg.wl, S.lg.wo⟩, S.sy⟩) := by
  rcases S with ⟨hp, n, e, ⟨thr, rl, wl, wo⟩, sy⟩
  change (match hp.get p with
    | none => none
    | some o => _) = _
  simp only at hg
  rw [hg]
  cases o with
  | cells g opn cs => cases hm
  | _ =>
    by_cases hp' : p < thr
    · simp only [show Nat.blt p thr = true from Nat.ble_eq_true_of_le hp', if_pos hp']; rfl
    · simp only [show Nat.blt p thr = false from by
        cases e : Nat.blt p thr with
        | false => rfl
        | true => exact absurd (Nat.le_of_ble_eq_true e) hp', if_neg hp']; rfl

theorem Local.rdO' (p : Nat) : LocalAt p (M.rdO' p) := by
  intro S o S' hlt _ h
  obtain ⟨hg, ⟨m, hm, rfl⟩, rfl⟩ := M.rdO'_some h
  refine ⟨⟨fun q => q = p, fun _ _ => False, fun _ _ => False, fun _ => False⟩, ⟨if p < S.lg.thr then [(p, 0, 0)] else [], [], [], [], []⟩, ⟨rfl, rfl, Nat.le_refl _, Nat.le_refl _, rfl, rfl, rfl, rfl, rfl⟩, ⟨fun _ _ => rfl, fun _ _ _ _ => rfl, fun q h => Nat.lt_of_le_of_lt (Nat.le_of_eq (show q = p from by rcases h with h | ⟨_, h⟩ | ⟨_, h⟩ | h <;> first | exact False.elim h | exact h | exact h.1)) (show p < S.pos from hlt)⟩, ?_, ?_⟩
  · refine ⟨fun q hq h => ?_, fun _ _ _ h => h.elim, fun _ _ _ h => h.elim, fun _ _ h => h.elim⟩
    subst h
    refine .inl ⟨(q, 0, 0), ?_, rfl⟩
    show _ ∈ (if q < S.lg.thr then [(q, 0, 0)] else [])
    rw [if_pos hq]; exact List.mem_singleton.2 rfl
  · intro T hT hR
    have hTg : T.heap.get p = some m := by
      have := hR.mt p rfl
      unfold St.mt at this
      rw [hg] at this
      cases hT : T.heap.get p with
      | none => rw [hT] at this; cases this
      | some o' =>
        rw [hT] at this
        simp only [Option.map_some, Option.some.injEq] at this
        rw [hm] at this
        cases o' with
        | cells g opn cs => cases this
        | _ => injection this with this; rw [this]
    exact ⟨_, M.rdO'_of hTg hm, ⟨rfl, rfl, Nat.le_refl _, Nat.le_refl _, by rw [hT.thr], rfl, rfl, rfl, rfl⟩, hT.pos, hT.ep, ⟨fun _ _ => rfl, fun _ _ _ _ => rfl, fun q h => Nat.lt_of_le_of_lt (Nat.le_of_eq (show q = p from by rcases h with h | ⟨_, h⟩ | ⟨_, h⟩ | h <;> first | exact False.elim h | exact h | exact h.1)) (show p < T.pos from hT.pos ▸ hlt)⟩,
      ⟨fun _ h => h.elim, fun _ _ h => h.elim, fun _ _ h => h.elim⟩⟩

theorem logR {α : Type} (a : α) (x : Nat × Nat × Nat) (thr p : Nat) (h : Tr Obj) (n e : Nat) (rl wl : List (Nat × Nat × Nat)) (wo : List Nat) (sy : Sy) :
    (cond (Nat.blt p thr) (some (a, (⟨h, n, e, ⟨thr, x :: rl, wl, wo⟩, sy⟩ : St))) (some (a, ⟨h, n, e, ⟨thr, rl, wl, wo⟩, sy⟩))) =
      some (a, ⟨h, n, e, ⟨thr, (if p < thr then [x] else []) ++ rl, wl, wo⟩, sy⟩) := by
  by_cases hp : p < thr
  · rw [show Nat.blt p thr = true from Nat.ble_eq_true_of_le hp, if_pos hp]; rfl
  · rw [show Nat.blt p thr = false from by
      cases e : Nat.blt p thr with
      | false => rfl
      | true => exact absurd (Nat.le_of_ble_eq_true e) hp, if_neg hp]; rfl
theorem logC {α : Type} (a : α) (x : Nat × Nat × Nat) (thr p : Nat) (h : Tr Obj) (n e : Nat) (rl wl : List (Nat × Nat × Nat)) (wo : List Nat) (sy : Sy) :
    (cond (Nat.blt p thr) (some (a, (⟨h, n, e, ⟨thr, rl, x :: wl, wo⟩, sy⟩ : St))) (some (a, ⟨h, n, e, ⟨thr, rl, wl, wo⟩, sy⟩))) =
      some (a, ⟨h, n, e, ⟨thr, rl, (if p < thr then [x] else []) ++ wl, wo⟩, sy⟩) := by
  by_cases hp : p < thr
  · rw [show Nat.blt p thr = true from Nat.ble_eq_true_of_le hp, if_pos hp]; rfl
  · rw [show Nat.blt p thr = false from by
      cases e : Nat.blt p thr with
      | false => rfl
      | true => exact absurd (Nat.le_of_ble_eq_true e) hp, if_neg hp]; rfl

theorem M.rowCell'_of {p off : Nat} {S : St} {g : Nat} {opn : Bool} {cs : List DV} {d : DV} (hg : S.heap.get p = some (.cells g opn cs)) (hd : cs[off]? = some d) :
    M.rowCell' p off S = some ((g, d), ⟨S.heap, S.pos, S.ep, ⟨S.lg.thr, (if p < S.lg.thr then [(p, off, 1)] else []) ++ S.lg.rl, S.lg.wl, S.lg.wo⟩, S.sy⟩) := by
  rcases S with ⟨hp, n, e, ⟨thr, rl, wl, wo⟩, sy⟩
  change (match hp.get p with
    | none => none
    | some o => _) = _
  simp only at hg
  rw [hg]
  simp only [lget_eq, hd]
  exact logR ..
theorem M.rowCell'_some {p off : Nat} {S : St} {r : Nat × DV} {S' : St} (h : M.rowCell' p off S = some (r, S')) :
    ∃ opn cs, S.heap.get p = some (.cells r.1 opn cs) ∧ cs[off]? = some r.2 ∧ S' = ⟨S.heap, S.pos, S.ep, ⟨S.lg.thr, (if p < S.lg.thr then [(p, off, 1)] else []) ++ S.lg.rl, S.lg.wl, S.lg.wo⟩, S.sy⟩ := by
  cases hg : S.heap.get p with
  | none =>
    rcases S with ⟨hp, n, e, ⟨thr, rl, wl, wo⟩, sy⟩
    change (match hp.get p with
      | none => none
      | some o => _) = _ at h
    simp only at hg
    rw [hg] at h; cases h
  | some o =>
    cases o with
    | cells g opn cs =>
      cases hd : cs[off]? with
      | none =>
        rcases S with ⟨hp, n, e, ⟨thr, rl, wl, wo⟩, sy⟩
        change (match hp.get p with
          | none => none
          | some o => _) = _ at h
        simp only at hg
        rw [hg] at h; simp only [lget_eq, hd] at h; cases h
      | some d =>
        rw [M.rowCell'_of hg hd] at h
        cases h
        exact ⟨opn, cs, rfl, hd, rfl⟩
    | _ =>
      rcases S with ⟨hp, n, e, ⟨thr, rl, wl, wo⟩, sy⟩
      change (match hp.get p with
        | none => none
        | some o => _) = _ at h
      simp only at hg
      rw [hg] at h; cases h

theorem M.rowCells'_of {p off c : Nat} {S : St} {g : Nat} {opn : Bool} {cs : List DV} (hg : S.heap.get p = some (.cells g opn cs)) (hc : off + c ≤ cs.length ∨ c = 0) :
    M.rowCells' p off c S = some ((g, (cs.drop off).take c), ⟨S.heap, S.pos, S.ep, ⟨S.lg.thr, (if p < S.lg.thr then [(p, off, c)] else []) ++ S.lg.rl, S.lg.wl, S.lg.wo⟩, S.sy⟩) := by
  rcases S with ⟨hp, n, e, ⟨thr, rl, wl, wo⟩, sy⟩
  change (match hp.get p with
    | none => none
    | some o => _) = _
  simp only at hg
  rw [hg]
  simp only [ltakeK_eq, ldrop_eq]
  rw [beq_t (by simp; omega)]
  exact logR ..
theorem M.rowCells'_some {p off c : Nat} {S : St} {r : Nat × List DV} {S' : St} (h : M.rowCells' p off c S = some (r, S')) :
    ∃ opn cs, S.heap.get p = some (.cells r.1 opn cs) ∧ (off + c ≤ cs.length ∨ c = 0) ∧ r.2 = (cs.drop off).take c ∧
      S' = ⟨S.heap, S.pos, S.ep, ⟨S.lg.thr, (if p < S.lg.thr then [(p, off, c)] else []) ++ S.lg.rl, S.lg.wl, S.lg.wo⟩, S.sy⟩ := by
  cases hg : S.heap.get p with
  | none =>
    rcases S with ⟨hp, n, e, ⟨thr, rl, wl, wo⟩, sy⟩
    change (match hp.get p with
      | none => none
      | some o => _) = _ at h
    simp only at hg
    rw [hg] at h; cases h
  | some o =>
    cases o with
    | cells g opn cs =>
      by_cases hc : off + c ≤ cs.length ∨ c = 0
      · rw [M.rowCells'_of hg hc] at h
        cases h
        exact ⟨opn, cs, rfl, hc, rfl, rfl⟩
      · rcases S with ⟨hp, n, e, ⟨thr, rl, wl, wo⟩, sy⟩
        change (match hp.get p with
          | none => none
          | some o => _) = _ at h
        simp only at hg
        rw [hg] at h
        simp only [ltakeK_eq, ldrop_eq] at h
        rw [beq_f (by simp; omega)] at h
        cases h
    | _ =>
      rcases S with ⟨hp, n, e, ⟨thr, rl, wl, wo⟩, sy⟩
      change (match hp.get p with
        | none => none
        | some o => _) = _ at h
      simp only at hg
      rw [hg] at h; cases h

theorem M.rowPut'_of {p off : Nat} {vs : List DV} {S : St} {g : Nat} {opn : Bool} {cs cs' : List DV} (hg : S.heap.get p = some (.cells g opn cs)) (hc : lput off vs cs = some cs') :
    M.rowPut' p off vs S = some (g, ⟨Tr.set (some (.cells g opn cs')) S.heap p, S.pos, S.ep, ⟨S.lg.thr, S.lg.rl, (if p < S.lg.thr then [(p, off, vs.length)] else []) ++ S.lg.wl, S.lg.wo⟩, S.sy⟩) := by
  rcases S with ⟨hp, n, e, ⟨thr, rl, wl, wo⟩, sy⟩
  change (match hp.get p with
    | none => none
    | some o => _) = _
  simp only at hg
  rw [hg]
  simp only [lputK_eq, hc, Option.bind_some, Tr.setK_eq]
  exact logC ..
theorem M.rowPut'_some {p off : Nat} {vs : List DV} {S : St} {g : Nat} {S' : St} (h : M.rowPut' p off vs S = some (g, S')) :
    ∃ opn cs cs', S.heap.get p = some (.cells g opn cs) ∧ lput off vs cs = some cs' ∧
      S' = ⟨Tr.set (some (.cells g opn cs')) S.heap p, S.pos, S.ep, ⟨S.lg.thr, S.lg.rl, (if p < S.lg.thr then [(p, off, vs.length)] else []) ++ S.lg.wl, S.lg.wo⟩, S.sy⟩ := by
  cases hg : S.heap.get p with
  | none =>
    rcases S with ⟨hp, n, e, ⟨thr, rl, wl, wo⟩, sy⟩
    change (match hp.get p with
      | none => none
      | some o => _) = _ at h
    simp only at hg
    rw [hg] at h; cases h
  | some o =>
    cases o with
    | cells g' opn cs =>
      cases hc : lput off vs cs with
      | none =>
        rcases S with ⟨hp, n, e, ⟨thr, rl, wl, wo⟩, sy⟩
        change (match hp.get p with
          | none => none
          | some o => _) = _ at h
        simp only at hg
        rw [hg] at h
        simp only [lputK_eq, hc] at h; cases h
      | some cs' =>
        rw [M.rowPut'_of hg hc] at h
        cases h
        exact ⟨opn, cs, cs', rfl, hc, rfl⟩
    | _ =>
      rcases S with ⟨hp, n, e, ⟨thr, rl, wl, wo⟩, sy⟩
      change (match hp.get p with
        | none => none
        | some o => _) = _ at h
      simp only at hg
      rw [hg] at h; cases h

theorem St.row_of_mt {T S : St} {p g : Nat} {opn : Bool} {cs : List DV} (h : T.mt p = S.mt p) (hg : S.heap.get p = some (.cells g opn cs)) :
    ∃ ct, T.heap.get p = some (.cells g opn ct) ∧ ct.length = cs.length := by
  unfold St.mt at h
  rw [hg] at h
  cases hT : T.heap.get p with
  | none => rw [hT] at h; cases h
  | some o =>
    rw [hT] at h
    simp only [Option.map_some, Option.some.injEq] at h
    cases o with
    | cells g' opn' ct =>
      injection h with h1 h2 h3
      subst h1 h2
      exact ⟨ct, rfl, h3⟩
    | _ => cases h
theorem St.ce_row {S : St} {p g : Nat} {opn : Bool} {cs : List DV} (hg : S.heap.get p = some (.cells g opn cs)) (j : Nat) : S.ce p j = cs[j]? := by
  unfold St.ce; rw [hg]; rfl

theorem Local.rowCell' (p off : Nat) : LocalAt p (M.rowCell' p off) := by
  intro S r S' hlt _ h
  obtain ⟨opn, cs, hg, hd, rfl⟩ := M.rowCell'_some h
  refine ⟨⟨fun q => q = p, fun q j => q = p ∧ j = off, fun _ _ => False, fun _ => False⟩, ⟨if p < S.lg.thr then [(p, off, 1)] else [], [], [], [], []⟩, ⟨rfl, rfl, Nat.le_refl _, Nat.le_refl _, rfl, rfl, rfl, rfl, rfl⟩, ⟨fun _ _ => rfl, fun _ _ _ _ => rfl, fun q h => Nat.lt_of_le_of_lt (Nat.le_of_eq (show q = p from by rcases h with h | ⟨_, h⟩ | ⟨_, h⟩ | h <;> first | exact False.elim h | exact h | exact h.1)) (show p < S.pos from hlt)⟩, ?_, ?_⟩
  · refine ⟨fun q hq h => ?_, fun q j hq h => ?_, fun _ _ _ h => h.elim, fun _ _ h => h.elim⟩
    · subst h
      refine .inl ⟨(q, off, 1), ?_, rfl⟩
      show _ ∈ (if q < S.lg.thr then [(q, off, 1)] else [])
      rw [if_pos hq]; exact List.mem_singleton.2 rfl
    · obtain ⟨rfl, rfl⟩ := h
      refine ⟨(q, j, 1), ?_, rfl, Nat.le_refl _, Nat.lt_succ_self _⟩
      show _ ∈ (if q < S.lg.thr then [(q, j, 1)] else [])
      rw [if_pos hq]; exact List.mem_singleton.2 rfl
  · intro T hT hR
    obtain ⟨ct, hTg, hl⟩ := St.row_of_mt (hR.mt p rfl) hg
    have hd' : ct[off]? = some r.2 := by rw [← St.ce_row hTg, hR.ce p off ⟨rfl, rfl⟩, St.ce_row hg, hd]
    exact ⟨_, M.rowCell'_of hTg hd', ⟨rfl, rfl, Nat.le_refl _, Nat.le_refl _, by rw [hT.thr], rfl, rfl, rfl, rfl⟩, hT.pos, hT.ep, ⟨fun _ _ => rfl, fun _ _ _ _ => rfl, fun q h => Nat.lt_of_le_of_lt (Nat.le_of_eq (show q = p from by rcases h with h | ⟨_, h⟩ | ⟨_, h⟩ | h <;> first | exact False.elim h | exact h | exact h.1)) (show p < T.pos from hT.pos ▸ hlt)⟩,
      ⟨fun _ h => h.elim, fun _ _ h => h.elim, fun _ _ h => h.elim⟩⟩

theorem Local.rowCells' (p off c : Nat) : LocalAt p (M.rowCells' p off c) := by
  intro S r S' hlt _ h
  obtain ⟨opn, cs, hg, hc, hr, rfl⟩ := M.rowCells'_some h
  refine ⟨⟨fun q => q = p, fun q j => q = p ∧ off ≤ j ∧ j < off + c, fun _ _ => False, fun _ => False⟩, ⟨if p < S.lg.thr then [(p, off, c)] else [], [], [], [], []⟩, ⟨rfl, rfl, Nat.le_refl _, Nat.le_refl _, rfl, rfl, rfl, rfl, rfl⟩, ⟨fun _ _ => rfl, fun _ _ _ _ => rfl, fun q h => Nat.lt_of_le_of_lt (Nat.le_of_eq (show q = p from by rcases h with h | ⟨_, h⟩ | ⟨_, h⟩ | h <;> first | exact False.elim h | exact h | exact h.1)) (show p < S.pos from hlt)⟩, ?_, ?_⟩
  · refine ⟨fun q hq h => ?_, fun q j hq h => ?_, fun _ _ _ h => h.elim, fun _ _ h => h.elim⟩
    · subst h
      refine .inl ⟨(q, off, c), ?_, rfl⟩
      show _ ∈ (if q < S.lg.thr then [(q, off, c)] else [])
      rw [if_pos hq]; exact List.mem_singleton.2 rfl
    · obtain ⟨rfl, h1, h2⟩ := h
      refine ⟨(q, off, c), ?_, rfl, h1, h2⟩
      show _ ∈ (if q < S.lg.thr then [(q, off, c)] else [])
      rw [if_pos hq]; exact List.mem_singleton.2 rfl
  · intro T hT hR
    obtain ⟨ct, hTg, hl⟩ := St.row_of_mt (hR.mt p rfl) hg
    have e : (ct.drop off).take c = (cs.drop off).take c := by
      apply List.ext_getElem?
      intro i
      rw [List.getElem?_take, List.getElem?_take]
      split
      · rename_i hi
        rw [List.getElem?_drop, List.getElem?_drop, ← St.ce_row hTg, hR.ce p (off + i) ⟨rfl, by omega, by omega⟩, St.ce_row hg]
      · rfl
    have := M.rowCells'_of (S := T) hTg (by rw [hl]; exact hc)
    rw [e, ← hr] at this
    exact ⟨_, this, ⟨rfl, rfl, Nat.le_refl _, Nat.le_refl _, by rw [hT.thr], rfl, rfl, rfl, rfl⟩, hT.pos, hT.ep, ⟨fun _ _ => rfl, fun _ _ _ _ => rfl, fun q h => Nat.lt_of_le_of_lt (Nat.le_of_eq (show q = p from by rcases h with h | ⟨_, h⟩ | ⟨_, h⟩ | h <;> first | exact False.elim h | exact h | exact h.1)) (show p < T.pos from hT.pos ▸ hlt)⟩,
      ⟨fun _ h => h.elim, fun _ _ h => h.elim, fun _ _ h => h.elim⟩⟩

theorem lput_ok {α : Type} (vs : List α) : ∀ (n : Nat) (l : List α), n + vs.length ≤ l.length → ∃ r, lput n vs l = some r := by
  intro n
  induction n with
  | zero => intro l h; exact ⟨_, lov_some vs l (by omega)⟩
  | succ n ih => intro l h; cases l with
    | nil => simp at h
    | cons a t =>
      obtain ⟨r, hr⟩ := ih t (by simp at h; omega)
      exact ⟨a :: r, by simp only [lput, hr]; rfl⟩

theorem Local.rowPut' (p off : Nat) (vs : List DV) : LocalAt p (M.rowPut' p off vs) := by
  intro S g S' hlt _ h
  obtain ⟨opn, cs, cs', hg, hc, rfl⟩ := M.rowPut'_some h
  obtain ⟨l1, l2, l3⟩ := lput_length vs off cs cs' hc
  have keep : ∀ (T : St) (ct ct' : List DV) (lg : Log), p < T.pos → T.heap.get p = some (.cells g opn ct) → lput off vs ct = some ct' →
      Keeps ⟨fun q => q = p, fun _ _ => False, fun q j => q = p ∧ off ≤ j ∧ j < off + vs.length, fun _ => False⟩ T ⟨Tr.set (some (.cells g opn ct')) T.heap p, T.pos, T.ep, lg, T.sy⟩ := by
    intro T ct ct' lg hlt hT hp
    obtain ⟨m1, m2, m3⟩ := lput_length vs off ct ct' hp
    refine ⟨fun q _ => ?_, fun q j _ hj => ?_, fun q h => Nat.lt_of_le_of_lt (Nat.le_of_eq (show q = p from by rcases h with h | ⟨_, h⟩ | ⟨_, h⟩ | h <;> first | exact False.elim h | exact h | exact h.1)) (show p < T.pos from hlt)⟩
    · rw [St.mt_set]
      by_cases hq : q = p
      · subst hq; rw [if_pos rfl]; unfold St.mt; rw [hT]; show some (Meta.row g opn ct'.length) = some (Meta.row g opn ct.length); rw [m1]
      · rw [if_neg hq]; rfl
    · rw [St.ce_set]
      by_cases hq : q = p
      · subst hq; rw [if_pos rfl, St.ce_row hT]; show ct'[j]? = _; rw [m3, if_neg fun h => hj ⟨rfl, h.1, h.2⟩]
      · rw [if_neg hq]; rfl
  refine ⟨⟨fun q => q = p, fun _ _ => False, fun q j => q = p ∧ off ≤ j ∧ j < off + vs.length, fun _ => False⟩, ⟨[], if p < S.lg.thr then [(p, off, vs.length)] else [], [], [], []⟩, ⟨rfl, rfl, Nat.le_refl _, Nat.le_refl _, rfl, rfl, rfl, rfl, rfl⟩, keep S cs cs' _ hlt hg hc, ?_, ?_⟩
  · refine ⟨fun q hq h => ?_, fun _ _ _ h => h.elim, fun q j hq h => ?_, fun _ _ h => h.elim⟩
    · subst h
      refine .inr ⟨(q, off, vs.length), ?_, rfl⟩
      show _ ∈ (if q < S.lg.thr then [(q, off, vs.length)] else [])
      rw [if_pos hq]; exact List.mem_singleton.2 rfl
    · obtain ⟨rfl, h1, h2⟩ := h
      refine ⟨(q, off, vs.length), ?_, rfl, h1, h2⟩
      show _ ∈ (if q < S.lg.thr then [(q, off, vs.length)] else [])
      rw [if_pos hq]; exact List.mem_singleton.2 rfl
  · intro T hT hR
    obtain ⟨ct, hTg, hl⟩ := St.row_of_mt (hR.mt p rfl) hg
    obtain ⟨ct', hct⟩ := lput_ok vs off ct (by omega)
    obtain ⟨m1, m2, m3⟩ := lput_length vs off ct ct' hct
    refine ⟨_, M.rowPut'_of hTg hct, ⟨rfl, rfl, Nat.le_refl _, Nat.le_refl _, rfl, by rw [hT.thr], rfl, rfl, rfl⟩, hT.pos, hT.ep, keep T ct ct' _ (hT.pos ▸ hlt) hTg hct,
      ⟨fun _ h => h.elim, fun _ _ h => h.elim, fun q j h => ?_⟩⟩
    obtain ⟨rfl, h1, h2⟩ := h
    rw [St.ce_set, St.ce_set, if_pos rfl, if_pos rfl]
    show ct'[j]? = cs'[j]?
    rw [m3, l3, if_pos ⟨h1, h2⟩, if_pos ⟨h1, h2⟩]


theorem Local.rdO (p : Nat) : Local (M.rdO p) := Local.at (Local.rdO' p)
theorem Local.wrO (p : Nat) (o : Obj) : Local (M.wrO p o) := Local.at (Local.wrO' p o)
theorem Local.rowCell (p off : Nat) : Local (M.rowCell p off) := Local.at (Local.rowCell' p off)
theorem Local.rowCells (p off c : Nat) : Local (M.rowCells p off c) := Local.at (Local.rowCells' p off c)
theorem Local.rowPut (p off : Nat) (vs : List DV) : Local (M.rowPut p off vs) := Local.at (Local.rowPut' p off vs)
theorem M.rdO_some {p : Nat} {S : St} {o : Obj} {S' : St} (h : M.rdO p S = some (o, S')) : S.heap.get p = some o ∧ (∃ m, o.meta_ = .whole m ∧ m = o) ∧
    S' = ⟨S.heap, S.pos, S.ep, ⟨S.lg.thr, (if p < S.lg.thr then [(p, 0, 0)] else []) ++ S.lg.rl, S.lg.wl, S.lg.wo⟩, S.sy⟩ := M.rdO'_some (M.at_some h).2
theorem M.rowCell_some {p off : Nat} {S : St} {r : Nat × DV} {S' : St} (h : M.rowCell p off S = some (r, S')) :
    ∃ opn cs, S.heap.get p = some (.cells r.1 opn cs) ∧ cs[off]? = some r.2 ∧ S' = ⟨S.heap, S.pos, S.ep, ⟨S.lg.thr, (if p < S.lg.thr then [(p, off, 1)] else []) ++ S.lg.rl, S.lg.wl, S.lg.wo⟩, S.sy⟩ := M.rowCell'_some (M.at_some h).2
theorem M.rowCells_some {p off c : Nat} {S : St} {r : Nat × List DV} {S' : St} (h : M.rowCells p off c S = some (r, S')) :
    ∃ opn cs, S.heap.get p = some (.cells r.1 opn cs) ∧ (off + c ≤ cs.length ∨ c = 0) ∧ r.2 = (cs.drop off).take c ∧
      S' = ⟨S.heap, S.pos, S.ep, ⟨S.lg.thr, (if p < S.lg.thr then [(p, off, c)] else []) ++ S.lg.rl, S.lg.wl, S.lg.wo⟩, S.sy⟩ := M.rowCells'_some (M.at_some h).2
theorem M.rowPut_some {p off : Nat} {vs : List DV} {S : St} {g : Nat} {S' : St} (h : M.rowPut p off vs S = some (g, S')) :
    ∃ opn cs cs', S.heap.get p = some (.cells g opn cs) ∧ lput off vs cs = some cs' ∧
      S' = ⟨Tr.set (some (.cells g opn cs')) S.heap p, S.pos, S.ep, ⟨S.lg.thr, S.lg.rl, (if p < S.lg.thr then [(p, off, vs.length)] else []) ++ S.lg.wl, S.lg.wo⟩, S.sy⟩ := M.rowPut'_some (M.at_some h).2
theorem M.wrO_of {p : Nat} {o : Obj} {S : St} (h : p < S.pos) : M.wrO p o S =
    some ((), ⟨Tr.set (some o) S.heap p, S.pos, S.ep, ⟨S.lg.thr, S.lg.rl, S.lg.wl, (if p < S.lg.thr then [p] else []) ++ S.lg.wo⟩, S.sy⟩) := by
  unfold M.wrO; rw [M.at_of h, M.wrO'_eq]
theorem M.wrO_some {p : Nat} {o : Obj} {S : St} {r : Unit × St} (h : M.wrO p o S = some r) :
    r = ((), ⟨Tr.set (some o) S.heap p, S.pos, S.ep, ⟨S.lg.thr, S.lg.rl, S.lg.wl, (if p < S.lg.thr then [p] else []) ++ S.lg.wo⟩, S.sy⟩) := by
  have := (M.at_some h).2
  rw [M.wrO'_eq] at this
  cases this; rfl
theorem M.wrO_bind {α : Type} {p : Nat} {o : Obj} {f : Unit → M α} {S : St} {r : α × St} (h : M.bind (M.wrO p o) f S = some r) :
    f () ⟨Tr.set (some o) S.heap p, S.pos, S.ep, ⟨S.lg.thr, S.lg.rl, S.lg.wl, (if p < S.lg.thr then [p] else []) ++ S.lg.wo⟩, S.sy⟩ = some r := by
  obtain ⟨a, S'⟩ := r
  obtain ⟨u, S1, h1, h2⟩ := M.bind_some h
  cases M.wrO_some h1
  exact h2

theorem Local.ld1 (g p off : Nat) : Local (M.ld1 g p off) := Local.bind (Local.rowCell p off) fun _ => Local.bind (Local.chk _) fun _ => Local.pure _
theorem Local.ldc {β : Type} (g p off c : Nat) {k : List DV → M β} (hk : ∀ l, Local (k l)) : Local (M.ldc g p off c k) :=
  Local.bind (Local.rowCells p off c) fun _ => Local.bind (Local.chk _) fun _ => hk _
theorem Local.stc (g p off : Nat) (vs : List DV) : Local (M.stc g p off vs) := Local.bind (Local.rowPut p off vs) fun _ => Local.chk _
end Go.Am
