/- Contracts: functions whose answer is told, whatever the memory. -/
import Derived.Test.YtbaakikdmbehjaaDoorAmTop
set_option linter.unusedVariables false
set_option linter.unusedSimpArgs false
set_option linter.unusedSectionVars false
namespace Go.Am
open Go.RowKit

/- a value that no memory stands behind -/
mutual
def flat : DV → Bool
  | .bool _ | .int _ _ | .str _ | .nilp | .bptr _ | .nils | .nilm | .nilf | .nili | .bsl _ _ _ => true
  | .agg cs => flatL cs
  | .tup cs => flatL cs
  | .iface _ v => flat v
  | .func _ a b => flatL a && flatL b
  | _ => false
def flatL : List DV → Bool
  | [] => true
  | d :: ds => flat d && flatL ds
end

mutual
theorem VR.flat {κ κ' : Kap} : ∀ (d : DV) (v : Value), flat d = true → VR κ d v → VR κ' d v
  | .bool _, _, _, e => e
  | .int _ _, _, _, e => e
  | .str _, _, _, e => e
  | .bptr _, _, _, e => e
  | .nilp, _, _, e => e
  | .bsl _ _ _, _, _, e => e
  | .nils, _, _, e => e
  | .nilm, _, _, e => e
  | .nilf, _, _, e => e
  | .nili, _, _, e => e
  | .func fn f c, v, h, e => by
    simp only [Am.flat, Bool.and_eq_true] at h
    obtain ⟨f', c', e, h1, h2⟩ := e; exact ⟨f', c', e, VRL.flat f _ h.1 h1, VRL.flat c _ h.2 h2⟩
  | .iface t x, v, h, e => by obtain ⟨x', e, h1⟩ := e; exact ⟨x', e, VR.flat x _ (by simpa [Am.flat] using h) h1⟩
  | .agg cs, v, h, e => by obtain ⟨vs, e, h1⟩ := e; exact ⟨vs, e, VRL.flat cs _ (by simpa [Am.flat] using h) h1⟩
  | .tup cs, v, h, e => by obtain ⟨vs, e, h1⟩ := e; exact ⟨vs, e, VRL.flat cs _ (by simpa [Am.flat] using h) h1⟩
  | .undef, _, h, _ => by simp [Am.flat] at h
  | .ptr _ _ _, _, h, _ => by simp [Am.flat] at h
  | .sl _ _ _ _ _, _, h, _ => by simp [Am.flat] at h
  | .lst _ _, _, h, _ => by simp [Am.flat] at h
  | .lptr _ _ _ _, _, h, _ => by simp [Am.flat] at h
  | .map _ _, _, h, _ => by simp [Am.flat] at h
theorem VRL.flat {κ κ' : Kap} : ∀ (ds : List DV) (vs : List Value), flatL ds = true → VRL κ ds vs → VRL κ' ds vs
  | [], _, _, e => e
  | d :: ds, l, h, e => by
    simp only [Am.flatL, Bool.and_eq_true] at h
    obtain ⟨v, vs, e, h1, h2⟩ := e; exact ⟨v, vs, e, VR.flat d _ h.1 h1, VRL.flat ds _ h.2 h2⟩
end
def flatR : ORes → Bool
  | .val v => flat v
  | .pan c => flatL (c.map (·.1))
  | .dfr _ _ _ => false
theorem PanR.flat {κ κ' : Kap} : ∀ (c : List (DV × Bool)) (l : List PanicEntry), flatL (c.map (·.1)) = true → PanR κ c l → PanR κ' c l
  | [], _, _, e => e
  | d :: ds, l, h, e => by
    simp only [List.map_cons, Am.flatL, Bool.and_eq_true] at h
    obtain ⟨p, ps, e, h1, h2, h3, h4⟩ := e; exact ⟨p, ps, e, VR.flat _ _ h.1 h1, h2, h3, PanR.flat ds _ h.2 h4⟩
theorem ResR.flat {κ κ' : Kap} {r : ORes} {e : Ending} (h : flatR r = true) (k : ResR κ r e) : ResR κ' r e := by
  cases r with
  | val v => cases e with
    | returned v' => exact VR.flat v v' (by simpa [Am.flatR] using h) k
    | _ => exact k.elim
  | pan c => cases e with
    | panicked ch => exact PanR.flat c ch (by simpa [Am.flatR] using h) k
    | _ => exact k.elim
  | dfr a b c => cases h

section
variable {P : Program} {E : Env} {N : Nat} {w0 : World}

/-- memory below is as it was: what was known holds on -/
theorem OR.stay {κ : Kap} {o : Obj} {w w' : World} (h : OR κ o w) (hlt : κ.blk o.g < w.heap.size) (hb : Below w.heap.size w w') : OR κ o w' :=
  h.keep (Kap.le.refl κ) (hb.block _ hlt)
theorem Rr.stay {κ : Kap} {h : Tr Obj} {w w' : World} (hR : Rr E N w0 κ h w) (hb : Below w.heap.size w w') : Rr E N w0 κ h w' :=
  ⟨hR.below.trans (hb.mono hR.big), Nat.le_trans hR.big hb.size,
    fun p o hp => by
      obtain ⟨h1, h2, h3⟩ := hR.obj p o hp
      exact ⟨h1.stay h3 hb, h2, Nat.lt_of_lt_of_le h3 hb.size⟩,
    hR.apart,
    fun a v ha => by
      obtain ⟨h1, h2⟩ := hR.phi a v ha
      exact ⟨(hb.cell (p := a) (World.block_lt_of_cell? w a h1)).trans h1, h2⟩,
    hR.glob⟩

/-- what a contract of function f must hold -/
def CallAt (P : Program) (E : Env) (N : Nat) (w0 : World) (f : FuncId) (c : List DV → M ORes) : Prop := ∀ l S r S', c l S = some (r, S') → AllP S'.sy.phi → S.lg.thr ≤ S.pos →
  (∃ fn, P.funcs[f]? = some fn ∧ fn.body.isNone = false ∧ (fn.name == "runtime.NumGoroutine") = false) ∧
  (∀ a b c, r ≠ .dfr a b c) ∧
  ∀ κ l' w, Rr E N w0 κ S.heap w → Fresh κ S.ep S'.ep → VRL κ l l'.toList →
    Calls P f l' w fun e w' => ∃ κ', Ext κ κ' S.ep S'.ep ∧ Rr E N w0 κ' S'.heap w' ∧ ResR κ' r e

structure ConOk (P : Program) (E : Env) (f : FuncId) (c : List DV → M ORes) : Prop where
  loc : ∀ l, Local (c l)
  ok : ∀ N w0, CallAt P E N w0 f c

def TblOk (P : Program) (E : Env) (tbl : Tr (List DV → M ORes)) : Prop := ∀ f c, tbl.get f = some c → ConOk P E f c

theorem TblOk.nil : TblOk P E .nil := fun f c h => by cases h
theorem TblOk.set {tbl : Tr (List DV → M ORes)} (h : TblOk P E tbl) {f : FuncId} {c : List DV → M ORes} (hc : ConOk P E f c) : TblOk P E (Tr.set (some c) tbl f) := fun g d hd => by
  rw [Tr.get_set] at hd
  split at hd
  · rename_i e; cases hd; rw [e]; exact hc
  · exact h g d hd

theorem callOkT (hm : P.follows .mixedOrders = true) (hE : EnvOk P E) (hcode : FnOk E) {tbl : Tr (List DV → M ORes)} (ht : TblOk P E tbl) (L : Nat) : ∀ fuel, CallOk P E N w0 (evT E tbl L fuel)
  | 0 => by intro f l S r S' e; cases e
  | fuel + 1 => by
    intro f l S r S' e hp h0
    change (match tbl.get f with
      | some c => c l
      | none => evStep E L (evT E tbl L fuel) f l) S = some (r, S') at e
    cases hc : tbl.get f with
    | some c => rw [hc] at e; exact (ht f c hc).ok N w0 l S r S' e hp h0
    | none => rw [hc] at e; exact stepOk hm hE hcode L (callOkT hm hE hcode ht L fuel) (fun f l => Local.evT E (fun f c h => (ht f c h).loc) L fuel f l) f l S r S' e hp h0

/-- function f, called with these values, answers r, whatever the memory, and leaves all that was there -/
def Told (P : Program) (E : Env) (f : FuncId) (args : List DV) (r : ORes) : Prop :=
  ∀ N w0 κ h l' w, Rr E N w0 κ h w → VRL κ args l'.toList → Calls P f l' w fun e w' => Below w.heap.size w w' ∧ ResR κ r e

/-- where a symbolic run begins -/
def S1 (ds : List Bool) : St := ⟨.nil, 0, 0, ⟨0, [], [], []⟩, ⟨true, ds, []⟩⟩
def conj (l : List Prop) : Prop := List.rec True (fun p _ ih => p ∧ ih) l
theorem conj_all : ∀ {l : List Prop}, conj l → AllP l
  | [], _, p, hp => by simp at hp
  | q :: l, h, p, hp => by
    cases List.mem_cons.1 hp with
    | inl e => rw [e]; exact h.1
    | inr e => exact conj_all h.2 p e
/-- the run answers r, if what it asks holds -/
def Good (x : Option (ORes × St)) (r : ORes) : Prop := match x with
  | some (r', S') => conj S'.sy.phi ∧ r' = r
  | none => False

theorem Rr.base {κ : Kap} {h : Tr Obj} {w : World} (hR : Rr E N w0 κ h w) (hg : ∀ (b : Nat) (cs : List DV) (off : Nat) (d : DV), E.glob.get b = some cs → cs[off]? = some d → flat d = true) :
    Rr E w.heap.size w { κ with dom := fun _ => False } .nil w := by
  refine ⟨Below.refl _ _, Nat.le_refl _, fun p o hp => (by cases hp), fun p q o o' hp => (by cases hp), fun a v ha => ⟨(hR.phi a v ha).1, fun p o hp => (by cases hp)⟩, fun b cs off d h1 h2 => ?_⟩
  obtain ⟨v, e1, e2⟩ := hR.glob b cs off d h1 h2
  exact ⟨v, e1, VR.flat d v (hg b cs off d h1 h2) e2⟩

def GlobFlat (E : Env) : Prop := ∀ (b : Nat) (cs : List DV) (off : Nat) (d : DV), E.glob.get b = some cs → cs[off]? = some d → flat d = true

theorem told_run (hm : P.follows .mixedOrders = true) (hE : EnvOk P E) (hcode : FnOk E) (hg : GlobFlat E) {tbl : Tr (List DV → M ORes)} (ht : TblOk P E tbl) {L fuel : Nat} {f : FuncId} {args : List DV} {r : ORes} (ds : List Bool)
    (h : Good (evT E tbl L fuel f args (S1 ds)) r) (ha : flatL args = true) (hr : flatR r = true) : Told P E f args r := by
  intro N w0 κ hp l' w hR hl
  unfold Good at h
  cases he : evT E tbl L fuel f args (S1 ds) with
  | none => rw [he] at h; exact h.elim
  | some x =>
    obtain ⟨r', S'⟩ := x
    rw [he] at h
    obtain ⟨h1, rfl⟩ := h
    obtain ⟨_, _, hc⟩ := callOkT (N := w.heap.size) (w0 := w) hm hE hcode ht L fuel f args (S1 ds) r' S' he (conj_all h1) (Nat.le_refl _)
    refine (hc _ l' w (hR.base hg) (fun g _ _ h => h) (VRL.flat _ _ ha hl)).mono fun e w' he => ?_
    obtain ⟨κ', _, hR', hres⟩ := he
    exact ⟨hR'.below, ResR.flat hr hres⟩

/-- a contract out of what is told -/
theorem conOk_told {f : FuncId} {fn : Func} (hf : E.fn.get f = some fn) (hE : EnvOk P E) (hb : fn.body.isNone = false) {c : List DV → M ORes}
    (h : ∀ l, (∃ r, c l = M.pure r ∧ (∀ a b c, r ≠ .dfr a b c) ∧ Told P E f l r) ∨ c l = M.fail) : ConOk P E f c := by
  refine ⟨fun l => ?_, fun N w0 l S r S' e hp h0 => ?_⟩
  · rcases h l with ⟨r, e, _⟩ | e
    · rw [e]; exact Local.pure _
    · rw [e]; exact Local.fail
  · obtain ⟨h1, h2⟩ := hE.fn f fn hf
    rcases h l with ⟨r', e', hd, ht⟩ | e'
    · rw [e'] at e
      cases e
      refine ⟨⟨fn, h1, hb, h2⟩, hd, fun κ l' w hR hF hl => ?_⟩
      refine (ht N w0 κ S.heap l' w hR hl).mono fun en w' hw => ?_
      exact ⟨κ, Ext.refl _ _ _, hR.stay hw.1, hw.2⟩
    · rw [e'] at e; cases e
end
end Go.Am
namespace Go.Am
theorem flatL_get : ∀ (l : List DV) (i : Nat) (d : DV), flatL l = true → l[i]? = some d → flat d = true
  | [], i, d, _, h => by simp at h
  | a :: l, i, d, hl, h => by
    simp only [flatL, Bool.and_eq_true] at hl
    cases i with
    | zero => simp at h; subst h; exact hl.1
    | succ i => exact flatL_get l i d hl.2 (by simpa using h)
theorem globFlat_of {E : Env} (h : trAll (fun _ cs => flatL cs) E.glob 1 0 = true) : GlobFlat E := fun b cs off d h1 h2 => by
  have := TrP.get _ _ _ (trAll_ok _ _ _ h) b cs h1
  exact flatL_get cs off d this h2
end Go.Am
