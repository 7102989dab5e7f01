/- Words for printed proofs over shapes. -/
import Derived.Test.YtbaakikdmbehjaaDoorAmT
set_option linter.unusedVariables false
set_option linter.unusedSimpArgs false
set_option linter.unusedSectionVars false
namespace Go.Am
open Go.RowKit

section
variable {P : Program} {E : Env} {N : Nat} {w0 : World}
noncomputable def outCode (sk : Sk) (ren : List (Nat × Nat)) (r : Option ((AEx × AF) × St)) (o : AEx) (l : List Lf) : Prop := match r with
  | some ((o', a'), S') => conj S'.sy.phi ∧ o' = o ∧ get sk ren ⟨a', S'.heap, S'.pos, S'.ep⟩ = some l
  | none => False

theorem Tr1.code (hm : P.follows .mixedOrders = true) (hE : EnvOk P E) (hg : GlobFlat E) {callF : FuncId → List DV → M ORes} (hc : CallOk P E N w0 callF) (hloc : ∀ f l, Local (callF f l)) {L : Nat}
    {c : Code} {s : AS} {K : List KF} {fin : AEx → AS → Prop} (hok : codeOk c = true) (ds : List Bool) (sk : Sk) (ren : List (Nat × Nat)) (o : AEx) (l : List Lf)
    (h : outCode sk ren (evCode E callF L c s.a (stOf s ds)) o l) (hx : flatX o = true)
    (hk : TrR P E N w0 K o (put sk l) fin) : Tr1 P E N w0 c s K fin := by
  intro κ a w Q hs hfin
  unfold outCode at h
  cases he : evCode E callF L c s.a (stOf s ds) with
  | none => rw [he] at h; exact h.elim
  | some y =>
    obtain ⟨⟨o', a'⟩, S'⟩ := y
    rw [he] at h
    obtain ⟨h1, rfl, h3⟩ := h
    obtain ⟨hR, hA, hd⟩ := hs
    have F := (Local.evCode E hloc L c s.a).facts (S := stOf s ds) (Nat.zero_le _) he
    refine wp_code hm hE hc hloc L c hok κ s.a a (stOf s ds) o' a' S' w _ (Nat.zero_le _) he (conj_all h1) hR (fun g h1 _ h3 => by have := hd g h3; exact absurd h1 (by show ¬ s.ep ≤ g; omega)) hA ?_
    intro κ' en a1 w1 y1 y2 y3 y4
    have hs' : StR E N w0 ⟨a', S'.heap, S'.pos, S'.ep⟩ κ' a1 w1 := ⟨y2, y4, fun g hg => by
      rcases y1.dom g hg with h | h
      · exact Nat.lt_of_lt_of_le (hd g h) F.2.1
      · exact h.2⟩
    exact hk _ en a1 w1 Q (get_le hg h3 hs') (y3.flat hx) hfin

theorem TrR.blkN {i : Nat} {s : AS} {K : List KF} {fin : AEx → AS → Prop} (h : TrR P E N w0 K .normal s fin) : TrR P E N w0 (.blk i :: K) .normal s fin := TrR.blkO (fun h => by cases h) h
theorem TrR.blkR {i : Nat} {s : AS} {K : List KF} {fin : AEx → AS → Prop} (h : TrR P E N w0 K .ret s fin) : TrR P E N w0 (.blk i :: K) .ret s fin := TrR.blkO (fun h => by cases h) h
theorem TrR.seqR {c : Code} {s : AS} {K : List KF} {fin : AEx → AS → Prop} (h : TrR P E N w0 K .ret s fin) : TrR P E N w0 (.seq c :: K) .ret s fin := TrR.seqO (fun h => by cases h) h
theorem TrR.lpR {c : Code} {s : AS} {K : List KF} {fin : AEx → AS → Prop} (h : TrR P E N w0 K .ret s fin) : TrR P E N w0 (.lp c :: K) .ret s fin := TrR.lpO (fun h => by cases h) h
theorem TrR.seqE {c : Code} {j : Nat} {s : AS} {K : List KF} {fin : AEx → AS → Prop} (h : TrR P E N w0 K (.exit j) s fin) : TrR P E N w0 (.seq c :: K) (.exit j) s fin := TrR.seqO (fun h => by cases h) h
theorem TrR.lpE {c : Code} {j : Nat} {s : AS} {K : List KF} {fin : AEx → AS → Prop} (h : TrR P E N w0 K (.exit j) s fin) : TrR P E N w0 (.lp c :: K) (.exit j) s fin := TrR.lpO (fun h => by cases h) h

/-- one segment, up to a place -/
theorem seg (hm : P.follows .mixedOrders = true) (hE : EnvOk P E) (hcode : FnOk E) (hg : GlobFlat E) {tbl : Tr (List DV → M ORes)} (ht : TblOk P E tbl) {c : Code} {s : AS} {K : List KF} {fin : AEx → AS → Prop} (hok : codeOk c = true)
    (p : List Nat) (nb mb : Nat) (sk : Sk) (ren : List (Nat × Nat)) (l : List Lf) (qq : Prop) (hq : qq)
    (he : (qq ∧ (none : Option AEx) = none ∧ some l = some l) = outPre sk ren (evPre E (evT E tbl 50 40) 50 p c s.a (stOf s (bo nb mb))) none l)
    (c' : Code) (K' : List KF) (hc : sub p c = c') (hK : stk p c K = K') (hk : Tr1 P E N w0 c' (put sk l) K' fin) : Tr1 P E N w0 c s K fin :=
  Tr1.pre hm hE hg (callOkT hm hE hcode ht 50 40) (fun f l => Local.evT E (fun f c h => (ht f c h).loc) 50 40 f l) hok (bo nb mb) sk ren none l (he.mp ⟨hq, rfl, rfl⟩) (fun x h => by cases h) (by subst hc; subst hK; exact hk)
/-- one segment, to the end of the code -/
theorem segF (hm : P.follows .mixedOrders = true) (hE : EnvOk P E) (hcode : FnOk E) (hg : GlobFlat E) {tbl : Tr (List DV → M ORes)} (ht : TblOk P E tbl) {c : Code} {s : AS} {K : List KF} {fin : AEx → AS → Prop} (hok : codeOk c = true)
    (nb mb : Nat) (sk : Sk) (ren : List (Nat × Nat)) (x : AEx) (l : List Lf) (qq : Prop) (hq : qq)
    (he : (qq ∧ x = x ∧ some l = some l) = outCode sk ren (evCode E (evT E tbl 50 40) 50 c s.a (stOf s (bo nb mb))) x l) (hx : flatX x = true)
    (hk : TrR P E N w0 K x (put sk l) fin) : Tr1 P E N w0 c s K fin :=
  Tr1.code hm hE hg (callOkT hm hE hcode ht 50 40) (fun f l => Local.evT E (fun f c h => (ht f c h).loc) 50 40 f l) hok (bo nb mb) sk ren x l (he.mp ⟨hq, rfl, rfl⟩) hx hk
theorem finE {fn : Func} {r : ORes} {x : AEx} {s : AS} (nb mb : Nat) (qq : Prop) (hq : qq) (he : (qq ∧ r = r) = Good (finish E fn (x, s.a) (stOf s (bo nb mb))) r) : FinOk E fn r x s := ⟨bo nb mb, he.mp ⟨hq, rfl⟩⟩
theorem cndT {fn : Func} {k : Code} {s : AS} {K : List KF} {α : Type} {f : α → ORes} {c : Bool} {a b : α} (ht : c = true → Tr1 P E N w0 k s K (FinOk E fn (f a))) (hf : c = false → Tr1 P E N w0 k s K (FinOk E fn (f b))) : Tr1 P E N w0 k s K (FinOk E fn (f (cond c a b))) := by
  cases c with
  | true => exact ht rfl
  | false => exact hf rfl
end
end Go.Am
