/- The operations, continued: lengths, append, copy. -/
import Derived.Test.YtbaakikdmbehjaaDoorAmSim4
import Derived.Laws.AppendOwn
set_option linter.unusedVariables false
set_option linter.unusedSimpArgs false
set_option linter.unusedSectionVars false
namespace Go.Am
open Go.RowKit

section
variable {P : Program} {E : Env} {N : Nat} {w0 : World}

theorem VR.sl_form {κ : Kap} {g p off len : Nat} {cap : Cap} {v : Value} (h : VR κ (.sl g p off len cap) v) : ∃ o c, v = .slice (some ⟨κ.blk g, o, none⟩) len c := by
  cases cap with
  | ex c => obtain ⟨_, _, rfl⟩ := h; exact ⟨_, _, rfl⟩
  | op z => obtain ⟨_, _, o, c, rfl, _⟩ := h; exact ⟨_, _, rfl⟩

theorem Sim.opLen (hE : EnvOk P E) {κ : Kap} {t ty : TypeId} {x : DV} {x' : Value} (hx : VR κ x x') : Sim P E N w0 κ VR (opLen E t x) (Builtin.len_ #[t] ty #[x']) := by
  unfold Am.opLen
  refine Sim.tiM hE fun i inf d z h => ?_
  have goi : ∀ n : Nat, VR κ (goI n) (goInt n) := fun n => rfl
  have run : ∀ (n : Nat), (∀ w, (Builtin.len_ #[t] ty #[x']).run P w = .ok (goInt n) w) → Sim P E N w0 κ VR (M.val (goI n)) (Builtin.len_ #[t] ty #[x']) ∧ Sim P E N w0 κ VR (M.pure (goI n)) (Builtin.len_ #[t] ty #[x']) :=
    fun n hn => ⟨Sim.val hn (goi n), Sim.ret hn (goi n)⟩
  have unf : ∀ w, (Builtin.len_ #[t] ty #[x']).run P w = (match d, x' with
      | .string, .string s => (Pure.pure (goInt s.size) : Sem Value)
      | .array n _, _ => Pure.pure (goInt n)
      | .pointer arr, _ => do
        let .array n _ ← underlying arr | stuck "len: pointer to array expected"
        Pure.pure (goInt n)
      | .slice _, .slice _ n _ => Pure.pure (goInt n)
      | .map _ _, .map none | .chan _ _, .chan none => Pure.pure (goInt 0)
      | .map _ _, .map (some r) => do
        let .map entries _ ← getObj r | stuck "len: map expected"
        Pure.pure (goInt entries.size)
      | .chan _ _, .chan (some r) => do
        let .chan _ buf _ _ _ timer ← getObj r | stuck "len: channel expected"
        Pure.pure (goInt (if timer then 0 else buf.size))
      | _, _ => stuck "len: string, array, pointer to array, slice, map or channel expected").run P w := by
    intro w
    simp only [Builtin.len_, List.getElem?_toArray, List.getElem?_cons_zero, Sem.run_bind, h.run_und, Result.andThen_ok]
    rfl
  split
  · rename_i hu
    obtain rfl := h.string hu
    cases x with
    | str s => cases hx; exact (run (bl s).length fun w => by rw [unf]; simp [bl]).1
    | _ => exact Sim.fail
  · rename_i n e hu
    obtain rfl := h.array hu
    exact (run n fun w => by rw [unf]; rfl).1
  · rename_i a hu
    obtain rfl := h.pointer hu
    refine Sim.tiM hE fun j jnf d' z' h' => ?_
    split
    · rename_i n e hu'
      obtain rfl := h'.array hu'
      exact (run n fun w => by rw [unf]; simp only [Sem.run_bind, h'.run_und, Result.andThen_ok, Sem.run_pure]).1
    · exact Sim.fail
  · rename_i e hu
    obtain rfl := h.slice hu
    cases x with
    | sl g p off len cap => obtain ⟨o, c, rfl⟩ := hx.sl_form; exact (run len fun w => by rw [unf]; rfl).2
    | bsl a len cap => obtain ⟨_, hx⟩ := hx; cases hx; exact (run len fun w => by rw [unf]; rfl).2
    | nils => cases hx; exact (run 0 fun w => by rw [unf]; rfl).2
    | _ => exact Sim.fail
  · rename_i k e hu
    obtain rfl := h.map hu
    cases x with
    | map g p =>
      obtain ⟨hd, rfl⟩ := hx
      intro S r S' w h0 e hp hR hF
      obtain ⟨o, S1, e1, e2⟩ := M.bind_some e
      obtain ⟨hg, ⟨m, hm, rfl⟩, rfl⟩ := M.rdO_some e1
      cases m with
      | map g' es c =>
        simp only at e2
        obtain ⟨⟨⟩, S2, e3, e4⟩ := M.bind_some e2
        obtain ⟨c1, c2, c3, c4, c5⟩ := M.chk_some e3
        rw [M.val_eq] at e4
        cases e4
        obtain rfl := beq_true (c5 hp).1
        obtain ⟨ho, _, _⟩ := hR.obj p _ hg
        obtain ⟨_, ms, hb, her⟩ := ho
        have hl : ms.size = es.length := by
          have : ∀ (es : List (DV × DV × Nat)) (ms : List MapEntry), ERL κ es ms → ms.length = es.length := by
            intro es
            induction es with
            | nil => intro ms h; cases h; rfl
            | cons a es ih => intro ms h; obtain ⟨m, ms', rfl, _, _, _, _, h5⟩ := h; simp [ih _ h5]
          simpa using this _ _ her
        refine ⟨κ, goInt ms.size, w, Ext.refl _ _ _, ?_, by rw [hl]; exact goi _, by rw [c1]; exact hR⟩
        rw [unf]
        simp only [Sem.run_bind, getObj, Sem.run, hb, Result.andThen_ok, Sem.run_pure]
      | _ => cases e2
    | nilm => cases hx; exact (run 0 fun w => by rw [unf]; rfl).2
    | _ => exact Sim.fail
  · exact Sim.fail

theorem Sim.opCap (hE : EnvOk P E) {κ : Kap} {t ty : TypeId} {x : DV} {x' : Value} (hx : VR κ x x') : Sim P E N w0 κ VR (opCap E t x) (Builtin.cap_ #[t] ty #[x']) := by
  unfold Am.opCap
  refine Sim.tiM hE fun i inf d z h => ?_
  have goi : ∀ n : Nat, VR κ (goI n) (goInt n) := fun n => rfl
  split
  · rename_i n e hu
    obtain rfl := h.array hu
    refine Sim.val (b := goInt n) (fun w => ?_) (goi n)
    simp only [Builtin.cap_, List.getElem?_toArray, List.getElem?_cons_zero, Sem.run_bind, h.run_und, Result.andThen_ok, Sem.run_pure]
  · rename_i e hu
    obtain rfl := h.slice hu
    have run : ∀ (a : Option Addr) (n c : Nat) (w : World), (Builtin.cap_ #[t] ty #[.slice a n c]).run P w = .ok (goInt c) w := by
      intro a n c w
      simp only [Builtin.cap_, List.getElem?_toArray, List.getElem?_cons_zero, Sem.run_bind, h.run_und, Result.andThen_ok, Sem.run_pure]
    cases x with
    | sl g p off len cap =>
      cases cap with
      | ex c => obtain ⟨_, _, rfl⟩ := hx; exact Sim.ret (run _ _ _) (goi c)
      | op z => exact Sim.fail
    | bsl a len cap => obtain ⟨_, hx⟩ := hx; cases hx; exact Sim.ret (run _ _ _) (goi cap)
    | nils => cases hx; exact Sim.ret (run _ _ _) (goi 0)
    | _ => exact Sim.fail
  · exact Sim.fail

theorem Rr.drew {κ : Kap} {h : Tr Obj} {w : World} (hR : Rr E N w0 κ h w) : Rr E N w0 κ h w.drew :=
  ⟨⟨hR.below.os, hR.below.tape, hR.below.output, hR.below.size, hR.below.block⟩, hR.big, fun p o hp => by
    obtain ⟨h1, h2, h3⟩ := hR.obj p o hp
    exact ⟨h1.keep (Kap.le.refl κ) rfl, h2, h3⟩, hR.apart, hR.phi, hR.glob⟩

/-- a draw of a capacity -/
theorem Sim.draw {α β : Type} {κ : Kap} {Q : Kap → α → β → Prop} {m : M α} {need old : Nat} {elem : TypeId} {f : Nat → Sem β} (h : ∀ c, need ≤ c → Sim P E N w0 κ Q m (f c)) :
    Sim P E N w0 κ Q m (choose (.appendCap need old elem) >>= f) := by
  intro S a S' w h0 e hp hR hF
  have hc : need ≤ (Question.appendCap need old elem).cut (w.tape w.drawn (.appendCap need old elem)) := Nat.le_add_right _ _
  obtain ⟨κ', b, w', x1, x2, x3, x4⟩ := h _ hc S a S' w.drew h0 e hp hR.drew hF
  refine ⟨κ', b, w', x1, ?_, x3, x4⟩
  rw [Sem.run_bind, run_choose]
  simp only [Question.forced, Bool.false_eq_true, if_false, Result.andThen_ok]
  exact x2

/-- cells are read on the abstract side alone -/
theorem Sim.ldcL {α β : Type} {κ : Kap} {Q : Kap → α → β → Prop} {g p off c : Nat} {k : List DV → M α} {s : Sem β}
    (hk : ∀ r, Local (k r)) (h : ∀ r, r.length = c → Sim P E N w0 κ Q (k r) s) :
    Sim P E N w0 κ Q (M.ldc g p off c k) s := by
  intro S x S' w h0 e hp hR hF
  obtain ⟨⟨g', r⟩, S1, e1, e2⟩ := M.bind_some e
  obtain ⟨opn, cs, hg, hc, hr, rfl⟩ := M.rowCells_some e1
  simp only at hr hg e2
  obtain ⟨⟨⟩, S2, e3, e4⟩ := M.bind_some e2
  obtain ⟨c1, c2, c3, c4, c5⟩ := M.chk_some e3
  simp only at c1 c2 c3 c4
  have h0' : S2.lg.thr ≤ S2.pos := by rw [c4, c2]; exact h0
  have hlen : r.length = c := by rw [hr]; simp; omega
  have := h r hlen S2 x S' w h0' e4 hp (by rw [c1]; exact hR) (by rw [c3]; exact hF)
  rw [c3] at this
  exact this

theorem run_loadCells0 (a : Addr) (w : World) : (loadCells a 0).run P w = .ok #[] w := rfl

theorem Sim.firstK {α β : Type} {κ : Kap} {Q : Kap → α → β → Prop} {size n : Nat} {x : DV} {x' : Value} {k : List DV → M α} {f' : Array Value → Sem β} (hx : VR κ x x') (hn : ∀ m, lenOf x = some m → n ≤ m)
    (hk : ∀ r, Local (k r)) (h : ∀ r (r' : Array Value), VRL κ r r'.toList → r.length = n * size → Sim P E N w0 κ Q (k r) (f' r')) :
    Sim P E N w0 κ Q (firstK E size n x k) (Builtin.firstCells size n x' >>= f') := by
  cases x with
  | sl g p off len cap =>
    have hn' : n ≤ len := hn len rfl
    cases cap with
    | ex c =>
      obtain ⟨hd, hlc, rfl⟩ := hx
      exact Sim.ldc rfl hk fun r r' hl hr => h r r' hr hl
    | op z =>
      obtain ⟨hd, hz, o, c, rfl, hlc, ho⟩ := hx
      rcases ho with ⟨rfl, ho⟩ | h0
      · exact Sim.ldc rfl hk fun r r' hl hr => h r r' hr hl
      · have : n = 0 := by omega
        subst this
        refine Sim.congr (s' := f' #[]) (fun w => ?_) (Sim.ldcL hk fun r hr => h r #[] ?_ hr)
        · simp only [Builtin.firstCells, Nat.zero_mul, Sem.run_bind, run_loadCells0, Result.andThen_ok]
        · have : r = [] := List.eq_nil_of_length_eq_zero (by omega)
          subst this; rfl
  | nils =>
    cases hx
    have : n = 0 := by have := hn 0 rfl; omega
    subst this
    refine Sim.congr (s' := f' #[]) (fun w => ?_) (h [] #[] rfl (by simp))
    simp only [Builtin.firstCells, Sem.run_bind, Sem.run_pure, Result.andThen_ok]
  | str s =>
    cases hx
    refine Sim.chk (Local.ltakeK fun r => hk _) fun hs => ?_
    have hs := beq_true hs
    subst hs
    rw [ltakeK_eq]
    have hn' : n ≤ (bl s).length := hn _ rfl
    refine Sim.congr (s' := f' ((s.extract 0 n).data.map fun b => .int .u8 b.toNat)) (fun w => ?_) (h _ _ ?_ (by simp; omega))
    · simp only [Builtin.firstCells, Sem.run_bind, Sem.run_pure, Result.andThen_ok]
    · have e : ((s.extract 0 n).data.map fun b => Value.int .u8 b.toNat).toList = ((bl s).take n).map fun b => Value.int .u8 b.toNat := by
        simp [bl, ByteArray.data_extract, List.extract_eq_take_drop]
      rw [e]
      generalize (bl s).take n = l
      induction l with
      | nil => rfl
      | cons b l ih => exact ⟨_, _, rfl, rfl, ih⟩
  | bsl a len cap =>
    obtain ⟨hlc, hx⟩ := hx
    cases hx
    obtain ⟨b, o, sp⟩ := a
    cases sp with
    | some s => exact Sim.fail
    | none =>
      unfold Am.firstK
      simp only
      cases hg : E.glob.get b with
      | none => exact Sim.fail
      | some cs =>
        simp only
        rw [ltakeK_eq, ldrop_eq]
        refine Sim.chk (hk _) fun hl => ?_
        have hl : ((cs.drop o).take (n * size)).length = n * size := beq_true hl
        intro S r S' w h0 e hp hR hF
        have hc : ∀ j c, cs[j]? = some c → ∃ v, w.cell? ⟨b, j, none⟩ = some v ∧ VR κ c v := fun j c hj => by
          obtain ⟨v, h1, h2⟩ := hR.glob b cs j c hg hj
          exact ⟨v, (hR.phi _ _ h1).1, h2⟩
        have hvs : ∃ vs : List Value, VRL κ ((cs.drop o).take (n * size)) vs ∧ ∀ j v, vs[j]? = some v → w.cell? ((⟨b, o, none⟩ : Addr).add j) = some v := by
          refine ⟨(List.range (n * size)).map fun j => (w.cell? ⟨b, o + j, none⟩).getD undef, VRL.mk _ _ (by simp [hl]) fun j c hj => ?_, fun j v hv => ?_⟩
          · have hj' : j < n * size := by have := (List.getElem?_eq_some_iff.1 hj).1; omega
            rw [List.getElem?_take_of_lt hj', List.getElem?_drop] at hj
            obtain ⟨v, h1, h2⟩ := hc (o + j) c hj
            exact ⟨v, by simp [List.getElem?_map, List.getElem?_range, hj', h1], h2⟩
          · have hj' : j < n * size := by have := (List.getElem?_eq_some_iff.1 hv).1; simpa using this
            have hj2 : o + j < cs.length := by simp at hl; omega
            obtain ⟨u, h1, _⟩ := hc (o + j) cs[o + j] (List.getElem?_eq_getElem hj2)
            simp [List.getElem?_map, List.getElem?_range, hj', h1] at hv
            rw [add_cell, h1, hv]
        obtain ⟨vs, h1, h2⟩ := hvs
        have hrun := run_loadCells_list (P := P) (w := w) ⟨b, o, none⟩ vs h2
        rw [VRL.length _ _ h1, hl] at hrun
        obtain ⟨κ', d, w', x1, x2, x3, x4⟩ := h _ vs.toArray (by simpa using h1) hl S r S' w h0 e hp hR hF
        refine ⟨κ', d, w', x1, ?_, x3, x4⟩
        rw [Sem.run_bind]
        show ((loadCells _ _).run P w).andThen _ = _
        rw [hrun]; exact x2
  | _ => exact Sim.fail

/-- A row with room is made. -/
theorem Sim.newOpen {κ : Kap} {cs : List DV} {elem : TypeId} {C : Array Value} {need c z : Nat} (h : VRL κ cs (C.toList.take cs.length)) (hl : cs.length = need * z) (hC : c * z ≤ C.size) (hc : need ≤ c) (hz : 0 < z) :
    Sim P E N w0 κ VR (M.bind (M.new true cs) fun pe => M.pure (.sl pe.2 pe.1 0 need (.op z))) (do Pure.pure (Value.slice (some (← newRow elem C)) need c)) := by
  intro S a S' w h0 e hp hR hF
  obtain ⟨pe, S1, e1, e2⟩ := M.bind_some e
  rw [M.new_eq] at e1
  cases e1
  cases e2
  have he : ¬ κ.dom S.ep := hF S.ep (Nat.le_refl _) (Nat.lt_succ_self _)
  have b1 : (κ.add S.ep w.heap.size 0 (c * z) z).blk S.ep = w.heap.size := if_pos rfl
  have b2 : (κ.add S.ep w.heap.size 0 (c * z) z).bas S.ep = 0 := if_pos rfl
  have b3 : (κ.add S.ep w.heap.size 0 (c * z) z).endc S.ep = c * z := if_pos rfl
  have b4 : (κ.add S.ep w.heap.size 0 (c * z) z).esz S.ep = z := if_pos rfl
  have hnc : need * z ≤ c * z := Nat.mul_le_mul_right z hc
  refine ⟨κ.add S.ep w.heap.size 0 (c * z) z, Value.slice (some ⟨w.heap.size, 0, none⟩) need c, w.alloc (.cells C elem), Ext.add he _ _ _ _, ?_, ⟨.inr rfl, ⟨hz, b4⟩, 0, c, ?_, hc, .inl ⟨by rw [b2], by rw [b3]; simp⟩⟩, ?_⟩
  · simp only [newRow, Sem.run_bind, run_newObj, Result.andThen_ok, Sem.run_pure]; rfl
  · rw [b1]
  · refine hR.alloc (p := S.pos) (o := .cells S.ep true cs) he rfl 0 (c * z) z ⟨.inr rfl, C, elem, (0, 0), ?_, ?_⟩
    · rw [b1]; exact heap_alloc w _
    · refine ⟨by rw [b2]; omega, fun j d hj => ?_, fun j _ h => by omega, fun _ => by rw [b2, b3]; omega⟩
      obtain ⟨v, hv, hr⟩ := VRL.get _ _ h j d hj
      have hjl : j < cs.length := (List.getElem?_eq_some_iff.1 hj).1
      rw [List.getElem?_take_of_lt hjl] at hv
      exact ⟨v, by rw [b2, Nat.zero_add, ← Array.getElem?_toList]; exact hv, VR.mono (Kap.add_le he _ _ _ _) _ _ hr⟩
end
end Go.Am
