/- The operations, continued: fields, indexing, slicing, lengths. -/
import Derived.Test.YtbaakikdmbehjaaDoorAmSim3
import Derived.Test.YtbaakikdmbehjaaDoorAmNum
import Derived.Laws.Slices
set_option linter.unusedVariables false
set_option linter.unusedSimpArgs false
set_option linter.unusedSectionVars false
namespace Go.Am
open Go.RowKit

theorem Addr.add_eq (b o j : Nat) : (⟨b, o, none⟩ : Addr).add j = ⟨b, o + j, none⟩ := add_cell b o j

section
variable {P : Program} {E : Env} {N : Nat} {w0 : World}

theorem Sim.opField (hE : EnvOk P E) {κ : Kap} {t : TypeId} {x : DV} {x' : Value} {f : Nat} (hx : VR κ x x') : Sim P E N w0 κ VR (opField E t x f) (Instr.field t x' f) := by
  unfold Am.opField
  refine Sim.tiM hE fun i inf d z h => ?_
  split
  · rename_i hu
    obtain ⟨fs, rfl⟩ := h.struct hu
    obtain ⟨f1, f2⟩ := h.flds
    rw [lget_eq]
    cases hf : i.flds[f]? with
    | none => exact Sim.fail
    | some osu =>
      obtain ⟨o, s, u⟩ := osu
      have hlt : f < fs.size := by have := (List.getElem?_eq_some_iff.1 hf).1; omega
      obtain ⟨j, hj, hfl⟩ := f2 f fs[f] (by simp [hlt])
      rw [hf] at hfl
      cases hfl
      simp only
      refine Sim.tiM hE fun j' jnf d' z' h' => ?_
      cases x with
      | agg cs =>
        obtain ⟨vs, rfl, hv⟩ := hx
        refine Sim.congr (s' := Go.part fs[f].type vs fs[f].offset) (fun w => ?_) (Sim.part h' hv)
        simp only [Instr.field, Sem.run_bind, h.run_und, Result.andThen_ok, Array.getElem?_eq_getElem hlt, asAgg, Sem.run_pure]
      | _ => exact Sim.fail
  · exact Sim.fail

theorem Sim.opFieldAddr (hE : EnvOk P E) {κ : Kap} {t : TypeId} {x : DV} {x' : Value} {f : Nat} (hx : VR κ x x') : Sim P E N w0 κ VR (opFieldAddr E t x f) (Instr.fieldAt t x' f) := by
  unfold Am.opFieldAddr
  refine Sim.tiM hE fun i inf d z h => ?_
  split
  · rename_i hu
    obtain ⟨fs, rfl⟩ := h.struct hu
    obtain ⟨f1, f2⟩ := h.flds
    rw [lget_eq]
    cases hf : i.flds[f]? with
    | none => exact Sim.fail
    | some osu =>
      obtain ⟨o, s, u⟩ := osu
      have hlt : f < fs.size := by have := (List.getElem?_eq_some_iff.1 hf).1; omega
      obtain ⟨j, hj, hfl⟩ := f2 f fs[f] (by simp [hlt])
      rw [hf] at hfl
      cases hfl
      simp only
      cases hs : Nat.beq j.size 0 with
      | true => exact Sim.fail
      | false =>
        have hs0 : j.size ≠ 0 := by intro h0; rw [h0] at hs; cases hs
        have run : ∀ (a : Addr) (w : World), (Instr.fieldAt t (.pointer (some a)) f).run P w = .ok (.pointer (some (a.add fs[f].offset))) w := by
          intro a w
          simp only [Instr.fieldAt, Sem.run_bind, h.run_und, Result.andThen_ok, Array.getElem?_eq_getElem hlt, Instr.sureAddr, Sem.run_pure, fieldPlace, sizeOf, typeInfo, run_program, hj, hs0, if_false]
        cases x with
        | ptr g p off =>
          obtain ⟨hd, rfl⟩ := hx
          exact Sim.ret (run _) ⟨hd, by rw [add_cell, Nat.add_assoc]⟩
        | bptr a => cases hx; exact Sim.ret (run _) rfl
        | _ => exact Sim.fail
  · exact Sim.fail

/-- an index that is looked at -/
theorem Sim.idxK {α β : Type} {κ : Kap} {Q : Kap → α → β → Prop} {x : DV} {x' : Value} {k : Nat → M α} {bd : Nat → Bool} {s : Sem β} (hx : VR κ x x') (hk : ∀ m, Local (k m))
    (h : ∀ kk (m : Nat), x' = .int kk m → bd m = true → Sim P E N w0 κ Q (k m) s) : Sim P E N w0 κ Q (idxK x k bd) s := by
  cases x with
  | int kk n =>
    cases hx
    rw [idxK_int]
    refine Sim.chk (hk _) fun hc => ?_
    cases hn : ilt n 0 with
    | true => rw [hn] at hc; cases hc
    | false =>
      rw [hn] at hc
      rw [ilt_eq] at hn
      have hn' : 0 ≤ n := by simpa using hn
      exact h kk n.toNat (by rw [Int.toNat_of_nonneg hn']) hc
  | _ => exact Sim.fail

theorem blt_lt {m n : Nat} (h : Nat.blt m n = true) : m < n := Nat.le_of_ble_eq_true h

theorem Sim.opIndexAddr (hE : EnvOk P E) {κ : Kap} {t : TypeId} {x ix : DV} {x' ix' : Value} (hx : VR κ x x') (hi : VR κ ix ix') :
    Sim P E N w0 κ VR (opIndexAddr E t x ix) (Instr.indexAt t x' ix') := by
  unfold Am.opIndexAddr
  refine Sim.tiM hE fun i inf d z h => ?_
  split
  · rename_i n e hu
    obtain rfl := h.array hu
    refine Sim.tiM hE fun j jnf d' z' h' => ?_
    have run : ∀ (a : Addr) (kk : IntKind) (m : Nat) (w : World), m < n → (Instr.indexAt t (.pointer (some a)) (.int kk m)).run P w = .ok (.pointer (some (a.add (m * j.size)))) w := by
      intro a kk m w hm
      simp only [Instr.indexAt, asIntOf, Sem.run_bind, Sem.run_pure, Result.andThen_ok, h.run_und, Instr.sureAddr]
      rw [if_pos ⟨by omega, by omega⟩]
      simp only [Sem.run_bind, h'.run_size, Result.andThen_ok, Sem.run_pure, Int.toNat_natCast]
    cases x with
    | ptr g p off =>
      obtain ⟨hd, rfl⟩ := hx
      refine Sim.idxK hi (fun _ => Local.pure _) fun kk m e hm => ?_
      subst e
      exact Sim.ret (fun w => run _ kk m w (blt_lt hm)) ⟨hd, by rw [add_cell, Nat.add_assoc]⟩
    | bptr a =>
      cases hx
      refine Sim.idxK hi (fun _ => Local.pure _) fun kk m e hm => ?_
      subst e
      exact Sim.ret (fun w => run _ kk m w (blt_lt hm)) rfl
    | _ => exact Sim.fail
  · rename_i e hu
    obtain rfl := h.slice hu
    refine Sim.tiM hE fun j jnf d' z' h' => ?_
    have run : ∀ (a : Addr) (len cap : Nat) (kk : IntKind) (m : Nat) (w : World), m < len → (Instr.indexAt t (.slice (some a) len cap) (.int kk m)).run P w = .ok (.pointer (some (a.add (m * j.size)))) w := by
      intro a len cap kk m w hm
      simp only [Instr.indexAt, asIntOf, Sem.run_bind, Sem.run_pure, Result.andThen_ok, h.run_und]
      rw [if_pos ⟨by omega, by omega⟩]
      simp only [Sem.run_bind, h'.run_size, Result.andThen_ok, Sem.run_pure, Int.toNat_natCast]
    cases x with
    | sl g p off len cap =>
      refine Sim.idxK hi (fun _ => Local.pure _) fun kk m e hm => ?_
      subst e
      have hm := blt_lt hm
      cases cap with
      | ex c =>
        obtain ⟨hd, _, hx⟩ := hx
        cases hx
        exact Sim.ret (fun w => run _ _ _ kk m w hm) ⟨hd, by rw [add_cell, Nat.add_assoc]⟩
      | op z =>
        obtain ⟨hd, _, o, c, rfl, hc, ho⟩ := hx
        rcases ho with ⟨rfl, _⟩ | h0
        · exact Sim.ret (fun w => run _ _ _ kk m w hm) ⟨hd, by rw [add_cell, Nat.add_assoc]⟩
        · omega
    | bsl a len cap =>
      obtain ⟨_, hx⟩ := hx
      cases hx
      refine Sim.idxK hi (fun _ => Local.pure _) fun kk m e hm => ?_
      subst e
      exact Sim.ret (fun w => run _ _ _ kk m w (blt_lt hm)) rfl
    | _ => exact Sim.fail
  · exact Sim.fail

theorem bl_get (s : ByteArray) (m : Nat) : s[m]? = (bl s)[m]? := by
  unfold bl
  by_cases h : m < s.size
  · have h' : m < s.data.toList.length := by simpa using h
    rw [getElem?_pos s m h, List.getElem?_eq_getElem h']
    rfl
  · have h' : ¬ m < s.data.toList.length := by simpa using h
    rw [getElem?_neg s m h, List.getElem?_eq_none (by omega)]

theorem Sim.opIndex (hE : EnvOk P E) {κ : Kap} {t : TypeId} {x ix : DV} {x' ix' : Value} (hx : VR κ x x') (hi : VR κ ix ix') :
    Sim P E N w0 κ VR (opIndex E t x ix) (Instr.index t x' ix') := by
  unfold Am.opIndex
  refine Sim.tiM hE fun i inf d z h => ?_
  split
  · rename_i n e hu
    obtain rfl := h.array hu
    refine Sim.tiM hE fun j jnf d' z' h' => ?_
    cases x with
    | agg cs =>
      obtain ⟨vs, rfl, hv⟩ := hx
      refine Sim.idxK hi (fun _ => Local.part) fun kk m e hm => ?_
      subst e
      refine Sim.congr (s' := Go.part e vs (m * j.size)) (fun w => ?_) (Sim.part h' hv)
      simp only [Instr.index, asIntOf, Sem.run_bind, Sem.run_pure, Result.andThen_ok, h.run_und]
      rw [if_pos ⟨by omega, by have := blt_lt hm; omega⟩]
      simp only [Sem.run_bind, h'.run_size, Result.andThen_ok, Int.toNat_natCast]
    | _ => exact Sim.fail
  · rename_i hu
    obtain rfl := h.string hu
    cases x with
    | str s =>
      cases hx
      refine Sim.idxK hi (fun m => ?_) fun kk m e hm => ?_
      · split
        · exact Local.val _
        · exact Local.fail
      subst e
      rw [lget_eq]
      cases hb : (bl s)[m]? with
      | none => exact Sim.fail
      | some b =>
        refine Sim.val (b := Value.int .u8 b.toNat) (fun w => ?_) (show VR κ (.int .u8 (.ofNat b.toNat)) (.int .u8 b.toNat) from rfl)
        simp only [Instr.index, asIntOf, Sem.run_bind, Sem.run_pure, Result.andThen_ok, h.run_und]
        rw [if_pos (by omega), Int.toNat_natCast, bl_get, hb]
        rfl
    | _ => exact Sim.fail
  · exact Sim.fail

theorem Sim.opMakeSlice (hE : EnvOk P E) {κ : Kap} {t : TypeId} {l c : DV} {l' c' : Value} (hl : VR κ l l') (hc : VR κ c c') :
    Sim P E N w0 κ VR (opMakeSlice E t l c) (Instr.makeSlice t l' c') := by
  unfold Am.opMakeSlice
  refine Sim.tiM hE fun i inf d z h => ?_
  split
  · rename_i e hu
    obtain rfl := h.slice hu
    refine Sim.tiM hE fun j jnf d' z' h' => ?_
    cases l with
    | int kl l =>
      cases c with
      | int kc c =>
        cases hl; cases hc
        have loc : Local (lrepK (iwr .i64 c).toNat j.zero fun z => forceNat (iwr .i64 l).toNat fun l => forceNat (iwr .i64 c).toNat fun c => M.bind (M.new false z) fun pe => M.pure (DV.sl pe.2 pe.1 0 l (.ex c))) :=
          Local.lrepK fun z => Local.forceNat fun _ => Local.forceNat fun _ => Local.bind (Local.new _ _) fun _ => Local.pure _
        refine Sim.chk (Local.bind (Local.chk _) fun _ => loc) fun h1 => Sim.chk loc fun h2 => ?_
        rw [lrepK_eq, forceNat_eq, forceNat_eq]
        rw [ilt_eq, ilt_eq, ble_eq, iwr_eq, iwr_eq] at h1
        have h1a : ¬ (IntKind.i64.wrap l < 0) := by intro hh; rw [decide_eq_true hh] at h1; cases h1
        rw [decide_eq_false h1a] at h1
        have h1b : ¬ (IntKind.i64.wrap c < IntKind.i64.wrap l) := by intro hh; rw [decide_eq_true hh] at h1; cases h1
        rw [decide_eq_false h1b] at h1
        have h1c : (IntKind.i64.wrap c).toNat * (j.bytes + 1) ≤ 1099511627776 := by simpa using h1
        rw [iwr_eq, iwr_eq]
        obtain ⟨C, hC, hn0, h0⟩ := zeros_row (κ := κ) h' h2 (IntKind.i64.wrap c).toNat
        refine Sim.congr (s' := do Pure.pure (Value.slice (some (← newRow e C)) (IntKind.i64.wrap l).toNat (IntKind.i64.wrap c).toNat)) (fun w => ?_) (Sim.newSl hC (by omega))
        have hb : ¬ ((jnf.bytes : Int) * IntKind.i64.wrap c > 2 ^ 48) := by
          have e1 : (jnf.bytes : Int) * IntKind.i64.wrap c = ((jnf.bytes * (IntKind.i64.wrap c).toNat : Nat) : Int) := by
            rw [Int.natCast_mul, Int.toNat_of_nonneg (by omega)]
          rw [e1, h'.bytes]
          have : j.bytes * (IntKind.i64.wrap c).toNat ≤ 1099511627776 := by
            rw [Nat.mul_comm]
            exact Nat.le_trans (Nat.mul_le_mul_left _ (Nat.le_succ _)) h1c
          have e3 : (2 : Int) ^ 48 = 281474976710656 := by decide
          rw [e3]; omega
        simp only [Instr.makeSlice, Sem.run_bind, h.run_und, Result.andThen_ok, asInt, asIntOf, Sem.run_pure, h'.run_info]
        rw [if_neg (by
          simp only [Bool.or_eq_true, decide_eq_true_eq, not_or]
          exact ⟨⟨⟨by omega, hb⟩, h1a⟩, h1b⟩)]
        simp only [Sem.run_bind, run_askRoom, Result.andThen_ok, h'.run_size, Sem.run_pure]
        by_cases hz : (IntKind.i64.wrap c).toNat * j.size = 0
        · rw [if_pos hz]
          simp only [Sem.run_bind, Sem.run_pure, Result.andThen_ok]
          rw [show (#[] : Array Value).size = 0 from rfl, ← h0 hz]
        · rw [if_neg hz]
          simp only [Sem.run_bind, h'.run_zero, Sem.run_pure, Result.andThen_ok]
          rw [← hn0 hz]
      | _ => exact Sim.fail
    | _ => exact Sim.fail
  · exact Sim.fail

theorem cond_ite {α : Type} (m l : Nat) (x y : α) : cond (Nat.beq m l) x y = if m = l then x else y := by
  rw [nbeq_eq]; by_cases h : m = l <;> simp [h]

def OptR (κ : Kap) (x : Option DV) (y : Option Value) : Prop := match x, y with
  | none, none => True
  | some d, some v => VR κ d v
  | _, _ => False
theorem ble_le {m n : Nat} (h : Nat.ble m n = true) : m ≤ n := Nat.le_of_ble_eq_true h

/-- one bound -/
theorem Sim.optIdx {α β : Type} {κ : Kap} {Q : Kap → α → β → Prop} {x : Option DV} {x' : Option Value} {d hi : Nat} {k : Nat → M α} {s : Sem β} (hx : OptR κ x x') (hk : ∀ m, Local (k m))
    (hn : x = none → x' = none → Sim P E N w0 κ Q (k d) s) (hs : ∀ kk (m : Nat), x ≠ none → x' = some (.int kk m) → m ≤ hi → Sim P E N w0 κ Q (k m) s) : Sim P E N w0 κ Q (optIdx x d hi k) s := by
  cases x with
  | none => cases x' with
    | none => exact hn rfl rfl
    | some v => exact hx.elim
  | some v => cases x' with
    | none => exact hx.elim
    | some v' => exact Sim.idxK (x := v) hx hk fun kk m e hm => hs kk m (by simp) (by rw [e]) (ble_le hm)

/-- the bounds of a slice expression -/
theorem Sim.bndK {α β : Type} {κ : Kap} {Q : Kap → α → β → Prop} {isSl : Bool} {len cap capM : Nat} {lo hi mx : Option DV} {lo' hi' mx' : Option Value} {k : Nat → Nat → Nat → M α} {s : Nat × Nat × Nat → Sem β}
    (hlo : OptR κ lo lo') (hhi : OptR κ hi hi') (hmx : OptR κ mx mx') (hk : ∀ a b c, Local (k a b c)) (hcap : capM ≤ cap) (hlen : len ≤ capM)
    (h : ∀ l h m m', l ≤ h → h ≤ m → m ≤ m' → (mx = none → m = capM ∧ m' = cap) → (mx ≠ none → m = m' ∧ m ≤ capM) → Sim P E N w0 κ Q (k l h m) (s (l, h, m'))) :
    Sim P E N w0 κ Q (bndK len capM lo hi mx k) (Instr.sliceBounds isSl len cap lo' hi' mx' >>= s) := by
  have core : (hi = none → mx = none) → Sim P E N w0 κ Q (Am.optIdx mx capM capM fun m => Am.optIdx hi len m fun h => Am.optIdx lo 0 h fun l => k l h m) (Instr.sliceBounds isSl len cap lo' hi' mx' >>= s) := by
    intro hmh
    refine Sim.optIdx hmx (fun _ => Local.optIdx fun _ => Local.optIdx fun _ => hk _ _ _) (fun em em' => ?_) fun kk m em em' hm => ?_
    · refine Sim.optIdx hhi (fun _ => Local.optIdx fun _ => hk _ _ _) (fun eh eh' => ?_) fun kh m2 eh eh' hm2 => ?_
      · refine Sim.optIdx hlo (fun _ => hk _ _ _) (fun el el' => ?_) fun kl m3 el el' hm3 => ?_
        · refine Sim.congr (s' := s (0, len, cap)) (fun w => ?_) (h 0 len capM cap (by omega) hlen hcap (fun _ => ⟨rfl, rfl⟩) (fun hh => absurd em hh))
          subst em' eh' el'
          simp only [Instr.sliceBounds, Sem.run_bind, Sem.run_pure, Result.andThen_ok]
        · refine Sim.congr (s' := s (m3, len, cap)) (fun w => ?_) (h m3 len capM cap hm3 hlen hcap (fun _ => ⟨rfl, rfl⟩) (fun hh => absurd em hh))
          subst em' eh' el'
          simp only [Instr.sliceBounds, Sem.run_bind, Sem.run_pure, Result.andThen_ok]
          rw [run_sliceBound w _ _ _ _ (by omega) (by omega)]
          simp only [Result.andThen_ok, Int.toNat_natCast]
      · refine Sim.optIdx hlo (fun _ => hk _ _ _) (fun el el' => ?_) fun kl m3 el el' hm3 => ?_
        · refine Sim.congr (s' := s (0, m2, cap)) (fun w => ?_) (h 0 m2 capM cap (by omega) hm2 hcap (fun _ => ⟨rfl, rfl⟩) (fun hh => absurd em hh))
          subst em' eh' el'
          simp only [Instr.sliceBounds, Sem.run_bind, Sem.run_pure, Result.andThen_ok]
          rw [run_sliceBound w _ _ _ _ (by omega) (by omega)]
          simp only [Result.andThen_ok, Int.toNat_natCast]
        · refine Sim.congr (s' := s (m3, m2, cap)) (fun w => ?_) (h m3 m2 capM cap hm3 hm2 hcap (fun _ => ⟨rfl, rfl⟩) (fun hh => absurd em hh))
          subst em' eh' el'
          simp only [Instr.sliceBounds, Sem.run_bind, Sem.run_pure, Result.andThen_ok]
          rw [run_sliceBound w kh _ _ _ (by omega) (by omega)]
          simp only [Result.andThen_ok, Int.toNat_natCast]
          rw [run_sliceBound w kl _ _ _ (by omega) (by omega)]
          simp only [Result.andThen_ok, Int.toNat_natCast]
    · refine Sim.optIdx hhi (fun _ => Local.optIdx fun _ => hk _ _ _) (fun eh eh' => absurd (hmh eh) em) fun kh m2 eh eh' hm2 => ?_
      refine Sim.optIdx hlo (fun _ => hk _ _ _) (fun el el' => ?_) fun kl m3 el el' hm3 => ?_
      · refine Sim.congr (s' := s (0, m2, m)) (fun w => ?_) (h 0 m2 m m (by omega) hm2 (by omega) (fun hh => absurd hh em) (fun hh => ⟨rfl, hm⟩))
        subst em' eh' el'
        simp only [Instr.sliceBounds, Sem.run_bind, Sem.run_pure, Result.andThen_ok]
        rw [run_sliceBound w kk _ _ _ (by omega) (by omega)]
        simp only [Result.andThen_ok, Int.toNat_natCast]
        rw [run_sliceBound w kh _ _ _ (by omega) (by omega)]
        simp only [Result.andThen_ok, Int.toNat_natCast]
      · refine Sim.congr (s' := s (m3, m2, m)) (fun w => ?_) (h m3 m2 m m hm3 hm2 (by omega) (fun hh => absurd hh em) (fun hh => ⟨rfl, hm⟩))
        subst em' eh' el'
        simp only [Instr.sliceBounds, Sem.run_bind, Sem.run_pure, Result.andThen_ok]
        rw [run_sliceBound w kk _ _ _ (by omega) (by omega)]
        simp only [Result.andThen_ok, Int.toNat_natCast]
        rw [run_sliceBound w kh _ _ _ (by omega) (by omega)]
        simp only [Result.andThen_ok, Int.toNat_natCast]
        rw [run_sliceBound w kl _ _ _ (by omega) (by omega)]
        simp only [Result.andThen_ok, Int.toNat_natCast]
  unfold Am.bndK
  cases mx with
  | none => exact core fun _ => rfl
  | some v => cases hi with
    | none => exact Sim.fail
    | some v => exact core fun h => by cases h

theorem Sim.opSlice (hE : EnvOk P E) {κ : Kap} {t : TypeId} {x : DV} {x' : Value} {lo hi mx : Option DV} {lo' hi' mx' : Option Value} (hx : VR κ x x') (hlo : OptR κ lo lo') (hhi : OptR κ hi hi') (hmx : OptR κ mx mx') :
    Sim P E N w0 κ VR (opSlice E t x lo hi mx) (Instr.sliceAt t x' lo' hi' mx') := by
  unfold Am.opSlice
  refine Sim.tiM hE fun i inf d z h => ?_
  split
  · rename_i hu
    obtain rfl := h.string hu
    cases x with
    | str s =>
      cases mx with
      | some v => exact Sim.fail
      | none =>
        cases mx' with
        | some v => exact hmx.elim
        | none =>
          cases hx
          have hsz : s.size = (bl s).length := by unfold bl; simp
          refine Sim.congr (s' := Instr.sliceBounds false (bl s).length (bl s).length lo' hi' none >>= fun r => Pure.pure (.string (s.extract r.1 r.2.1))) (fun w => ?_) ?_
          · simp only [Instr.sliceAt, Instr.slice, Sem.run_bind, h.run_und, Result.andThen_ok, Option.isSome_none, Bool.false_eq_true, if_false, hsz, Sem.run_pure]
          · refine Sim.bndK hlo hhi trivial (fun _ _ _ => Local.ltakeK fun _ => Local.pure _) (Nat.le_refl _) (Nat.le_refl _) fun l h m m' h1 h2 h3 _ _ => ?_
            rw [ltakeK_eq, ldrop_eq]
            refine Sim.pure ?_
            show Value.string _ = Value.string _
            congr 1
            apply ByteArray.ext
            apply Array.ext'
            simp only [ByteArray.data_extract, Array.toList_extract, mkS, bl, List.extract_eq_take_drop]
    | _ => exact Sim.fail
  · rename_i e hu
    obtain rfl := h.slice hu
    refine Sim.tiM hE fun j jnf d' z' h' => ?_
    have run : ∀ (a : Option Addr) (len cap : Nat) (w : World), (Instr.sliceAt t (.slice a len cap) lo' hi' mx').run P w =
        (Instr.sliceBounds true len cap lo' hi' mx' >>= fun r => Pure.pure (.slice (if r.2.2 = r.1 then a else a.map (·.add (r.1 * j.size))) (r.2.1 - r.1) (r.2.2 - r.1))).run P w := by
      intro a len cap w
      simp only [Instr.sliceAt, Instr.slice, Sem.run_bind, h.run_und, Result.andThen_ok]
      congr 1
      funext r w
      simp only [Sem.run_bind, h'.run_size, Result.andThen_ok, Sem.run_pure]
    cases x with
    | sl g p off len cap =>
      cases cap with
      | ex c =>
        obtain ⟨hd, hlc, hx⟩ := hx
        cases hx
        refine Sim.congr (run _ _ _) ?_
        · refine Sim.bndK hlo hhi hmx (fun _ _ _ => Local.pure _) (Nat.le_refl _) hlc fun l h m m' h1 h2 h3 h4 h5 => ?_
          have em : m = m' := by cases mx with
            | none => have := h4 rfl; omega
            | some v => exact (h5 (by simp)).1
          subst em
          refine Sim.pure ⟨hd, by omega, ?_⟩
          simp only [cond_ite]
          by_cases hml : m = l
          · rw [if_pos hml, if_pos hml]
          · rw [if_neg hml, if_neg hml, Option.map_some, add_cell, Nat.add_assoc]
      | op z =>
        obtain ⟨hd, hz, o, c, rfl, hlc, ho⟩ := hx
        refine Sim.congr (run _ _ _) ?_
        refine Sim.chk ?_ fun hzj => ?_
        · cases mx
          · exact Local.bndK fun _ _ _ => Local.pure _
          · exact Local.bind (Local.chk _) fun _ => Local.bndK fun _ _ _ => Local.pure _
        have hzj := beq_true hzj
        cases mx with
        | none =>
          refine Sim.bndK hlo hhi hmx (fun _ _ _ => Local.pure _) hlc (Nat.le_refl _) fun l h m m' h1 h2 h3 h4 h5 => ?_
          obtain ⟨e1, e2⟩ := h4 rfl
          subst e1 e2
          refine Sim.pure ⟨hd, hz, ?_⟩
          dsimp only
          rcases ho with ⟨rfl, ho⟩ | h0
          · by_cases hml : m' = l
            · exact ⟨_, _, by rw [if_pos hml], by omega, .inr (by omega)⟩
            · refine ⟨κ.bas g + off + l * j.size, m' - l, by rw [if_neg hml, Option.map_some, add_cell], by omega, .inl ⟨by omega, ?_⟩⟩
              rw [← ho, ← hzj, Nat.add_assoc, ← Nat.add_mul]
              congr 2; omega
          · have : l = 0 := by omega
            subst this h0
            exact ⟨o, 0, by simp, by omega, .inr rfl⟩
        | some v =>
          refine Sim.chk (Local.bndK fun _ _ _ => Local.pure _) fun hpos => ?_
          have hpos := blt_lt hpos
          refine Sim.bndK hlo hhi hmx (fun _ _ _ => Local.pure _) hlc (Nat.le_refl _) fun l h m m' h1 h2 h3 h4 h5 => ?_
          obtain ⟨e1, h6⟩ := h5 (by simp)
          subst e1
          rcases ho with ⟨rfl, ho⟩ | h0
          · refine Sim.pure ⟨hd, by omega, ?_⟩
            simp only [cond_ite]
            by_cases hml : m = l
            · rw [if_pos hml, if_pos hml]
            · rw [if_neg hml, if_neg hml, Option.map_some, add_cell, Nat.add_assoc]
          · omega
    | bsl a len cap =>
      obtain ⟨hlc, hx⟩ := hx
      cases hx
      refine Sim.congr (run _ _ _) ?_
      refine Sim.bndK hlo hhi hmx (fun _ _ _ => Local.pure _) (Nat.le_refl _) hlc fun l h m m' h1 h2 h3 h4 h5 => ?_
      have em : m = m' := by cases mx with
        | none => have := h4 rfl; omega
        | some v => exact (h5 (by simp)).1
      subst em
      refine Sim.pure ⟨by omega, ?_⟩
      simp only [cond_ite]
      by_cases hml : m = l
      · rw [if_pos hml, if_pos hml]
      · rw [if_neg hml, if_neg hml, Option.map_some]
    | nils =>
      cases hx
      refine Sim.congr (run _ _ _) ?_
      refine Sim.bndK hlo hhi hmx (fun _ _ _ => Local.pure _) (Nat.le_refl _) (Nat.le_refl _) fun l h m m' h1 h2 h3 h4 h5 => ?_
      have em : m = m' ∧ m = 0 := by cases mx with
        | none => have := h4 rfl; omega
        | some v => have := h5 (by simp); omega
      obtain ⟨rfl, rfl⟩ := em
      refine Sim.pure ?_
      have : l = 0 := by omega
      have : h = 0 := by omega
      subst l h
      simp [VR]
    | _ => exact Sim.fail
  · rename_i n e hu
    obtain rfl := h.array hu
    refine Sim.tiM hE fun j jnf d' z' h' => ?_
    have run : ∀ (a : Addr) (w : World), (Instr.sliceAt t (.pointer (some a)) lo' hi' mx').run P w =
        (Instr.sliceBounds false n n lo' hi' mx' >>= fun r => Pure.pure (.slice (some (if r.2.2 = r.1 then a else a.add (r.1 * j.size))) (r.2.1 - r.1) (r.2.2 - r.1))).run P w := by
      intro a w
      simp only [Instr.sliceAt, Sem.run_bind, h.run_und, Result.andThen_ok, Instr.sureAddr, Sem.run_pure]
      congr 1
      funext r w
      simp only [Sem.run_bind, h'.run_size, Result.andThen_ok, Sem.run_pure]
    cases x with
    | ptr g p off =>
      obtain ⟨hd, hx⟩ := hx
      cases hx
      refine Sim.congr (run _) ?_
      refine Sim.bndK hlo hhi hmx (fun _ _ _ => Local.pure _) (Nat.le_refl _) (Nat.le_refl _) fun l h m m' h1 h2 h3 h4 h5 => ?_
      have em : m = m' := by cases mx with
        | none => have := h4 rfl; omega
        | some v => exact (h5 (by simp)).1
      subst em
      refine Sim.pure ⟨hd, by omega, ?_⟩
      simp only [cond_ite]
      by_cases hml : m = l
      · rw [if_pos hml, if_pos hml]
      · rw [if_neg hml, if_neg hml, add_cell, Nat.add_assoc]
    | bptr a =>
      cases hx
      refine Sim.congr (run _) ?_
      refine Sim.bndK hlo hhi hmx (fun _ _ _ => Local.pure _) (Nat.le_refl _) (Nat.le_refl _) fun l h m m' h1 h2 h3 h4 h5 => ?_
      have em : m = m' := by cases mx with
        | none => have := h4 rfl; omega
        | some v => exact (h5 (by simp)).1
      subst em
      refine Sim.pure ⟨by omega, ?_⟩
      simp only [cond_ite]
    | _ => exact Sim.fail
  · exact Sim.fail
end
end Go.Am
