/- The operations, continued: building, fields, indexing, slicing. -/
import Derived.Test.YtbaakikdmbehjaaDoorAmSim2
set_option linter.unusedVariables false
set_option linter.unusedSimpArgs false
set_option linter.unusedSectionVars false
namespace Go.Am
open Go.RowKit

theorem cond_and {a b : Bool} (h : cond a b false = true) : a = true ∧ b = true := by cases a; cases h; exact ⟨rfl, h⟩

theorem foldl_set (off : Nat) : ∀ (l : List Value) (k : Nat) (C : Array Value), off + k + l.length ≤ C.size →
    ((l.zipIdx k).foldl (fun (cs : Array Value) (x : Value × Nat) => cs.setIfInBounds (off + x.2) x.1) C).size = C.size ∧
    ∀ j, ((l.zipIdx k).foldl (fun (cs : Array Value) (x : Value × Nat) => cs.setIfInBounds (off + x.2) x.1) C)[j]? = if off + k ≤ j ∧ j < off + k + l.length then l[j - (off + k)]? else C[j]? := by
  intro l
  induction l with
  | nil => intro k C _; exact ⟨rfl, fun j => by rw [if_neg (by simp)]; rfl⟩
  | cons v l ih =>
    intro k C h
    simp only [List.length_cons] at h
    simp only [List.zipIdx_cons, List.foldl_cons]
    obtain ⟨h1, h2⟩ := ih (k + 1) (C.setIfInBounds (off + k) v) (by simp; omega)
    refine ⟨by rw [h1]; simp, fun j => ?_⟩
    rw [h2]
    simp only [List.length_cons]
    by_cases hj : off + k ≤ j ∧ j < off + k + (l.length + 1)
    · rw [if_pos hj]
      by_cases hj2 : j = off + k
      · subst hj2
        rw [if_neg (by omega), Nat.sub_self, List.getElem?_cons_zero, Array.getElem?_setIfInBounds_self_of_lt (by omega)]
      · rw [if_pos (by omega), show j - (off + k) = (j - (off + (k + 1))) + 1 by omega, List.getElem?_cons_succ]
    · rw [if_neg hj, if_neg (by omega), Array.getElem?_setIfInBounds_ne (by omega)]

def PRL (κ : Kap) : List (Nat × DV) → List (Nat × Value) → Prop
  | [], l => l = []
  | p :: ps, l => ∃ v vs, l = (p.1, v) :: vs ∧ VR κ p.2 v ∧ PRL κ ps vs

section
variable {P : Program} {E : Env} {N : Nat} {w0 : World}

theorem Sim.fillK {α β : Type} {κ : Kap} {Q : Kap → α → β → Prop} {place : Nat → Option (Nat × Nat)} {k : List DV → M α} {s : Option (Array Value) → Sem β}
    (h : ∀ cs (C : Array Value), VRL κ cs C.toList → Sim P E N w0 κ Q (k cs) (s (some C))) :
    ∀ (ps : List (Nat × DV)) (ps' : List (Nat × Value)) (cs : List DV) (C : Array Value), PRL κ ps ps' → VRL κ cs C.toList → Sim P E N w0 κ Q (fillK place ps cs k) (s (Instr.fill place C ps')) := by
  intro ps
  induction ps with
  | nil => intro ps' cs C hp hv; cases hp; exact h cs C hv
  | cons p ps ih =>
    intro ps' cs C hp hv
    obtain ⟨i, v⟩ := p
    obtain ⟨v', vs, rfl, hvr, hps⟩ := hp
    rw [fillK_cons]
    cases hpl : place i with
    | none => exact Sim.fail
    | some os =>
      obtain ⟨off, size⟩ := os
      simp only
      cases hput : lput off v.cells cs with
      | none => exact Sim.fail
      | some cs' =>
        simp only
        cases hc : cond (defd v) (lenIs v.cells size) false with
        | false => exact Sim.fail
        | true =>
          obtain ⟨hd, hl⟩ := cond_and hc
          have hne : v ≠ .undef := by rintro rfl; cases hd
          have hcl := hvr.cells hne
          have hlen := VRL.length _ _ hcl
          have hl' : v.cells.length = size := beq_true hl
          obtain ⟨l1, l2, l3⟩ := lput_length v.cells off cs cs' hput
          have hCl := VRL.length _ _ hv
          simp only [Array.length_toList] at hlen hCl
          obtain ⟨f1, f2⟩ := foldl_set off v'.cells.toList 0 C (by simp; omega)
          have e : Instr.fill place C ((i, v') :: vs) = Instr.fill place (v'.cells.zipIdx.foldl (fun cs (x : Value × Nat) => cs.setIfInBounds (off + x.2) x.1) C) vs := by
            simp only [Instr.fill, hpl]
            rw [if_neg (by simp; omega)]
          rw [e]
          refine ih vs cs' _ hps ?_
          have e2 : v'.cells.zipIdx.foldl (fun (cs : Array Value) (x : Value × Nat) => cs.setIfInBounds (off + x.2) x.1) C =
              (v'.cells.toList.zipIdx 0).foldl (fun (cs : Array Value) (x : Value × Nat) => cs.setIfInBounds (off + x.2) x.1) C := by
            rw [← Array.foldl_toList, Array.toList_zipIdx]
          rw [e2]
          refine VRL.mk _ _ (by rw [Array.length_toList, f1]; omega) fun j d hj => ?_
          rw [l3] at hj
          rw [Array.getElem?_toList, f2]
          simp only [Nat.add_zero, Array.length_toList]
          by_cases hjj : off ≤ j ∧ j < off + v.cells.length
          · rw [if_pos hjj] at hj
            rw [if_pos (by omega)]
            exact VRL.get _ _ hcl _ d hj
          · rw [if_neg hjj] at hj
            rw [if_neg (by omega)]
            obtain ⟨u, h1, h2⟩ := VRL.get _ _ hv j d hj
            exact ⟨u, by rw [← h1]; simp, h2⟩

theorem mapM_list_run {α β : Type} (f : α → Sem β) (g : α → β) (w : World) : ∀ (l : List α), (∀ x ∈ l, (f x).run P w = .ok (g x) w) → (l.mapM f).run P w = .ok (l.map g) w
  | [], _ => by simp
  | a :: l, h => by
    rw [List.mapM_cons]
    simp only [Sem.run_bind, h a (List.mem_cons_self ..), Result.andThen_ok, mapM_list_run f g w l (fun x hx => h x (List.mem_cons_of_mem _ hx)), Sem.run_pure, List.map_cons]

theorem TF.flds {t : TypeId} {i : TI} {inf : TypeInfo} {fs : Array Field} {z : Value} (h : TF P t i inf (.struct fs) z) :
    i.flds.length = fs.size ∧ ∀ (k : Nat) (f : Field), fs[k]? = some f → ∃ j, P.info? f.type = some j ∧ i.flds[k]? = some (f.offset, j.size, f.type) := by
  have hf := h.fl
  unfold fldsOf at hf
  simp only at hf
  generalize i.flds = fl at hf
  have key : ∀ (l : List Field) (fl : List (Nat × Nat × TypeId)), (l.mapM fun f => (P.info? f.type).map fun j => (f.offset, j.size, f.type)) = some fl →
      fl.length = l.length ∧ ∀ (k : Nat) (f : Field), l[k]? = some f → ∃ j, P.info? f.type = some j ∧ fl[k]? = some (f.offset, j.size, f.type) := by
    intro l
    induction l with
    | nil => intro fl h; simp at h; subst h; exact ⟨rfl, fun k f h => by simp at h⟩
    | cons a l ih =>
      intro fl h
      rw [List.mapM_cons] at h
      cases ha : P.info? a.type with
      | none => rw [ha] at h; cases h
      | some j =>
        rw [ha] at h
        simp only [Option.map_some, Option.bind_eq_bind, Option.bind_some] at h
        cases hr : (l.mapM fun f => (P.info? f.type).map fun j => (f.offset, j.size, f.type)) with
        | none => rw [hr] at h; cases h
        | some fl' =>
          rw [hr] at h
          cases h
          obtain ⟨h1, h2⟩ := ih fl' hr
          refine ⟨by simp [h1], fun k f hk => ?_⟩
          cases k with
          | zero => simp at hk; subst hk; exact ⟨j, ha, rfl⟩
          | succ k => simpa using h2 k f (by simpa using hk)
  obtain ⟨h1, h2⟩ := key fs.toList fl hf
  exact ⟨by rw [h1]; simp, fun k f hk => h2 k f (by rw [Array.getElem?_toList]; exact hk)⟩

theorem fldPlace_eq {t : TypeId} {i : TI} {inf : TypeInfo} {fs : Array Field} {z : Value} (h : TF P t i inf (.struct fs) z) :
    ∃ places : Array (Nat × Nat), (∀ w, (fs.mapM fun f => do Pure.pure (f.offset, ← sizeOf f.type) : Sem (Array (Nat × Nat))).run P w = .ok places w) ∧ fldPlace i = (places[·]?) := by
  obtain ⟨h1, h2⟩ := h.flds
  refine ⟨(i.flds.map fun x => (x.1, x.2.1)).toArray, fun w => ?_, ?_⟩
  · have e : ∀ f ∈ fs.toList, ((do Pure.pure (f.offset, ← sizeOf f.type) : Sem (Nat × Nat))).run P w = .ok (f.offset, P.cellsOf f.type) w := by
      intro f hf
      obtain ⟨k, hk⟩ := List.mem_iff_getElem?.1 hf
      obtain ⟨j, hj, _⟩ := h2 k f (by rw [← Array.getElem?_toList]; exact hk)
      simp only [sizeOf, typeInfo, Sem.run_bind, run_program, Result.andThen_ok, hj, Sem.run_pure, Program.cellsOf, Option.map_some, Option.getD_some]
    have hm := mapM_list_run (P := P) (fun f : Field => (do Pure.pure (f.offset, ← sizeOf f.type) : Sem (Nat × Nat))) (fun f => (f.offset, P.cellsOf f.type)) w fs.toList e
    rw [Array.mapM_eq_mapM_toList]
    simp only [Sem.run_map, hm, Result.andThen_ok]
    congr 2
    apply List.ext_getElem?
    intro k
    rw [List.getElem?_map, List.getElem?_map]
    cases hk : fs.toList[k]? with
    | none =>
      have : i.flds[k]? = none := by
        rw [List.getElem?_eq_none_iff] at hk ⊢
        simp at hk; omega
      rw [this]; rfl
    | some f =>
      obtain ⟨j, hj, hfl⟩ := h2 k f (by rw [← Array.getElem?_toList]; exact hk)
      rw [hfl]
      simp only [Option.map_some, Program.cellsOf, hj, Option.getD_some]
  · funext n
    unfold fldPlace
    rw [lget_eq]
    simp only [List.getElem?_toArray, List.getElem?_map]
    cases i.flds[n]? with
    | none => rfl
    | some x => rfl

theorem TF.struct {t : TypeId} {i : TI} {inf : TypeInfo} {d : TypeDesc} {z : Value} (h : TF P t i inf d z) (hu : i.und = .struct) : ∃ fs, d = .struct fs := by
  rw [h.ud] at hu; cases d <;> first | exact ⟨_, rfl⟩ | cases hu
theorem TF.array {t : TypeId} {i : TI} {inf : TypeInfo} {d : TypeDesc} {z : Value} (h : TF P t i inf d z) {n : Nat} {e : TypeId} (hu : i.und = .array n e) : d = .array n e := by
  rw [h.ud] at hu; cases d <;> first | (cases hu; rfl) | cases hu
theorem TF.slice {t : TypeId} {i : TI} {inf : TypeInfo} {d : TypeDesc} {z : Value} (h : TF P t i inf d z) {e : TypeId} (hu : i.und = .slice e) : d = .slice e := by
  rw [h.ud] at hu; cases d <;> first | (cases hu; rfl) | cases hu
theorem TF.pointer {t : TypeId} {i : TI} {inf : TypeInfo} {d : TypeDesc} {z : Value} (h : TF P t i inf d z) {e : TypeId} (hu : i.und = .pointer e) : d = .pointer e := by
  rw [h.ud] at hu; cases d <;> first | (cases hu; rfl) | cases hu
theorem TF.string {t : TypeId} {i : TI} {inf : TypeInfo} {d : TypeDesc} {z : Value} (h : TF P t i inf d z) (hu : i.und = .string) : d = .string := by
  rw [h.ud] at hu; cases d <;> first | rfl | cases hu
theorem TF.int {t : TypeId} {i : TI} {inf : TypeInfo} {d : TypeDesc} {z : Value} (h : TF P t i inf d z) {k : IntKind} (hu : i.und = .int k) : d = .int k := by
  rw [h.ud] at hu; cases d <;> first | (cases hu; rfl) | cases hu
theorem TF.map {t : TypeId} {i : TI} {inf : TypeInfo} {d : TypeDesc} {z : Value} (h : TF P t i inf d z) {k e : TypeId} (hu : i.und = .map k e) : d = .map k e := by
  rw [h.ud] at hu; cases d <;> first | (cases hu; rfl) | cases hu

def aggOr (why : String) (o : Option (Array Value)) : Sem Value := match o with
  | some cells => Pure.pure (Value.agg cells)
  | none => stuck why
theorem Sim.opBuild (hE : EnvOk P E) {κ : Kap} {t : TypeId} {ps : List (Nat × DV)} {ps' : Array (Nat × Value)} (hp : PRL κ ps ps'.toList) :
    Sim P E N w0 κ VR (opBuild E t ps) (Instr.build t ps') := by
  unfold Am.opBuild
  refine Sim.tiM hE fun i inf d z h => ?_
  split
  · rename_i hu
    obtain ⟨fs, rfl⟩ := h.struct hu
    obtain ⟨places, h1, h2⟩ := fldPlace_eq h
    rw [h2]
    refine Sim.congr (s' := aggOr "build: no such field, or a part of the wrong size" (Instr.fill (places[·]?) z.cells ps'.toList)) (fun w => ?_)
      (Sim.fillK (s := aggOr "build: no such field, or a part of the wrong size") (fun cs C hC => Sim.pure (b := Value.agg C) ⟨C, rfl, hC⟩) ps ps'.toList i.zero z.cells hp (by rw [h.zc]; exact VRL.ofV0 _ _))
    simp only [Instr.build, Sem.run_bind, h.run_zero, Result.andThen_ok, h.run_und, Sem.run_pure, h1]
    cases Instr.fill (places[·]?) z.cells ps'.toList <;> rfl
  · rename_i n e hu
    obtain rfl := h.array hu
    refine Sim.tiM hE fun j jnf d' z' h' => ?_
    refine Sim.congr (s' := aggOr "build: a part of the wrong size" (Instr.fill (fun n => some (n * j.size, j.size)) z.cells ps'.toList)) (fun w => ?_)
      (Sim.fillK (s := aggOr "build: a part of the wrong size") (fun cs C hC => Sim.pure (b := Value.agg C) ⟨C, rfl, hC⟩) ps ps'.toList i.zero z.cells hp (by rw [h.zc]; exact VRL.ofV0 _ _))
    simp only [Instr.build, Sem.run_bind, h.run_zero, Result.andThen_ok, h.run_und, Sem.run_pure, h'.run_size]
    cases Instr.fill (fun n => some (n * j.size, j.size)) z.cells ps'.toList <;> rfl
  · exact Sim.fail

theorem flatten_rep (z : Array Value) (n : Nat) (hz : 0 < z.size) : ((Array.range (n * z.size)).map (fun i => z[i % z.size]!)).toList = (List.replicate n z.toList).flatten := by
  apply List.ext_getElem?
  intro j
  induction n generalizing j with
  | zero => simp
  | succ n ih =>
    rw [List.replicate_succ, List.flatten_cons]
    by_cases hj : j < z.size
    · rw [List.getElem?_append_left (by simpa using hj)]
      have : j < (n + 1) * z.size := by
        have := Nat.mul_le_mul_right z.size (show 1 ≤ n + 1 by omega); omega
      simp [this, Nat.mod_eq_of_lt hj, hj]
    · rw [List.getElem?_append_right (by simpa using hj), ← ih]
      simp only [Array.length_toList, Array.getElem?_toList, Array.getElem?_map]
      by_cases h2 : j < (n + 1) * z.size
      · have h3 : j - z.size < n * z.size := by rw [Nat.succ_mul] at h2; omega
        simp only [Array.getElem?_range, h2, h3, if_true, Option.map_some]
        congr 2
        rw [Nat.mod_eq_sub_mod (by omega)]
      · have h3 : ¬ (j - z.size < n * z.size) := by rw [Nat.succ_mul] at h2; omega
        simp [Array.getElem?_range, h2, h3]

theorem VRL.rep {κ : Kap} {z : List DV} {l : List Value} (h : VRL κ z l) : ∀ n, VRL κ (List.replicate n z).flatten (List.replicate n l).flatten
  | 0 => rfl
  | n + 1 => by rw [List.replicate_succ, List.replicate_succ, List.flatten_cons, List.flatten_cons]; exact VRL.app _ _ _ _ h (VRL.rep h n)

theorem zeros_row {κ : Kap} {j : TI} {e : TypeId} {jnf : TypeInfo} {d : TypeDesc} {z : Value} (h : TF P e j jnf d z) (hl : lenIs j.zero j.size = true) (n : Nat) :
    ∃ C : Array Value, VRL κ (List.replicate n j.zero).flatten C.toList ∧
      (n * j.size ≠ 0 → C = (Array.range (n * j.size)).map (fun i => z.cells[i % z.cells.size]!)) ∧ (n * j.size = 0 → C = (Array.range (n * j.size)).map (fun i => (#[] : Array Value)[i % 0]!)) := by
  have hz : z.cells.size = j.size := by
    have h1 : j.zero.length = j.size := beq_true hl
    rw [h.zc] at h1; simpa using h1
  have hv : VRL κ j.zero z.cells.toList := by rw [h.zc]; exact VRL.ofV0 _ _
  by_cases h0 : n * j.size = 0
  · refine ⟨#[], ?_, fun h => absurd h0 h, fun _ => by rw [h0]; simp⟩
    have : (List.replicate n j.zero).flatten = [] := by
      rcases Nat.mul_eq_zero.1 h0 with h | h
      · rw [h]; rfl
      · have h1 : j.zero.length = j.size := beq_true hl
        have : j.zero = [] := List.eq_nil_of_length_eq_zero (by omega)
        rw [this]; simp
    rw [this]; rfl
  · refine ⟨_, ?_, fun _ => rfl, fun h => absurd h h0⟩
    rw [← hz, flatten_rep z.cells n (by rcases Nat.eq_zero_or_pos z.cells.size with h | h; rw [← hz, h] at h0; simp at h0; exact h)]
    exact VRL.rep hv n

theorem Sim.newSl {κ : Kap} {cs : List DV} {elem : TypeId} {C : Array Value} {len cap : Nat} (h : VRL κ cs C.toList) (hlc : len ≤ cap) :
    Sim P E N w0 κ VR (M.bind (M.new false cs) fun pe => M.pure (.sl pe.2 pe.1 0 len (.ex cap))) (do Pure.pure (Value.slice (some (← newRow elem C)) len cap)) :=
  Sim.bind (Local.new _ _) (fun _ => Local.pure _) (Sim.new h) fun κ' pe ad _ hq => Sim.pure ⟨hq.1, hlc, by rw [hq.2.2, hq.2.1]⟩

def sliceOr (e : TypeId) (len : Nat) (o : Option (Array Value)) : Sem Value := match o with
  | some cells => do Pure.pure (Value.slice (some (← newRow e cells)) len len)
  | none => stuck "buildSlice: a part of the wrong size"
theorem Sim.opBuildSlice (hE : EnvOk P E) {κ : Kap} {t : TypeId} {len : Nat} {ps : List (Nat × DV)} {ps' : Array (Nat × Value)} (hp : PRL κ ps ps'.toList) :
    Sim P E N w0 κ VR (opBuildSlice E t len ps) (Instr.buildSlice t len ps') := by
  unfold Am.opBuildSlice
  refine Sim.tiM hE fun i inf d z h => ?_
  split
  · rename_i e hu
    obtain rfl := h.slice hu
    refine Sim.tiM hE fun j jnf d' z' h' => ?_
    refine Sim.chk (by rw [lrepK_eq]; exact Local.fillK (fun r => Local.bind (Local.new _ _) fun _ => Local.pure _) _ _) fun hc => ?_
    obtain ⟨hl, hb⟩ := cond_and hc
    have hbig : len * j.size ≤ 16777216 := Nat.le_of_ble_eq_true hb
    rw [lrepK_eq]
    obtain ⟨C, hC, hn0, h0⟩ := zeros_row (κ := κ) h' hl len
    refine Sim.congr (s' := sliceOr e len (Instr.fill (fun n => some (n * j.size, j.size)) C ps'.toList)) (fun w => ?_)
      (Sim.fillK (s := sliceOr e len) (fun cs D hD => Sim.newSl hD (Nat.le_refl _)) ps ps'.toList _ C hp hC)
    simp only [Instr.buildSlice, Sem.run_bind, h.run_und, Result.andThen_ok, h'.run_size]
    rw [if_neg (by omega)]
    by_cases hz : len * j.size = 0
    · rw [if_pos hz]
      simp only [Sem.run_bind, Sem.run_pure, Result.andThen_ok]
      rw [show (#[] : Array Value).size = 0 from rfl, ← h0 hz]
      cases Instr.fill (fun n => some (n * j.size, j.size)) C ps'.toList <;> rfl
    · rw [if_neg hz]
      simp only [Sem.run_bind, h'.run_zero, Sem.run_pure, Result.andThen_ok]
      rw [← hn0 hz]
      cases Instr.fill (fun n => some (n * j.size, j.size)) C ps'.toList <;> rfl
  · exact Sim.fail
end
end Go.Am
