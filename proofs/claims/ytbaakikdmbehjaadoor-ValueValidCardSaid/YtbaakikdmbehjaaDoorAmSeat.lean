/- From a seat's form to what is told: plain data read in cells; what a call leaves alone reads as before. -/
import Derived.Test.YtbaakikdmbehjaaDoorAmTold
import Derived.ChangeStays
import Derived.ChangeBook
import Derived.ChangeSame
import Derived.OpenShut
set_option linter.unusedVariables false
set_option linter.unusedSimpArgs false
set_option linter.unusedSectionVars false
namespace Go.Am
open Go.RowKit Go.WideShapes Go.ChangeShapes

/-! ### flat data -/
inductive Kd0 where
  | int (k : IntKind)
  | bool
  | str

/-- cells of these kinds -/
def Kinds : List Kd0 → List Value → Prop
  | [], cs => cs = []
  | .int k :: ks, cs => ∃ n cs', cs = .int k n :: cs' ∧ Kinds ks cs'
  | .bool :: ks, cs => ∃ b cs', cs = .bool b :: cs' ∧ Kinds ks cs'
  | .str :: ks, cs => ∃ s cs', cs = .string s :: cs' ∧ Kinds ks cs'

theorem Kinds.app : ∀ {a b : List Kd0} {x y : List Value}, Kinds a x → Kinds b y → Kinds (a ++ b) (x ++ y)
  | [], b, x, y, h, k => by cases h; exact k
  | .int _ :: a, b, x, y, h, k => by obtain ⟨n, cs, rfl, h⟩ := h; exact ⟨n, cs ++ y, rfl, Kinds.app h k⟩
  | .bool :: a, b, x, y, h, k => by obtain ⟨n, cs, rfl, h⟩ := h; exact ⟨n, cs ++ y, rfl, Kinds.app h k⟩
  | .str :: a, b, x, y, h, k => by obtain ⟨n, cs, rfl, h⟩ := h; exact ⟨n, cs ++ y, rfl, Kinds.app h k⟩

def kdFs (P : Program) (r : TypeId → Option (List Kd0)) : List Field → Nat → Option (List Kd0)
  | [], _ => some []
  | f :: fs, off => match r f.type with
    | some a => if f.offset = off ∧ P.cellsOf f.type = a.length then (kdFs P r fs (off + a.length)).map (a ++ ·) else none
    | none => none
/-- the kinds of the cells of a flat type -/
def kinds (P : Program) : Nat → TypeId → Option (List Kd0)
  | 0, _ => none
  | n + 1, t => match P.underlying t with
    | some .bool => some [.bool]
    | some (.int k) => some [.int k]
    | some .string => some [.str]
    | some (.struct fs) => match kdFs P (kinds P n) fs.toList 0 with
      | some ks => if P.cellsOf t = ks.length then some ks else none
      | none => none
    | some (.array m e) => match kinds P n e with
      | some a => if P.cellsOf e = a.length ∧ P.cellsOf t = m * a.length then some (List.replicate m a).flatten else none
      | none => none
    | _ => none

section
variable {H : Type} {enc : TypeId × Value → H} {P : Program} {w : World} {base : Nat} {spare : Nat → Bool} {held : Bool}

theorem kdFs_open {r : TypeId → Option (List Kd0)} {cs : List Value} : ∀ (fs : List Field) (off : Nat) (ks : List Kd0), kdFs P r fs off = some ks →
    (∀ f ∈ fs, ∀ a, r f.type = some a → Kinds a ((cs.drop f.offset).take (P.cellsOf f.type))) → cs.length = off + ks.length → Kinds ks (cs.drop off)
  | [], off, ks, h, _, hl => by cases h; rw [List.drop_eq_nil_of_le (by simpa using Nat.le_of_eq hl)]; rfl
  | f :: fs, off, ks, h, hf, hl => by
    simp only [kdFs] at h
    split at h
    · rename_i a ha
      split at h
      · rename_i hc
        simp only [Option.map_eq_some_iff] at h
        obtain ⟨b, hb, rfl⟩ := h
        have h1 := hf f List.mem_cons_self a ha
        rw [hc.1, hc.2] at h1
        have h2 := kdFs_open fs (off + a.length) b hb (fun g hg => hf g (List.mem_cons_of_mem _ hg)) (by rw [List.length_append] at hl; omega)
        have e : cs.drop off = (cs.drop off).take a.length ++ cs.drop (off + a.length) := by
          rw [← List.drop_drop]; exact (List.take_append_drop a.length (cs.drop off)).symm
        rw [e]
        exact h1.app h2
      · cases h
    · cases h

theorem kinds_rep {a : List Kd0} {cs : List Value} : ∀ (m i : Nat), cs.length = (i + m) * a.length → (∀ j, j < i + m → Kinds a ((cs.drop (j * a.length)).take a.length)) → Kinds (List.replicate m a).flatten (cs.drop (i * a.length))
  | 0, i, hl, _ => by rw [List.drop_eq_nil_of_le (by rw [hl]; simp)]; rfl
  | m + 1, i, hl, h => by
    have h1 := h i (by omega)
    have h2 := kinds_rep m (i + 1) (by rw [hl]; congr 1; omega) (fun j hj => h j (by omega))
    have e : cs.drop (i * a.length) = (cs.drop (i * a.length)).take a.length ++ cs.drop ((i + 1) * a.length) := by
      rw [Nat.add_mul, Nat.one_mul, ← List.drop_drop]; exact (List.take_append_drop a.length _).symm
    rw [e, List.replicate_succ, List.flatten_cons]
    exact h1.app h2

theorem kinds_open : ∀ (n : Nat) (t : TypeId) (ks : List Kd0), kinds P n t = some ks → ∀ (fuel : Nat) (cs : List Value) (x : DataW H × List MemPlace), DataW.trod enc P w base spare held fuel t cs = some x → Kinds ks cs
  | 0, t, ks, h, _, _, _, _ => by cases h
  | n + 1, t, ks, h, fuel, cs, x, hd => by
    simp only [kinds] at h
    split at h
    · rename_i hu; cases h; obtain ⟨b, rfl, _⟩ := DataW.trod_bool hu hd; exact ⟨b, [], rfl, rfl⟩
    · rename_i k hu; cases h; obtain ⟨m, rfl, _⟩ := DataW.trod_int hu hd; exact ⟨m, [], rfl, rfl⟩
    · rename_i hu; cases h; obtain ⟨s, rfl, _⟩ := DataW.trod_string hu hd; exact ⟨s, [], rfl, rfl⟩
    · rename_i fs hu
      split at h
      · rename_i ks' hks
        split at h
        · rename_i hc
          cases h
          obtain ⟨xs, m, _, _, hlen, hxl, hx⟩ := DataW.trod_struct hu hd
          have := kdFs_open (P := P) (cs := cs) fs.toList 0 ks hks (fun f hf a ha => ?_) (by rw [hlen, hc]; omega)
          · simpa using this
          · obtain ⟨i, hi⟩ := List.getElem?_of_mem hf
            have hi' : fs[i]? = some f := by rw [← Array.getElem?_toList]; exact hi
            have hx' := hx i f hi'
            have hlt : i < fs.size := by
              rcases Nat.lt_or_ge i fs.size with h | h
              · exact h
              · rw [Array.getElem?_eq_none h] at hi'; cases hi'
            rw [List.getElem?_eq_getElem (by omega)] at hx'
            exact kinds_open n _ a ha _ _ _ hx'
        · cases h
      · cases h
    · rename_i m e hu
      split at h
      · rename_i a ha
        split at h
        · rename_i hc
          cases h
          obtain ⟨xs, q, _, _, hlen, hxl, hx⟩ := DataW.trod_array hu hd
          have := kinds_rep (a := a) (cs := cs) m 0 (by rw [hlen, hc.2, Nat.zero_add]) (fun j hj => ?_)
          · simpa using this
          · have hx' := hx j (by omega)
            rw [List.getElem?_eq_getElem (by omega), hc.1] at hx'
            exact kinds_open n _ a ha _ _ _ hx'
        · cases h
      · cases h
    · cases h

/-- what a call leaves alone reads as before -/
theorem stays_all {w' : World} (hl : laidOutB P = true) (hm : mapsRowed P = true) {T : TypeId → Prop} (K : Kids P T) (hsz : ∀ {t e : TypeId}, T t → P.underlying t = some (.slice e) → 0 < P.cellsOf e)
    (hb : Below w.heap.size w w') {sp : Nat → Bool} : ∀ (ts : List TypeId) (vs : List Value) (ds : List (DataW H)) (ps : List MemPlace), (∀ t ∈ ts, T t) →
      DataW.TrodAll enc P w 0 (fun _ => true) true ts vs ds ps → (∀ p ∈ ps, p.block < w.heap.size) → (∀ p ∈ ps, sp p.block = true) → DataW.TrodAll enc P w' 0 sp true ts vs ds ps
  | [], vs, ds, ps, _, h, _, _ => by cases vs <;> cases ds <;> first | exact h | exact h.elim
  | t :: ts, vs, ds, ps, hT, h, hlt, hs => by
    obtain ⟨v, vs, d, ds, p, q, rfl, rfl, rfl, ⟨n, h1⟩, h2⟩ := trodAll_cons h
    refine ⟨p, q, ⟨n, ?_⟩, stays_all hl hm K hsz hb ts vs ds q (fun u hu => hT u (List.mem_cons_of_mem _ hu)) h2 (fun x hx => hlt x (List.mem_append_right _ hx)) (fun x hx => hs x (List.mem_append_right _ hx)), rfl⟩
    exact DataW.trod_stays (x := (d, p)) K hsz (fun h => by cases h) (hT t List.mem_cons_self) h1 (fun x hx => hb.same (hlt x (List.mem_append_left _ hx))) (fun x hx => hs x (List.mem_append_left _ hx))

/-- a law that answers true and leaves what was there meets its row's specification -/
theorem law_post {f : Func} {s : ChangeSpec} {apart fresh handsOn again : Bool} {W W' : World} {args : Array Value} {ds : List (DataW H)} {before : List MemPlace} {tb : TypeId} {T : TypeId → Prop}
    (hl : laidOutB P = true) (hm : mapsRowed P = true) (K : Kids P T) (hsz : ∀ {t e : TypeId}, T t → P.underlying t = some (.slice e) → 0 < P.cellsOf e) (hT : ∀ t ∈ f.params.toList, T t)
    (hv : s.vars = []) (hW : DataW.Whole enc P f.params.toList s.vars apart W args.toList ds [] before) (hfn : s.fn H ds = { results := [.lit (.bool true)], args := ds })
    (hres : f.resultTypes = #[tb]) (htb : P.underlying tb = some .bool) (hb : Below W.heap.size W W') : s.post enc P f apart fresh handsOn again W args (.bool true) W' := by
  have hlt := hW.lt
  have hW0 := hW
  obtain ⟨p, q, h1, h2, rfl, h3, h4⟩ := hW0
  have hq : q = [] := by rw [hv] at h2; exact (trodVars_none h2).2
  subst hq
  have read : ∀ sp : Nat → Bool, (∀ x ∈ p ++ [], sp x.block = true) → DataW.TrodAll enc P W' 0 sp true f.params.toList args.toList ds (p ++ []) := fun sp hs => by
    rw [List.append_nil] at hs ⊢
    exact stays_all hl hm K (fun {t e} => hsz) hb _ _ _ _ hT h1 (fun x hx => hlt x (List.mem_append_left _ hx)) hs
  have res : ∀ (b : Nat) (sp : Nat → Bool) (hd : Bool), DataW.TrodAll enc P W' b sp hd f.resultTypes.toList ((Value.bool true).resultList f.resultTypes.size) [.lit (.bool true)] [] := fun b sp hd => by
    rw [hres]; exact ⟨[], [], shut_bool htb true, rfl, rfl⟩
  have vars : ∀ sp : Nat → Bool, DataW.TrodVars enc P W' sp s.vars [] [] := fun sp => by rw [hv]; rfl
  refine ⟨ds, [], p ++ [], [], p ++ [], [], hW, ?_, ?_, ?_, World.keptBut_mono (fun x hx => ⟨hx, .inr (.inl hx)⟩) (hb.frame (· ∈ p ++ [])), fun _ => ⟨?_, ?_⟩⟩
  · rw [List.append_nil, hfn]; exact res _ _ _
  · rw [List.append_nil, hfn]; exact read _ fun x hx => by simpa using hlt x hx
  · rw [List.append_nil, hfn]; exact vars _
  · exact ok_one hres rfl (okWide_bool_mk htb true)
  · refine ⟨_, _, ([] ++ (p ++ [])) ++ [], ⟨[] ++ (p ++ []), [], trodAll_append (read _ fun _ _ => rfl) (res _ _ _), vars _, rfl, fun b off hx => ?_, fun ha => ?_⟩, fun x hx _ => ?_⟩
    · have hx' : MemPlace.cell b off ∈ p ++ [] := by simpa using hx
      rw [hb.frozen (hlt _ hx')]
      exact h3 b off hx'
    · have := h4 ha
      simpa using this
    · simpa using hx

/-- an aggregate by its cells -/
theorem agg_of {v : Value} {cs : List Value} (h : v.cells.toList = cs) (hn : cs.length ≠ 1) : ∃ a : Array Value, v = .agg a ∧ a.toList = cs := by
  cases v with
  | agg a => exact ⟨a, rfl, h⟩
  | _ => subst h; exact absurd rfl hn

/-- where a seat's call begins -/
theorem base_world {E : Env} {W : World} (hL : Laid E W) : Rr E W.heap.size W ⟨fun _ => False, fun _ => 0, fun _ => 0, fun _ => 0, fun _ => 0, fun a => W.cell? a⟩ .nil W :=
  ⟨Below.refl _ _, Nat.le_refl _, fun p o hp => (by cases hp), fun p q o o' hp => (by cases hp), fun a v ha => ⟨ha, fun p o hp => (by cases hp)⟩, fun b cs off d h1 h2 => by
    obtain ⟨v, h3, h4⟩ := hL b cs off d h1 h2
    exact ⟨v, h3, h4 _⟩⟩
end

/-! ### laid variables -/
mutual
/-- the cells of flat data -/
def cellsD {H : Type} : DataW H → List Value
  | .lit (.int k n) => [.int k n]
  | .lit (.bool b) => [.bool b]
  | .lit (.string s) => [.string ⟨⟨s⟩⟩]
  | .agg ps => cellsDs ps
  | _ => []
def cellsDs {H : Type} : List (DataW H) → List Value
  | [] => []
  | d :: ds => cellsD d ++ cellsDs ds
end

section
variable {H : Type} {enc : TypeId × Value → H} {P : Program} {w : World} {base : Nat} {spare : Nat → Bool} {held : Bool}

theorem kdFs_cells {r : TypeId → Option (List Kd0)} {cs : List Value} : ∀ (fs : List Field) (ds : List (DataW H)) (off : Nat) (ks : List Kd0), kdFs P r fs off = some ks → ds.length = fs.length →
    (∀ (i : Nat) (f : Field) (d : DataW H), fs[i]? = some f → ds[i]? = some d → (cs.drop f.offset).take (P.cellsOf f.type) = cellsD d) → cs.length = off + ks.length → cs.drop off = cellsDs ds
  | [], ds, off, ks, h, hd, _, hl => by
    cases h
    cases ds with
    | nil => exact List.drop_eq_nil_of_le (by simpa using Nat.le_of_eq hl)
    | cons _ _ => cases hd
  | f :: fs, ds, off, ks, h, hd, hf, hl => by
    cases ds with
    | nil => cases hd
    | cons d ds =>
      simp only [kdFs] at h
      split at h
      · rename_i a ha
        split at h
        · rename_i hc
          simp only [Option.map_eq_some_iff] at h
          obtain ⟨b, hb, rfl⟩ := h
          have h1 := hf 0 f d rfl rfl
          rw [hc.1, hc.2] at h1
          have h2 := kdFs_cells fs ds (off + a.length) b hb (by simpa using hd) (fun i g x hi hx => hf (i + 1) g x (by simpa using hi) (by simpa using hx)) (by rw [List.length_append] at hl; omega)
          have e : cs.drop off = (cs.drop off).take a.length ++ cs.drop (off + a.length) := by
            rw [← List.drop_drop]; exact (List.take_append_drop a.length (cs.drop off)).symm
          rw [e, h1, h2]; rfl
        · cases h
      · cases h

theorem rep_cells {n : Nat} {cs : List Value} : ∀ (ds : List (DataW H)) (i : Nat), cs.length = (i + ds.length) * n → (∀ (j : Nat) (d : DataW H), ds[j]? = some d → (cs.drop ((i + j) * n)).take n = cellsD d) → cs.drop (i * n) = cellsDs ds
  | [], i, hl, _ => List.drop_eq_nil_of_le (by rw [hl]; simp)
  | d :: ds, i, hl, h => by
    have h1 := h 0 d rfl
    rw [Nat.add_zero] at h1
    have h2 := rep_cells ds (i + 1) (by rw [hl]; congr 1; simp only [List.length_cons]; omega) (fun j x hx => by
      have := h (j + 1) x (by simpa using hx)
      rw [show i + 1 + j = i + (j + 1) by omega]; exact this)
    have e : cs.drop (i * n) = (cs.drop (i * n)).take n ++ cs.drop ((i + 1) * n) := by
      rw [Nat.add_mul, Nat.one_mul, ← List.drop_drop]; exact (List.take_append_drop n _).symm
    rw [e, h1, h2]; rfl

theorem flat_cells : ∀ (n : Nat) (t : TypeId) (ks : List Kd0), kinds P n t = some ks → ∀ (fuel : Nat) (cs : List Value) (x : DataW H × List MemPlace), DataW.trod enc P w base spare held fuel t cs = some x → cs = cellsD x.1
  | 0, t, ks, h, _, _, _, _ => by cases h
  | n + 1, t, ks, h, fuel, cs, x, hd => by
    have h0 := h
    simp only [kinds] at h
    split at h
    · rename_i hu; obtain ⟨b, rfl, rfl⟩ := DataW.trod_bool hu hd; rfl
    · rename_i k hu; obtain ⟨m, rfl, rfl, _⟩ := DataW.trod_int hu hd; rfl
    · rename_i hu; obtain ⟨s, rfl, rfl, _⟩ := DataW.trod_string hu hd; rfl
    · rename_i fs hu
      split at h
      · rename_i ks' hks
        split at h
        · rename_i hc
          cases h
          obtain ⟨xs, m, _, rfl, hlen, hxl, hx⟩ := DataW.trod_struct hu hd
          have := kdFs_cells (P := P) (cs := cs) fs.toList (xs.map (·.1)) 0 ks hks (by simp [hxl]) (fun i f d hi hdd => ?_) (by rw [hlen, hc]; omega)
          · simpa [cellsD] using this
          · have hi' : fs[i]? = some f := by rw [← Array.getElem?_toList]; exact hi
            have hx' := hx i f hi'
            simp only [List.getElem?_map, Option.map_eq_some_iff] at hdd
            obtain ⟨y, hy, rfl⟩ := hdd
            rw [hy] at hx'
            have hk : ∃ a, kinds P n f.type = some a := by
              have := kdFs_some fs.toList 0 ks hks f (List.mem_of_getElem? hi)
              exact this
            obtain ⟨a, ha⟩ := hk
            exact flat_cells n _ a ha _ _ _ hx'
        · cases h
      · cases h
    · rename_i m e hu
      split at h
      · rename_i a ha
        split at h
        · rename_i hc
          cases h
          obtain ⟨xs, q, _, rfl, hlen, hxl, hx⟩ := DataW.trod_array hu hd
          have := rep_cells (n := a.length) (cs := cs) (xs.map (·.1)) 0 (by rw [hlen, hc.2, List.length_map, hxl, Nat.zero_add]) (fun j d hdd => ?_)
          · simpa [cellsD] using this
          · simp only [List.getElem?_map, Option.map_eq_some_iff] at hdd
            obtain ⟨y, hy, rfl⟩ := hdd
            have hj : j < m := by
              rcases Nat.lt_or_ge j m with h | h
              · exact h
              · rw [List.getElem?_eq_none (by omega)] at hy; cases hy
            have hx' := hx j hj
            rw [hy, hc.1] at hx'
            rw [Nat.zero_add]
            exact flat_cells n _ a ha _ _ _ hx'
        · cases h
      · cases h
    · cases h
where
  kdFs_some {r : TypeId → Option (List Kd0)} : ∀ (fs : List Field) (off : Nat) (ks : List Kd0), kdFs P r fs off = some ks → ∀ f ∈ fs, ∃ a, r f.type = some a
    | [], _, _, _, f, hf => by cases hf
    | g :: fs, off, ks, h, f, hf => by
      simp only [kdFs] at h
      split at h
      · rename_i a ha
        split at h
        · simp only [Option.map_eq_some_iff] at h
          obtain ⟨b, hb, _⟩ := h
          cases List.mem_cons.1 hf with
          | inl e => subst e; exact ⟨a, ha⟩
          | inr e => exact kdFs_some fs _ b hb f e
        · cases h
      · cases h

/-- the row of cells of a laid variable -/
def RowIs (W : World) (g : Nat) (vs : List Value) : Prop := ∀ (i : Nat) (v : Value), vs[i]? = some v → W.cell? ⟨g, i, none⟩ = some v

theorem laid_rows {W : World} : ∀ (l : List (String × DataW Unit)), laidMet P l W → ∀ x ∈ l, ∀ g t n, P.globalNamed x.1 = some g → (P.globals[g]?).map (·.type) = some t → (kinds P n t).isSome = true → RowIs W g (cellsD x.2) := by
  rintro l ⟨ps, h, _⟩
  have key : ∀ (l : List (String × DataW Unit)) (ps : List MemPlace), DataW.LaidVars P W l ps → ∀ x ∈ l, ∀ g t n, P.globalNamed x.1 = some g → (P.globals[g]?).map (·.type) = some t → (kinds P n t).isSome = true → RowIs W g (cellsD x.2) := by
    intro l
    induction l with
    | nil => intro ps _ x hx; cases hx
    | cons y l ih =>
      rintro ps ⟨g', t', cs, fuel, p, q, hg', ht', hvar, hd, hr, _⟩ x hx g t n hg ht hk
      cases List.mem_cons.1 hx with
      | inr e => exact ih q hr x e g t n hg ht hk
      | inl e =>
        subst e
        obtain rfl := Option.some.inj (hg.symm.trans hg')
        obtain rfl := Option.some.inj (ht.symm.trans ht')
        obtain ⟨ks, hks⟩ := Option.isSome_iff_exists.1 hk
        have hc := flat_cells n t ks hks _ _ _ hd
        intro i v hi
        rw [World.var?_cell hg hvar i, ← Array.getElem?_toList, hc]; exact hi
  exact key l ps h
end

/-- a flat cell of the machine as the model's -/
def dvV : DV → Value
  | .bool b => .bool b
  | .int k n => .int k n
  | .str s => .string s
  | _ => .bool false
def sc (d : DV) : Bool := match d with
  | .bool _ | .int _ _ | .str _ => true
  | _ => false
theorem sc_vr {d : DV} (h : sc d = true) (κ : Kap) : VR κ d (dvV d) := by cases d <;> first | rfl | cases h
def GlobIs (E : Env) (W : World) : Prop := TrP (fun b cs => RowIs W b (cs.map dvV)) E.glob 1 0
theorem laid_of {E : Env} {W : World} (hs : trAll (fun _ cs => cs.all sc) E.glob 1 0 = true) (h : GlobIs E W) : Laid E W := fun b cs off d h1 h2 => by
  have a := TrP.get _ _ _ h b cs h1
  have c := TrP.get _ _ _ (trAll_ok _ _ _ hs) b cs h1
  rw [Nat.one_mul, Nat.add_zero] at a
  have hd : sc d = true := by
    simp only [List.all_eq_true] at c
    exact c d (List.mem_of_getElem? h2)
  exact ⟨dvV d, a off _ (by rw [List.getElem?_map, h2]; rfl), fun κ => sc_vr hd κ⟩
end Go.Am
