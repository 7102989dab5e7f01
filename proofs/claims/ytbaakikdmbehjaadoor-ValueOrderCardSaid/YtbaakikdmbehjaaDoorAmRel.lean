/- How the abstract machine's values and memory stand for the model's. -/
import Derived.Test.YtbaakikdmbehjaaDoorAmLocal2
import Derived.Below
import Derived.Laws.Cells
import Derived.Laws.World
set_option linter.unusedVariables false
set_option linter.unusedSimpArgs false
set_option linter.unusedSectionVars false
namespace Go.Am
open Go.RowKit

def Ty.size : Ty → Nat
  | .unit => 0
  | .bool | .int _ | .str | .slice _ => 1
  | .pair a b => a.size + b.size

/-- plain data read in cells that never turn -/
def RdC (φ : Addr → Option Value) : (t : Ty) → t.den → List Value → Prop
  | .unit, _, cs => cs = []
  | .bool, b, cs => cs = [.bool b]
  | .int k, n, cs => cs = [.int k n]
  | .str, s, cs => cs = [.string s]
  | .slice t, xs, cs => ∃ A c, cs = [.slice A (List.length (α := t.den) xs) c] ∧ (0 < List.length (α := t.den) xs → ∃ a, A = some a ∧
      ∀ (i : Nat) (x : t.den), (show List t.den from xs)[i]? = some x → ∃ es, es.length = t.size ∧ (∀ j v, es[j]? = some v → φ (a.add (i * t.size + j)) = some v) ∧ RdC φ t x es)
  | .pair a b, d, cs => ∃ c1 c2, cs = c1 ++ c2 ∧ RdC φ a d.1 c1 ∧ RdC φ b d.2 c2

/-- what is known of memory: the blocks behind the stamps, the cells that never turn -/
structure Kap where
  dom : Nat → Prop
  blk : Nat → Nat
  bas : Nat → Nat
  endc : Nat → Nat
  esz : Nat → Nat
  phi : Addr → Option Value

structure Kap.le (κ κ' : Kap) : Prop where
  dom : ∀ g, κ.dom g → κ'.dom g
  blk : ∀ g, κ.dom g → κ'.blk g = κ.blk g
  bas : ∀ g, κ.dom g → κ'.bas g = κ.bas g
  endc : ∀ g, κ.dom g → κ'.endc g = κ.endc g
  esz : ∀ g, κ.dom g → κ'.esz g = κ.esz g
  phi : ∀ a v, κ.phi a = some v → κ'.phi a = some v

theorem Kap.le.refl (κ : Kap) : κ.le κ := ⟨fun _ h => h, fun _ _ => rfl, fun _ _ => rfl, fun _ _ => rfl, fun _ _ => rfl, fun _ _ h => h⟩
theorem Kap.le.trans {a b c : Kap} (h : a.le b) (k : b.le c) : a.le c :=
  ⟨fun g hg => k.dom g (h.dom g hg), fun g hg => (k.blk g (h.dom g hg)).trans (h.blk g hg), fun g hg => (k.bas g (h.dom g hg)).trans (h.bas g hg),
    fun g hg => (k.endc g (h.dom g hg)).trans (h.endc g hg), fun g hg => (k.esz g (h.dom g hg)).trans (h.esz g hg), fun a v hv => k.phi a v (h.phi a v hv)⟩

mutual
def VR (κ : Kap) : DV → Value → Prop
  | .undef, _ => True
  | .bool b, v => v = .bool b
  | .int k n, v => v = .int k n
  | .str s, v => v = .string s
  | .ptr g _ off, v => κ.dom g ∧ v = .pointer (some ⟨κ.blk g, κ.bas g + off, none⟩)
  | .bptr a, v => v = .pointer (some a)
  | .nilp, v => v = .pointer none
  | .sl g _ off len cap, v => κ.dom g ∧ (match cap with
      | .ex c => len ≤ c ∧ v = .slice (some ⟨κ.blk g, κ.bas g + off, none⟩) len c
      | .op z => (0 < z ∧ κ.esz g = z) ∧ ∃ o c, v = .slice (some ⟨κ.blk g, o, none⟩) len c ∧ len ≤ c ∧ ((o = κ.bas g + off ∧ off + c * z = κ.endc g) ∨ c = 0))
  | .bsl a len cap, v => len ≤ cap ∧ v = .slice (some a) len cap
  | .nils, v => v = .slice none 0 0
  | .lst t xs, v => RdC κ.phi (.slice t) xs [v]
  | .lptr t xs i off, v => ∃ a, v = .pointer (some (a.add (i * t.size + off))) ∧ RdC κ.phi (.slice t) xs [.slice (some a) xs.length xs.length]
  | .map g _, v => κ.dom g ∧ v = .map (some (κ.blk g))
  | .nilm, v => v = .map none
  | .func fn f c, v => ∃ f' c' : Array Value, v = .func fn f' c' ∧ VRL κ f f'.toList ∧ VRL κ c c'.toList
  | .nilf, v => v = .nilFunc
  | .iface t x, v => ∃ x', v = .iface t x' ∧ VR κ x x'
  | .nili, v => v = .nilIface
  | .agg cs, v => ∃ vs : Array Value, v = .agg vs ∧ VRL κ cs vs.toList
  | .tup cs, v => ∃ vs : Array Value, v = .tuple vs ∧ VRL κ cs vs.toList
def VRL (κ : Kap) : List DV → List Value → Prop
  | [], l => l = []
  | d :: ds, l => ∃ v vs, l = v :: vs ∧ VR κ d v ∧ VRL κ ds vs
end

theorem RdC.mono {φ ψ : Addr → Option Value} (h : ∀ a v, φ a = some v → ψ a = some v) : ∀ (t : Ty) (d : t.den) (cs : List Value), RdC φ t d cs → RdC ψ t d cs := by
  intro t
  induction t with
  | unit => intro d cs h; exact h
  | bool => intro d cs h; exact h
  | int k => intro d cs h; exact h
  | str => intro d cs h; exact h
  | slice t ih =>
    intro d cs hr
    obtain ⟨A, c, e, hr⟩ := hr
    refine ⟨A, c, e, fun hn => ?_⟩
    obtain ⟨a, ea, hr⟩ := hr hn
    refine ⟨a, ea, fun i x hx => ?_⟩
    obtain ⟨es, l, hc, hr⟩ := hr i x hx
    exact ⟨es, l, fun j v hv => h _ _ (hc j v hv), ih _ _ hr⟩
  | pair a b iha ihb =>
    intro d cs hr
    obtain ⟨c1, c2, e, h1, h2⟩ := hr
    exact ⟨c1, c2, e, iha _ _ h1, ihb _ _ h2⟩

mutual
theorem VR.mono {κ κ' : Kap} (h : κ.le κ') : ∀ (d : DV) (v : Value), VR κ d v → VR κ' d v
  | .undef, _, _ => trivial
  | .bool _, _, e => e
  | .int _ _, _, e => e
  | .str _, _, e => e
  | .ptr g _ off, v, e => ⟨h.dom g e.1, by rw [h.blk g e.1, h.bas g e.1]; exact e.2⟩
  | .bptr _, _, e => e
  | .nilp, _, e => e
  | .sl g _ off len (.ex c), v, e => ⟨h.dom g e.1, by have := e.2; simp only at this ⊢; rw [h.blk g e.1, h.bas g e.1]; exact this⟩
  | .sl g _ off len (.op z), v, e => ⟨h.dom g e.1, by have := e.2; simp only at this ⊢; rw [h.blk g e.1, h.bas g e.1, h.esz g e.1, h.endc g e.1]; exact this⟩
  | .bsl _ _ _, _, e => e
  | .nils, _, e => e
  | .lst t xs, v, e => RdC.mono h.phi _ _ _ e
  | .lptr t xs i off, v, e => by obtain ⟨a, e1, e2⟩ := e; exact ⟨a, e1, RdC.mono h.phi _ _ _ e2⟩
  | .map g _, v, e => ⟨h.dom g e.1, by rw [h.blk g e.1]; exact e.2⟩
  | .nilm, _, e => e
  | .func fn f c, v, e => by obtain ⟨f', c', e, h1, h2⟩ := e; exact ⟨f', c', e, VRL.mono h f _ h1, VRL.mono h c _ h2⟩
  | .nilf, _, e => e
  | .iface t x, v, e => by obtain ⟨x', e, h1⟩ := e; exact ⟨x', e, VR.mono h x _ h1⟩
  | .nili, _, e => e
  | .agg cs, v, e => by obtain ⟨vs, e, h1⟩ := e; exact ⟨vs, e, VRL.mono h cs _ h1⟩
  | .tup cs, v, e => by obtain ⟨vs, e, h1⟩ := e; exact ⟨vs, e, VRL.mono h cs _ h1⟩
theorem VRL.mono {κ κ' : Kap} (h : κ.le κ') : ∀ (ds : List DV) (vs : List Value), VRL κ ds vs → VRL κ' ds vs
  | [], _, e => e
  | d :: ds, l, e => by obtain ⟨v, vs, e, h1, h2⟩ := e; exact ⟨v, vs, e, VR.mono h d _ h1, VRL.mono h ds _ h2⟩
end

theorem VRL.length {κ : Kap} : ∀ (ds : List DV) (vs : List Value), VRL κ ds vs → vs.length = ds.length
  | [], _, e => by cases e; rfl
  | d :: ds, l, e => by obtain ⟨v, vs, rfl, _, h2⟩ := e; simp [VRL.length ds vs h2]
theorem VRL.get {κ : Kap} : ∀ (ds : List DV) (vs : List Value), VRL κ ds vs → ∀ (i : Nat) (d : DV), ds[i]? = some d → ∃ v, vs[i]? = some v ∧ VR κ d v
  | [], _, _, i, d, h => by simp at h
  | d0 :: ds, l, e, i, d, h => by
    obtain ⟨v, vs, rfl, h1, h2⟩ := e
    cases i with
    | zero => simp at h; subst h; exact ⟨v, rfl, h1⟩
    | succ i => simpa using VRL.get ds vs h2 i d (by simpa using h)
theorem VRL.mk {κ : Kap} : ∀ (ds : List DV) (vs : List Value), vs.length = ds.length → (∀ (i : Nat) (d : DV), ds[i]? = some d → ∃ v, vs[i]? = some v ∧ VR κ d v) → VRL κ ds vs
  | [], vs, hl, _ => by cases vs with | nil => rfl | cons a t => simp at hl
  | d :: ds, vs, hl, h => by
    cases vs with
    | nil => simp at hl
    | cons v vs =>
      obtain ⟨v', e, hv⟩ := h 0 d rfl
      simp at e; subst e
      exact ⟨v, vs, rfl, hv, VRL.mk ds vs (by simpa using hl) fun i d' hd => by simpa using h (i + 1) d' (by simpa using hd)⟩
theorem VRL.app {κ : Kap} : ∀ (a : List DV) (b : List DV) (x y : List Value), VRL κ a x → VRL κ b y → VRL κ (a ++ b) (x ++ y)
  | [], b, x, y, h, k => by cases h; exact k
  | d :: ds, b, x, y, h, k => by obtain ⟨v, vs, rfl, h1, h2⟩ := h; exact ⟨v, vs ++ y, rfl, h1, VRL.app ds b vs y h2 k⟩
theorem VRL.take {κ : Kap} : ∀ (n : Nat) (a : List DV) (x : List Value), VRL κ a x → VRL κ (a.take n) (x.take n)
  | 0, _, _, _ => by simp [VRL]
  | _ + 1, [], x, h => by cases h; simp [VRL]
  | n + 1, d :: ds, x, h => by obtain ⟨v, vs, rfl, h1, h2⟩ := h; exact ⟨v, vs.take n, rfl, h1, VRL.take n ds vs h2⟩
theorem VRL.drop {κ : Kap} : ∀ (n : Nat) (a : List DV) (x : List Value), VRL κ a x → VRL κ (a.drop n) (x.drop n)
  | 0, _, _, h => h
  | _ + 1, [], x, h => by cases h; rfl
  | n + 1, d :: ds, x, h => by obtain ⟨v, vs, rfl, h1, h2⟩ := h; exact VRL.drop n ds vs h2

theorem VR.cells {κ : Kap} {d : DV} {v : Value} (h : VR κ d v) (hd : d ≠ .undef) : VRL κ d.cells v.cells.toList := by
  cases d with
  | agg cs => obtain ⟨vs, rfl, h⟩ := h; exact h
  | undef => exact absurd rfl hd
  | tup cs => obtain ⟨vs, rfl, h⟩ := h; exact ⟨_, [], rfl, ⟨vs, rfl, h⟩, rfl⟩
  | bool b => cases h; exact ⟨_, [], rfl, rfl, rfl⟩
  | int k n => cases h; exact ⟨_, [], rfl, rfl, rfl⟩
  | str s => cases h; exact ⟨_, [], rfl, rfl, rfl⟩
  | ptr g p off => obtain ⟨h1, rfl⟩ := h; exact ⟨_, [], rfl, ⟨h1, rfl⟩, rfl⟩
  | bptr a => cases h; exact ⟨_, [], rfl, rfl, rfl⟩
  | nilp => cases h; exact ⟨_, [], rfl, rfl, rfl⟩
  | sl g p off len cap =>
    cases cap with
    | ex c => obtain ⟨h1, h0, h2⟩ := h; cases h2; exact ⟨_, [], rfl, ⟨h1, h0, rfl⟩, rfl⟩
    | op z => obtain ⟨h1, h0, o, c, rfl, h2⟩ := h; exact ⟨_, [], rfl, ⟨h1, h0, o, c, rfl, h2⟩, rfl⟩
  | bsl a len cap => obtain ⟨h0, h2⟩ := h; cases h2; exact ⟨_, [], rfl, ⟨h0, rfl⟩, rfl⟩
  | nils => cases h; exact ⟨_, [], rfl, rfl, rfl⟩
  | lst t xs => obtain ⟨A, c, e, hr⟩ := h; cases e; exact ⟨_, [], rfl, ⟨A, c, rfl, hr⟩, rfl⟩
  | lptr t xs i off => obtain ⟨a, rfl, h2⟩ := h; exact ⟨_, [], rfl, ⟨a, rfl, h2⟩, rfl⟩
  | map g p => obtain ⟨h1, rfl⟩ := h; exact ⟨_, [], rfl, ⟨h1, rfl⟩, rfl⟩
  | nilm => cases h; exact ⟨_, [], rfl, rfl, rfl⟩
  | func fn f c => obtain ⟨f', c', rfl, h1, h2⟩ := h; exact ⟨_, [], rfl, ⟨f', c', rfl, h1, h2⟩, rfl⟩
  | nilf => cases h; exact ⟨_, [], rfl, rfl, rfl⟩
  | iface t x => obtain ⟨x', rfl, h1⟩ := h; exact ⟨_, [], rfl, ⟨x', rfl, h1⟩, rfl⟩
  | nili => cases h; exact ⟨_, [], rfl, rfl, rfl⟩

theorem scal_one {κ : Kap} {d : DV} {v : Value} (h : VR κ d v) (hd : scal d = true) : v.oneCell' = true ∧ v.cells = #[v] := by
  cases d with
  | agg cs => cases hd
  | undef => cases hd
  | tup cs => cases hd
  | ptr g p off => obtain ⟨h1, rfl⟩ := h; exact ⟨rfl, rfl⟩
  | sl g p off len cap =>
    cases cap with
    | ex c => obtain ⟨h1, h0, h2⟩ := h; cases h2; exact ⟨rfl, rfl⟩
    | op z => obtain ⟨h1, h0, o, c, rfl, h2⟩ := h; exact ⟨rfl, rfl⟩
  | lst t xs => obtain ⟨A, c, e, hr⟩ := h; cases e; exact ⟨rfl, rfl⟩
  | lptr t xs i off => obtain ⟨a, rfl, h2⟩ := h; exact ⟨rfl, rfl⟩
  | map g p => obtain ⟨h1, rfl⟩ := h; exact ⟨rfl, rfl⟩
  | func fn f c => obtain ⟨f', c', rfl, h1, h2⟩ := h; exact ⟨rfl, rfl⟩
  | iface t x => obtain ⟨x', rfl, h1⟩ := h; exact ⟨rfl, rfl⟩
  | bsl a len cap => obtain ⟨h0, h2⟩ := h; cases h2; exact ⟨rfl, rfl⟩
  | _ => cases h; exact ⟨rfl, rfl⟩

theorem allScal_mem : ∀ {l : List DV}, allScal l = true → ∀ d ∈ l, scal d = true
  | [], _, d, h => by simp at h
  | a :: l, h, d, hd => by
    have h' : cond (scal a) (allScal l) false = true := h
    cases ha : scal a with
    | false => rw [ha] at h'; cases h'
    | true =>
      rw [ha] at h'
      cases List.mem_cons.1 hd with
      | inl e => subst e; exact ha
      | inr e => exact allScal_mem h' d e
theorem scal_def {d : DV} (h : scal d = true) : d ≠ .undef := by rintro rfl; cases h

/-! ### memory -/
def ERL (κ : Kap) : List (DV × DV × Nat) → List MapEntry → Prop
  | [], l => l = []
  | e :: es, l => ∃ m ms, l = m :: ms ∧ VR κ e.1 m.key ∧ keyOk e.1 = true ∧ VR κ e.2.1 m.val ∧ m.born = e.2.2 ∧ ERL κ es ms

/-- a row of cells behind a stamp -/
structure RowR (κ : Kap) (g : Nat) (opn : Bool) (cs : List DV) (C : Array Value) (fr : Nat × Nat) : Prop where
  size : κ.bas g + cs.length ≤ C.size
  cell : ∀ j d, cs[j]? = some d → ∃ v, C[κ.bas g + j]? = some v ∧ VR κ d v
  frz : ∀ j, j < C.size → ¬ (fr.1 ≤ j ∧ j < fr.2)
  opn : 0 < κ.esz g → κ.bas g + κ.endc g ≤ C.size ∧ cs.length ≤ κ.endc g

def OR (κ : Kap) (o : Obj) (w : World) : Prop := match o with
  | .cells g opn cs => κ.dom g ∧ ∃ C elem fr, w.heap[κ.blk g]? = some (.cells C elem fr) ∧ RowR κ g opn cs C fr
  | .vec _ _ _ _ => False
  | .map g es c => κ.dom g ∧ ∃ ms, w.heap[κ.blk g]? = some (.map ms c) ∧ ERL κ es ms.toList
  | .siter g s pos => κ.dom g ∧ w.heap[κ.blk g]? = some (.stringIter s pos)

theorem OR.dom {κ : Kap} {o : Obj} {w : World} (h : OR κ o w) : κ.dom o.g := by cases o <;> first | exact h.1 | exact h.elim

section
variable (E : Env) (N : Nat) (w0 : World)
structure Rr (κ : Kap) (h : Tr Obj) (w : World) : Prop where
  below : Below N w0 w
  big : N ≤ w.heap.size
  obj : ∀ p o, h.get p = some o → OR κ o w ∧ N ≤ κ.blk o.g ∧ κ.blk o.g < w.heap.size
  apart : ∀ p q o o', h.get p = some o → h.get q = some o' → p ≠ q → κ.blk o.g ≠ κ.blk o'.g
  phi : ∀ a v, κ.phi a = some v → w.cell? a = some v ∧ ∀ p o, h.get p = some o → κ.blk o.g ≠ a.block
  glob : ∀ b cs off d, E.glob.get b = some cs → cs[off]? = some d → ∃ v, κ.phi ⟨b, off, none⟩ = some v ∧ VR κ d v
end
end Go.Am
