/- States told by shapes and leaves; code that takes one to another. -/
import Derived.Test.YtbaakikdmbehjaaDoorAmPre
import Derived.Test.YtbaakikdmbehjaaDoorAmTold
set_option linter.unusedVariables false
set_option linter.unusedSimpArgs false
set_option linter.unusedSectionVars false
namespace Go.Am
open Go.RowKit

/-- a leaf of a shape -/
inductive Lf where
  | int (n : Int)
  | bool (b : Bool)
  | str (s : ByteArray)

inductive Pat where
  | lit (v : DV)
  | int (k : IntKind)
  | bool
  | str
  | ptr (i off : Nat)
  | agg (ps : List Pat)
  | func (f : FuncId) (a b : List Pat)

/-- a shape: the frame's size, its slots, its objects -/
structure Sk where
  n : Nat
  slots : List (Nat × Pat)
  objs : List (List Pat)

structure AS where
  a : AF
  h : Tr Obj
  pos : Nat
  ep : Nat

def lf1 (l : List Lf) : Lf := match l with
  | a :: _ => a
  | [] => .int 0
def lfT (l : List Lf) : List Lf := match l with
  | _ :: t => t
  | [] => []
noncomputable def lfInt (k : IntKind) (a : Lf) : DV := match a with
  | .int n => .int k n
  | _ => .undef
noncomputable def lfBool (a : Lf) : DV := match a with
  | .bool b => .bool b
  | _ => .undef
noncomputable def lfStr (a : Lf) : DV := match a with
  | .str s => .str s
  | _ => .undef

mutual
noncomputable def putP : Pat → List Lf → DV × List Lf
  | .lit v, l => (v, l)
  | .int k, l => (lfInt k (lf1 l), lfT l)
  | .bool, l => (lfBool (lf1 l), lfT l)
  | .str, l => (lfStr (lf1 l), lfT l)
  | .ptr i off, l => (.ptr i i off, l)
  | .agg ps, l => (.agg (putL ps l).1, (putL ps l).2)
  | .func f a b, l => (.func (.func f) (putL a l).1 (putL b (putL a l).2).1, (putL b (putL a l).2).2)
noncomputable def putL : List Pat → List Lf → List DV × List Lf
  | [], l => ([], l)
  | p :: ps, l => ((putP p l).1 :: (putL ps (putP p l).2).1, (putL ps (putP p l).2).2)
end

noncomputable def putS : List (Nat × Pat) → List Lf → Tr DV → Tr DV × List Lf
  | [], l, t => (t, l)
  | (i, p) :: ss, l, t => putS ss (putP p l).2 (Tr.set (some (putP p l).1) t i)
noncomputable def putO : List (List Pat) → List Lf → Nat → Tr Obj → Tr Obj × List Lf
  | [], l, _, h => (h, l)
  | ps :: os, l, i, h => putO os (putL ps l).2 (i + 1) (Tr.set (some (.cells i false (putL ps l).1)) h i)

/-- the state of a shape with these leaves -/
noncomputable def put (sk : Sk) (l : List Lf) : AS :=
  ⟨⟨sk.n, (putS sk.slots l .nil).1, []⟩, (putO sk.objs (putS sk.slots l .nil).2 0 .nil).1, sk.objs.length, sk.objs.length⟩

/-! matching: positions and stamps of the shape's objects are told -/
noncomputable def mLit (v d : DV) : Option (List Lf) := cond (dvEq v d) (some []) none
noncomputable def oapp (a b : Option (List Lf)) : Option (List Lf) := match a, b with
  | some x, some y => lappK x y some
  | _, _ => none
mutual
noncomputable def getP (ren : List (Nat × Nat)) : Pat → DV → Option (List Lf)
  | .lit v, d => mLit v d
  | .int k, d => match d with
    | .int j n => cond (keq k j) (some [.int n]) none
    | _ => none
  | .bool, d => match d with
    | .bool b => some [.bool b]
    | _ => none
  | .str, d => match d with
    | .str s => some [.str s]
    | _ => none
  | .ptr i off, d => match d with
    | .ptr g p o => match lget ren i with
      | some (p', g') => cond (cond (Nat.beq p p') (cond (Nat.beq g g') (Nat.beq o off) false) false) (some []) none
      | none => none
    | _ => none
  | .agg ps, d => match d with
    | .agg ds => getL ren ps ds
    | _ => none
  | .func f a b, d => match d with
    | .func (.func g) x y => cond (Nat.beq f g) (oapp (getL ren a x) (getL ren b y)) none
    | _ => none
noncomputable def getL (ren : List (Nat × Nat)) : List Pat → List DV → Option (List Lf)
  | [], ds => match ds with
    | [] => some []
    | _ => none
  | p :: ps, ds => match ds with
    | d :: ds => oapp (getP ren p d) (getL ren ps ds)
    | [] => none
end
noncomputable def getS (ren : List (Nat × Nat)) (t : Tr DV) : List (Nat × Pat) → Option (List Lf)
  | [] => some []
  | (i, p) :: ss => match t.get i with
    | some d => oapp (getP ren p d) (getS ren t ss)
    | none => none
noncomputable def getO (ren : List (Nat × Nat)) (h : Tr Obj) : List (List Pat) → List (Nat × Nat) → Option (List Lf)
  | [], l => match l with
    | [] => some []
    | _ => none
  | ps :: os, l => match l with
    | (p, g) :: l => match h.get p with
      | some (.cells g' false cs) => cond (Nat.beq g g') (oapp (getL ren ps cs) (getO ren h os l)) none
      | _ => none
    | [] => none
noncomputable def nodupB : List Nat → Bool
  | [] => true
  | a :: l => cond (has l a) false (nodupB l)
/-- the leaves of a state of this shape -/
noncomputable def get (sk : Sk) (ren : List (Nat × Nat)) (s : AS) : Option (List Lf) :=
  cond (cond (nodupB (ren.map (·.1))) (Nat.ble sk.n s.a.n) false) (oapp (getS ren s.a.t sk.slots) (getO ren s.h sk.objs ren)) none

theorem oapp_some {a b : Option (List Lf)} {l : List Lf} (h : oapp a b = some l) : ∃ x y, a = some x ∧ b = some y ∧ l = x ++ y := by
  unfold oapp at h
  split at h
  · rename_i x y
    rw [lappK_eq] at h
    cases h; exact ⟨x, y, rfl, rfl, rfl⟩
  · cases h

/-- stamps renamed -/
def Kap.ren (κ : Kap) (ren : List (Nat × Nat)) : Kap :=
  { dom := fun i => ∃ p g, ren[i]? = some (p, g) ∧ κ.dom g, blk := fun i => κ.blk (ren.getD i (0, 0)).2, bas := fun i => κ.bas (ren.getD i (0, 0)).2,
    endc := fun i => κ.endc (ren.getD i (0, 0)).2, esz := fun i => κ.esz (ren.getD i (0, 0)).2, phi := κ.phi }

theorem dvEq_vr {v d : DV} (h : dvEq v d = true) {κ κ' : Kap} {x : Value} (k : VR κ d x) : VR κ' v x := by
  have e := dvEq_ok h
  subst e
  unfold dvEq at h
  split at h <;> first | exact k | exact trivial | cases h

mutual
theorem getP_put {κ : Kap} {ren : List (Nat × Nat)} : ∀ (p : Pat) (d : DV) (l rest : List Lf), getP ren p d = some l → (putP p (l ++ rest)).2 = rest ∧ ∀ v, VR κ d v → VR (κ.ren ren) (putP p (l ++ rest)).1 v
  | .lit v, d, l, rest, h => by
    simp only [getP, mLit] at h
    cases e : dvEq v d with
    | false => rw [e] at h; cases h
    | true =>
      rw [e] at h; cases h
      exact ⟨rfl, fun x hx => dvEq_vr e hx⟩
  | .int k, d, l, rest, h => by
    simp only [getP] at h
    split at h
    · rename_i j n
      cases e : keq k j with
      | false => rw [e] at h; cases h
      | true =>
        rw [e] at h; cases h
        rw [(keq_eq _ _).1 e]
        exact ⟨rfl, fun x hx => hx⟩
    · cases h
  | .bool, d, l, rest, h => by
    simp only [getP] at h
    split at h
    · cases h; exact ⟨rfl, fun x hx => hx⟩
    · cases h
  | .str, d, l, rest, h => by
    simp only [getP] at h
    split at h
    · cases h; exact ⟨rfl, fun x hx => hx⟩
    · cases h
  | .ptr i off, d, l, rest, h => by
    simp only [getP] at h
    split at h
    · rename_i g p o
      split at h
      · rename_i p' g' hr
        rw [lget_eq] at hr
        cases e : (cond (Nat.beq p p') (cond (Nat.beq g g') (Nat.beq o off) false) false) with
        | false => rw [e] at h; cases h
        | true =>
          rw [e] at h; cases h
          have e1 : g = g' ∧ o = off := by
            cases e2 : Nat.beq p p' with
            | false => rw [e2] at e; cases e
            | true =>
              rw [e2] at e
              cases e3 : Nat.beq g g' with
              | false => rw [e3] at e; cases e
              | true =>
                rw [e3] at e
                exact ⟨beq_true e3, beq_true e⟩
          obtain ⟨rfl, rfl⟩ := e1
          refine ⟨rfl, fun x hx => ?_⟩
          obtain ⟨h1, h2⟩ := hx
          have hd : ren.getD i (0, 0) = (p', g) := by simp [List.getD, hr]
          refine ⟨⟨p', g, hr, h1⟩, ?_⟩
          show x = .pointer (some ⟨κ.blk (ren.getD i (0, 0)).2, κ.bas (ren.getD i (0, 0)).2 + o, none⟩)
          rw [hd]; exact h2
      · cases h
    · cases h
  | .agg ps, d, l, rest, h => by
    simp only [getP] at h
    split at h
    · rename_i ds
      obtain ⟨h1, h2⟩ := getL_put ps ds l rest h
      refine ⟨h1, fun x hx => ?_⟩
      obtain ⟨vs, rfl, hx⟩ := hx
      exact ⟨vs, rfl, h2 _ hx⟩
    · cases h
  | .func f a b, d, l, rest, h => by
    simp only [getP] at h
    split at h
    · rename_i g x y
      cases e : Nat.beq f g with
      | false => rw [e] at h; cases h
      | true =>
        rw [e] at h
        obtain ⟨l1, l2, e1, e2, rfl⟩ := oapp_some h
        have hfg := beq_true e
        subst hfg
        obtain ⟨h1, h2⟩ := getL_put (κ := κ) a x l1 (l2 ++ rest) e1
        obtain ⟨h3, h4⟩ := getL_put (κ := κ) b y l2 rest e2
        rw [List.append_assoc]
        simp only [putP]
        rw [h1]
        refine ⟨h3, fun v hv => ?_⟩
        obtain ⟨f', c', rfl, q1, q2⟩ := hv
        exact ⟨f', c', rfl, h2 _ q1, h4 _ q2⟩
    · cases h
theorem getL_put {κ : Kap} {ren : List (Nat × Nat)} : ∀ (ps : List Pat) (ds : List DV) (l rest : List Lf), getL ren ps ds = some l → (putL ps (l ++ rest)).2 = rest ∧ ∀ vs, VRL κ ds vs → VRL (κ.ren ren) (putL ps (l ++ rest)).1 vs
  | [], ds, l, rest, h => by
    simp only [getL] at h
    split at h
    · cases h; exact ⟨rfl, fun vs hv => hv⟩
    · cases h
  | p :: ps, ds, l, rest, h => by
    simp only [getL] at h
    split at h
    · rename_i d ds
      obtain ⟨l1, l2, e1, e2, rfl⟩ := oapp_some h
      obtain ⟨h1, h2⟩ := getP_put (κ := κ) p d l1 (l2 ++ rest) e1
      obtain ⟨h3, h4⟩ := getL_put (κ := κ) ps ds l2 rest e2
      rw [List.append_assoc]
      simp only [putL]
      rw [h1]
      refine ⟨h3, fun vs hv => ?_⟩
      obtain ⟨v, vs, rfl, q1, q2⟩ := hv
      exact ⟨v, vs, rfl, h2 _ q1, h4 _ q2⟩
    · cases h
end

section
variable {P : Program} {E : Env} {N : Nat} {w0 : World}

/-- a state of the machine stands for a state of the model -/
def StR (E : Env) (N : Nat) (w0 : World) (s : AS) (κ : Kap) (a : Act) (w : World) : Prop :=
  Rr E N w0 κ s.h w ∧ FRA κ s.a a ∧ ∀ g, κ.dom g → g < s.ep

theorem getS_put {κ : Kap} {ren : List (Nat × Nat)} {t : Tr DV} : ∀ (ss : List (Nat × Pat)) (l rest : List Lf) (t' : Tr DV), getS ren t ss = some l → (putS ss (l ++ rest) t').2 = rest ∧
    ∀ (a : Act), (∀ i d, t.get i = some d → VR κ d (a.tmps.getD i undef)) → (∀ i d, t'.get i = some d → VR (κ.ren ren) d (a.tmps.getD i undef)) → ∀ i d, (putS ss (l ++ rest) t').1.get i = some d → VR (κ.ren ren) d (a.tmps.getD i undef)
  | [], l, rest, t', h => by cases h; exact ⟨rfl, fun a _ h i d => h i d⟩
  | (j, p) :: ss, l, rest, t', h => by
    simp only [getS] at h
    split at h
    · rename_i d hd
      obtain ⟨l1, l2, e1, e2, rfl⟩ := oapp_some h
      obtain ⟨h1, h2⟩ := getP_put (κ := κ) p d l1 (l2 ++ rest) e1
      rw [List.append_assoc]
      simp only [putS]
      rw [h1]
      obtain ⟨h3, h4⟩ := getS_put (κ := κ) ss l2 rest (Tr.set (some (putP p (l1 ++ (l2 ++ rest))).1) t' j) e2
      refine ⟨h3, fun a ha ht i d' hi => ?_⟩
      refine h4 a ha (fun i d' hi => ?_) i d' hi
      rw [Tr.get_set] at hi
      split at hi
      · rename_i e; cases hi; subst e; exact h2 _ (ha _ _ hd)
      · exact ht i d' hi
    · cases h

theorem putO_get : ∀ (os : List (List Pat)) (l : List Lf) (i : Nat) (h : Tr Obj) (j : Nat) (o : Obj), (putO os l i h).1.get j = some o → (i ≤ j ∧ j < i + os.length) ∨ h.get j = some o
  | [], l, i, h, j, o, e => .inr e
  | ps :: os, l, i, h, j, o, e => by
    rcases putO_get os _ (i + 1) _ j o e with ⟨h1, h2⟩ | h1
    · exact .inl ⟨by omega, by simp only [List.length_cons]; omega⟩
    · rw [Tr.get_set] at h1
      split at h1
      · exact .inl ⟨by omega, by simp only [List.length_cons]; omega⟩
      · exact .inr h1

/-- what stands at the objects' places -/
theorem getO_put {κ : Kap} {ren : List (Nat × Nat)} {h : Tr Obj} : ∀ (os : List (List Pat)) (rs : List (Nat × Nat)) (l rest : List Lf) (i : Nat) (h' : Tr Obj), getO ren h os rs = some l →
    rs.length = os.length ∧ (putO os (l ++ rest) i h').2 = rest ∧ ∀ j o, (putO os (l ++ rest) i h').1.get j = some o → h'.get j = some o ∧ ¬ (i ≤ j ∧ j < i + os.length) ∨
      ∃ p g cs cs', i ≤ j ∧ rs[j - i]? = some (p, g) ∧ h.get p = some (.cells g false cs) ∧ o = .cells j false cs' ∧ ∀ vs, VRL κ cs vs → VRL (κ.ren ren) cs' vs
  | [], rs, l, rest, i, h', e => by
    simp only [getO] at e
    split at e
    · cases e; exact ⟨rfl, rfl, fun j o hj => .inl ⟨hj, by simp⟩⟩
    · cases e
  | ps :: os, rs, l, rest, i, h', e => by
    simp only [getO] at e
    split at e
    · rename_i p g rs
      split at e
      · rename_i g' cs hp
        cases eg : Nat.beq g g' with
        | false => rw [eg] at e; cases e
        | true =>
          rw [eg] at e
          have hg := beq_true eg
          subst hg
          obtain ⟨l1, l2, e1, e2, rfl⟩ := oapp_some e
          obtain ⟨h1, h2⟩ := getL_put (κ := κ) ps cs l1 (l2 ++ rest) e1
          rw [List.append_assoc]
          simp only [putO]
          rw [h1]
          obtain ⟨h3, h4, h5⟩ := getO_put (κ := κ) os rs l2 rest (i + 1) (Tr.set (some (.cells i false (putL ps (l1 ++ (l2 ++ rest))).1)) h' i) e2
          refine ⟨by simp [h3], h4, fun j o hj => ?_⟩
          rcases h5 j o hj with ⟨q1, q2⟩ | ⟨p', g', cs', cs'', q1, q2, q3, q4, q5⟩
          · rw [Tr.get_set] at q1
            split at q1
            · rename_i ej
              cases q1
              subst ej
              exact .inr ⟨p, g, cs, _, Nat.le_refl _, by rw [Nat.sub_self]; rfl, hp, rfl, h2⟩
            · exact .inl ⟨q1, by simp only [List.length_cons]; omega⟩
          · exact .inr ⟨p', g', cs', cs'', by omega, by rw [show j - i = (j - (i + 1)) + 1 by omega, List.getElem?_cons_succ]; exact q2, q3, q4, q5⟩
      · cases e
    · cases e

theorem nodupB_ok : ∀ {l : List Nat}, nodupB l = true → l.Nodup
  | [], _ => List.nodup_nil
  | a :: l, h => by
    simp only [nodupB] at h
    cases e : has l a with
    | true => rw [e] at h; cases h
    | false =>
      rw [e] at h
      refine List.nodup_cons.2 ⟨fun hm => ?_, nodupB_ok h⟩
      have : has l a = true := by
        clear e h
        induction l with
        | nil => cases hm
        | cons b l ih =>
          show cond (Nat.beq b a) true (has l a) = true
          cases List.mem_cons.1 hm with
          | inl e => subst e; rw [Nat.beq_refl]; rfl
          | inr e => rw [ih e]; cases Nat.beq b a <;> rfl
      rw [this] at e; cases e

/-- a state of a shape stands for whatever it stands for -/
theorem get_le (hg : GlobFlat E) {sk : Sk} {ren : List (Nat × Nat)} {s : AS} {l : List Lf} (h : get sk ren s = some l) {κ : Kap} {a : Act} {w : World} (hs : StR E N w0 s κ a w) : StR E N w0 (put sk l) (κ.ren ren) a w := by
  obtain ⟨hR, ⟨hdf, hA⟩, hd⟩ := hs
  unfold get at h
  cases hn : nodupB (ren.map (·.1)) with
  | false => rw [hn] at h; cases h
  | true =>
    rw [hn] at h
    cases hb : Nat.ble sk.n s.a.n with
    | false => rw [hb] at h; cases h
    | true =>
      rw [hb] at h
      obtain ⟨l1, l2, e1, e2, rfl⟩ := oapp_some h
      obtain ⟨s1, s2⟩ := getS_put (κ := κ) sk.slots l1 l2 .nil e1
      obtain ⟨o0, o1, o2⟩ := getO_put (κ := κ) sk.objs ren l2 [] 0 .nil e2
      rw [List.append_nil] at o1 o2
      have hnd := nodupB_ok hn
      have hobj : ∀ j o, (put sk (l1 ++ l2)).h.get j = some o → ∃ p g cs cs', ren[j]? = some (p, g) ∧ s.h.get p = some (.cells g false cs) ∧ o = .cells j false cs' ∧ ∀ vs, VRL κ cs vs → VRL (κ.ren ren) cs' vs := by
        intro j o hj
        change (putO sk.objs (putS sk.slots (l1 ++ l2) .nil).2 0 .nil).1.get j = some o at hj
        rw [s1] at hj
        rcases o2 j o hj with ⟨q1, _⟩ | ⟨p, g, cs, cs', _, q2, q3, q4, q5⟩
        · cases q1
        · exact ⟨p, g, cs, cs', by simpa using q2, q3, q4, q5⟩
      have hblk : ∀ j p g, ren[j]? = some (p, g) → ren.getD j (0, 0) = (p, g) := fun j p g h => by simp [List.getD, h]
      refine ⟨⟨hR.below, hR.big, fun j o hj => ?_, fun i j o o' hi hj hij => ?_, fun ad v ha => ⟨(hR.phi ad v ha).1, fun j o hj => ?_⟩, fun b cs off d h1 h2 => ?_⟩, ⟨rfl, ?_, ?_, hA.dfr⟩, ?_⟩
      · obtain ⟨p, g, cs, cs', q2, q3, rfl, q5⟩ := hobj j o hj
        obtain ⟨r1, r2, r3⟩ := hR.obj p _ q3
        have hD := hblk j p g q2
        have hB : (κ.ren ren).blk j = κ.blk g := by show κ.blk (ren.getD j (0, 0)).2 = _; rw [hD]
        refine ⟨?_, ?_, ?_⟩
        · obtain ⟨u1, C, elem, fr, u2, u3⟩ := r1
          refine ⟨⟨p, g, q2, u1⟩, C, elem, fr, ?_, ?_⟩
          · rw [hB]; exact u2
          · have hbas : (κ.ren ren).bas j = κ.bas g := by show κ.bas (ren.getD j (0, 0)).2 = _; rw [hD]
            have hendc : (κ.ren ren).endc j = κ.endc g := by show κ.endc (ren.getD j (0, 0)).2 = _; rw [hD]
            have hesz : (κ.ren ren).esz j = κ.esz g := by show κ.esz (ren.getD j (0, 0)).2 = _; rw [hD]
            -- the cells as a list
            have hv : ∃ vs : List Value, VRL κ cs vs ∧ ∀ i v, vs[i]? = some v → C[κ.bas g + i]? = some v := by
              refine ⟨(C.toList.drop (κ.bas g)).take cs.length, VRL.mk _ _ (by have := u3.size; simp; omega) fun i d hi => ?_, fun i v hi => ?_⟩
              · obtain ⟨v, h1, h2⟩ := u3.cell i d hi
                have hlt : i < cs.length := by
                  rcases Nat.lt_or_ge i cs.length with h | h
                  · exact h
                  · rw [List.getElem?_eq_none h] at hi; cases hi
                refine ⟨v, ?_, h2⟩
                rw [List.getElem?_take_of_lt hlt, List.getElem?_drop, Array.getElem?_toList]; exact h1
              · have hlt : i < cs.length := by
                  rcases Nat.lt_or_ge i cs.length with h | h
                  · exact h
                  · rw [List.getElem?_take, if_neg (by omega)] at hi; cases hi
                rw [List.getElem?_take_of_lt hlt, List.getElem?_drop, Array.getElem?_toList] at hi; exact hi
            obtain ⟨vs, v1, v2⟩ := hv
            have v3 := q5 vs v1
            have hlen : cs'.length = cs.length := by rw [← VRL.length _ _ v3, VRL.length _ _ v1]
            refine ⟨?_, fun i d hi => ?_, u3.frz, fun hz => ?_⟩
            · rw [hbas, hlen]; exact u3.size
            · obtain ⟨v, h1, h2⟩ := VRL.get _ _ v3 i d hi
              exact ⟨v, by rw [hbas]; exact v2 i v h1, h2⟩
            · rw [hesz] at hz
              obtain ⟨h1, h2⟩ := u3.opn hz
              exact ⟨by rw [hbas, hendc]; exact h1, by rw [hlen, hendc]; exact h2⟩
        · show N ≤ (κ.ren ren).blk j; rw [hB]; exact r2
        · show (κ.ren ren).blk j < _; rw [hB]; exact r3
      · obtain ⟨p, g, cs, cs', q2, q3, rfl, q5⟩ := hobj i o hi
        obtain ⟨p', g', cs1, cs1', q2', q3', rfl, q5'⟩ := hobj j o' hj
        have e1 := hblk i p g q2
        have e2 := hblk j p' g' q2'
        have hpp : p ≠ p' := by
          intro he
          apply hij
          have l1 : i < (ren.map (·.1)).length := by
            rw [List.length_map]
            rcases Nat.lt_or_ge i ren.length with h | h
            · exact h
            · rw [List.getElem?_eq_none h] at q2; cases q2
          have x1 : (ren.map (·.1))[i]? = some p := by rw [List.getElem?_map, q2]; rfl
          have x2 : (ren.map (·.1))[j]? = some p := by rw [List.getElem?_map, q2', he]; rfl
          exact (List.getElem?_inj l1 hnd).1 (x1.trans x2.symm)
        show κ.blk (ren.getD i (0, 0)).2 ≠ κ.blk (ren.getD j (0, 0)).2
        rw [e1, e2]
        exact hR.apart p p' _ _ q3 q3' hpp
      · obtain ⟨p, g, cs, cs', q2, q3, rfl, q5⟩ := hobj j o hj
        show κ.blk (ren.getD j (0, 0)).2 ≠ _
        rw [hblk j p g q2]
        exact (hR.phi ad v ha).2 p _ q3
      · obtain ⟨v, h3, h4⟩ := hR.glob b cs off d h1 h2
        exact ⟨v, h3, VR.flat d v (hg b cs off d h1 h2) h4⟩
      · exact Nat.le_trans (Nat.le_of_ble_eq_true hb) hA.size
      · exact s2 a hA.tmp (fun i d h => by cases h)
      · rintro g ⟨p, g', h1, h2⟩
        show g < sk.objs.length
        rw [← o0]
        rcases Nat.lt_or_ge g ren.length with h | h
        · exact h
        · rw [List.getElem?_eq_none h] at h1; cases h1

/-! ### code that takes a state to others -/
section
variable (P : Program) (E : Env) (N : Nat) (w0 : World)
def Ends (fin : AEx → AS → Prop) (Q : Exit → Act → World → Prop) : Prop := ∀ κ e a w x s, fin x s → StR E N w0 s κ a w → ExR κ x e → Q e a w
def Tr1 (c : Code) (s : AS) (K : List KF) (fin : AEx → AS → Prop) : Prop := ∀ κ a w Q, StR E N w0 s κ a w → Ends E N w0 fin Q → c.wp P (wpK P K Q) a w
def TrL (c : Code) (s : AS) (K : List KF) (fin : AEx → AS → Prop) : Prop := ∀ κ a w Q, StR E N w0 s κ a w → Ends E N w0 fin Q → LP P c (wpK P K Q) a w
def TrR (K : List KF) (x : AEx) (s : AS) (fin : AEx → AS → Prop) : Prop := ∀ κ e a w Q, StR E N w0 s κ a w → ExR κ x e → Ends E N w0 fin Q → wpK P K Q e a w
end

def stOf (s : AS) (ds : List Bool) : St := ⟨s.h, s.pos, s.ep, ⟨0, [], [], []⟩, ⟨true, ds, []⟩⟩
def flatX (x : AEx) : Bool := match x with
  | .pan c => flatL (c.map (·.1))
  | _ => true
noncomputable def outPre (sk : Sk) (ren : List (Nat × Nat)) (r : Option ((Option AEx × AF) × St)) (o : Option AEx) (l : List Lf) : Prop := match r with
  | some ((o', a'), S') => conj S'.sy.phi ∧ o' = o ∧ get sk ren ⟨a', S'.heap, S'.pos, S'.ep⟩ = some l
  | none => False
theorem ExR.flat {κ κ' : Kap} {x : AEx} {e : Exit} (h : flatX x = true) (k : ExR κ x e) : ExR κ' x e := by
  cases x with
  | pan c => cases e with
    | panic ch => exact PanR.flat c ch h k
    | _ => exact k.elim
  | _ => cases e <;> exact k

theorem Tr1.pre (hm : P.follows .mixedOrders = true) (hE : EnvOk P E) (hg : GlobFlat E) {callF : FuncId → List DV → M ORes} (hc : CallOk P E N w0 callF) (hloc : ∀ f l, Local (callF f l)) {L : Nat}
    {p : List Nat} {c : Code} {s : AS} {K : List KF} {fin : AEx → AS → Prop} (hok : codeOk c = true) (ds : List Bool) (sk : Sk) (ren : List (Nat × Nat)) (o : Option AEx) (l : List Lf)
    (h : outPre sk ren (evPre E callF L p c s.a (stOf s ds)) o l) (hx : ∀ x, o = some x → flatX x = true)
    (hk : match o with
      | none => Tr1 P E N w0 (sub p c) (put sk l) (stk p c K) fin
      | some x => TrR P E N w0 K x (put sk l) fin) : Tr1 P E N w0 c s K fin := by
  intro κ a w Q hs hfin
  unfold outPre at h
  cases he : evPre E callF L p c s.a (stOf s ds) with
  | none => rw [he] at h; exact h.elim
  | some y =>
    obtain ⟨⟨o', a'⟩, S'⟩ := y
    rw [he] at h
    obtain ⟨h1, rfl, h3⟩ := h
    obtain ⟨hR, hA, hd⟩ := hs
    have F := (evPre_local E callF L hloc p c s.a).facts (S := stOf s ds) (Nat.zero_le _) he
    refine wp_pre hm hE hc hloc L p c hok K κ s.a a (stOf s ds) o' a' S' w Q (Nat.zero_le _) he (conj_all h1) hR (fun g h1 _ h3 => by have := hd g h3; exact absurd h1 (by show ¬ s.ep ≤ g; omega)) hA ?_
    intro κ' a1 w1 y1 y2 y4
    have hs' : StR E N w0 ⟨a', S'.heap, S'.pos, S'.ep⟩ κ' a1 w1 := ⟨y2, y4, fun g hg => by
      rcases y1.dom g hg with h | h
      · have := hd g h; have := F.2.1; exact Nat.lt_of_lt_of_le (hd g h) F.2.1
      · exact h.2⟩
    have hs2 := get_le hg h3 hs'
    cases o' with
    | none => exact hk _ a1 w1 Q hs2 hfin
    | some x => exact fun e hen => hk _ e a1 w1 Q hs2 (hen.flat (hx x rfl)) hfin

theorem Tr1.loop {c : Code} {s : AS} {K : List KF} {fin : AEx → AS → Prop} (h : TrL P E N w0 c s K fin) : Tr1 P E N w0 (.loop c) s K fin :=
  fun κ a w Q hs hf => (h κ a w Q hs hf).wp
theorem TrL.round {c : Code} {s : AS} {K : List KF} {fin : AEx → AS → Prop} (h : Tr1 P E N w0 c s (.lp c :: K) fin) : TrL P E N w0 c s K fin :=
  fun κ a w Q hs hf => LP.round (h κ a w Q hs hf)
theorem TrR.nil {x : AEx} {s : AS} {fin : AEx → AS → Prop} (h : fin x s) : TrR P E N w0 [] x s fin := fun κ e a w Q hs hx hf => hf κ e a w x s h hs hx
theorem TrR.seqN {c : Code} {s : AS} {K : List KF} {fin : AEx → AS → Prop} (h : Tr1 P E N w0 c s K fin) : TrR P E N w0 (.seq c :: K) .normal s fin := fun κ e a w Q hs hx hf => by
  cases e with
  | normal => exact h κ a w Q hs hf
  | _ => exact hx.elim
theorem TrR.lpN {c : Code} {s : AS} {K : List KF} {fin : AEx → AS → Prop} (h : TrL P E N w0 c s K fin) : TrR P E N w0 (.lp c :: K) .normal s fin := fun κ e a w Q hs hx hf => by
  cases e with
  | normal => exact h κ a w Q hs hf
  | _ => exact hx.elim
theorem TrR.seqO {c : Code} {x : AEx} {s : AS} {K : List KF} {fin : AEx → AS → Prop} (hx : x ≠ .normal) (h : TrR P E N w0 K x s fin) : TrR P E N w0 (.seq c :: K) x s fin := fun κ e a w Q hs he hf => by
  refine then_ne ?_ (h κ e a w Q hs he hf)
  rintro rfl
  cases x <;> first | exact hx rfl | exact he.elim
theorem TrR.lpO {c : Code} {x : AEx} {s : AS} {K : List KF} {fin : AEx → AS → Prop} (hx : x ≠ .normal) (h : TrR P E N w0 K x s fin) : TrR P E N w0 (.lp c :: K) x s fin := fun κ e a w Q hs he hf => by
  refine then_ne ?_ (h κ e a w Q hs he hf)
  rintro rfl
  cases x <;> first | exact hx rfl | exact he.elim
theorem TrR.blkE {i : Nat} {s : AS} {K : List KF} {fin : AEx → AS → Prop} (h : TrR P E N w0 K .normal s fin) : TrR P E N w0 (.blk i :: K) (.exit i) s fin := fun κ e a w Q hs he hf => by
  cases e with
  | exit j =>
    have he : i = j := he
    subst he
    show (if i = i then wpK P K Q .normal a w else _)
    rw [if_pos rfl]
    exact h κ .normal a w Q hs trivial hf
  | _ => exact he.elim
theorem TrR.blkO {i : Nat} {x : AEx} {s : AS} {K : List KF} {fin : AEx → AS → Prop} (hx : x ≠ .exit i) (h : TrR P E N w0 K x s fin) : TrR P E N w0 (.blk i :: K) x s fin := fun κ e a w Q hs he hf => by
  have q := h κ e a w Q hs he hf
  cases e with
  | exit j =>
    cases x with
    | exit k =>
      have he : k = j := he
      subst he
      show (if k = i then wpK P K Q .normal a w else wpK P K Q (.exit k) a w)
      rw [if_neg (fun e => hx (by rw [e]))]
      exact q
    | _ => exact he.elim
  | _ => exact q

/-- the end of a function's code -/
noncomputable def outFin (r : Option (ORes × St)) (r0 : ORes) : Prop := Good r r0
def FinOk (E : Env) (fn : Func) (r : ORes) (x : AEx) (s : AS) : Prop := ∃ ds, Good (finish E fn (x, s.a) (stOf s ds)) r

theorem told_code (hm : P.follows .mixedOrders = true) (hE : EnvOk P E) (hg : GlobFlat E) {f : FuncId} {fn : Func} (hf : E.fn.get f = some fn) {c : Code} (hb : fn.body = some c) {args : List DV} {r : ORes} (sk : Sk) (l : List Lf)
    (hsk : get sk [] ⟨⟨fn.ntmps, argsK args 0 .nil id, []⟩, .nil, 0, 0⟩ = some l)
    (h : ∀ N w0, Tr1 P E N w0 c (put sk l) [] (FinOk E fn r)) (ha : flatL args = true) (hr : flatR r = true) : Told P E f args r := by
  intro N w0 κ hp l' w hR hl
  obtain ⟨hP, hname⟩ := hE.fn f fn hf
  refine calls_of_wp hP hb ?_
  have hlen := VRL.length _ _ hl
  have hR0 := hR.base hg
  have hs0 : StR E w.heap.size w ⟨⟨fn.ntmps, argsK args 0 .nil id, []⟩, .nil, 0, 0⟩ { κ with dom := fun _ => False } { tmps := l' ++ Array.replicate (fn.ntmps - l'.size) undef, defers := [] } w := by
    refine ⟨hR0, ⟨rfl, ?_, fun i d hd => ?_, rfl⟩, fun g hg => hg.elim⟩
    · simp only [Array.size_append, Array.size_replicate]; omega
    · simp only [argsK_get] at hd
      by_cases hi : 0 ≤ i ∧ i < 0 + args.length
      · rw [if_pos hi, Nat.sub_zero] at hd
        obtain ⟨v, h1, h2⟩ := VRL.get _ _ (VRL.flat (κ' := { κ with dom := fun _ => False }) _ _ ha hl) i d hd
        have hlt : i < l'.size := by simp at hlen; omega
        rw [Array.getD_eq_getD_getElem?, Array.getElem?_append_left hlt, ← Array.getElem?_toList, h1]
        exact h2
      · rw [if_neg hi] at hd; cases hd
  refine h w.heap.size w _ _ w _ (get_le hg hsk hs0) ?_
  rintro κ1 en a1 w1 x s1 ⟨ds, hfin⟩ ⟨y1, y2, y3⟩ hx
  unfold Good at hfin
  cases he : finish E fn (x, s1.a) (stOf s1 ds) with
  | none => rw [he] at hfin; exact hfin.elim
  | some y =>
    obtain ⟨r', S'⟩ := y
    rw [he] at hfin
    obtain ⟨hphi, rfl⟩ := hfin
    have F2 := (Local.finish E fn (x, s1.a)).facts (S := stOf s1 ds) (Nat.zero_le _) he
    obtain ⟨⟨n, t, df⟩, hh, pp, ep⟩ := s1
    obtain ⟨hdf, hA⟩ := y2
    simp only at hdf hA
    subst hdf
    have fin : (x = .normal ∨ x = .ret) → a1.defers = [] ∧ ∃ v, (results fn a1.tmps).run P w1 = .ok v w1 ∧ Below w.heap.size w w1 ∧ ResR κ r' (.returned v) := by
      intro hx
      have e2' : M.bind (resMs E t fn.results.toList) (fun vs => match vs with
          | [v] => M.pure (ORes.val v)
          | vs => M.pure (.val (.tup vs))) (stOf ⟨⟨n, t, []⟩, hh, pp, ep⟩ ds) = some (r', S') := by
        rcases hx with rfl | rfl <;> exact he
      obtain ⟨vs, S2, e3, e4⟩ := M.bind_some e2'
      have hS2 : S2 = S' := by rcases vs with _ | ⟨z, _ | ⟨y, vs⟩⟩ <;> cases e4 <;> rfl
      obtain ⟨q, κ2, v, z1, z2, hv, hvr⟩ := results_sim hE hA e3 (by rw [hS2]; exact conj_all hphi) (Nat.zero_le _) y1
      refine ⟨hA.dfr, v, hv, z2.below, ?_⟩
      refine ResR.flat (κ := κ2) hr ?_
      rcases vs with _ | ⟨z, _ | ⟨y, vs⟩⟩ <;> cases e4 <;> exact hvr
    cases x with
    | normal =>
      cases en with
      | normal => exact fin (.inl rfl)
      | _ => exact hx.elim
    | ret =>
      cases en with
      | ret => exact fin (.inr rfl)
      | _ => exact hx.elim
    | pan c =>
      cases en with
      | panic ch =>
        change some (ORes.pan c, stOf ⟨⟨n, t, []⟩, hh, pp, ep⟩ ds) = some (r', S') at he
        simp only [Option.some.injEq, Prod.mk.injEq] at he
        obtain ⟨rfl, rfl⟩ := he
        exact ⟨hA.dfr, y1.below, ResR.flat (κ := κ1) hr hx⟩
      | _ => exact hx.elim
    | exit m => cases he
end
end Go.Am
