/- A region whose order is drawn does in every order what it does in the text's: the region. -/
import Derived.Test.YtbaakikdmbehjaaDoorAmSim15
set_option linter.unusedVariables false
set_option linter.unusedSimpArgs false
set_option linter.unusedSectionVars false
namespace Go.Am
open Go.RowKit

theorem obj_ext {x y : Option Obj} (hm : x.map Obj.meta_ = y.map Obj.meta_) (hc : ∀ j, (x.bind fun o => o.cell_ j) = y.bind fun o => o.cell_ j) : x = y := by
  cases x with
  | none => cases y with
    | none => rfl
    | some o => cases hm
  | some o =>
    cases y with
    | none => cases hm
    | some o' =>
      simp only [Option.map_some, Option.some.injEq] at hm
      simp only [Option.bind_some] at hc
      congr 1
      cases o with
      | cells g opn cs =>
        cases o' with
        | cells g' opn' cs' =>
          injection hm with h1 h2 h3
          subst h1; subst h2
          have : cs = cs' := List.ext_getElem? fun j => hc j
          rw [this]
        | _ => cases hm
      | _ => cases o' <;> first | (injection hm) | cases hm

section
variable {P : Program} {E : Env} {N : Nat} {w0 : World}

theorem Rr.congr {κ : Kap} {h h' : Tr Obj} {w : World} (hR : Rr E N w0 κ h w) (he : ∀ p, h'.get p = h.get p) : Rr E N w0 κ h' w :=
  ⟨hR.below, hR.big, fun p o hp => hR.obj p o (by rw [← he]; exact hp), fun p q o o' h1 h2 h3 => hR.apart p q o o' (by rw [← he]; exact h1) (by rw [← he]; exact h2) h3,
    fun a v ha => ⟨(hR.phi a v ha).1, fun p o hp => (hR.phi a v ha).2 p o (by rw [← he]; exact hp)⟩, hR.glob⟩
theorem FR.congr {κ : Kap} {n : Nat} {t t' : Tr DV} {a : Act} (h : FR κ n t a) (he : ∀ d, t'.get d = t.get d) : FR κ n t' a :=
  ⟨h.size, fun i d hd => h.tmp i d (by rw [← he]; exact hd), h.dfr⟩

def hst (h : Tr Obj) : St := ⟨h, 0, 0, ⟨0, [], [], []⟩, ⟨false, [], []⟩⟩

variable {callF : FuncId → List DV → M ORes} {ops : Array Oper} {n : Nat} {ST : Nat → St} {T : Nat → Tr DV} {V : Nat → DV} {R : Nat → Rec} {F : Nat → Foot} {κ0 : Kap}

structure Inv (E : Env) (N : Nat) (w0 : World) (ops : Array Oper) (n : Nat) (ST : Nat → St) (T : Nat → Tr DV) (F : Nat → Foot) (κ0 : Kap) (listed : Array Bool) (h : Tr Obj) (t : Tr DV) (κ : Kap) (a : Act) (w : World) : Prop where
  size : listed.size = ops.size
  ext : Ext κ0 κ (ST 0).ep (ST ops.size).ep
  fresh : ∀ k, k < ops.size → listed.getD k false = false → ∀ g, (ST k).ep ≤ g → g < (ST (k + 1)).ep → ¬ κ.dom g
  sp : Sp (fun k => valOf (ST k) (T k)) (WR ops F) ops.size (fun k => listed.getD k false = true) (valOf (hst h) t)
  closed : ∀ k o, listed.getD k false = true → ops[k]? = some o → ∀ e ∈ o.after, Region.binds .any e = true → listed.getD e.on false = true
  rr : Rr E N w0 κ h w
  fr : FR κ n t a

theorem wpAny_sim (hE : EnvOk P E) (hc : CallOk P E N w0 callF) (hloc : ∀ f l, Local (callF f l)) (hdraw : drawOk ops = true)
    (hF : ∀ (k : Nat) (o : Oper), ops[k]? = some o → OpF E callF ops.toList o (ST k) (ST (k + 1)) (T k) (V k) (R k) (F k))
    (hput : ∀ (k : Nat) (o : Oper), ops[k]? = some o → match o.dst with
      | none => T (k + 1) = T k
      | some d => d < n ∧ T (k + 1) = Tr.set (some (V k)) (T k) d)
    (hap : ∀ i j, i < j → j < ops.size → bit ops j i = false → apartB (R i) (R j) = true)
    (hphi : ∀ k, k ≤ ops.size → AllP (ST k).sy.phi)
    (hpos : ∀ a b, a ≤ b → b ≤ ops.size → (ST a).pos ≤ (ST b).pos) (hep : ∀ a b, a ≤ b → b ≤ ops.size → (ST a).ep ≤ (ST b).ep)
    {Q : Exit → Act → World → Prop} (hk : ∀ κ' a' w', Ext κ0 κ' (ST 0).ep (ST ops.size).ep → Rr E N w0 κ' (ST ops.size).heap w' → FR κ' n (T ops.size) a' → Q .normal a' w') :
    ∀ (fuel : Nat) (listed : Array Bool) (h : Tr Obj) (t : Tr DV) (κ : Kap) (a : Act) (w : World), Inv E N w0 ops n ST T F κ0 listed h t κ a w → listed.toList.countP (fun b => !b) = fuel →
      wpAny P .any ops Q fuel listed a w := by
  obtain ⟨hedge, htmp⟩ := drawOk_spec hdraw
  have some_of : ∀ k, k < ops.size → ∃ o, ops[k]? = some o := fun k hk => ⟨ops[k], Array.getElem?_eq_getElem hk⟩
  have hkeep : ∀ k, k < ops.size → ∀ l, ¬ WR ops F k l → valOf (ST (k + 1)) (T (k + 1)) l = valOf (ST k) (T k) l := by
    intro k hk l hn
    obtain ⟨o, ho⟩ := some_of k hk
    have f := hF k o ho
    cases l with
    | mt p => show (_, _) = (_, _); rw [f.keep.mt p hn]
    | ce p j => show (_, _) = (_, _); rw [f.keep.ce p j (fun h => hn (.inl h)) (fun h => hn (.inr h))]
    | tm d =>
      show (_, _) = (_, _)
      have hp := hput k o ho
      cases hd : o.dst with
      | none => rw [hd] at hp; simp only at hp; rw [hp]
      | some d' =>
        rw [hd] at hp; simp only at hp
        rw [hp.2, Tr.get_set, if_neg]
        rintro rfl
        exact hn ⟨o, ho, hd⟩
  have done : ∀ (listed : Array Bool) (h : Tr Obj) (t : Tr DV) (κ : Kap) (a : Act) (w : World), Inv E N w0 ops n ST T F κ0 listed h t κ a w → (∀ k, k < ops.size → listed.getD k false = true) → Q .normal a w := by
    intro listed h t κ a w hI hall
    have hv : ∀ l, valOf (hst h) t l = valOf (ST ops.size) (T ops.size) l := fun l => hI.sp.read hkeep (Nat.le_refl _) fun k hk hh => by
      rcases hh with ⟨_, hh⟩ | ⟨hh, _⟩
      · exact absurd (hall k hk) hh
      · omega
    refine hk κ a w hI.ext (hI.rr.congr fun p => ?_) (hI.fr.congr fun d => ?_)
    · exact (obj_ext (congrArg Prod.fst (hv (.mt p))) fun j => congrArg Prod.snd (hv (.ce p j))).symm
    · exact (congrArg Prod.snd (hv (.tm d))).symm
  intro fuel
  induction fuel with
  | zero =>
    intro listed h t κ a w hI hcnt
    have hall : ∀ k, k < ops.size → listed.getD k false = true := by
      intro k hk
      have hk' : k < listed.size := by rw [hI.size]; exact hk
      have := (List.countP_eq_zero.1 hcnt) listed[k] (by simp)
      simp only [Bool.not_eq_true', Bool.not_eq_true, Bool.not_eq_false] at this
      simpa [Array.getD_eq_getD_getElem?, hk'] using this
    refine ⟨?_, done listed h t κ a w hI hall⟩
    rw [List.eq_nil_iff_forall_not_mem]
    intro j hj
    obtain ⟨h1, o, ho, _⟩ := mem_ready.1 hj
    have hjs := (Array.getElem?_eq_some_iff.1 ho).1
    have := hall j hjs
    have hj' : j < listed.size := by rw [hI.size]; exact hjs
    simp [Array.getD_eq_getD_getElem?, hj'] at h1 this
    rw [this] at h1; cases h1
  | succ fuel ih =>
    intro listed h t κ a w hI hcnt
    have getD2 : ∀ k, k < ops.size → listed.getD k true = listed.getD k false := by
      intro k hk
      have hk' : k < listed.size := by rw [hI.size]; exact hk
      simp [Array.getD_eq_getD_getElem?, hk']
    refine ⟨fun hnil => ?_, fun i hi => ?_⟩
    · exfalso
      have hex : ∃ j, j < ops.size ∧ listed.getD j false = false := by
        have hpos : 0 < listed.toList.countP (fun b => !b) := by omega
        obtain ⟨b, hb, hb2⟩ := List.countP_pos_iff.1 hpos
        obtain ⟨j, hj, rfl⟩ := List.mem_iff_getElem.1 hb
        have hj' : j < listed.size := by simpa using hj
        refine ⟨j, by rw [← hI.size]; exact hj', ?_⟩
        simpa [Array.getD_eq_getD_getElem?, hj'] using hb2
      have hmin : ∀ b j, j ≤ b → j < ops.size → listed.getD j false = false → ∃ j, j < ops.size ∧ listed.getD j false = false ∧ ∀ k, k < j → listed.getD k false = true := by
        intro b
        induction b with
        | zero => intro j hj h1 h2; exact ⟨j, h1, h2, fun k hk => by omega⟩
        | succ b ihb =>
          intro j hj h1 h2
          by_cases hsm : ∃ k, k < j ∧ listed.getD k false = false
          · obtain ⟨k, hk1, hk2⟩ := hsm
            exact ihb k (by omega) (by omega) hk2
          · refine ⟨j, h1, h2, fun k hk => ?_⟩
            cases hg : listed.getD k false with
            | true => rfl
            | false => exact absurd ⟨k, hk, hg⟩ hsm
      obtain ⟨j0, hj0, hj1⟩ := hex
      obtain ⟨j, h1, h2, h3⟩ := hmin j0 j0 (Nat.le_refl _) hj0 hj1
      obtain ⟨o, ho⟩ := some_of j h1
      have : j ∈ Region.ready .any ops listed := mem_ready.2 ⟨by rw [getD2 j h1]; exact h2, o, ho, fun e he hb => h3 _ (hedge j o ho e he hb).1⟩
      rw [hnil] at this
      cases this
    · obtain ⟨hun, o, ho, hready⟩ := mem_ready.1 hi
      have his := (Array.getElem?_eq_some_iff.1 ho).1
      have hun : listed.getD i false = false := by rw [← getD2 i his]; exact hun
      have hil : i < listed.size := by rw [hI.size]; exact his
      have f := hF i o ho
      -- the marks
      have hXclosed : ∀ k, k < ops.size → listed.getD k false = true → ∀ q, bit ops k q = true → listed.getD q false = true := by
        intro k hk hX q hb
        obtain ⟨ok, hok⟩ := some_of k hk
        exact (bit_closed (S := fun k => listed.getD k false = true) (fun j o hj ho => hI.closed j o hj ho) (k + 1) k (by omega) q ok hok hedge hX hb).1
      have hiclosed : ∀ q, bit ops i q = true → listed.getD q false = true := by
        intro q hb
        obtain ⟨h1, h2⟩ := bit_closed (S := fun k => listed.getD k false = true ∨ k = i) (fun j oj hj hoj e he hbd => by
          rcases hj with hj | rfl
          · exact .inl (hI.closed j oj hj hoj e he hbd)
          · rw [ho] at hoj; cases hoj
            exact .inl (hready e he hbd)) (i + 1) i (by omega) q o ho hedge (.inr rfl) hb
        rcases h1 with h1 | h1
        · exact h1
        · omega
      have hconf : ∀ k, k < ops.size → ((k < i ∧ ¬ listed.getD k false = true) ∨ (i ≤ k ∧ listed.getD k false = true)) → ∀ l, (RD ops F i l → ¬ WR ops F k l) ∧ (i < k → WR ops F i l → ¬ WR ops F k l) := by
        intro k hk hh l
        obtain ⟨ok, hok⟩ := some_of k hk
        rcases hh with ⟨hlt, hX⟩ | ⟨hle, hX⟩
        · have hb : bit ops i k = false := by
            cases hb : bit ops i k with
            | false => rfl
            | true => exact absurd (hiclosed k hb) hX
          obtain ⟨n1, n2, n3⟩ := noconf hF hpos hok ho hlt (hap k i hlt his hb) (htmp k i ok o hok ho hlt hb) l
          exact ⟨fun h1 h2 => n1 ⟨h2, h1⟩, fun h => by omega⟩
        · have hne : i ≠ k := fun e => by subst e; rw [hun] at hX; cases hX
          have hlt : i < k := by omega
          have hb : bit ops k i = false := by
            cases hb : bit ops k i with
            | false => rfl
            | true => have := hXclosed k hk hX i hb; rw [hun] at this; cases this
          obtain ⟨n1, n2, n3⟩ := noconf hF hpos ho hok hlt (hap i k hlt hk hb) (htmp i k o ok ho hok hlt hb) l
          exact ⟨fun h1 h2 => n2 ⟨h1, h2⟩, fun _ h1 h2 => n3 ⟨h1, h2⟩⟩
      have hread : ∀ l, RD ops F i l → valOf (hst h) t l = valOf (ST i) (T i) l := fun l hl => hI.sp.read hkeep (Nat.le_of_lt his) fun k hk hh => (hconf k hk hh l).1 hl
      obtain ⟨T', e1, e2, e3, e4, e5⟩ := f.again h (fun p hp => congrArg Prod.fst (hread (.mt p) hp)) (fun p j hp => congrArg Prod.snd (hread (.ce p j) hp))
      rw [← opM_congr (ops := ops) (t := t) fun d hd => congrArg Prod.snd (hread (.tm d) ⟨o, ho, hd⟩)] at e1
      have hpT := e3 (hphi (i + 1) his)
      -- what follows
      have next : ∀ (κ' : Kap) (w' : World) (v' : Value), Ext κ κ' (ST i).ep (ST (i + 1)).ep → Rr E N w0 κ' T'.heap w' → VR κ' (V i) v' → wpAny P .any ops Q fuel (listed.setIfInBounds i true) (a.put o.dst v') w' := by
        intro κ' w' v' hx hR' hv'
        have hX' : ∀ k, (listed.setIfInBounds i true).getD k false = true ↔ (listed.getD k false = true ∨ k = i) := by
          intro k
          by_cases hki : k = i
          · subst hki
            simp [Array.getD_eq_getD_getElem?, hil]
          · rw [Array.getD_eq_getD_getElem?, Array.getElem?_setIfInBounds_ne (Ne.symm hki), ← Array.getD_eq_getD_getElem?]
            simp [hki]
        obtain ⟨t', ht', hget1, hget2⟩ : ∃ t' : Tr DV, FR κ' n t' (a.put o.dst v') ∧ (∀ d, o.dst = some d → t'.get d = some (V i)) ∧ (∀ d, o.dst ≠ some d → t'.get d = t.get d) := by
          have hp := hput i o ho
          cases hd : o.dst with
          | none => exact ⟨t, hI.fr.mono hx.le, fun d h => (by cases h), fun d _ => rfl⟩
          | some d =>
            rw [hd] at hp; simp only at hp
            exact ⟨Tr.set (some (V i)) t d, (hI.fr.mono hx.le).put hp.1 hv', fun d' h => by cases h; rw [Tr.get_set, if_pos rfl], fun d' h => by rw [Tr.get_set, if_neg (fun e => h (by rw [e]))]⟩
        refine ih _ T'.heap t' κ' _ w' ⟨?_, ⟨hI.ext.le.trans hx.le, fun g hg => ?_⟩, fun k hk hX g hg1 hg2 hd => ?_, ?_, ?_, hR', ht'⟩ ?_
        · rw [Array.size_setIfInBounds]; exact hI.size
        · rcases hx.dom g hg with hg | ⟨g1, g2⟩
          · exact hI.ext.dom g hg
          · have := hep 0 i (by omega) (by omega)
            have := hep (i + 1) ops.size (by omega) (by omega)
            exact .inr ⟨by omega, by omega⟩
        · have hki : k ≠ i := fun e => by
            subst e
            have := (hX' k).2 (.inr rfl)
            rw [this] at hX; cases hX
          have hXk : listed.getD k false = false := by
            cases hg : listed.getD k false with
            | false => rfl
            | true => have := (hX' k).2 (.inl hg); rw [this] at hX; cases hX
          rcases hx.dom g hd with hd | ⟨g1, g2⟩
          · exact hI.fresh k hk hXk g hg1 hg2 hd
          · by_cases hlt : k < i
            · have := hep (k + 1) i (by omega) (by omega); omega
            · have := hep (i + 1) k (by omega) (by omega); omega
        · have hst := hI.sp.step (cur' := valOf (hst T'.heap) t') his (fun l hl => ?_) (fun l hl => ?_) (fun l hl k hk hX hlt => (hconf k hk (.inr ⟨by omega, hX⟩) l).2 hlt hl)
          · have : (fun k => (listed.setIfInBounds i true).getD k false = true) = fun k => listed.getD k false = true ∨ k = i := funext fun k => propext (hX' k)
            rw [this]; exact hst
          · cases l with
            | mt p => show (_, _) = (_, _); rw [← e5.mt p hl]; rfl
            | ce p j =>
              show (_, _) = (_, _)
              rcases hl with hl | hl
              · rw [← e5.co p j hl]; rfl
              · rw [← e5.ce p j hl]; rfl
            | tm d =>
              obtain ⟨o', ho', hd⟩ := hl
              rw [ho] at ho'; cases ho'
              have hp := hput i o ho
              rw [hd] at hp; simp only at hp
              show (_, _) = (_, _)
              rw [hget1 d hd, hp.2, Tr.get_set, if_pos rfl]
          · cases l with
            | mt p => show (_, _) = (_, _); rw [show (Am.hst T'.heap).mt p = T'.mt p from rfl, e4.mt p hl]; rfl
            | ce p j => show (_, _) = (_, _); rw [show (Am.hst T'.heap).ce p j = T'.ce p j from rfl, e4.ce p j (fun h => hl (.inl h)) (fun h => hl (.inr h))]; rfl
            | tm d => show (_, _) = (_, _); rw [hget2 d fun hd => hl ⟨o, ho, hd⟩]
        · intro k ok hX hok e he hb
          refine (hX' _).2 ?_
          rcases (hX' k).1 hX with hX | rfl
          · exact .inl (hI.closed k ok hX hok e he hb)
          · rw [ho] at hok; cases hok
            exact .inl (hready e he hb)
        · rw [Array.toList_setIfInBounds, List.countP_set (by simpa using hil)]
          have : listed.toList[i]'(by simpa using hil) = false := by
            have : listed[i] = false := by simpa [Array.getD_eq_getD_getElem?, hil] using hun
            simpa using this
          rw [this, hcnt]
          simp
      unfold wpOp
      simp only [ho]
      unfold Am.opM at e1
      obtain ⟨b, S1, u1, u2⟩ := M.bind_some e1
      have f1 := (Local.wantedM _ _ _).facts (Nat.le_refl _) u1
      cases b with
      | false =>
        simp only at u2
        have hv : V i = .tup [] ∧ T' = S1 := by
          change some (ORes.val (.tup []), S1) = some (ORes.val (V i), T') at u2
          simp only [Option.some.injEq, Prod.mk.injEq, ORes.val.injEq] at u2
          exact ⟨u2.1.symm, u2.2.symm⟩
        obtain ⟨hv, rfl⟩ := hv
        obtain ⟨hw, c1, c2, c3, c4⟩ := wanted_some hI.fr u1 hpT
        rw [hw]
        simp only [Bool.false_eq_true, if_false]
        refine next κ w undef ⟨Kap.le.refl κ, fun g hg => .inl hg⟩ ?_ (by rw [hv]; exact undef_tup κ)
        rw [c1]; exact hI.rr
      | true =>
        simp only at u2
        obtain ⟨hw, c1, c2, c3, c4⟩ := wanted_some hI.fr u1 (((Local.evOp E hloc t o.op).facts f1.1 u2).2.2.1 hpT)
        rw [hw]
        simp only [if_true]
        left
        refine wp_op hE hc hI.fr f1.1 u2 hpT (by rw [c1]; exact hI.rr) ?_ ?_
        · intro g g1 g2
          rw [c3] at g1
          rw [e2] at g2
          exact hI.fresh i his hun g g1 g2
        · intro κ' w' hx hR'
          simp only
          intro v' hv'
          refine next κ' w' v' ?_ hR' hv'
          rw [c3, e2] at hx
          exact hx
end
end Go.Am
