/- Proved: for every input ValueOrder (layer 11) returns true and leaves its arguments as they read. Conditions: none but the row itself, whose listed variables the card ties to the text of the program. -/
import Derived.Test.YtbaakikdmbehjaaDoorCards
import Derived.Test.YtbaakikdmbehjaaDoorTie
import Derived.WalkKit
import Derived.ProofKit
import Derived.OpenShut
import Derived.Deep.DeepHandedRow
import Derived.Test.YtbaakikdmbehjaaDoorAmSeat
import Derived.Test.YtbaakikdmbehjaaDoorPl
set_option linter.unusedVariables false
set_option linter.unusedSimpArgs false
set_option linter.unusedSectionVars false
namespace Go.Proofs.YtbaakikdmbehjaaDoor
open Go.ChangeShapes Go.WideShapes Go.ChangeAt Go.RowKit Go.Am
set_option maxRecDepth 100000

namespace ends
theorem own : ownKnob Tryd.prog.godebug = none := by kernel_rfl
theorem laidOut : laidOutB Tryd.prog = true := by kernel_rfl
theorem rowed : mapsRowed Tryd.prog = true := by kernel_rfl
theorem sized : ∀ {t e : TypeId}, t < Tryd.prog.types.size → Tryd.prog.underlying t = some (.slice e) → 0 < Tryd.prog.cellsOf e := by
  have h : ((List.range Tryd.prog.types.size).all fun t => match Tryd.prog.underlying t with
    | some (.slice e) => decide (0 < Tryd.prog.cellsOf e)
    | _ => true) = true := by kernel_rfl
  intro t e ht hu
  have := List.all_eq_true.1 h t (List.mem_range.2 ht)
  rw [hu] at this
  exact of_decide_eq_true this
theorem kids : Kids Tryd.prog (· < Tryd.prog.types.size) := kids_rows laidOut rowed
theorem kinds27 : kinds Tryd.prog 8 27 = some [.int .i64, .int .i64, .int .i64, .bool, .bool, .int .i64, .bool, .bool, .int .i64, .bool, .bool, .int .i64, .bool, .bool] := by kernel_rfl

section
variable {H : Type} {enc : TypeId × Value → H}
theorem open_value {W : World} {sp : Nat → Bool} {hd : Bool} {v : Value} {d : DataW H} {ps : List MemPlace} (h : DataW.Trod enc Tryd.prog W 0 sp hd 27 v d ps) :
    ∃ (y o n0 : Int) (p0 u0 : Bool) (n1 : Int) (p1 u1 : Bool) (n2 : Int) (p2 u2 : Bool) (n3 : Int) (p3 u3 : Bool), v = .agg #[.int .i64 y, .int .i64 o, .int .i64 n0, .bool p0, .bool u0, .int .i64 n1, .bool p1, .bool u1, .int .i64 n2, .bool p2, .bool u2, .int .i64 n3, .bool p3, .bool u3] := by
  obtain ⟨fuel, h⟩ := h
  have hk := kinds_open 8 27 _ kinds27 _ _ _ h
  obtain ⟨y, _, e, o, _, rfl, n0, _, rfl, p0, _, rfl, u0, _, rfl, n1, _, rfl, p1, _, rfl, u1, _, rfl, n2, _, rfl, p2, _, rfl, u2, _, rfl, n3, _, rfl, p3, _, rfl, u3, _, rfl, rfl⟩ := hk
  obtain ⟨a, rfl, ha⟩ := agg_of e (by simp)
  refine ⟨y, o, n0, p0, u0, n1, p1, u1, n2, p2, u2, n3, p3, u3, ?_⟩
  congr 1
  apply Array.toList_inj.1
  exact ha
end

theorem rows {W : World} (h : laidMetH Tryd.prog Rows.valueOrderRow.laid W) : GlobIs E0 W := by
  have h : laidMet Tryd.prog Rows.valueOrderRow.laid W := h
  have key := fun x hx g t n => laid_rows _ h x hx g t n
  have r0 : RowIs W 0 (cellsD (Rows.laid_burnish_value_unknown (H := Unit))) := key _ (List.mem_iff_getElem?.2 ⟨5, rfl⟩) 0 24 8 (by kernel_rfl) (by kernel_rfl) (by kernel_rfl)
  have r1 : RowIs W 1 (cellsD (Rows.laid_burnish_value_poison (H := Unit))) := key _ (List.mem_iff_getElem?.2 ⟨4, rfl⟩) 1 24 8 (by kernel_rfl) (by kernel_rfl) (by kernel_rfl)
  have r2 : RowIs W 2 (cellsD (Rows.laid_burnish_intn_widths (H := Unit))) := key _ (List.mem_iff_getElem?.2 ⟨2, rfl⟩) 2 71 8 (by kernel_rfl) (by kernel_rfl) (by kernel_rfl)
  have r3 : RowIs W 3 (cellsD (Rows.laid_internal_strconv_uint64pow10 (H := Unit))) := key _ (List.mem_iff_getElem?.2 ⟨3, rfl⟩) 3 94 8 (by kernel_rfl) (by kernel_rfl) (by kernel_rfl)
  have r4 : RowIs W 4 (cellsD (Rows.laid_math_bits_deBruijn32tab (H := Unit))) := key _ (List.mem_iff_getElem?.2 ⟨0, rfl⟩) 4 102 8 (by kernel_rfl) (by kernel_rfl) (by kernel_rfl)
  have r5 : RowIs W 5 (cellsD (Rows.laid_math_bits_deBruijn64tab (H := Unit))) := key _ (List.mem_iff_getElem?.2 ⟨1, rfl⟩) 5 103 8 (by kernel_rfl) (by kernel_rfl) (by kernel_rfl)
  exact ⟨r0, ⟨r1, ⟨r3, trivial, trivial⟩, ⟨r5, trivial, trivial⟩⟩, ⟨r2, ⟨r4, trivial, trivial⟩, trivial⟩⟩
theorem laid {W : World} (h : laidMetH Tryd.prog Rows.valueOrderRow.laid W) : Laid E0 W := laid_of (by decide +kernel) (rows h)

/-- a value of the machine as the model has it -/
theorem vr_value {κ : Kap} (y o n0 : Int) (p0 u0 : Bool) (n1 : Int) (p1 u1 : Bool) (n2 : Int) (p2 u2 : Bool) (n3 : Int) (p3 u3 : Bool) :
    VR κ (.agg [.int .i64 y, .int .i64 o, .int .i64 n0, .bool p0, .bool u0, .int .i64 n1, .bool p1, .bool u1, .int .i64 n2, .bool p2, .bool u2, .int .i64 n3, .bool p3, .bool u3])
      (.agg #[.int .i64 y, .int .i64 o, .int .i64 n0, .bool p0, .bool u0, .int .i64 n1, .bool p1, .bool u1, .int .i64 n2, .bool p2, .bool u2, .int .i64 n3, .bool p3, .bool u3]) :=
  ⟨_, rfl, ⟨_, _, rfl, rfl, ⟨_, _, rfl, rfl, ⟨_, _, rfl, rfl, ⟨_, _, rfl, rfl, ⟨_, _, rfl, rfl, ⟨_, _, rfl, rfl, ⟨_, _, rfl, rfl, ⟨_, _, rfl, rfl, ⟨_, _, rfl, rfl, ⟨_, _, rfl, rfl, ⟨_, _, rfl, rfl, ⟨_, _, rfl, rfl, ⟨_, _, rfl, rfl, ⟨_, _, rfl, rfl, rfl⟩⟩⟩⟩⟩⟩⟩⟩⟩⟩⟩⟩⟩⟩⟩

noncomputable def lay (g : Nat) (d : DataW Unit) (h : Array Obj) : Array Obj := h.modify g fun
  | .cells _ t frozen => .cells (cellsD d).toArray t frozen
  | o => o
/-- a world for the witness -/
noncomputable def laidWorld (os : Os) : World :=
  { World.holding Tryd.prog os ⟨#[], #[], []⟩ with heap := lay 5 Rows.laid_math_bits_deBruijn64tab (lay 4 Rows.laid_math_bits_deBruijn32tab (lay 3 Rows.laid_internal_strconv_uint64pow10 (lay 2 Rows.laid_burnish_intn_widths (lay 1 Rows.laid_burnish_value_poison (lay 0 Rows.laid_burnish_value_unknown (World.holding Tryd.prog os ⟨#[], #[], []⟩).heap))))) }
abbrev zv : Value := .agg #[.int .i64 0, .int .i64 0, .int .i64 0, .bool false, .bool false, .int .i64 0, .bool false, .bool false, .int .i64 0, .bool false, .bool false, .int .i64 0, .bool false, .bool false]
abbrev zl {H : Type} : DataW H := .agg [.lit (.int .i64 0), .lit (.bool false), .lit (.bool false)]
abbrev zd {H : Type} : DataW H := .agg [.lit (.int .i64 0), .lit (.int .i64 0), .agg [zl, zl, zl, zl]]
end ends

namespace order
open ends
theorem contract (H : Type) (enc : TypeId × Value → H) (W : World) (args : Array Value) (ds gs : List (DataW H)) (before : List MemPlace)
    (hW : DataW.Whole enc Tryd.prog Tryd.f3.params.toList Rows.valueOrderSpec.vars false W args.toList ds gs before) (hL : laidMetH Tryd.prog Rows.valueOrderRow.laid W) :
    Calls Tryd.prog 3 args W fun e W' => ∃ v, e = .returned v ∧ Rows.valueOrderSpec.post enc Tryd.prog Tryd.f3 false true false false W args v W' := by
  have hW' := hW
  obtain ⟨p, q, hA, hV, rfl, hfz, hnd⟩ := hW
  obtain ⟨rfl, rfl⟩ := trodVars_none hV
  have hA : DataW.TrodAll enc Tryd.prog W 0 (fun _ => true) true [27, 27, 27] args.toList ds p := hA
  obtain ⟨v1, vs1, d1, ds1, p1, q1, ha1, rfl, rfl, h1, r1⟩ := trodAll_cons hA
  obtain ⟨v2, vs2, d2, ds2, p2, q2, rfl, rfl, rfl, h2, r2⟩ := trodAll_cons r1
  obtain ⟨v3, vs3, d3, ds3, p3, q3, rfl, rfl, rfl, h3, r3⟩ := trodAll_cons r2
  obtain ⟨rfl, rfl, rfl⟩ := trodAll_nil r3
  obtain rfl : args = #[v1, v2, v3] := by apply Array.toList_inj.1; exact ha1
  obtain ⟨ya, oa, na0, pa0, ua0, na1, pa1, ua1, na2, pa2, ua2, na3, pa3, ua3, rfl⟩ := open_value h1
  obtain ⟨yb, ob, nb0, pb0, ub0, nb1, pb1, ub1, nb2, pb2, ub2, nb3, pb3, ub3, rfl⟩ := open_value h2
  obtain ⟨yc, oc, nc0, pc0, uc0, nc1, pc1, uc1, nc2, pc2, uc2, nc3, pc3, uc3, rfl⟩ := open_value h3
  have ht := F3_told ya oa na0 pa0 ua0 na1 pa1 ua1 na2 pa2 ua2 na3 pa3 ua3 yb ob nb0 pb0 ub0 nb1 pb1 ub1 nb2 pb2 ub2 nb3 pb3 ub3 yc oc nc0 pc0 uc0 nc1 pc1 uc1 nc2 pc2 uc2 nc3 pc3 uc3
  rw [order_law] at ht
  have hc := ht W.heap.size W _ _ #[_, _, _] W (base_world (laid hL)) ⟨_, _, rfl, vr_value .., ⟨_, _, rfl, vr_value .., ⟨_, _, rfl, vr_value .., rfl⟩⟩⟩
  refine hc.mono fun e W' ⟨hb, hr⟩ => ?_
  cases e with
  | returned v =>
    obtain rfl : v = .bool true := hr
    exact ⟨_, rfl, law_post laidOut rowed kids sized (fun t ht => by
      have : t ∈ ([27, 27, 27] : List TypeId) := ht
      simp at this; subst this; decide +kernel) rfl hW' rfl (by kernel_rfl) (by kernel_rfl : Tryd.prog.underlying 4 = some .bool) hb⟩
  | _ => exact hr.elim

theorem laid_met (os : Os) : laidMet Tryd.prog Rows.valueOrderRow.laid ((laidWorld os).forCall (fun _ _ => 0) ⟨#[], #[zv, zv, zv], []⟩).memory :=
  laidMet_of_run' 8 (by kernel_rfl) (by kernel_rfl)
theorem reads (os : Os) {H : Type} (enc : TypeId × Value → H) : ∃ places, DataW.whole enc Tryd.prog ((laidWorld os).forCall (fun _ _ => 0) ⟨#[], #[zv, zv, zv], []⟩).memory Tryd.f3.params.toList Rows.valueOrderSpec.vars false #[zv, zv, zv].toList 8 = some ([zd, zd, zd], [], places) :=
  ⟨[], by kernel_rfl⟩
theorem lifted (os : Os) (started : os.Started) (H : Type) (enc : TypeId × Value → H) (F : Stop.Interp) :
    ReturnsInHanded {} Tryd.checked os 3 .any ((OpenSpec.ofChange Rows.valueOrderSpec).preRow enc Tryd.prog Tryd.f3 Rows.valueOrderRow.domain false Rows.valueOrderRow.laid) (((OpenSpec.ofChange Rows.valueOrderSpec).at F).post enc Tryd.prog Tryd.f3 false true false false) := by
  obtain ⟨places, hx⟩ := reads os enc
  refine returnsInHanded_of_row (C := Tryd.checked) (s := OpenSpec.ofChange Rows.valueOrderSpec) own started (by kernel_rfl) Tryd.func3
    (witness_row_at (enc := enc) (C := Tryd.checked) false (laidWorld os) #[zv, zv, zv] rfl (by kernel_rfl) (by kernel_rfl) (by kernel_rfl)
      (OpenSpec.preRow_of_cond 8 hx (by kernel_rfl) (fun k hk => by cases hk) (by kernel_rfl) (laid_met os))) ?_
  intro W base args ds gs before hval hW _ _ _ hL _ _
  exact contract H enc W args ds gs before hW hL

theorem said : Rows.ValueOrderSaid :=
  OpenClaim.holds_of_cond 3 Tryd.f3 rfl rfl rfl rfl rfl rfl rfl ⟨rfl, rfl, rfl, rfl, rfl⟩ rfl rfl rfl rfl rfl (by kernel_rfl) Tryd.func3 (by kernel_rfl)
    (of_decide_eq_true (by kernel_rfl)) (by unfold Func.isWrapper; first | (rw [if_pos (by decide +kernel)]; kernel_rfl) | (rw [if_neg (by decide +kernel)]; exact ⟨rfl, rfl⟩))
    (fun os started H enc _ F => by rw [OpenClaim.pre_eq_preRow]; exact lifted os started H enc F)
theorem plain (f : FuncId) (fn : Func) (hf : Tryd.pinned.checked.prog.funcNamed "burnish/burnishlaw11.ValueOrder" = some f) (hfn : Tryd.pinned.checked.prog.funcs[f]? = some fn) :
    false = Tryd.pinned.checked.prog.looks [] ∧ ∀ (j : Nat) t, fn.params[j]? = some t → Tryd.pinned.checked.prog.wantsStandIn t = false := by
  obtain rfl : f = 3 := Option.some.inj ((show Tryd.prog.funcNamed "burnish/burnishlaw11.ValueOrder" = some 3 by kernel_rfl).symm.trans hf) |>.symm
  obtain rfl : fn = Tryd.f3 := (Option.some.inj (Tryd.func3.symm.trans hfn)).symm
  refine ⟨by kernel_rfl, fun j t ht => ?_⟩
  have ht : (#[27, 27, 27] : Array TypeId)[j]? = some t := ht
  obtain rfl : t = 27 := by simpa using Array.mem_of_getElem? ht
  exact (show Tryd.prog.wantsStandIn 27 = false by kernel_rfl)
end order
theorem valueOrder_holds : Rows.ValueOrderCardSaid :=
  Claim7.holds_tied_plain_at .later [] _ _ _ _ order.said (fun _ h => by cases h) (by kernel_rfl) (fun _ h => by cases h) valueOrder_row_tie rfl ⟨rfl, rfl⟩ (by kernel_rfl) rfl order.plain (by kernel_rfl)
end Go.Proofs.YtbaakikdmbehjaaDoor
