/- The operations of the abstract machine stand for the model's: conversions. -/
import Derived.Test.YtbaakikdmbehjaaDoorAmSim10
import Derived.Lib.ConvBytes
import Derived.Laws.BytesString
import Derived.Lib.UnsafeStr
set_option linter.unusedVariables false
set_option linter.unusedSimpArgs false
set_option linter.unusedSectionVars false
namespace Go.Am
open Go.RowKit
section
variable {P : Program} {E : Env} {N : Nat} {w0 : World}

theorem vrl_bytes {κ : Kap} : ∀ l : List UInt8, VRL κ (l.map fun b => DV.int .u8 (.ofNat b.toNat)) (l.map fun b => Value.int .u8 b.toNat)
  | [] => rfl
  | b :: l => ⟨_, _, rfl, rfl, vrl_bytes l⟩

theorem Sim.toBytes {κ : Kap} {src dst e : TypeId} {u : TypeDesc} {s : ByteArray} (hs : P.underlying src = some u) (hd : P.underlying dst = some (.slice e)) (he : P.underlying e = some (.int .u8)) :
    Sim P E N w0 κ VR (M.bind (M.new true ((bl s).map fun b => DV.int .u8 (.ofNat b.toNat))) fun pe => M.pure (.sl pe.2 pe.1 0 (bl s).length (.op 1))) (convert src dst (.string s)) := by
  intro S a S' w h0 ev hp hR hF
  obtain ⟨pe, S1, e1, e2⟩ := M.bind_some ev
  rw [M.new_eq] at e1
  cases e1
  cases e2
  have hf : ¬ κ.dom S.ep := hF S.ep (Nat.le_refl _) (Nat.lt_succ_self _)
  generalize hc : grownCap w s.size 0 e = c
  have hcs : s.size ≤ c := by
    rw [← hc]; exact Nat.le_add_right _ _
  have b1 : (κ.add S.ep w.heap.size 0 c 1).blk S.ep = w.heap.size := if_pos rfl
  have b2 : (κ.add S.ep w.heap.size 0 c 1).bas S.ep = 0 := if_pos rfl
  have b3 : (κ.add S.ep w.heap.size 0 c 1).endc S.ep = c := if_pos rfl
  have b4 : (κ.add S.ep w.heap.size 0 c 1).esz S.ep = 1 := if_pos rfl
  have hle := Kap.add_le hf w.heap.size 0 c 1
  have hsz : (Lib.bytesCells w e s).size = c := by
    have : s.data.size = s.size := rfl
    simp only [Lib.bytesCells, Array.size_append, Array.size_map, Array.size_replicate, hc, this]; omega
  have hbl := bl_size s
  refine ⟨κ.add S.ep w.heap.size 0 c 1, .slice (some ⟨w.heap.size, 0, none⟩) s.size c, Lib.bytesWorld w e s, Ext.add hf _ _ _ _, ?_, ⟨.inr rfl, ⟨Nat.one_pos, b4⟩, 0, c, ?_, by rw [← hbl]; exact hcs, .inl ⟨by rw [b2], by rw [b3]; omega⟩⟩, ?_⟩
  · rw [Lib.run_convert_string_bytes w src dst e s hs hd he, hc]
  · rw [b1, hbl]
  · have hbw : Below N w0 (Lib.bytesWorld w e s) := by
      unfold Lib.bytesWorld
      refine Lib.below_freeze ?_ (p := ⟨w.heap.size, _, none⟩) hR.big _
      exact hR.drew.below.alloc hR.big _
    have hat : ∀ j, j < w.heap.size → (Lib.bytesWorld w e s).heap[j]? = w.heap[j]? := Lib.bytesWorld_at_old w e s
    refine hR.put (p := S.pos) (o := .cells S.ep true _) hle rfl hbw (by rw [Lib.bytesWorld_size]; omega) (fun q o' hq _ => hat _ (hR.obj q o' hq).2.2) (fun a v ha => ?_) ⟨.inr rfl, Lib.bytesCells w e s, e, (c, c + 1), ?_, ?_⟩
      (by show N ≤ (κ.add S.ep w.heap.size 0 c 1).blk S.ep; rw [b1]; exact hR.big) (by show (κ.add S.ep w.heap.size 0 c 1).blk S.ep < _; rw [b1, Lib.bytesWorld_size]; omega)
      (fun q o' hq _ => by show (κ.add S.ep w.heap.size 0 c 1).blk S.ep ≠ _; rw [b1]; have := (hR.obj q o' hq).2.2; omega) (fun a v ha => ?_)
    · have h1 := (hR.phi a v ha).1
      rw [World.cell?_of_block (w := w) (hat _ (World.block_lt_of_cell? w a h1))]; exact h1
    · rw [b1, Lib.bytesWorld_at_new, hsz]
    · refine ⟨by rw [b2, List.length_map, hsz]; omega, fun j d hj => ?_, fun j hj => by rw [hsz] at hj; omega, fun _ => by rw [b2, b3, hsz, List.length_map]; omega⟩
      obtain ⟨v, hv, hr⟩ := VRL.get _ _ (vrl_bytes (κ := κ.add S.ep w.heap.size 0 c 1) (bl s)) j d hj
      refine ⟨v, ?_, hr⟩
      rw [b2, Nat.zero_add]
      have hjl : j < s.data.size := by
        have := (List.getElem?_eq_some_iff.1 hv).1
        simp [bl] at this
        simpa using this
      unfold Lib.bytesCells
      rw [Array.getElem?_append_left (by simpa using hjl), ← Array.getElem?_toList, Array.toList_map]
      exact hv
    · show (κ.add S.ep w.heap.size 0 c 1).blk S.ep ≠ _
      rw [b1]
      have := World.block_lt_of_cell? w a (hR.phi a v ha).1
      omega

theorem bytesOf_cons (c : DV) (cs : List DV) : bytesOf (c :: cs) = (match c, bytesOf cs with
    | .int .u8 n, some r => some (UInt8.ofNat n.toNat :: r)
    | _, _ => none) := rfl
theorem bytesOf_ok {κ : Kap} : ∀ (cs : List DV) (vs : List Value) (l : List UInt8), VRL κ cs vs → bytesOf cs = some l → ∃ ns : List Int, vs = ns.map (Value.int .u8) ∧ l = ns.map fun n => UInt8.ofNat n.toNat
  | [], vs, l, h, e => by cases h; cases e; exact ⟨[], rfl, rfl⟩
  | c :: cs, vs, l, h, e => by
    obtain ⟨v, vs', rfl, h1, h2⟩ := h
    rw [bytesOf_cons] at e
    split at e
    · rename_i n r hr
      cases e; cases h1
      obtain ⟨ns, rfl, rfl⟩ := bytesOf_ok cs vs' r h2 hr
      exact ⟨n :: ns, rfl, rfl⟩
    · cases e
theorem fold_push : ∀ (ns : List Int) (r : ByteArray), ns.foldl (fun r n => r.push (UInt8.ofNat n.toNat)) r = mkS (bl r ++ ns.map fun n => UInt8.ofNat n.toNat)
  | [], r => by simp [mkS, bl]
  | n :: ns, r => by
    rw [List.foldl_cons, fold_push ns]
    congr 1
    simp [bl, ByteArray.push]

def strLoop (cs : Array Value) : Sem Value := do
  let mut s := ByteArray.empty
  for c in cs do
    let .int .u8 n := c | stuck "bytesToString: byte expected"
    s := s.push (UInt8.ofNat n.toNat)
  pure (.string s)
theorem run_strLoop (ns : List Int) (cs : Array Value) (h : cs.toList = ns.map (Value.int .u8)) (w : World) : (strLoop cs).run P w = .ok (.string (mkS (ns.map fun n => UInt8.ofNat n.toNat))) w := by
  have e : cs = (ns.map (Value.int .u8)).toArray := by rw [← h]
  rw [e]
  unfold strLoop
  simp only [Sem.run_bind, List.forIn_toArray]
  rw [run_forIn_bytes _ (by intro n r; simp [Sem.run_pure])]
  rw [fold_push]
  simp [Sem.run_pure, bl]

theorem Sim.opConvert (hE : EnvOk P E) {κ : Kap} {a b : TypeId} {x : DV} {x' : Value} (hx : VR κ x x') : Sim P E N w0 κ VR (opConvert E a b x) (convert a b x') := by
  unfold Am.opConvert
  refine Sim.tiM hE fun i inf d z h => ?_
  refine Sim.tiM hE fun j jnf d' z' h' => ?_
  split
  · rename_i k _ n hu
    obtain rfl := h'.int hu
    cases hx
    refine Sim.val (b := Value.int k (k.wrap n)) (fun w => ?_) (by show _ = _; rw [iwr_eq])
    simp only [convert, Sem.run_bind, h.run_und, h'.run_und, Result.andThen_ok, Conv.intToInt, Sem.run_pure]
  · rename_i s hu
    obtain rfl := h'.string hu
    cases hx
    refine Sim.ret (b := Value.string s) (fun w => ?_) rfl
    simp only [convert, Sem.run_bind, h.run_und, h'.run_und, Result.andThen_ok, Sem.run_pure]
  · rename_i k n hu
    obtain rfl := h'.string hu
    cases hx
    refine Sim.ret (b := Value.string (Utf8.encode n)) (fun w => ?_) rfl
    simp only [convert, Sem.run_bind, h.run_und, h'.run_und, Result.andThen_ok, Conv.intToString, Sem.run_pure]
  · rename_i e s hu
    obtain rfl := h'.slice hu
    cases hx
    refine Sim.tiM hE fun u unf du zu hh => ?_
    split
    · rename_i hue
      obtain rfl := hh.int hue
      refine Sim.chk (Local.bind (Local.new _ _) fun _ => Local.pure _) fun _ => ?_
      exact Sim.toBytes h.und h'.und hh.und
    · exact Sim.fail
  · rename_i x _ _ hu _ _
    obtain rfl := h'.string hu
    split
    · rename_i e hue
      obtain rfl := h.slice hue
      refine Sim.tiM hE fun u unf du zu hh => ?_
      split
      · rename_i hue2
        obtain rfl := hh.int hue2
        have main : ∀ n, lenOf x = some n → (∀ w, (convert a b x').run P w = (Builtin.firstCells 1 n x' >>= strLoop).run P w) →
            Sim P E N w0 κ VR (Am.firstK E 1 n x fun cs => M.bind (M.opt (bytesOf cs)) fun l => M.pure (DV.str (mkS l))) (convert a b x') := by
          intro n hn2 hrun
          refine Sim.congr hrun ?_
          refine Sim.firstK hx (fun m hm => by rw [hn2] at hm; cases hm; exact Nat.le_refl _) (fun r => Local.bind (Local.opt _) fun _ => Local.pure _) fun r r' hr hrl => ?_
          refine Sim.optB fun l hl => ?_
          obtain ⟨ns, h1, rfl⟩ := bytesOf_ok r _ l hr hl
          exact Sim.ret (run_strLoop ns r' h1) rfl
        cases x with
        | sl g p off len cap =>
          obtain ⟨o, c, rfl⟩ := VR.sl_form hx
          refine main len rfl fun w => ?_
          rw [run_convert_bytes_string w a b e _ _ _ h.und hh.und h'.und]
          simp only [Conv.bytesToString, Builtin.firstCells, Nat.mul_one]
          rfl
        | bsl ad len cap =>
          obtain ⟨_, rfl⟩ := hx
          refine main len rfl fun w => ?_
          rw [run_convert_bytes_string w a b e _ _ _ h.und hh.und h'.und]
          simp only [Conv.bytesToString, Builtin.firstCells, Nat.mul_one]
          rfl
        | nils =>
          cases hx
          refine main 0 rfl fun w => ?_
          rw [run_convert_bytes_string w a b e _ _ _ h.und hh.und h'.und]
          rfl
        | _ => exact Sim.fail
      · exact Sim.fail
    · exact Sim.fail
  · exact Sim.fail
end
end Go.Am
