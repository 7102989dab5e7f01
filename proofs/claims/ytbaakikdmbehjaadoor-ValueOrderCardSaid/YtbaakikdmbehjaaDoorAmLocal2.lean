/- Every operation of the abstract machine is local. -/
import Derived.Test.YtbaakikdmbehjaaDoorAmLocal
set_option linter.unusedVariables false
set_option linter.unusedSimpArgs false
set_option linter.unusedSectionVars false
namespace Go.Am

theorem Local.tiM {β : Type} {E : Env} {t : TypeId} {k : TI → M β} (h : ∀ i, Local (k i)) : Local (tiM E t k) := by
  unfold Am.tiM; split
  · exact h _
  · exact Local.fail
theorem Local.cond {α : Type} {b : Bool} {x y : M α} (hx : Local x) (hy : Local y) : Local (cond b x y) := by cases b <;> assumption
theorem Local.ltakeK {α β : Type} {n : Nat} {l : List α} {k : List α → M β} (h : ∀ r, Local (k r)) : Local (ltakeK n l k) := by rw [ltakeK_eq]; exact h _
theorem Local.lappK {α β : Type} {l m : List α} {k : List α → M β} (h : ∀ r, Local (k r)) : Local (lappK l m k) := by rw [lappK_eq]; exact h _
theorem Local.lrepK {α β : Type} {n : Nat} {l : List α} {k : List α → M β} (h : ∀ r, Local (k r)) : Local (lrepK n l k) := by rw [lrepK_eq]; exact h _
theorem Local.forceNat {β : Type} {n : Nat} {k : Nat → M β} (h : ∀ r, Local (k r)) : Local (forceNat n k) := by rw [forceNat_eq]; exact h _

theorem idxK_int {β : Type} (kk : IntKind) (n : Int) (k : Nat → M β) (bd : Nat → Bool) :
    idxK (.int kk n) k bd = M.bind (M.chk (cond (ilt n 0) false (bd n.toNat))) fun _ => k n.toNat := by
  show M.bind (M.chk _) _ = _
  congr 1
  funext _ S
  show (match S.sy.sym with
    | true => k n.toNat S
    | false => Am.forceNat n.toNat fun m => k m S) = _
  cases S.sy.sym with
  | true => rfl
  | false => exact forceNat_eq n.toNat (fun m => k m S)
theorem idxK_not {β : Type} (x : DV) (k : Nat → M β) (bd : Nat → Bool) (h : ∀ kk n, x ≠ .int kk n) : idxK x k bd = M.fail := by
  cases x with
  | int kk n => exact absurd rfl (h kk n)
  | _ => rfl
theorem Local.idxK {β : Type} {x : DV} {k : Nat → M β} {bd : Nat → Bool} (h : ∀ r, Local (k r)) : Local (idxK x k bd) := by
  cases x with
  | int kk n => rw [idxK_int]; exact Local.bind (Local.chk _) fun _ => h _
  | _ => exact Local.fail
theorem Local.optIdx {β : Type} {x : Option DV} {d hi : Nat} {k : Nat → M β} (h : ∀ r, Local (k r)) : Local (optIdx x d hi k) := by
  cases x with
  | none => exact h _
  | some v => exact Local.idxK (x := v) (k := k) (bd := fun m => Nat.ble m hi) h
theorem Local.bndK {β : Type} {len cap : Nat} {lo hi mx : Option DV} {k : Nat → Nat → Nat → M β} (h : ∀ a b c, Local (k a b c)) : Local (bndK len cap lo hi mx k) := by
  unfold Am.bndK
  split
  · exact Local.fail
  · exact Local.optIdx fun _ => Local.optIdx fun _ => Local.optIdx fun _ => h _ _ _

theorem fillK_nil {β : Type} (place : Nat → Option (Nat × Nat)) (cs : List DV) (k : List DV → M β) : fillK place [] cs k = k cs := rfl
theorem fillK_cons {β : Type} (place : Nat → Option (Nat × Nat)) (i : Nat) (v : DV) (rest : List (Nat × DV)) (cs : List DV) (k : List DV → M β) :
    fillK place ((i, v) :: rest) cs k = match place i with
      | some os => match lput os.1 v.cells cs with
        | some cs' => cond (cond (defd v) (lenIs v.cells os.2) false) (fillK place rest cs' k) M.fail
        | none => M.fail
      | none => M.fail := by
  show (match place i with
      | some os => fun S => cond (cond (defd v) (lenIs v.cells os.2) false) (lputK os.1 v.cells cs fun cs => fillK place rest cs k S) none
      | none => M.fail) = _
  cases place i with
  | none => rfl
  | some os =>
    funext S
    simp only [lputK_eq]
    cases hp : lput os.1 v.cells cs with
    | none => cases cond (defd v) (lenIs v.cells os.2) false <;> rfl
    | some cs' => cases cond (defd v) (lenIs v.cells os.2) false <;> rfl
theorem Local.fillK {β : Type} {place : Nat → Option (Nat × Nat)} {k : List DV → M β} (h : ∀ r, Local (k r)) : ∀ (parts : List (Nat × DV)) (cs : List DV), Local (fillK place parts cs k) := by
  intro parts
  induction parts with
  | nil => intro cs; exact h cs
  | cons p rest ih =>
    intro cs
    obtain ⟨i, v⟩ := p
    rw [fillK_cons]
    split
    · split
      · exact Local.cond (ih _) Local.fail
      · exact Local.fail
    · exact Local.fail

theorem Local.part {i : TI} {cs : List DV} {off : Nat} : Local (M.part i cs off) := by
  unfold M.part
  split
  · exact Local.ltakeK fun r => Local.bind (Local.chk _) fun _ => Local.pure _
  · exact Local.opt _
theorem Local.new (opn : Bool) (cs : List DV) : Local (M.new opn cs) := Local.bind Local.fresh fun _ => Local.bind (Local.wrO _ _) fun _ => Local.pure _
theorem Local.firstK {β : Type} {E : Env} {size n : Nat} {x : DV} {k : List DV → M β} (h : ∀ r, Local (k r)) : Local (firstK E size n x k) := by
  unfold Am.firstK
  split
  · exact Local.ldc _ _ _ _ h
  · exact h _
  · exact Local.bind (Local.chk _) fun _ => Local.ltakeK fun r => h _
  · split
    · split
      · exact Local.ltakeK fun r => Local.bind (Local.chk _) fun _ => h _
      · exact Local.fail
    · exact Local.fail
  · exact Local.fail

section
variable (E : Env)
theorem Local.opLoad (t : TypeId) (x : DV) : Local (opLoad E t x) := by
  unfold Am.opLoad; apply Local.tiM; intro i; split
  · split
    · exact Local.ldc _ _ _ _ fun r => Local.pure _
    · exact Local.ld1 _ _ _
  · split
    · split
      · exact Local.part
      · exact Local.fail
    · exact Local.fail
  · exact Local.fail
theorem Local.opStore (t : TypeId) (x v : DV) : Local (opStore E t x v) := by
  unfold Am.opStore; apply Local.tiM; intro i; split
  · exact Local.bind (Local.chk _) fun _ => Local.stc _ _ _ _
  · exact Local.fail
theorem Local.opBox (x : DV) : Local (opBox x) := Local.bind (Local.chk _) fun _ => Local.bind (Local.new _ _) fun _ => Local.pure _
theorem Local.opAlloc (t : TypeId) : Local (opAlloc E t) := Local.tiM fun i => Local.bind (Local.chk _) fun _ => Local.bind (Local.new _ _) fun _ => Local.pure _
theorem Local.opBuild (t : TypeId) (parts : List (Nat × DV)) : Local (opBuild E t parts) := by
  unfold Am.opBuild; apply Local.tiM; intro i; split
  · exact Local.fillK (fun r => Local.pure _) _ _
  · exact Local.tiM fun j => Local.fillK (fun r => Local.pure _) _ _
  · exact Local.fail
theorem Local.opBuildSlice (t : TypeId) (len : Nat) (parts : List (Nat × DV)) : Local (opBuildSlice E t len parts) := by
  unfold Am.opBuildSlice; apply Local.tiM; intro i; split
  · exact Local.tiM fun j => Local.bind (Local.chk _) fun _ => Local.lrepK fun z => Local.fillK (fun r => Local.bind (Local.new _ _) fun _ => Local.pure _) _ _
  · exact Local.fail
theorem Local.opIndexAddr (t : TypeId) (x ix : DV) : Local (opIndexAddr E t x ix) := by
  unfold Am.opIndexAddr; apply Local.tiM; intro i; split
  · apply Local.tiM; intro j; split
    · exact Local.idxK fun _ => Local.pure _
    · exact Local.idxK fun _ => Local.pure _
    · exact Local.fail
  · apply Local.tiM; intro j; split
    · exact Local.idxK fun _ => Local.pure _
    · exact Local.idxK fun _ => Local.pure _
    · exact Local.fail
  · exact Local.fail
theorem Local.opIndex (t : TypeId) (x ix : DV) : Local (opIndex E t x ix) := by
  unfold Am.opIndex; apply Local.tiM; intro i; split
  · apply Local.tiM; intro j; split
    · exact Local.idxK fun _ => Local.part
    · exact Local.fail
  · split
    · apply Local.idxK; intro r; split
      · exact Local.val _
      · exact Local.fail
    · exact Local.fail
  · exact Local.fail
theorem Local.opField (t : TypeId) (x : DV) (f : Nat) : Local (opField E t x f) := by
  unfold Am.opField; apply Local.tiM; intro i; split
  · split
    · apply Local.tiM; intro j; split
      · exact Local.part
      · exact Local.fail
    · exact Local.fail
  · exact Local.fail
theorem Local.opFieldAddr (t : TypeId) (x : DV) (f : Nat) : Local (opFieldAddr E t x f) := by
  unfold Am.opFieldAddr; apply Local.tiM; intro i; split
  · split
    · apply Local.cond Local.fail; split
      · exact Local.pure _
      · exact Local.pure _
      · exact Local.fail
    · exact Local.fail
  · exact Local.fail
theorem Local.opMakeSlice (t : TypeId) (l c : DV) : Local (opMakeSlice E t l c) := by
  unfold Am.opMakeSlice; apply Local.tiM; intro i; split
  · apply Local.tiM; intro j; split
    · exact Local.bind (Local.chk _) fun _ => Local.bind (Local.chk _) fun _ => Local.lrepK fun z => Local.forceNat fun _ => Local.forceNat fun _ => Local.bind (Local.new _ _) fun _ => Local.pure _
    · exact Local.fail
  · exact Local.fail
theorem Local.opSlice (t : TypeId) (x : DV) (lo hi mx : Option DV) : Local (opSlice E t x lo hi mx) := by
  unfold Am.opSlice; apply Local.tiM; intro i; split
  · split
    · exact Local.bndK fun _ _ _ => Local.ltakeK fun _ => Local.pure _
    · exact Local.fail
  · apply Local.tiM; intro j; split
    · exact Local.bndK fun _ _ _ => Local.pure _
    · apply Local.bind (Local.chk _); intro _; split
      · exact Local.bndK fun _ _ _ => Local.pure _
      · exact Local.bind (Local.chk _) fun _ => Local.bndK fun _ _ _ => Local.pure _
    · exact Local.bndK fun _ _ _ => Local.pure _
    · exact Local.bndK fun _ _ _ => Local.pure _
    · exact Local.fail
  · apply Local.tiM; intro j; split
    · exact Local.bndK fun _ _ _ => Local.pure _
    · exact Local.bndK fun _ _ _ => Local.pure _
    · exact Local.fail
  · exact Local.fail
theorem Local.opLen (t : TypeId) (x : DV) : Local (opLen E t x) := by
  unfold Am.opLen; apply Local.tiM; intro i; split
  · split
    · exact Local.val _
    · exact Local.fail
  · exact Local.val _
  · apply Local.tiM; intro j; split
    · exact Local.val _
    · exact Local.fail
  · split <;> first | exact Local.pure _ | exact Local.fail
  · split
    · apply Local.bind (Local.rdO _); intro o; split
      · exact Local.bind (Local.chk _) fun _ => Local.val _
      · exact Local.fail
    · exact Local.pure _
    · exact Local.fail
  · exact Local.fail
theorem Local.opCap (t : TypeId) (x : DV) : Local (opCap E t x) := by
  unfold Am.opCap; apply Local.tiM; intro i; split
  · exact Local.val _
  · split <;> first | exact Local.pure _ | exact Local.fail
  · exact Local.fail
theorem Local.grow (j : TI) (s x : DV) (len n : Nat) : Local (grow E j s x len n) :=
  Local.bind (Local.chk _) fun _ => Local.firstK fun _ => Local.firstK fun _ => Local.lappK fun _ => Local.bind (Local.new _ _) fun _ => Local.pure _
theorem Local.opAppend (t : TypeId) (s x : DV) : Local (opAppend E t s x) := by
  unfold Am.opAppend; apply Local.tiM; intro i; split
  · apply Local.tiM; intro j; split
    · split
      · exact Local.cond (Local.pure _) (Local.grow E _ _ _ _ _)
      · exact Local.cond Local.fail (Local.grow E _ _ _ _ _)
      · exact Local.cond (Local.firstK fun _ => Local.bind (Local.chk _) fun _ => Local.bind (Local.stc _ _ _ _) fun _ => Local.pure _) (Local.grow E _ _ _ _ _)
      · exact Local.cond (Local.pure _) (Local.bind (Local.chk _) fun _ => Local.ldc _ _ _ _ fun _ => Local.firstK fun _ => Local.lappK fun _ => Local.bind (Local.chk _) fun _ => Local.bind Local.stamp fun _ => Local.bind (Local.wrO _ _) fun _ => Local.forceNat fun _ => Local.pure _)
      · exact Local.fail
    · exact Local.fail
  · exact Local.fail
theorem Local.opCopy (t : TypeId) (s x : DV) : Local (opCopy E t s x) := by
  unfold Am.opCopy; apply Local.tiM; intro i; split
  · apply Local.tiM; intro j; split
    · split
      · exact Local.pure _
      · exact Local.bind (Local.val _) fun _ => Local.firstK fun _ => Local.bind (Local.chk _) fun _ => Local.bind (Local.stc _ _ _ _) fun _ => Local.pure _
      · exact Local.fail
    · exact Local.fail
  · exact Local.fail
theorem Local.binInt (op : BinOp) (k : IntKind) (a : Int) (j : IntKind) (b : Int) : Local (M.binInt op k a j b) := by
  unfold M.binInt
  split
  · exact Local.bind (Local.chk _) fun _ => Local.val _
  · exact Local.bind (Local.chk _) fun _ => Local.val _
  · exact Local.bind (Local.chk _) fun _ => Local.bind (Local.chk _) fun _ => Local.val _
  · exact Local.bind (Local.chk _) fun _ => Local.bind (Local.chk _) fun _ => Local.val _
  · exact Local.bind (Local.chk _) fun _ => Local.bind (Local.opt _) fun _ => Local.val _
theorem Local.opBin (op : BinOp) (t : TypeId) (c : Bool) (x y : DV) : Local (opBin E op t c x y) := by
  unfold Am.opBin
  split
  · exact Local.binInt _ _ _ _ _
  · split
    · exact Local.lappK fun _ => Local.bind (Local.chk _) fun _ => Local.pure _
    · exact Local.bind (Local.opt _) fun _ => Local.val _
  · split
    · exact Local.bind (Local.opt _) fun _ => Local.val _
    · exact Local.bind (Local.opt _) fun _ => Local.val _
    · exact Local.fail
theorem Local.opUn (op : UnOp) (x : DV) : Local (opUn op x) := by
  unfold Am.opUn; split <;> first | exact Local.val _ | exact Local.fail
theorem Local.opConvert (a b : TypeId) (x : DV) : Local (opConvert E a b x) := by
  unfold Am.opConvert; apply Local.tiM; intro i; apply Local.tiM; intro j; split
  · exact Local.val _
  · exact Local.pure _
  · exact Local.pure _
  · apply Local.tiM; intro u; split
    · exact Local.bind (Local.chk _) fun _ => Local.bind (Local.new _ _) fun _ => Local.pure _
    · exact Local.fail
  · split
    · apply Local.tiM; intro u; split
      · split
        · exact Local.fail
        · exact Local.firstK fun _ => Local.bind (Local.opt _) fun _ => Local.pure _
        · exact Local.fail
      · exact Local.fail
    · exact Local.fail
  · exact Local.fail
theorem Local.opAssert (x : DV) (t : TypeId) (ok : Bool) : Local (opAssert E x t ok) := by
  unfold Am.opAssert; apply Local.tiM; intro i; split
  · exact Local.fail
  · split
    · exact Local.cond (Local.pure _) (Local.cond (Local.pure _) Local.fail)
    · exact Local.cond (Local.pure _) Local.fail
    · exact Local.fail
theorem Local.opMin2 (mx : Bool) (x y : DV) : Local (opMin2 mx x y) := by
  unfold Am.opMin2; split
  · exact Local.bind (Local.dec _) fun _ => Local.pure _
  · exact Local.fail
theorem Local.opMin (mx : Bool) (l : List DV) : Local (opMin mx l) := by
  unfold Am.opMin; split
  · exact Local.opMin2 _ _ _
  · exact Local.fail
theorem Local.fit (t : TypeId) (k : DV) : Local (M.fit E t k) := by unfold M.fit; apply Local.tiM; intro i; exact Local.opt _
theorem Local.opLookup (t : TypeId) (m k : DV) (ok : Bool) : Local (opLookup E t m k ok) := by
  unfold Am.opLookup; apply Local.tiM; intro i; split
  · apply Local.bind (Local.fit E _ _); intro _; apply Local.tiM; intro j
    simp only
    split
    · exact Local.pure _
    · apply Local.bind (Local.rdO _); intro o; split
      · apply Local.bind (Local.chk _); intro _; apply Local.bind (Local.opt _); intro r; split <;> exact Local.pure _
      · exact Local.fail
    · exact Local.fail
  · exact Local.fail
theorem Local.updE (p g c i : Nat) (k v : DV) (es : List (DV × DV × Nat)) : Local (updE p g c i k v es) := by
  unfold Am.updE
  cases lget es i with
  | none => exact Local.fail
  | some e =>
    simp only [lputK_eq]
    cases lput i [(k, v, e.2.2)] es with
    | none => exact Local.fail
    | some es' => exact Local.wrO _ _
theorem Local.opMapUpdate (t : TypeId) (m k v : DV) : Local (opMapUpdate E t m k v) := by
  unfold Am.opMapUpdate; apply Local.tiM; intro i; split
  · apply Local.bind (Local.fit E _ _); intro _; split
    · apply Local.bind (Local.rdO _); intro o; split
      · apply Local.bind (Local.chk _); intro _; apply Local.bind (Local.opt _); intro r; split
        · exact Local.updE _ _ _ _ _ _ _
        · exact Local.lappK fun _ => Local.wrO _ _
      · exact Local.fail
    · exact Local.fail
  · exact Local.fail
theorem Local.opDelete (t : TypeId) (m k : DV) : Local (opDelete E t m k) := by
  unfold Am.opDelete; apply Local.tiM; intro i; split
  · apply Local.bind (Local.fit E _ _); intro _; split
    · apply Local.bind (Local.rdO _); intro o; split
      · apply Local.bind (Local.chk _); intro _; apply Local.bind (Local.opt _); intro r; split
        · exact Local.ltakeK fun _ => Local.lappK fun _ => Local.bind (Local.wrO _ _) fun _ => Local.pure _
        · exact Local.bind (Local.wrO _ _) fun _ => Local.pure _
      · exact Local.fail
    · exact Local.pure _
    · exact Local.fail
  · exact Local.fail
theorem Local.opMakeMap : Local opMakeMap := Local.bind Local.fresh fun _ => Local.bind (Local.wrO _ _) fun _ => Local.pure _

theorem Local.rv {m : M DV} (h : Local m) : Local (rv m) := Local.bind h fun _ => Local.pure _
theorem Local.ru {m : M Unit} (h : Local m) : Local (ru m) := Local.bind h fun _ => Local.pure _

variable {callF : FuncId → List DV → M ORes} (hcall : ∀ f l, Local (callF f l))
theorem Local.evBuiltin (b : Builtin) (ats : List TypeId) (args : List DV) : Local (evBuiltin E b ats args) := by
  unfold Am.evBuiltin
  split
  · exact Local.rv (Local.opLen E _ _)
  · exact Local.rv (Local.opCap E _ _)
  · apply Local.rv; apply Local.tiM; intro i; split
    · exact Local.fail
    · exact Local.opAppend E _ _ _
  · exact Local.rv (Local.opCopy E _ _ _)
  · exact Local.rv (Local.opMin _ _)
  · exact Local.rv (Local.opMin _ _)
  · exact Local.rv (Local.opDelete E _ _ _)
  · split
    · exact Local.pure _
    · exact Local.fail
  · exact Local.fail
include hcall
theorem Local.evCall (t : Tr DV) (c : Call) : Local (evCall E callF t c) := by
  unfold Am.evCall
  split
  · exact Local.evBuiltin E _ _ _
  · split
    · exact Local.lappK fun _ => Local.lappK fun _ => hcall _ _
    · exact Local.fail
  · exact Local.fail
theorem Local.evOp (t : Tr DV) (o : Op) : Local (evOp E callF t o) := by
  unfold Am.evOp
  split
  · exact Local.rv (Local.pure _)
  · exact Local.rv (Local.pure _)
  · split
    · exact Local.bind (Local.dec _) fun _ => Local.rv (Local.pure _)
    · exact Local.fail
  · exact Local.rv (Local.opAlloc E _)
  · exact Local.rv (Local.opBox _)
  · exact Local.rv (Local.opBuild E _ _)
  · exact Local.rv (Local.opBuildSlice E _ _ _)
  · exact Local.rv (Local.opLoad E _ _)
  · exact Local.ru (Local.opStore E _ _ _)
  · split
    · exact Local.rv (Local.pure _)
    · exact Local.rv (Local.pure _)
    · exact Local.rv (Local.pure _)
    · exact Local.rv (Local.pure _)
    · exact Local.fail
  · exact Local.rv (Local.opBin _ _ _ _ _ _)
  · exact Local.rv (Local.opUn _ _)
  · exact Local.rv (Local.opConvert E _ _ _)
  · apply Local.rv; apply Local.tiM; intro i; split
    · exact Local.fail
    · exact Local.pure _
  · exact Local.rv (Local.pure _)
  · exact Local.rv Local.opMakeMap
  · exact Local.rv (Local.opMakeSlice E _ _ _)
  · exact Local.rv (Local.opSlice E _ _ _ _ _)
  · exact Local.rv (Local.opFieldAddr E _ _ _)
  · exact Local.rv (Local.opField E _ _ _)
  · exact Local.rv (Local.opIndexAddr E _ _ _)
  · exact Local.rv (Local.opIndex E _ _ _)
  · exact Local.rv (Local.opLookup E _ _ _ _)
  · exact Local.ru (Local.opMapUpdate E _ _ _ _)
  · exact Local.ru (Local.opMapUpdate E _ _ _ _)
  · exact Local.rv (Local.opAssert E _ _ _)
  · split
    · exact Local.rv (Local.opt _)
    · exact Local.fail
  · exact Local.evCall E hcall t _
  · split
    · exact Local.pure _
    · exact Local.fail
  · exact Local.fail
omit hcall in
theorem Local.wantedM (all : List Oper) (t : Tr DV) (g : Option (Nat × Bool)) : Local (wantedM all t g) := by
  unfold Am.wantedM
  split
  · exact Local.pure _
  · split
    · split
      · split
        · exact Local.bind (Local.dec _) fun _ => Local.pure _
        · exact Local.pure _
        · exact Local.fail
      · exact Local.fail
    · exact Local.fail
omit hcall in
theorem Local.putK {β : Type} {n : Nat} {t : Tr DV} {d : Option Nat} {v : DV} {k : Tr DV → M β} (h : ∀ t, Local (k t)) : Local (putK n t d v k) := by
  unfold Am.putK
  split
  · exact h _
  · apply Local.cond
    · rw [Tr.setK_eq]; exact h _
    · exact Local.fail

theorem Local.evOps (all : List Oper) : ∀ (l : List Oper) (a : AF), Local (evOps E callF all l a) := by
  intro l
  induction l with
  | nil => intro a; exact Local.pure _
  | cons o rest ih =>
    rintro ⟨n, t, df⟩
    show Local (M.bind (Am.wantedM all t o.guard) fun w => match w with
        | false => Am.putK n t o.dst (.tup []) fun t => Am.evOps E callF all rest ⟨n, t, df⟩
        | true => M.bind (Am.evOp E callF t o.op) fun r => match r with
          | .val v => Am.putK n t o.dst v fun t => Am.evOps E callF all rest ⟨n, t, df⟩
          | .pan c => M.pure (.pan c, ⟨n, t, df⟩)
          | .dfr fn cap args => Am.putK n t o.dst (.tup []) fun t => Am.evOps E callF all rest ⟨n, t, (fn, cap, args) :: df⟩)
    apply Local.bind (Local.wantedM _ _ _); intro w
    cases w with
    | false => exact Local.putK fun t => ih _
    | true =>
      apply Local.bind (Local.evOp E hcall t _); intro r
      cases r with
      | val v => exact Local.putK fun t => ih _
      | pan c => exact Local.pure _
      | dfr fn cap args => exact Local.putK fun t => ih _

omit hcall in
theorem keep_eq (thr : Nat) : ∀ l : List (Nat × Nat × Nat), keep thr l = l.filter fun x => Nat.blt x.1 thr := by
  intro l
  induction l with
  | nil => rfl
  | cons x l ih =>
    show (cond (Nat.blt x.1 thr) (x :: keep thr l) (keep thr l)) = _
    rw [ih, List.filter_cons]; cases Nat.blt x.1 thr <;> rfl
omit hcall in
theorem keepO_eq (thr : Nat) : ∀ l : List Nat, keepO thr l = l.filter fun x => Nat.blt x thr := by
  intro l
  induction l with
  | nil => rfl
  | cons x l ih =>
    show (cond (Nat.blt x thr) (x :: keepO thr l) (keepO thr l)) = _
    rw [ih, List.filter_cons]; cases Nat.blt x thr <;> rfl

omit hcall in
/-- what 'M.op' gives, by what the computation gives under a log of its own -/
theorem M.op_some {α : Type} {m : M α} {S : St} {r : α × Rec} {S' : St} (h : M.op m S = some (r, S')) : ∃ S1, m ⟨S.heap, S.pos, S.ep, ⟨S.pos, [], [], []⟩, S.sy⟩ = some (r.1, S1) ∧
    r.2 = ⟨S.pos, S1.pos, S1.lg.rl, S1.lg.wl, S1.lg.wo⟩ ∧
    S' = ⟨S1.heap, S1.pos, S1.ep, ⟨S.lg.thr, keep S.lg.thr S1.lg.rl ++ S.lg.rl, keep S.lg.thr S1.lg.wl ++ S.lg.wl, keepO S.lg.thr S1.lg.wo ++ S.lg.wo⟩, S1.sy⟩ := by
  rcases S with ⟨hp, n, e, ⟨thr, rl, wl, wo⟩, sy⟩
  change (match m ⟨hp, n, e, ⟨n, [], [], []⟩, sy⟩ with
    | some (a, ⟨h', n', e', ⟨_, rl', wl', wo'⟩, sy'⟩) => some ((a, (⟨n, n', rl', wl', wo'⟩ : Rec)), (⟨h', n', e', ⟨thr, keep thr rl' ++ rl, keep thr wl' ++ wl, keepO thr wo' ++ wo⟩, sy'⟩ : St))
    | none => none) = _ at h
  cases hm : m ⟨hp, n, e, ⟨n, [], [], []⟩, sy⟩ with
  | none => rw [hm] at h; cases h
  | some x =>
    obtain ⟨a, S1⟩ := x
    rw [hm] at h
    cases h
    exact ⟨S1, rfl, rfl, rfl⟩
omit hcall in
theorem M.op_of {α : Type} {m : M α} {S : St} {a : α} {S1 : St} (h : m ⟨S.heap, S.pos, S.ep, ⟨S.pos, [], [], []⟩, S.sy⟩ = some (a, S1)) :
    M.op m S = some ((a, ⟨S.pos, S1.pos, S1.lg.rl, S1.lg.wl, S1.lg.wo⟩), ⟨S1.heap, S1.pos, S1.ep, ⟨S.lg.thr, keep S.lg.thr S1.lg.rl ++ S.lg.rl, keep S.lg.thr S1.lg.wl ++ S.lg.wl, keepO S.lg.thr S1.lg.wo ++ S.lg.wo⟩, S1.sy⟩) := by
  rcases S with ⟨hp, n, e, ⟨thr, rl, wl, wo⟩, sy⟩
  show (match m ⟨hp, n, e, ⟨n, [], [], []⟩, sy⟩ with
    | some (a, ⟨h', n', e', ⟨_, rl', wl', wo'⟩, sy'⟩) => some ((a, (⟨n, n', rl', wl', wo'⟩ : Rec)), (⟨h', n', e', ⟨thr, keep thr rl' ++ rl, keep thr wl' ++ wl, keepO thr wo' ++ wo⟩, sy'⟩ : St))
    | none => none) = _
  rw [h]

omit hcall in
theorem beq_of_mem_keep {thr : Nat} {l : List (Nat × Nat × Nat)} {x : Nat × Nat × Nat} (h : x ∈ l) (hx : x.1 < thr) : x ∈ keep thr l := by
  rw [keep_eq]; exact List.mem_filter.2 ⟨h, Nat.ble_eq_true_of_le hx⟩
omit hcall in
theorem beq_of_mem_keepO {thr : Nat} {l : List Nat} {x : Nat} (h : x ∈ l) (hx : x < thr) : x ∈ keepO thr l := by
  rw [keepO_eq]; exact List.mem_filter.2 ⟨h, Nat.ble_eq_true_of_le hx⟩

omit hcall in
theorem Local.op {α : Type} {m : M α} (hm : Local m) : Local (M.op m) := by
  intro S r S' h0 h
  obtain ⟨S1, h1, hr, rfl⟩ := M.op_some h
  obtain ⟨a, rc⟩ := r
  simp only at h1 hr
  subst hr
  obtain ⟨F, D, s1, k1, c1, r1⟩ := hm _ _ _ (Nat.le_refl _) h1
  have e1 : S1.lg.rl = D.rl := by have := s1.rl; simpa using this
  have e2 : S1.lg.wl = D.wl := by have := s1.wl; simpa using this
  have e3 : S1.lg.wo = D.wo := by have := s1.wo; simpa using this
  refine ⟨F, ⟨keep S.lg.thr D.rl, keep S.lg.thr D.wl, keepO S.lg.thr D.wo, D.ds, D.phi⟩,
    ⟨rfl, s1.sym, s1.pos, s1.ep, by simp only [e1], by simp only [e2], by simp only [e3], s1.ds, s1.phi⟩, ⟨k1.mt, k1.ce, k1.bnd⟩, ?_, ?_⟩
  · have up : ∀ p, p < S.lg.thr → p < S.pos := fun p hp => Nat.lt_of_lt_of_le hp h0
    refine ⟨fun p hp h => ?_, fun p j hp h => ?_, fun p j hp h => ?_, fun p hp h => ?_⟩
    · rcases c1.rm p (up p hp) h with ⟨x, hx, e⟩ | ⟨x, hx, e⟩
      · exact .inl ⟨x, beq_of_mem_keep hx (by omega), e⟩
      · exact .inr ⟨x, beq_of_mem_keep hx (by omega), e⟩
    · obtain ⟨x, hx, e⟩ := c1.rc p j (up p hp) h; exact ⟨x, beq_of_mem_keep hx (by omega), e⟩
    · obtain ⟨x, hx, e⟩ := c1.wc p j (up p hp) h; exact ⟨x, beq_of_mem_keep hx (by omega), e⟩
    · exact beq_of_mem_keepO (c1.wo p (up p hp) h) hp
  · intro T hT hR
    obtain ⟨T1, t1, t2, tp, te, tk, tw⟩ := r1 ⟨T.heap, T.pos, T.ep, ⟨T.pos, [], [], []⟩, T.sy⟩ ⟨hT.pos, hT.ep, hT.pos, hT.sym, hT.ds⟩ ⟨hR.mt, hR.ce⟩
    have f1 : T1.lg.rl = D.rl := by have := t2.rl; simpa using this
    have f2 : T1.lg.wl = D.wl := by have := t2.wl; simpa using this
    have f3 : T1.lg.wo = D.wo := by have := t2.wo; simpa using this
    have := M.op_of (S := T) t1
    rw [f1, f2, f3, tp, hT.pos, hT.thr] at this
    refine ⟨⟨T1.heap, S1.pos, T1.ep, ⟨S.lg.thr, keep S.lg.thr D.rl ++ T.lg.rl, keep S.lg.thr D.wl ++ T.lg.wl, keepO S.lg.thr D.wo ++ T.lg.wo⟩, T1.sy⟩,
      by rw [e1, e2, e3]; exact this, ⟨hT.thr.symm, t2.sym, ?_, t2.ep, rfl, rfl, rfl, t2.ds, t2.phi⟩, rfl, te, ⟨tk.mt, tk.ce, k1.bnd⟩, ⟨tw.mt, tw.co, tw.ce⟩⟩
    have := t2.pos
    simp only at this ⊢
    rw [← tp]; exact this

theorem Local.evDrawOps (all : List Oper) : ∀ (l : List Oper) (i : Nat) (a : AF) (rs : List (Nat × Rec)), Local (evDrawOps E callF all l i a rs) := by
  intro l
  induction l with
  | nil => intro i a rs; exact Local.pure _
  | cons o rest ih =>
    rintro i ⟨n, t, df⟩ rs
    show Local (M.bind (M.op (M.bind (Am.wantedM all t o.guard) fun w => match w with
          | false => M.pure (.val (.tup []))
          | true => Am.evOp E callF t o.op)) fun r => match r with
        | (.val v, rc) => Am.putK n t o.dst v fun t => Am.evDrawOps E callF all rest (i + 1) ⟨n, t, df⟩ ((i, rc) :: rs)
        | _ => M.fail)
    apply Local.bind
    · apply Local.op
      apply Local.bind (Local.wantedM _ _ _); intro w
      cases w with
      | false => exact Local.pure _
      | true => exact Local.evOp E hcall t _
    · rintro ⟨r, rc⟩
      cases r with
      | val v => exact Local.putK fun t => ih _ _ _
      | pan c => exact Local.fail
      | dfr fn cap args => exact Local.fail
theorem Local.evDraw (ops : Array Oper) (a : AF) : Local (evDraw E callF ops a) :=
  Local.bind (Local.evDrawOps E hcall _ _ _ _ _) fun _ => Local.bind (Local.chk _) fun _ => Local.pure _

omit hcall in
theorem Local.iter {body : AF → M (AEx × AF)} (hb : ∀ a, Local (body a)) : ∀ (f : Nat) (a : AF), Local (iter body f a) := by
  intro f
  induction f with
  | zero => intro a; exact Local.fail
  | succ f ih =>
    intro a
    show Local (M.bind (body a) fun r => match r with
      | (.normal, a) => Am.iter body f a
      | r => M.pure r)
    apply Local.bind (hb a)
    rintro ⟨e, a⟩
    cases e <;> first | exact ih _ | exact Local.pure _

theorem Local.evCode (L : Nat) : ∀ (c : Code) (a : AF), Local (evCode E callF L c a) := by
  intro c
  induction c with
  | skip => intro a; exact Local.pure _
  | region id ops draw =>
    intro a
    exact Local.cond (Local.evDraw E hcall ops a) (Local.evOps E hcall _ _ a)
  | seq x y ix iy =>
    intro a
    show Local (M.bind (Am.evCode E callF L x a) fun r => match r with
      | (.normal, a) => Am.evCode E callF L y a
      | r => M.pure r)
    apply Local.bind (ix a)
    rintro ⟨e, a⟩
    cases e <;> first | exact iy _ | exact Local.pure _
  | cond o x y ix iy =>
    intro a
    show Local (match opnd a.t o with
      | .bool b => M.bind (M.dec b) fun b => _root_.cond b (Am.evCode E callF L x a) (Am.evCode E callF L y a)
      | _ => M.fail)
    split
    · apply Local.bind (Local.dec _); intro b
      cases b
      · exact iy a
      · exact ix a
    · exact Local.fail
  | block i x ix =>
    intro a
    show Local (M.bind (Am.evCode E callF L x a) fun r => match r with
      | (.exit j, a) => _root_.cond (Nat.beq j i) (M.pure (AEx.normal, a)) (M.pure (AEx.exit j, a))
      | r => M.pure r)
    apply Local.bind (ix a)
    rintro ⟨e, a⟩
    cases e with
    | exit j => show Local (_root_.cond (Nat.beq j i) (M.pure (AEx.normal, a)) (M.pure (AEx.exit j, a))); cases Nat.beq j i <;> exact Local.pure _
    | _ => exact Local.pure _
  | loop x ix => intro a; exact Local.iter ix L a
  | rangeFunc f ps x y ix iy => intro a; exact Local.fail
  | exit i => intro a; exact Local.pure _
  | scope x ix => intro a; exact Local.fail
  | label l => intro a; exact Local.fail
  | goto l => intro a; exact Local.fail
  | ret => intro a; exact Local.pure _
  | refuse w => intro a; exact Local.fail

omit hcall in
theorem Local.resMs (t : Tr DV) : ∀ l : List ResultVar, Local (resMs E t l) := by
  intro l
  induction l with
  | nil => exact Local.pure _
  | cons r rest ih =>
    show Local (M.bind (resM E t r) fun v => M.bind (Am.resMs E t rest) fun vs => M.pure (v :: vs))
    apply Local.bind
    · cases r with
      | tmp i => exact Local.pure _
      | cell i ty => exact Local.opLoad E _ _
    · intro v; exact Local.bind ih fun _ => Local.pure _
omit hcall in
theorem Local.finish (fn : Func) (r : AEx × AF) : Local (finish E fn r) := by
  obtain ⟨e, n, t, df⟩ := r
  unfold Am.finish
  split
  · split
    · apply Local.bind (Local.resMs E _ _); intro vs; split <;> exact Local.pure _
    · apply Local.bind (Local.resMs E _ _); intro vs; split <;> exact Local.pure _
    · exact Local.pure _
    · exact Local.fail
  · exact Local.fail
omit hcall in
theorem argsK_eq {β : Type} : ∀ (args : List DV) (n : Nat) (t : Tr DV) (k : Tr DV → β), argsK args n t k = k (argsK args n t id) := by
  intro args
  induction args with
  | nil => intro n t k; rfl
  | cons a rest ih =>
    intro n t k
    show Tr.setK (some a) t n (fun t => argsK rest (n + 1) t k) = k (Tr.setK (some a) t n fun t => argsK rest (n + 1) t id)
    rw [Tr.setK_eq, Tr.setK_eq]; exact ih _ _ _
omit hcall in
omit hcall in
theorem Local.evStep {callF : FuncId → List DV → M ORes} (hloc : ∀ f l, Local (callF f l)) (L : Nat) (f : FuncId) (args : List DV) : Local (Am.evStep E L callF f args) := by
  unfold Am.evStep
  split
  · split
    · rw [argsK_eq]
      exact Local.bind (Local.evCode E hloc L _ _) fun r => Local.finish E _ r
    · exact Local.fail
  · exact Local.fail
omit hcall in
theorem Local.evFn (L : Nat) : ∀ (fuel : Nat) (f : FuncId) (args : List DV), Local (evFn E L fuel f args) := by
  intro fuel
  induction fuel with
  | zero => intro f args; exact Local.fail
  | succ fuel ih => intro f args; exact Local.evStep E ih L f args
omit hcall in
theorem Local.evT {tbl : Tr (List DV → M ORes)} (ht : ∀ f c, tbl.get f = some c → ∀ l, Local (c l)) (L : Nat) : ∀ (fuel : Nat) (f : FuncId) (args : List DV), Local (evT E tbl L fuel f args) := by
  intro fuel
  induction fuel with
  | zero => intro f args; exact Local.fail
  | succ fuel ih =>
    intro f args
    show Local (match tbl.get f with
      | some c => c args
      | none => Am.evStep E L (Am.evT E tbl L fuel) f args)
    split
    · rename_i c hc; exact ht f c hc args
    · exact Local.evStep E ih L f args
end
end Go.Am
