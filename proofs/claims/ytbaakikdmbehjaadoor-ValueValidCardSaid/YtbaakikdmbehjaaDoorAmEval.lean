/- The abstract machine: conversions, calls, code, functions. -/
import Derived.Test.YtbaakikdmbehjaaDoorAmOps
set_option linter.unusedVariables false
set_option linter.unusedSimpArgs false
set_option linter.unusedSectionVars false
namespace Go.Am
noncomputable section

def zeroDV (i : TI) : DV := match i.isAgg with
  | true => .agg i.zero
  | false => match i.zero with
    | [z] => z
    | _ => .undef

/-- the bytes of a row of byte cells -/
def bytesOf (l : List DV) : Option (List UInt8) := List.rec (motive := fun _ => Option (List UInt8)) (some [])
  (fun a _ ih => match a, ih with
    | .int .u8 n, some r => some (UInt8.ofNat n.toNat :: r)
    | _, _ => none) l

section
variable (E : Env)

def opConvert (src dst : TypeId) (x : DV) : M DV := tiM E src fun i => tiM E dst fun j => match j.und, x with
  | .int k, .int _ n => M.val (.int k (iwr k n))
  | .string, .str s => M.pure x
  | .string, .int _ n => M.pure (.str (Utf8.encode n))
  | .slice e, .str s => tiM E e fun u => match u.und with
    | .int .u8 => M.bind (M.chk (cond (Nat.ble (bl s).length 1099511627776) (Nat.beq u.size 1) false)) fun _ => M.bind (M.new true ((bl s).map fun b => .int .u8 (.ofNat b.toNat))) fun pe => M.pure (.sl pe.2 pe.1 0 (bl s).length (.op 1))
    | _ => M.fail
  | .string, x => match i.und with
    | .slice e => tiM E e fun u => match u.und with
      | .int .u8 => match lenOf x, x with
        | some n, .str _ => M.fail
        | some n, _ => firstK E 1 n x fun cs => M.bind (M.opt (bytesOf cs)) fun l => M.pure (.str (mkS l))
        | none, _ => M.fail
      | _ => M.fail
    | _ => M.fail
  | _, _ => M.fail

def opAssert (x : DV) (asserted : TypeId) (ok : Bool) : M DV := tiM E asserted fun i => match i.und with
  | .iface => M.fail
  | _ => match x with
    | .iface t v => cond (Nat.beq t asserted) (M.pure (cond ok (.tup [v, .bool true]) v)) (cond ok (M.pure (.tup [zeroDV i, .bool false])) M.fail)
    | .nili => cond ok (M.pure (.tup [zeroDV i, .bool false])) M.fail
    | _ => M.fail

def opMin2 (mx : Bool) (x y : DV) : M DV := match x, y with
  | .int k a, .int _ b => M.bind (M.dec (cond mx (ilt a b) (ilt b a))) fun c => M.pure (cond c (.int k b) (.int k a))
  | _, _ => M.fail
def opMin (mx : Bool) : List DV → M DV
  | [x, y] => opMin2 mx x y
  | _ => M.fail

/-! ### maps -/
def keyEq (x y : DV) : Option Bool := match x, y with
  | .int k a, .int j b => cond (keq k j) (some (ieq a b)) none
  | .str a, .str b => some (leqb (bl a) (bl b))
  | .bool a, .bool b => some (cond a b (!b))
  | _, _ => none
/-- the place of a key among the entries -/
def findE (k : DV) (es : List (DV × DV × Nat)) : Nat → Option (Option (Nat × DV)) :=
  List.rec (motive := fun _ => Nat → Option (Option (Nat × DV))) (fun _ => some none) (fun e _ ih i => match keyEq k e.1 with
    | some true => some (some (i, e.2.1))
    | some false => ih (i + 1)
    | none => none) es

/-- does a key fit the type of the keys? -/
def keyFit (u : UD) (k : DV) : Bool := match u, k with
  | .int _, .int _ _ | .string, .str _ | .bool, .bool _ => true
  | _, _ => false
def M.fit (t : TypeId) (k : DV) : M Unit := tiM E t fun i => M.opt (cond (keyFit i.und k) (some ()) none)

def opLookup (t : TypeId) (m k : DV) (ok : Bool) : M DV := tiM E t fun i => match i.und with
  | .map kt e => M.bind (M.fit E kt k) fun _ => tiM E e fun j =>
    let give (r : Option (Nat × DV)) : M DV := match r with
      | some (_, v) => M.pure (cond ok (.tup [v, .bool true]) v)
      | none => M.pure (cond ok (.tup [zeroDV j, .bool false]) (zeroDV j))
    match m with
    | .nilm => give none
    | .map g p => M.bind (M.rdO p) fun o => match o with
      | .map g' es _ => M.bind (M.chk (Nat.beq g g')) fun _ => M.bind (M.opt (findE k es 0)) give
      | _ => M.fail
    | _ => M.fail
  | _ => M.fail

def keyOk (k : DV) : Bool := match k with
  | .int _ _ | .str _ | .bool _ => true
  | _ => false

/-- the entry at place i is written anew -/
def updE (p g c i : Nat) (k v : DV) (es : List (DV × DV × Nat)) : M Unit := fun S => match lget es i with
  | some e => lputK i [(k, v, e.2.2)] es fun es => M.wrO p (.map g es c) S
  | none => none

def opMapUpdate (t : TypeId) (m k v : DV) : M Unit := tiM E t fun i => match i.und with
  | .map kt _ => M.bind (M.fit E kt k) fun _ => match m with
    | .map g p => M.bind (M.rdO p) fun o => match o with
      | .map g' es c => M.bind (M.chk (cond (Nat.beq g g') (keyOk k) false)) fun _ => M.bind (M.opt (findE k es 0)) fun r => match r with
        | some (i, _) => updE p g' c i k v es
        | none => lappK es [(k, v, c)] fun es => M.wrO p (.map g' es (c + 1))
      | _ => M.fail
    | _ => M.fail
  | _ => M.fail

def opDelete (t : TypeId) (m k : DV) : M DV := tiM E t fun i => match i.und with
  | .map kt _ => M.bind (M.fit E kt k) fun _ => match m with
    | .map g p => M.bind (M.rdO p) fun o => match o with
      | .map g' es c => M.bind (M.chk (cond (Nat.beq g g') (keyOk k) false)) fun _ => M.bind (M.opt (findE k es 0)) fun r => match r with
        | some (i, _) => ltakeK i es fun a => lappK a (ldrop (i + 1) es) fun es => M.bind (M.wrO p (.map g' es c)) fun _ => M.pure (.tup [])
        | none => M.bind (M.wrO p (.map g' es c)) fun _ => M.pure (.tup [])
      | _ => M.fail
    | .nilm => M.pure (.tup [])
    | _ => M.fail
  | _ => M.fail

def opMakeMap : M DV := M.bind M.fresh fun pe => M.bind (M.wrO pe.1 (.map pe.2 [] 0)) fun _ => M.pure (.map pe.2 pe.1)

/-! ### 9. Calls and code -/
inductive ORes where
  | val (v : DV)
  | pan (c : List (DV × Bool))
  | dfr (fn : Fn) (captured args : List DV)

inductive AEx where
  | normal
  | exit (n : Nat)
  | ret
  | pan (c : List (DV × Bool))

def opnds (t : Tr DV) (l : List Operand) : List DV := List.rec (motive := fun _ => List DV) [] (fun o _ ih => opnd t o :: ih) l
def parts (t : Tr DV) (l : List (Nat × Operand)) : List (Nat × DV) := List.rec (motive := fun _ => List (Nat × DV)) [] (fun o _ ih => (o.1, opnd t o.2) :: ih) l

def rv (m : M DV) : M ORes := M.bind m fun v => M.pure (.val v)
def ru (m : M Unit) : M ORes := M.bind m fun _ => M.pure (.val (.tup []))

variable (callF : FuncId → List DV → M ORes)

def evBuiltin (b : Builtin) (ats : List TypeId) (args : List DV) : M ORes := match b, ats, args with
  | .len, [t], [x] => rv (opLen E t x)
  | .cap, [t], [x] => rv (opCap E t x)
  | .append, [t, u], [s, x] => rv (tiM E u fun i => match i.und with
    | .int _ => M.fail
    | _ => opAppend E t s x)
  | .copy, [t, _], [d, x] => rv (opCopy E t d x)
  | .min, _, l => rv (opMin false l)
  | .max, _, l => rv (opMin true l)
  | .delete, t :: _, [m, k] => rv (opDelete E t m k)
  | .panic, _, [x] => match x with
    | .iface t v => M.pure (.pan [(.iface t v, false)])
    | _ => M.fail
  | _, _, _ => M.fail

def evCall (t : Tr DV) (c : Call) : M ORes := match c.callee with
  | .builtin b => evBuiltin E b c.argTypes.toList (opnds t c.args.toList)
  | .value f => match opnd t f with
    | .func (.func g) first cap => lappK (opnds t c.args.toList) cap fun r => lappK first r fun r => callF g r
    | _ => M.fail
  | .invoke _ _ => M.fail

def isC (x : Operand) : Bool := match x with
  | .const _ => true
  | _ => false

def evOp (t : Tr DV) (o : Op) : M ORes := match o with
  | .move x | .assign x => rv (M.pure (opnd t x))
  | .pick c a b => match opnd t c with
    | .bool x => M.bind (M.dec x) fun x => rv (M.pure (cond x (opnd t a) (opnd t b)))
    | _ => M.fail
  | .alloc e => rv (opAlloc E e)
  | .box _ x => rv (opBox (opnd t x))
  | .build ty ps => rv (opBuild E ty (parts t ps.toList))
  | .buildSlice ty n ps => rv (opBuildSlice E ty n (parts t ps.toList))
  | .load ty x => rv (opLoad E ty (opnd t x))
  | .store ty x v => ru (opStore E ty (opnd t x) (opnd t v))
  | .nilCheck x => match opnd t x with
    | .ptr g p o => rv (M.pure (.ptr g p o))
    | .bptr a => rv (M.pure (.bptr a))
    | .func (.func f) a b => rv (M.pure (.func (.func f) a b))
    | .iface ty v => rv (M.pure (.iface ty v))
    | _ => M.fail
  | .binOp op ty x y _ => rv (opBin E op ty (isC x || isC y) (opnd t x) (opnd t y))
  | .unOp op _ x => rv (opUn op (opnd t x))
  | .convert a b x => rv (opConvert E a b (opnd t x))
  | .makeInterface ty x => rv (tiM E ty fun i => match i.und with
    | .iface => M.fail
    | _ => M.pure (.iface ty (opnd t x)))
  | .makeFunc fn a b => rv (M.pure (.func fn (opnds t a.toList) (opnds t b.toList)))
  | .makeMap _ none => rv opMakeMap
  | .makeSlice ty l c => rv (opMakeSlice E ty (opnd t l) (opnd t c))
  | .slice ty x l h m => rv (opSlice E ty (opnd t x) (l.map (opnd t)) (h.map (opnd t)) (m.map (opnd t)))
  | .fieldAddr ty x f => rv (opFieldAddr E ty (opnd t x) f)
  | .field ty x f => rv (opField E ty (opnd t x) f)
  | .indexAddr ty x i => rv (opIndexAddr E ty (opnd t x) (opnd t i))
  | .index ty x i => rv (opIndex E ty (opnd t x) (opnd t i))
  | .lookup ty x i ok => rv (opLookup E ty (opnd t x) (opnd t i) ok)
  | .mapUpdate ty m k v | .insert ty m k v => ru (opMapUpdate E ty (opnd t m) (opnd t k) (opnd t v))
  | .typeAssert x _ ty ok => rv (opAssert E (opnd t x) ty ok)
  | .extract x i => match opnd t x with
    | .tup vs => rv (M.opt (lget vs i))
    | _ => M.fail
  | .call c => evCall E callF t c
  | .panic x => match opnd t x with
    | .iface ty v => M.pure (.pan [(.iface ty v, false)])
    | _ => M.fail
  | _ => M.fail

/-- is a guarded operation wanted? -/
def wantedM (all : List Oper) (t : Tr DV) (g : Option (Nat × Bool)) : M Bool := match g with
  | none => M.pure true
  | some (j, want) => match lget all j with
    | some o => match o.dst with
      | some d => match t.get d with
        | some (.bool b) => M.bind (M.dec b) fun b => M.pure (cond b want (!want))
        | some (.tup []) => M.pure false
        | _ => M.fail
      | none => M.fail
    | none => M.fail

def putK {β : Type} (n : Nat) (t : Tr DV) (d : Option Nat) (v : DV) (k : Tr DV → M β) : M β := match d with
  | none => k t
  | some d => cond (Nat.blt d n) (Tr.setK (some v) t d k) M.fail

/-- the operations of a region, in the text's order -/
def evOps (all l : List Oper) : AF → M (AEx × AF) :=
  List.rec (motive := fun _ => AF → M (AEx × AF)) (fun a => M.pure (.normal, a))
    (fun o _ ih a => match a with
      | ⟨n, t, df⟩ => M.bind (wantedM all t o.guard) fun w => match w with
        | false => putK n t o.dst (.tup []) fun t => ih ⟨n, t, df⟩
        | true => M.bind (evOp E callF t o.op) fun r => match r with
          | .val v => putK n t o.dst v fun t => ih ⟨n, t, df⟩
          | .pan c => M.pure (.pan c, ⟨n, t, df⟩)
          | .dfr fn cap args => putK n t o.dst (.tup []) fun t => ih ⟨n, t, (fn, cap, args) :: df⟩) l

/-- what one operation of a region that draws did -/
structure Rec where
  lo : Nat
  hi : Nat
  rl : List (Nat × Nat × Nat)
  wl : List (Nat × Nat × Nat)
  wo : List Nat

def keep (thr : Nat) (l : List (Nat × Nat × Nat)) : List (Nat × Nat × Nat) :=
  List.rec (motive := fun _ => List (Nat × Nat × Nat)) [] (fun x _ ih => cond (Nat.blt x.1 thr) (x :: ih) ih) l
def keepO (thr : Nat) (l : List Nat) : List Nat :=
  List.rec (motive := fun _ => List Nat) [] (fun x _ ih => cond (Nat.blt x thr) (x :: ih) ih) l

/-- a computation with a log of its own -/
def M.op {α : Type} (m : M α) : M (α × Rec) := fun S => match S with
  | ⟨h, n, e, ⟨thr, rl, wl, wo⟩, sy⟩ => match m ⟨h, n, e, ⟨n, [], [], []⟩, sy⟩ with
    | some (a, ⟨h', n', e', ⟨_, rl', wl', wo'⟩, sy'⟩) => some ((a, ⟨n, n', rl', wl', wo'⟩), ⟨h', n', e', ⟨thr, keep thr rl' ++ rl, keep thr wl' ++ wl, keepO thr wo' ++ wo⟩, sy'⟩)
    | none => none

def anyB {α : Type} (f : α → Bool) (l : List α) : Bool := List.rec (motive := fun _ => Bool) false (fun x _ ih => cond (f x) true ih) l
/-- do two rows of cells meet? -/
def meet (x y : Nat × Nat × Nat) : Bool := cond (Nat.beq x.1 y.1) (cond (Nat.blt x.2.1 (y.2.1 + y.2.2)) (Nat.blt y.2.1 (x.2.1 + x.2.2)) false) false
/-- position p was touched (i: earlier in the text; j: later): is it of i's own making, or written whole by i? -/
def own (i : Rec) (p : Nat) : Bool := cond (Nat.ble i.lo p) (Nat.blt p i.hi) false
def has (l : List Nat) (p : Nat) : Bool := anyB (fun q => Nat.beq q p) l
/-- may the earlier operation i and the later operation j change places? -/
def apartB (i j : Rec) : Bool :=
  !(anyB (fun x => own i x.1 || has i.wo x.1 || anyB (fun y => meet x y) i.wl) j.rl ||
    anyB (fun x => own i x.1 || has i.wo x.1 || anyB (fun y => meet x y) i.wl || anyB (fun y => meet x y) i.rl) j.wl ||
    anyB (fun p => own i p || has i.wo p || anyB (fun y => Nat.beq y.1 p) i.wl || anyB (fun y => Nat.beq y.1 p) i.rl) j.wo)

/-- does j wait for i (transitively, by the marks of 'Region.before')? -/
def pairsOk (b : List Nat) (recs : List (Nat × Rec)) : Bool :=
  !anyB (fun j => anyB (fun i => cond (Nat.blt i.1 j.1) (!(Nat.testBit ((lget b j.1).getD 0) i.1) && !apartB i.2 j.2) false) recs) recs

/-- the operations of a region that draws its order, in the text's order, each with its log -/
def evDrawOps (all : List Oper) (l : List Oper) : Nat → AF → List (Nat × Rec) → M (AF × List (Nat × Rec)) :=
  List.rec (motive := fun _ => Nat → AF → List (Nat × Rec) → M (AF × List (Nat × Rec))) (fun _ a rs => M.pure (a, rs))
    (fun o _ ih i a rs => match a with
      | ⟨n, t, df⟩ => M.bind (M.op (M.bind (wantedM all t o.guard) fun w => match w with
          | false => M.pure (.val (.tup []))
          | true => evOp E callF t o.op)) fun r => match r with
        | (.val v, rc) => putK n t o.dst v fun t => ih (i + 1) ⟨n, t, df⟩ ((i, rc) :: rs)
        | _ => M.fail) l

def evDraw (ops : Array Oper) (a : AF) : M (AEx × AF) :=
  M.bind (evDrawOps E callF ops.toList ops.toList 0 a []) fun r => M.bind (M.chk (pairsOk (Region.before ops).toList r.2)) fun _ => M.pure (.normal, r.1)

def iter (body : AF → M (AEx × AF)) (f : Nat) : AF → M (AEx × AF) :=
  Nat.rec (motive := fun _ => AF → M (AEx × AF)) (fun _ => M.fail) (fun _ ih a => M.bind (body a) fun r => match r with
    | (.normal, a) => ih a
    | r => M.pure r) f

/-- code: L bounds the rounds of a loop -/
def evCode (L : Nat) (c : Code) : AF → M (AEx × AF) :=
  Code.rec (motive := fun _ => AF → M (AEx × AF))
    (fun a => M.pure (.normal, a))
    (fun _ ops draw a => cond draw (evDraw E callF ops a) (evOps E callF ops.toList ops.toList a))
    (fun _ _ ix iy a => M.bind (ix a) fun r => match r with
      | (.normal, a) => iy a
      | r => M.pure r)
    (fun c _ _ ix iy a => match opnd a.t c with
      | .bool b => M.bind (M.dec b) fun b => cond b (ix a) (iy a)
      | _ => M.fail)
    (fun i _ ix a => M.bind (ix a) fun r => match r with
      | (.exit j, a) => cond (Nat.beq j i) (M.pure (.normal, a)) (M.pure (.exit j, a))
      | r => M.pure r)
    (fun _ ix a => iter ix L a)
    (fun _ _ _ _ _ _ _ => M.fail)
    (fun i a => M.pure (.exit i, a))
    (fun _ _ _ => M.fail)
    (fun _ _ => M.fail)
    (fun _ _ => M.fail)
    (fun a => M.pure (.ret, a))
    (fun _ _ => M.fail) c

def argsK {β : Type} (args : List DV) : Nat → Tr DV → (Tr DV → β) → β :=
  List.rec (motive := fun _ => Nat → Tr DV → (Tr DV → β) → β) (fun _ t k => k t)
    (fun a _ ih n t k => Tr.setK (some a) t n fun t => ih (n + 1) t k) args

def resM (t : Tr DV) (r : ResultVar) : M DV := match r with
  | .tmp i => M.pure (opnd t (.tmp i))
  | .cell i ty => opLoad E ty (opnd t (.tmp i))
def resMs (t : Tr DV) (l : List ResultVar) : M (List DV) :=
  List.rec (motive := fun _ => M (List DV)) (M.pure []) (fun r _ ih => M.bind (resM E t r) fun v => M.bind ih fun vs => M.pure (v :: vs)) l

def finish (fn : Func) (r : AEx × AF) : M ORes := match r with
  | (e, ⟨_, t, []⟩) => match e with
    | .normal | .ret => M.bind (resMs E t fn.results.toList) fun vs => match vs with
      | [v] => M.pure (.val v)
      | vs => M.pure (.val (.tup vs))
    | .pan c => M.pure (.pan c)
    | _ => M.fail
  | _ => M.fail

/-- one call: the body of function f, its own calls carried out by callF -/
def evStep (L : Nat) (callF : FuncId → List DV → M ORes) (f : FuncId) (args : List DV) : M ORes := match E.fn.get f with
  | some fn => match fn.body with
    | some c => argsK args 0 .nil fun t => M.bind (evCode E callF L c ⟨fn.ntmps, t, []⟩) (finish E fn)
    | none => M.fail
  | none => M.fail

def evFn (L : Nat) (fuel : Nat) : FuncId → List DV → M ORes :=
  Nat.rec (motive := fun _ => FuncId → List DV → M ORes) (fun _ _ => M.fail) (fun _ ih f args => evStep E L ih f args) fuel

/-- the same, where some functions are told by contracts -/
def evT (tbl : Tr (List DV → M ORes)) (L : Nat) (fuel : Nat) : FuncId → List DV → M ORes :=
  Nat.rec (motive := fun _ => FuncId → List DV → M ORes) (fun _ _ => M.fail)
    (fun _ ih f args => match tbl.get f with
      | some c => c args
      | none => evStep E L ih f args) fuel
end

def St0 : St := ⟨.nil, 0, 0, ⟨0, [], [], []⟩, ⟨false, [], []⟩⟩
def isTrue (r : Option (ORes × St)) : Bool := match r with
  | some (.val (.bool true), _) => true
  | _ => false
end
end Go.Am
