/- The abstract machine: what each operation, region, loop and call comes to. A function of Lean that computes. -/
import Derived.Test.YtlmodlihiglnhaaALb
import Derived.Orders
set_option linter.unusedVariables false
namespace Go.AL
open Go.RowKit

/-- What is handed over, or back: a value; a slice that may be appended to; a vector, a box (by reference). -/
inductive Arg where
  | pv (p : PV)
  | bld (sz : Nat) (xs : List PV)
  | vec (sz : Nat) (xs : List PV)
  | box (cs : List PV)
  deriving Inhabited

/-- A result, and what the vectors and boxes among the arguments hold now. -/
abbrev Out := Arg × List (List PV)

def retPV : Out → Option PV
  | (.pv p, []) => some p
  | (.bld _ xs, []) => some (.lst xs)
  | _ => none
def retB (k : Nat) : Out → Option (List PV)
  | (.bld sz xs, []) => bif Nat.beq sz k then some xs else none
  | _ => none
def retV (k : Nat) : Out → Option (List PV)
  | (.vec sz xs, []) => bif Nat.beq sz k then some xs else none
  | _ => none

structure Env where
  call : FuncId → List Arg → Option Out
  heads : FuncId → Nat → Option Head
  kind : FuncId → Tmp → Nat
  mode : FuncId → Nat → Nat
  keepNil : FuncId → Bool
  retVec : FuncId → Bool
  cuts : FuncId → List (List Nat × Head)
  lend : FuncId → Tmp → Bool

/-- A call of a function value with plain arguments, and a plain result. -/
def Env.callP (E : Env) (g : PV) (ps : List PV) : Option PV :=
  match g with
  | .fn f cap => (E.call f ((ps ++ cap).map .pv)).bind retPV
  | _ => none

section
variable (P : Program) (E : Env) (f : FuncId)

def ofCell : Value → Option PV
  | .int k n => some (.int k n)
  | .bool b => some (.bool b)
  | .string s => some (.str s.data.toList)
  | .slice none 0 0 => some .nils
  | .nilIface => some .nilI
  | .nilFunc => some .nilf
  | .pointer none => some .nilp
  | _ => none
def ofCells : List Value → Option (List PV)
  | [] => some []
  | v :: l => match ofCell v, ofCells l with
    | some p, some ps => some (p :: ps)
    | _, _ => none
def PV.weak : PV → PV
  | .nils => .lst []
  | .nn xs => .lst xs
  | p => p
def ofConst : Value → Option PV
  | .agg cs => match ofCells cs.toList with | some ps => some (.agg (ps.map PV.weak)) | none => none
  | v => ofCell v

def aval (x : AS) : Operand → Option AV
  | .tmp t => x.t[t]?
  | .const v => match ofConst v with | some p => some (.pv p) | none => none
  | .func g => some (.pv (.fn g []))
  | .global _ => none

def AV.toPV : AV → Option PV
  | .pv p => some p.weak
  | .bld _ _ xs => some (.lst xs)
  | _ => none
def AV.list : AV → Option (List PV)
  | .pv (.lst xs) => some xs
  | .pv .nils => some []
  | .pv (.nn xs) => some xs
  | .bld _ _ xs => some xs
  | _ => none
def toPVs : List AV → Option (List PV)
  | [] => some []
  | a :: l => match a.toPV, toPVs l with
    | some p, some ps => some (p :: ps)
    | _, _ => none
def avals (x : AS) : List Operand → Option (List AV)
  | [] => some []
  | a :: l => match aval x a, avals x l with
    | some p, some ps => some (p :: ps)
    | _, _ => none
def AV.cellsAV : AV → Option (List AV)
  | .pv (.agg cs) => some (cs.map .pv)
  | .pv (.tup _) => none
  | .pv p => some [.pv p]
  | .agg cs => some cs
  | .undef => none
  | .any => none
  | x => some [x]
def PV.cl (x : PV) (o : Nat) : PV := match x with | .agg cs => cs.getD o .nilp | p => p
def PV.setc (x : PV) (o : Nat) (p : PV) : PV := match x with | .agg cs => .agg (cs.set o p) | _ => p

def Sh.cells : Sh → PV → List PV
  | .agg l, x => Sh.viewA l x 0
  | s, x => [s.view x]
def Sh.isAgg : Sh → Option Nat
  | .agg l => some l.length
  | _ => none
def sizeT (t : TypeId) : Nat := match P.types[t]? with | some i => i.size | none => 0
def bytesT (t : TypeId) : Nat := match P.types[t]? with | some i => i.bytes | none => 0
def zeroCells (t : TypeId) : Option (List PV) :=
  match P.types[t]? with
  | some i => match i.zero with | some z => ofCells z.cells.toList | none => none
  | none => none
def zeroPV (t : TypeId) : Option PV :=
  match P.types[t]? with
  | some i => match i.zero with | some z => ofConst z | none => none
  | none => none
def elemT (t : TypeId) : Option TypeId := match P.underlying t with | some (.slice e) => some e | _ => none

variable {ρ : Type}

def binI (op : BinOp) (k : IntKind) (x y : Int) (K : PV → Option ρ) : Option ρ :=
  match op with
  | .add => K (.int k (k.wrap (x + y)))
  | .sub => K (.int k (k.wrap (x - y)))
  | .mul => K (.int k (k.wrap (x * y)))
  | .quo => bif decide (y = 0) then none else K (.int k (k.wrap (x.tdiv y)))
  | .rem => bif decide (y = 0) then none else K (.int k (x.tmod y))
  | .and => K (.int k (k.wrap (BitVec.ofInt k.bits x &&& BitVec.ofInt k.bits y).toNat))
  | .or => K (.int k (k.wrap (BitVec.ofInt k.bits x ||| BitVec.ofInt k.bits y).toNat))
  | .xor => K (.int k (k.wrap (BitVec.ofInt k.bits x ^^^ BitVec.ofInt k.bits y).toNat))
  | .andNot => K (.int k (k.wrap (BitVec.ofInt k.bits x &&& ~~~ BitVec.ofInt k.bits y).toNat))
  | .eql => K (.bool (x == y))
  | .neq => K (.bool (x != y))
  | .lss => K (.bool (decide (x < y)))
  | .leq => K (.bool (decide (x ≤ y)))
  | .gtr => K (.bool (decide (x > y)))
  | .geq => K (.bool (decide (x ≥ y)))
  | _ => none
def binS (op : BinOp) (x y : List UInt8) (K : PV → Option ρ) : Option ρ :=
  match op with
  | .add => bif decide (x.length + y.length ≤ 2147483648) then K (.str (x ++ y)) else none
  | .eql => K (.bool (x == y))
  | .neq => K (.bool (!(x == y)))
  | .lss => K (.bool (Op.bytesLess x y))
  | .leq => K (.bool (Op.bytesLess x y || x == y))
  | .gtr => K (.bool (!(Op.bytesLess x y || x == y)))
  | .geq => K (.bool (!Op.bytesLess x y))
  | _ => none
/-- Is a slice known not to be nil? -/
def some? (xs : List PV) : Option Bool := match xs with | [] => none | _ :: _ => some true
def isSl (d : Option TypeDesc) : Bool := match d with | some (.slice _) => true | _ => false
def isBo (d : Option TypeDesc) : Bool := match d with | some .bool => true | _ => false
def isFn (d : Option TypeDesc) : Bool := match d with | some (.func ..) => true | _ => false
def binPV (d : Option TypeDesc) (op : BinOp) (a b : PV) (K : PV → Option ρ) : Option ρ :=
  match op, a, b with
  | .shl, .int k x, .int _ y => bif decide (0 ≤ y) then K (.int k (k.wrap (x * 2 ^ (min y.toNat k.bits)))) else none
  | .shr, .int k x, .int _ y => bif decide (0 ≤ y) then K (.int k (x.fdiv (2 ^ (min y.toNat k.bits)))) else none
  | _, .int k x, .int k' y => bif decide (k = k') then binI op k x y K else none
  | _, .str x, .str y => binS op x y K
  | .eql, .bool x, .bool y => bif isBo d then K (.bool (x == y)) else none
  | .neq, .bool x, .bool y => bif isBo d then K (.bool (!(x == y))) else none
  | .eql, .nils, .nils => bif isSl d then K (.bool true) else none
  | .neq, .nils, .nils => bif isSl d then K (.bool false) else none
  | .eql, .lst xs, .nils => bif isSl d then (some? xs).bind fun _ => K (.bool false) else none
  | .neq, .lst xs, .nils => bif isSl d then (some? xs).bind fun _ => K (.bool true) else none
  | .eql, .nn _, .nils => bif isSl d then K (.bool false) else none
  | .neq, .nn _, .nils => bif isSl d then K (.bool true) else none
  | _, _, _ => none
def unPV (op : UnOp) (a : PV) (K : PV → Option ρ) : Option ρ :=
  match op, a with
  | .not, .bool b => K (.bool (!b))
  | .neg, .int k n => K (.int k (k.wrap (0 - n)))
  | _, _ => none
def isByte : PV → Bool
  | .int .u8 _ => true
  | _ => false
def toByte (p : PV) : UInt8 := UInt8.ofNat p.toInt.toNat
def isStr (d : Option TypeDesc) : Bool := match d with | some .string => true | _ => false
def isU8 (d : Option TypeDesc) : Bool := match d with | some (.int .u8) => true | _ => false
def convPV (src dst : TypeId) (a : PV) (K : PV → Option ρ) : Option ρ :=
  match P.underlying src, P.underlying dst, a with
  | some _, some (.int k), .int _ n => K (.int k (k.wrap n))
  | some .string, some .string, .str s => K (.str s)
  | some (.slice e), some .string, .lst xs => bif isU8 (P.underlying e) then bif xs.all isByte then K (.str (xs.map toByte)) else none else none
  | some .string, some (.slice e), .str s => bif isU8 (P.underlying e) && Nat.beq (sizeT P e) 1 then bif decide (s.length ≤ 2147483648) then K (.lst (s.map fun c => .int .u8 c.toNat)) else none else none
  | _, _, _ => none

def setAt {α : Type} (cs : List α) (off : Nat) : List α → List α
  | [] => cs
  | v :: l => setAt (cs.set off v) (off + 1) l
/-- parts laid over cells, as the machine's 'fill' does it -/
def fillP (place : Nat → Option (Nat × Nat)) (cells : List PV) : List (Nat × PV) → Option (List PV)
  | [] => some cells
  | (i, v) :: rest => match place i with
    | none => none
    | some (off, size) => bif Nat.beq v.cells.length size && Nat.ble (off + v.cells.length) cells.length then fillP place (setAt cells off v.cells) rest else none
def partsPV (av : Operand → Option AV) : List (Nat × Operand) → Option (List (Nat × PV))
  | [] => some []
  | (i, o) :: l => match av o, partsPV av l with
    | some a, some ps => match a.toPV with | some (.tup _) => none | some p => some ((i, p) :: ps) | none => none
    | _, _ => none
def placesL : List Field → Option (List (Nat × Nat))
  | [] => some []
  | f :: l => match P.types[f.type]?, placesL l with
    | some i, some ps => some ((f.offset, i.size) :: ps)
    | _, _ => none
def fieldPlaces (t : TypeId) : Option (List (Nat × Nat)) :=
  match P.underlying t with
  | some (.struct fs) => placesL P fs.toList
  | _ => none
/-- elements by whole parts -/
def fillE (sz : Nat) (xs : List PV) : List (Nat × PV) → Option (List PV)
  | [] => some xs
  | (i, p) :: rest => bif Nat.beq p.cells.length sz && Nat.blt i xs.length then fillE sz (xs.set i p) rest else none

def headOk (sz : Nat) (xs : List PV) : Bool := match xs with | [] => true | x :: _ => Nat.beq x.cells.length sz
def sliceL (xs : List PV) (lo hi : Option Int) (K : List PV → Option ρ) : Option ρ :=
  match lo, hi with
  | none, none => K xs
  | some l, none => bif decide (0 ≤ l) && decide (l ≤ xs.length) then K (xs.drop l.toNat) else none
  | none, some h => bif decide (0 ≤ h) && decide (h ≤ xs.length) then K (xs.take h.toNat) else none
  | some l, some h => bif decide (0 ≤ l) && decide (l ≤ h) && decide (h ≤ xs.length) then K ((xs.take h.toNat).drop l.toNat) else none
def sliceS (xs : List UInt8) (lo hi : Option Int) (K : List UInt8 → Option ρ) : Option ρ :=
  match lo, hi with
  | none, none => K xs
  | some l, none => bif decide (0 ≤ l) && decide (l ≤ xs.length) then K (xs.drop l.toNat) else none
  | none, some h => bif decide (0 ≤ h) && decide (h ≤ xs.length) then K (xs.take h.toNat) else none
  | some l, some h => bif decide (0 ≤ l) && decide (l ≤ h) && decide (h ≤ xs.length) then K ((xs.take h.toNat).drop l.toNat) else none
def bound (av : Operand → Option AV) : Option Operand → Option (Option Int)
  | none => some none
  | some o => match av o with | some (.pv (.int .i64 n)) => some (some n) | _ => none

/-- Operations that depend on their operands alone. -/
def effP (av : Operand → Option AV) (op : Op) (ty : TypeId) (dst : Option Tmp) (K : AV → Option ρ) : Option ρ :=
  match op with
  | .move a | .assign a => match av a with | some v => K v | none => none
  | .pick c a b => match av c with
    | some (.pv (.bool c)) => bif c then (match av a with | some v => K v | none => none) else (match av b with | some v => K v | none => none)
    | _ => none
  | .build t parts => match fieldPlaces P t, zeroCells P t, partsPV av parts.toList with
    | some pl, some z, some ps => match fillP (fun i => pl[i]?) (z.map PV.weak) ps with | some cs => K (.pv (.agg cs)) | none => none
    | _, _, _ => none
  | .buildSlice t n parts => match elemT P t with
    | some e => match zeroPV P e, partsPV av parts.toList with
      | some z, some ps => bif Nat.ble (n * sizeT P e) 65536 && Nat.blt 0 (sizeT P e) then (match fillE (sizeT P e) (List.replicate n z) ps with | some xs => K (.pv (.lst xs)) | none => none) else none
      | _, _ => none
    | none => none
  | .nilCheck a => match av a with
    | some (.box i off) => K (.box i off)
    | some (.pv (.ptr cs)) => K (.pv (.ptr cs))
    | some (.pv (.fn g cap)) => K (.pv (.fn g cap))
    | _ => none
  | .binOp op t a b _ => match av a, av b with
    | some (.pv a), some (.pv b) => binPV (P.underlying t) op a b fun p => K (.pv p)
    | some (.bld _ _ xs), some (.pv b) => binPV (P.underlying t) op (.lst xs) b fun p => K (.pv p)
    | _, _ => none
  | .unOp op _ a => match av a with | some (.pv a) => unPV op a fun p => K (.pv p) | _ => none
  | .convert s d a => match av a with
    | some (.pv a) => convPV P s d a.weak fun p => K (.pv p)
    | some (.bld _ _ xs) => convPV P s d (.lst xs) fun p => K (.pv p)
    | _ => none
  | .fieldAddr s a i => match P.underlying s with
    | some (.struct fs) => match fs[i]? with
      | some fd => bif Nat.beq (sizeT P fd.type) 0 then none else match av a with
        | some (.pv (.ptr cs)) => K (.pv (.ptr (cs.drop fd.offset)))
        | some (.box i off) => K (.box i (off + fd.offset))
        | some (.elt i v j k) => K (.elt i v j (k + fd.offset))
        | _ => none
      | none => none
    | _ => none
  | .field s a i => match P.underlying s with
    | some (.struct fs) => match fs[i]?, av a with
      | some fd, some (.pv (.agg cs)) => match zeroPV P fd.type with
        | none => none
        | some _ => match (shOf P fd.type).isAgg with
          | some n => bif Nat.ble (fd.offset + n) cs.length then K (.pv (.agg ((cs.drop fd.offset).take n))) else none
          | none => match cs[fd.offset]? with | some c => K (.pv c) | none => none
      | _, _ => none
    | _ => none
  | .indexAddr t a i => match elemT P t, av a, av i with
    | some e, some a, some (.pv (.int .i64 i)) => match a.list, zeroPV P e with
      | some xs, some _ => bif decide (0 ≤ i) then (xs[i.toNat]?).bind fun x => bif (shOf P e).fits x then K (.pv (.ptr ((shOf P e).cells x))) else none else none
      | _, _ => none
    | _, _, _ => none
  | .index t a i => match P.underlying t, av a, av i with
    | some .string, some (.pv (.str s)), some (.pv (.int .i64 i)) => bif decide (0 ≤ i) then (s[i.toNat]?).bind fun c => K (.pv (.int .u8 c.toNat)) else none
    | _, _, _ => none
  | .extract a i => match av a with
    | some (.pv (.tup cs)) => match cs[i]? with | some c => K (.pv c) | none => none
    | _ => none
  | .slice t a lo hi mx => match mx with
    | some _ => none
    | none => match P.underlying t with
      | some .string => match av a, bound av lo, bound av hi with
        | some (.pv (.str s)), some lo, some hi => sliceS s lo hi fun s => K (.pv (.str s))
        | _, _, _ => none
      | some (.slice e) => match zeroPV P e with
        | none => none
        | some _ => match av a, bound av lo, bound av hi with
          | some (.bld i v xs), some lo, some none => bif headOk (sizeT P e) xs then sliceL xs lo none fun xs => K (.bld i v xs) else none
          | some b, some lo, some hi => match b.list with | some xs => bif headOk (sizeT P e) xs then sliceL xs lo hi fun xs => K (.pv (.lst xs)) else none | none => none
          | _, _, _ => none
      | _ => none
  | .makeFunc (.func g) first caps => bif first.isEmpty then (match caps.toList.mapM av with
      | some l => match toPVs l with | some ps => K (.pv (.fn g ps)) | none => none
      | none => none) else none
  | .call c => match c.callee with
    | .builtin .len => match c.args.toList, c.argTypes.toList with
      | [a], [t] => match P.underlying t, av a with
        | some .string, some (.pv (.str s)) => K (.pv (.int .i64 s.length))
        | some (.slice _), some v => match v.list with | some xs => K (.pv (.int .i64 xs.length)) | none => none
        | _, _ => none
      | _, _ => none
    | .builtin .max => match c.args.toList.mapM av with
      | some [.pv (.int k x), .pv (.int k' y)] => bif decide (k = k') then K (.pv (.int k (bif decide (y > x) then y else x))) else none
      | some [.pv (.int k x), .pv (.int k' y), .pv (.int k'' z)] => bif decide (k = k') && decide (k = k'') then K (.pv (.int k (bif decide (z > (bif decide (y > x) then y else x)) then z else (bif decide (y > x) then y else x)))) else none
      | _ => none
    | .builtin .min => match c.args.toList.mapM av with
      | some [.pv (.int k x), .pv (.int k' y)] => bif decide (k = k') then K (.pv (.int k (bif decide (y < x) then y else x))) else none
      | _ => none
    | .builtin _ => none
    | .invoke .. => none
    | .value g => match av g, c.args.toList.mapM av with
      | some (.pv g), some l => match toPVs l with
        | some ps => (E.callP g ps).bind fun r => bif (shRes P ty).fits r then K (.pv ((shRes P ty).view r)) else none
        | none => none
      | _, _ => none
  | _ => none

/-! ### Operations on the store -/
def loadAV (t : TypeId) (a : AV) (s : St) (K : AV → Option ρ) : Option ρ :=
  match zeroPV P t with
  | none => none
  | some _ => match a with
    | .pv (.ptr cs) => match (shOf P t).isAgg with
      | some n => bif Nat.ble n cs.length then K (.pv (.agg (cs.take n))) else none
      | none => match cs with | c :: _ => K (.pv c) | [] => none
    | .box i off => match s.bx[i]? with
      | some (_, cs) => match (shOf P t).isAgg with
        | some n => bif Nat.ble (off + n) cs.length then (match toPVs ((cs.drop off).take n) with | some ps => K (.pv (.agg ps)) | none => none) else none
        | none => match cs[off]? with | some c => bif c.cell then K c else none | none => none
      | none => none
    | .elt i ver j o => match s.vc[i]? with
      | some (some (cur, _, xs)) => bif Nat.beq cur ver then (xs[j]?).bind fun x => match (shOf P t).isAgg with
        | some _ => bif Nat.beq o 0 && (shOf P t).fits x then K (.pv ((shOf P t).view x)) else none
        | none => bif Nat.blt o x.cells.length && (shOf P t).fits (x.cl o) then K (.pv ((shOf P t).view (x.cl o))) else none
        else none
      | _ => none
    | _ => none

def storeAV (t : TypeId) (a v : AV) (s : St) (K : St → Option ρ) : Option ρ :=
  match zeroPV P t with
  | none => none
  | some _ => match a with
    | .box i off => match s.bx[i]?, v.cellsAV with
      | some (z, cs), some vs => bif !z && Nat.beq vs.length (sizeT P t) && Nat.ble (off + vs.length) cs.length && vs.all AV.cell then K { s with bx := s.bx.set i (false, setAt cs off vs) } else none
      | _, _ => none
    | .elt i ver j o => match s.vc[i]?, v with
      | some (some (cur, sz, xs)), .pv p => bif Nat.beq cur ver then (xs[j]?).bind fun x => match (shOf P t).isAgg with
        | some _ => bif Nat.beq o 0 && (shOf P t).fits x && (shOf P t).fits p then K { s with vc := s.vc.set i (some (cur, sz, xs.set j p)) } else none
        | none => bif Nat.blt o x.cells.length && p.one then K { s with vc := s.vc.set i (some (cur, sz, xs.set j (x.setc o p))) } else none
        else none
      | _, _ => none
    | _ => none

def small (n m bytes : Nat) : Bool := decide ((n + m) * bytes ≤ 141000000000000)


def appendAV (t : TypeId) (a b : AV) (s : St) (K : AV → St → Option ρ) : Option ρ :=
  match elemT P t with
  | none => none
  | some e => match b.list, a, zeroPV P e with
    | some ys, .bld i v xs, some _ => match s.tp[i]? with
      | some (cur, sz) => bif Nat.beq cur v && Nat.beq sz (sizeT P e) && Nat.ble (bytesT P e) 65536 && Nat.blt 0 (bytesT P e) then bif headOk sz ys then bif small xs.length ys.length (bytesT P e) then K (.bld i (v + 1) (xs ++ ys)) { s with tp := s.tp.set i (v + 1, sz) } else none else none else none
      | none => none
    | some ys, .pv .nils, some _ => bif Nat.ble (bytesT P e) 65536 && Nat.blt 0 (sizeT P e) && Nat.blt 0 (bytesT P e) then bif headOk (sizeT P e) ys then bif small 0 ys.length (bytesT P e) then K (.bld s.tp.length 0 ys) { s with tp := s.tp ++ [(0, sizeT P e)] } else none else none else none
    | _, _, _ => none

/-- How an argument is handed over: as a value, or as a slice that may be appended to. -/
def pass (mode : Nat) (v : AV) (s : St) : Option (Arg × List Nat × St) :=
  match mode, v with
  | 0, .vec i ver => match s.vc[i]? with
    | some (some (cur, _, xs)) => bif Nat.beq cur ver then some (.pv (.lst xs), [], { s with vc := s.vc.set i none }) else none
    | _ => none
  | 0, v => match v.toPV with | some p => some (.pv p, [], s) | none => none
  | k + 1, .pv .nils => bif Nat.blt 0 k then some (.bld k [], [], s) else none
  | k + 1, .bld i ver xs => match s.tp[i]? with
    | some (cur, sz) => bif Nat.beq cur ver && Nat.beq sz k then some (.bld sz xs, [i], s) else none
    | none => none
  | _, _ => none
def passAll (g : FuncId) : Nat → List AV → St → Option (List Arg × List Nat × St)
  | _, [], s => some ([], [], s)
  | i, v :: l, s => match pass (E.mode g i) v s with
    | some (a, is, s1) => match passAll g (i + 1) l s1 with
      | some (as, js, s2) => some (a :: as, is ++ js, s2)
      | none => none
    | none => none
def bump1 (i : Nat) (tp : List (Nat × Nat)) : List (Nat × Nat) := match tp[i]? with | some (c, sz) => tp.set i (c + 1, sz) | none => tp
def bumpAll : List Nat → List (Nat × Nat) → List (Nat × Nat)
  | [], tp => tp
  | i :: l, tp => bumpAll l (bump1 i tp)
def St.given (s : St) (ids : List Nat) : St := { s with tp := bumpAll ids s.tp }

def pubAll : List AV → St → Option (List PV × St)
  | [], s => some ([], s)
  | v :: l, s => match pass 0 v s with
    | some (.pv p, _, s1) => match pubAll l s1 with | some (ps, s2) => some (p :: ps, s2) | none => none
    | _ => none

/-- Shapes of values that lie in no memory. -/
def Sh.flatC : Sh → Bool
  | .int _ => true
  | .bool => true
  | .str => true
  | _ => false
def Sh.flat : Sh → Bool
  | .agg l => l.all Sh.flatC
  | .tup l => l.all Sh.flatC
  | s => s.flatC
def Sh.isTup : Sh → Bool
  | .tup _ => true
  | _ => false

def lendAt (dst : Option Tmp) : Bool := match dst with | some d => E.lend f d | none => false

def aggAt (dst : Option Tmp) : Bool := match dst with | some d => Nat.beq (E.kind f d) 3 | none => false
/-- A struct that is loaded as it is, whatever its cells hold. -/
def loadAgg (t : TypeId) (a : AV) (s : St) (K : AV → Option ρ) : Option ρ :=
  match a, zeroPV P t, (shOf P t).isAgg with
  | .box i off, some _, some n => match s.bx[i]? with
    | some (_, cs) => bif Nat.ble (off + n) cs.length && ((cs.drop off).take n).all AV.cell then K (.agg ((cs.drop off).take n)) else none
    | none => none
  | _, _, _ => none
def partsAV (av : Operand → Option AV) : List (Nat × Operand) → Option (List (Nat × List AV))
  | [] => some []
  | (i, o) :: l => match av o, partsAV av l with
    | some a, some ps => match a.cellsAV with | some cs => bif cs.all AV.cell then some ((i, cs) :: ps) else none | none => none
    | _, _ => none
def fillA (place : Nat → Option (Nat × Nat)) (cells : List AV) : List (Nat × List AV) → Option (List AV)
  | [] => some cells
  | (i, vs) :: rest => match place i with
    | none => none
    | some (off, size) => bif Nat.beq vs.length size && Nat.ble (off + vs.length) cells.length then fillA place (setAt cells off vs) rest else none
def buildAV (av : Operand → Option AV) (t : TypeId) (parts : List (Nat × Operand)) (K : AV → Option ρ) : Option ρ :=
  match fieldPlaces P t, zeroCells P t, partsAV av parts with
  | some pl, some z, some ps => match fillA (fun i => pl[i]?) (z.map .pv) ps with | some cs => K (.agg cs) | none => none
  | _, _, _ => none
def appendVec (t : TypeId) (j ver : Nat) (b : AV) (s : St) (K : AV → St → Option ρ) : Option ρ :=
  match elemT P t with
  | none => none
  | some e => match b.list, s.vc[j]?, zeroPV P e with
    | some ys, some (some (cur, sz, xs)), some _ => bif Nat.beq cur ver && Nat.beq sz (sizeT P e) && Nat.ble (bytesT P e) 65536 && Nat.blt 0 (bytesT P e) then bif headOk sz ys then bif small xs.length ys.length (bytesT P e) then K (.vec j (ver + 1)) { s with vc := s.vc.set j (some (ver + 1, sz, xs ++ ys)) } else none else none else none
    | _, _, _ => none

def newVec (s : St) (sz : Nat) (xs : List PV) (K : AV → St → Option ρ) : Option ρ := K (.vec s.vc.length 0) { s with vc := s.vc ++ [some (0, sz, xs)] }
def newTip (s : St) (sz : Nat) (xs : List PV) (K : AV → St → Option ρ) : Option ρ := K (.bld s.tp.length 0 xs) { s with tp := s.tp ++ [(0, sz)] }

/-- A captured variable: a value, or a box that never changes from now on. -/
def capture (v : AV) (s : St) : Option (PV × St) :=
  match v with
  | .box i 0 => match s.bx[i]? with
    | some (_, cs) => match toPVs cs with
      | some ps => some (.ptr ps, { s with bx := s.bx.set i (true, cs) })
      | none => none
    | none => none
  | v => match v.toPV with | some p => some (p, s) | none => none
def captures : List AV → St → Option (List PV × St)
  | [], s => some ([], s)
  | v :: l, s => match capture v s with
    | some (p, s1) => match captures l s1 with
      | some (ps, s2) => some (p :: ps, s2)
      | none => none
    | none => none

/-- Operations that look at the store, or change it. -/
def effS (x : AS) (op : Op) (ty : TypeId) (dst : Option Tmp) (K : AV → St → Option ρ) : Option ρ :=
  match op with
  | .alloc t => match zeroCells P t with
    | some cs => K (.box x.s.bx.length 0) { x.s with bx := x.s.bx ++ [(false, cs.map .pv)] }
    | none => none
  | .box t a => match aval x a with
    | some v => match v.cellsAV with
      | some cs => bif Nat.beq cs.length (sizeT P t) && cs.all AV.cell then K (.box x.s.bx.length 0) { x.s with bx := x.s.bx ++ [(false, cs)] } else none
      | none => none
    | none => none
  | .build t parts => buildAV P (aval x) t parts.toList fun v => K v x.s
  | .load t a => match aval x a with | some a => bif aggAt E f dst then loadAgg P t a x.s fun v => K v x.s else loadAV P t a x.s fun v => K v x.s | none => none
  | .store t a v => match aval x a, aval x v with | some a, some v => storeAV P t a v x.s fun s => K .undef s | _, _ => none
  | .makeSlice t l c => match elemT P t, aval x l, aval x c with
    | some e, some (.pv (.int .i64 n)), some (.pv (.int .i64 m)) => match zeroPV P e with
      | some z => bif decide (0 ≤ n) && decide (n ≤ m) && decide (m ≤ 2147483648) && Nat.ble (bytesT P e) 65536 && Nat.blt 0 (sizeT P e) then (match dst with
        | some d => bif Nat.beq (E.kind f d) 1 then newTip x.s (sizeT P e) (List.replicate n.toNat z) K else newVec x.s (sizeT P e) (List.replicate n.toNat z) K
        | none => none) else none
      | none => none
    | _, _, _ => none
  | .buildSlice t n parts => match elemT P t with
    | some e => match zeroPV P e, partsPV (aval x) parts.toList with
      | some z, some ps => bif Nat.ble (n * sizeT P e) 65536 && Nat.blt 0 (sizeT P e) then (match fillE (sizeT P e) (List.replicate n z) ps, dst with
        | some xs, some d => bif Nat.beq (E.kind f d) 2 then newVec x.s (sizeT P e) xs K else newTip x.s (sizeT P e) xs K
        | _, _ => none) else none
      | _, _ => none
    | none => none
  | .indexAddr t a i => match elemT P t, aval x a, aval x i with
    | some e, some (.vec j ver), some (.pv (.int .i64 i)) => match x.s.vc[j]? with
      | some (some (cur, sz, xs)) => bif Nat.beq cur ver && Nat.beq sz (sizeT P e) then bif decide (0 ≤ i) && decide (i < xs.length) then K (.elt j ver i.toNat 0) x.s else none else none
      | _ => none
    | _, _, _ => none
  | .slice t a lo hi mx => match elemT P t, mx, aval x a, bound (aval x) lo, bound (aval x) hi with
    | some e, none, some (.vec j ver), some lo, some hi => match x.s.vc[j]? with
      | some (some (cur, sz, xs)) => bif Nat.beq cur ver && Nat.beq sz (sizeT P e) then sliceL xs lo hi fun xs => K (.vec j (ver + 1)) { x.s with vc := x.s.vc.set j (some (ver + 1, sz, xs)) } else none
      | _ => none
    | _, _, _, _, _ => none
  | .makeFunc (.func g) first caps => bif first.isEmpty then (match caps.toList.mapM (aval x) with
      | some l => match captures l x.s with | some (ps, s) => K (.pv (.fn g ps)) s | none => none
      | none => none) else none
  | .call c => match c.callee with
    | .builtin .append => match c.args.toList, c.argTypes.toList with
      | [a, b], [t, t'] => bif Nat.beq t t' then (match aval x a, aval x b with | some (.vec j ver), some b => appendVec P t j ver b x.s K | some a, some b => appendAV P t a b x.s K | _, _ => none) else none
      | _, _ => none
    | .builtin .len => match c.args.toList, c.argTypes.toList with
      | [a], [t] => match P.underlying t, aval x a with
        | some (.slice _), some (.vec j ver) => match x.s.vc[j]? with
          | some (some (cur, _, xs)) => bif Nat.beq cur ver then K (.pv (.int .i64 xs.length)) x.s else none
          | _ => none
        | _, _ => none
      | _, _ => none
    | .builtin _ => none
    | .invoke .. => none
    | .value (.func g) => match c.args.toList.mapM (aval x) with
      | some l => bif lendAt E f dst then (match pubAll l x.s, dst with
        | some (ps, _), some d => match E.kind f d, elemT P ty with
          | 1, some e => (E.call g (ps.map .pv)).bind fun r => (retB (sizeT P e) r).bind fun xs => bif (shOf P e).flat && !(shOf P e).isTup && xs.all (shOf P e).fits then newTip x.s (sizeT P e) xs K else none
          | _, _ => (E.call g (ps.map .pv)).bind fun r => (retPV r).bind fun r => bif (shRes P ty).flat && (shRes P ty).fits r then K (.pv ((shRes P ty).view r)) x.s else none
        | _, _ => none) else match passAll E g 0 l x.s with
        | some (as, ids, s) => bif nodup ids then (match dst with
          | some d => match E.kind f d, elemT P ty with
            | 2, some e => (E.call g as).bind fun r => (retV (sizeT P e) r).bind fun xs => newVec (s.given ids) (sizeT P e) xs K
            | 1, some e => (E.call g as).bind fun r => (retB (sizeT P e) r).bind fun xs => newTip (s.given ids) (sizeT P e) xs K
            | _, _ => (E.call g as).bind fun r => (retPV r).bind fun r => bif (shRes P ty).fits r then K (.pv ((shRes P ty).view r)) (s.given ids) else none
          | none => none) else none
        | none => none
      | none => none
    | .value _ => none
  | _ => none

/-- Which operations depend on their operands alone. -/
def isP : Op → Bool
  | .move _ | .assign _ | .pick .. | .build .. | .buildSlice .. | .nilCheck _ | .binOp .. | .unOp .. | .convert .. | .fieldAddr .. | .field .. | .indexAddr .. | .index .. | .extract .. | .slice .. | .makeFunc .. => true
  | .call c => match c.callee with
    | .builtin .append => false
    | _ => true
  | _ => false
def plain (o : Oper) : Bool := isP o.op && (match o.dst with | some d => Nat.beq (E.kind f d) 0 | none => true) && !lendAt E f o.dst

def eff (o : Oper) (x : AS) (K : AV → St → Option ρ) : Option ρ :=
  bif plain E f o then effP P E (aval x) o.op o.type o.dst fun v => K v x.s else effS P E f x o.op o.type o.dst K

/-- A list of operations, one behind the other. -/
def effs (all : Array Oper) : List Oper → AS → (AS → Option ρ) → Option ρ
  | [], x, K => K x
  | o :: rest, x, K => match o.guard with
    | none => eff P E f o x fun v s => effs all rest ({ x with s := s }.put o.dst v) K
    | some (j, want) => match (all[j]?).bind (·.dst) with
      | none => none
      | some d => match x.t[d]? with
        | some (.pv (.bool g)) => bif g
          then (bif want then eff P E f o (x.put (some d) (.pv (.bool true))) fun v s => effs all rest ({ x.put (some d) (.pv (.bool true)) with s := s }.put o.dst v) K else effs all rest ((x.put (some d) (.pv (.bool true))).put o.dst .undef) K)
          else (bif want then effs all rest ((x.put (some d) (.pv (.bool false))).put o.dst .undef) K else eff P E f o (x.put (some d) (.pv (.bool false))) fun v s => effs all rest ({ x.put (some d) (.pv (.bool false)) with s := s }.put o.dst v) K)
        | some .undef => effs all rest (x.put o.dst .undef) K
        | _ => none

/-- What is done behind a piece of code. -/
structure Ks (ρ : Type) where
  normal : AS → Option ρ
  exits : List (Nat × (AS → Option ρ))
  ret : AS → Option ρ

def exitK : List (Nat × (AS → Option ρ)) → Nat → AS → Option ρ
  | [], _, _ => none
  | (j, k) :: l, i, x => bif Nat.beq j i then k x else exitK l i x

/-! ### A region whose order is drawn: what each operation looks at and changes; every order comes to the same -/
def mem (l : List Nat) (i : Nat) : Bool := match l with | [] => false | j :: l => Nat.beq j i || mem l i
def ons : List Edge → List Nat
  | [] => []
  | e :: l => bif Region.binds .any e then e.on :: ons l else ons l
/-- What must have come up ahead. -/
def preOf (acc : List (List Nat)) : List Nat → List Nat
  | [] => []
  | i :: l => i :: (acc.getD i [] ++ preOf acc l)
def pres (acc : List (List Nat)) : List Oper → List (List Nat)
  | [] => acc
  | o :: l => pres (acc ++ [preOf acc (ons o.after.toList)]) l
def dstIs (d : Nat) (o : Oper) : Bool := match o.dst with | some e => Nat.beq e d | none => false
/-- Slots: whoever writes what another looks at, or writes, is ordered with it. -/
def slotsOk (looks : List Nat) (dst : Option Nat) (p : List Nat) (i : Nat) (ps : List (List Nat)) : List Oper → Nat → Bool
  | [], _ => true
  | o :: l, j => (match o.dst with
      | none => true
      | some d => Nat.beq j i || !(mem looks d || (match dst with | some e => Nat.beq e d | none => false)) || (bif Nat.blt j i then mem p j else mem (ps.getD j []) i)) && slotsOk looks dst p i ps l (j + 1)
def drawOkL (all : Array Oper) (ps : List (List Nat)) : List Oper → Nat → Bool
  | [], _ => true
  | o :: l, i => (ons o.after.toList).all (fun j => Nat.blt j i) && slotsOk (o.looksAt all) o.dst (ps.getD i []) i ps all.toList 0 && drawOkL all ps l (i + 1)

structure Fp where
  r : List Nat
  w : List Nat
  tv : Bool
  deriving Inhabited
def Fp.meets (f g : Fp) : Bool := (f.tv && g.tv) || f.w.any (fun b => mem g.r b || mem g.w b) || g.w.any (fun b => mem f.r b)
def okFp (p : List Nat) (fp : Fp) : List Fp → Nat → Bool
  | [], _ => true
  | g :: l, j => (!(Fp.meets g fp) || mem p j) && okFp p fp l (j + 1)

def isAlloc : Op → Bool
  | .alloc _ => true
  | .box .. => true
  | _ => false
def avR (looks : List Nat) (x : AS) : Operand → Option AV
  | .tmp t => bif mem looks t then x.t[t]? else none
  | y => aval x y

/-- An operation of such a region: its value, the store, what it looked at. 'b': the box that is kept for it. -/
def effD (all : Array Oper) (b : Nat) (o : Oper) (x : AS) (K : AV → St → Fp → Option ρ) : Option ρ :=
  bif plain E f o then effP P E (avR (o.looksAt all) x) o.op o.type o.dst fun v => K v x.s ⟨[], [], false⟩
  else match o.op with
    | .alloc t => match zeroCells P t, x.s.bx[b]? with
      | some cs, some (true, []) => K (.box b 0) { x.s with bx := x.s.bx.set b (false, cs.map .pv) } ⟨[], [b], false⟩
      | _, _ => none
    | .box t a => match avR (o.looksAt all) x a, x.s.bx[b]? with
      | some v, some (true, []) => match v.cellsAV with
        | some cs => bif Nat.beq cs.length (sizeT P t) && cs.all AV.cell then K (.box b 0) { x.s with bx := x.s.bx.set b (false, cs) } ⟨[], [b], false⟩ else none
        | none => none
      | _, _ => none
    | .load t a => match avR (o.looksAt all) x a with
      | some (.box i off) => loadAV P t (.box i off) x.s fun v => K v x.s ⟨[i], [], false⟩
      | some (.pv p) => loadAV P t (.pv p) x.s fun v => K v x.s ⟨[], [], false⟩
      | some (.elt i ver j k) => loadAV P t (.elt i ver j k) x.s fun v => K v x.s ⟨[], [], true⟩
      | _ => none
    | .store t a v => match avR (o.looksAt all) x a, avR (o.looksAt all) x v with
      | some (.box i off), some v => storeAV P t (.box i off) v x.s fun s => K .undef s ⟨[], [i], false⟩
      | some (.elt i ver j k), some v => storeAV P t (.elt i ver j k) v x.s fun s => K .undef s ⟨[], [], true⟩
      | _, _ => none
    | .build t parts => buildAV P (avR (o.looksAt all) x) t parts.toList fun v => K v x.s ⟨[], [], false⟩
    | .indexAddr t a i => match elemT P t, avR (o.looksAt all) x a, avR (o.looksAt all) x i with
      | some e, some (.vec j ver), some (.pv (.int .i64 i)) => match x.s.vc[j]? with
        | some (some (cur, sz, xs)) => bif Nat.beq cur ver && Nat.beq sz (sizeT P e) then bif decide (0 ≤ i) && decide (i < xs.length) then K (.elt j ver i.toNat 0) x.s ⟨[], [], true⟩ else none else none
        | _ => none
      | _, _, _ => none
    | .buildSlice t n parts => match elemT P t with
      | some e => match zeroPV P e, partsPV (avR (o.looksAt all) x) parts.toList with
        | some z, some ps => bif Nat.ble (n * sizeT P e) 65536 && Nat.blt 0 (sizeT P e) then (match fillE (sizeT P e) (List.replicate n z) ps with
          | some xs => K (.bld x.s.tp.length 0 xs) { x.s with tp := x.s.tp ++ [(0, sizeT P e)] } ⟨[], [], true⟩
          | none => none) else none
        | _, _ => none
      | none => none
    | .call c => match c.callee with
      | .builtin .append => match c.args.toList, c.argTypes.toList with
        | [a, b], [t, t'] => bif Nat.beq t t' then (match avR (o.looksAt all) x a, avR (o.looksAt all) x b with | some a, some b => appendAV P t a b x.s fun v s => K v s ⟨[], [], true⟩ | _, _ => none) else none
        | _, _ => none
      | .value (.func g) => match c.args.toList.mapM (avR (o.looksAt all) x), o.dst with
        | some l, some d => bif lendAt E f (some d) then (match pubAll l x.s with
            | some (ps, _) => match E.kind f d, elemT P o.type with
              | 1, some e => (E.call g (ps.map .pv)).bind fun r => (retB (sizeT P e) r).bind fun xs => bif (shOf P e).flat && !(shOf P e).isTup && xs.all (shOf P e).fits then K (.bld x.s.tp.length 0 xs) { x.s with tp := x.s.tp ++ [(0, sizeT P e)] } ⟨[], [], true⟩ else none
              | _, _ => (E.call g (ps.map .pv)).bind fun r => (retPV r).bind fun r => bif (shRes P o.type).flat && (shRes P o.type).fits r then K (.pv ((shRes P o.type).view r)) x.s ⟨[], [], true⟩ else none
            | none => none)
          else match passAll E g 0 l x.s, elemT P o.type with
          | some (as, ids, s), some e => bif nodup ids then (match E.kind f d with
              | 1 => (E.call g as).bind fun r => (retB (sizeT P e) r).bind fun xs => newTip (s.given ids) (sizeT P e) xs fun v s => K v s ⟨[], [], true⟩
              | 2 => (E.call g as).bind fun r => (retV (sizeT P e) r).bind fun xs => newVec (s.given ids) (sizeT P e) xs fun v s => K v s ⟨[], [], true⟩
              | _ => none) else none
          | _, _ => none
        | _, _ => none
      | _ => none
    | _ => none

def effsD (all : Array Oper) (ps : List (List Nat)) (np : Nat) : List Oper → Nat → List Fp → AS → (AS → Option ρ) → Option ρ
  | [], _, _, x, K => K x
  | o :: rest, i, fps, x, K => match o.guard with
    | none => effD P E f all (np + i) o x fun v s fp => bif okFp (ps.getD i []) fp fps 0 then effsD all ps np rest (i + 1) (fps ++ [fp]) ({ x with s := s }.put o.dst v) K else none
    | some (j, want) => match (all[j]?).bind (·.dst) with
      | none => none
      | some d => match x.t[d]? with
        | some (.pv (.bool g)) => bif g
          then (bif want then effD P E f all (np + i) o (x.put (some d) (.pv (.bool true))) fun v s fp => bif okFp (ps.getD i []) fp fps 0 then effsD all ps np rest (i + 1) (fps ++ [fp]) ({ x.put (some d) (.pv (.bool true)) with s := s }.put o.dst v) K else none
            else effsD all ps np rest (i + 1) (fps ++ [⟨[], [], false⟩]) ((x.put (some d) (.pv (.bool true))).put o.dst .undef) K)
          else (bif want then effsD all ps np rest (i + 1) (fps ++ [⟨[], [], false⟩]) ((x.put (some d) (.pv (.bool false))).put o.dst .undef) K
            else effD P E f all (np + i) o (x.put (some d) (.pv (.bool false))) fun v s fp => bif okFp (ps.getD i []) fp fps 0 then effsD all ps np rest (i + 1) (fps ++ [fp]) ({ x.put (some d) (.pv (.bool false)) with s := s }.put o.dst v) K else none)
        | some .undef => effsD all ps np rest (i + 1) (fps ++ [⟨[], [], false⟩]) (x.put o.dst .undef) K
        | _ => none

def pending (ops : List Oper) : Nat := bif ops.any (fun o => isAlloc o.op) then ops.length else 0
def draw (ops : Array Oper) (x : AS) (K : AS → Option ρ) : Option ρ :=
  bif drawOkL ops (pres [] ops.toList) ops.toList 0 then
    effsD P E f ops (pres [] ops.toList) x.s.bx.length ops.toList 0 [] { x with s := { x.s with bx := x.s.bx ++ List.replicate (pending ops.toList) (true, []) } } K
  else none

/-- Places at which what is known is cut down to what is told: a path (0, 1: of a sequence; 2, 3: of a choice; 4: of a block; 5: of a loop), and a head. -/
abbrev Cuts := List (List Nat × Head)
def down (d : Nat) : Cuts → Cuts
  | [] => []
  | (p, h) :: l => match p with
    | [] => down d l
    | e :: p => bif Nat.beq d e then (p, h) :: down d l else down d l
def here : Cuts → Option Head
  | [] => none
  | (p, h) :: l => match p with
    | [] => some h
    | _ :: _ => here l
def cutK (c : Option Head) (g : AS → Option ρ) (x : AS) : Option ρ := match c with | some h => (x.head h).bind g | none => g x

/-- A piece of code. 'n': how many rounds a loop may take; 'bid': the block that stands around. -/
def exec (n : Nat) : Code → Nat → Cuts → Ks ρ → AS → Option ρ
  | .skip, _, _, k, x => k.normal x
  | .label _, _, _, k, x => k.normal x
  | .region _ ops drawn, _, _, k, x => bif drawn then draw P E f ops x k.normal else effs P E f ops ops.toList x k.normal
  | .seq a b, bid, ct, k, x => exec n a bid (down 0 ct) { k with normal := fun x => cutK (here (down 1 ct)) (fun x => exec n b bid (down 1 ct) k x) x } x
  | .cond c a b, bid, ct, k, x => match aval x c with
    | some (.pv (.bool c)) => bif c then exec n a bid (down 2 ct) k x else exec n b bid (down 3 ct) k x
    | _ => none
  | .block i b, _, ct, k, x => exec n b i (down 4 ct) { k with exits := (i, k.normal) :: k.exits } x
  | .loop b, bid, ct, k, x => match E.heads f bid with
    | some h => (x.head h).bind fun x => Nat.rec (motive := fun _ => AS → Option ρ) (fun _ => none) (fun _ again x => exec n b bid (down 5 ct) { k with normal := fun x => (x.head h).bind again } x) n x
    | none => none
  | .exit i, _, _, k, x => exitK k.exits i x
  | .ret, _, _, k, x => k.ret x
  | _, _, _, _, _ => none

/-! ### Calls -/
def enterT : List Arg → St → List AV × St
  | [], s => ([], s)
  | .pv p :: l, s => let r := enterT l s; (.pv p :: r.1, r.2)
  | .bld sz xs :: l, s => let r := enterT l { s with tp := s.tp ++ [(0, sz)] }; (.bld s.tp.length 0 xs :: r.1, r.2)
  | .vec sz xs :: l, s => let r := enterT l { s with vc := s.vc ++ [some (0, sz, xs)] }; (.vec s.vc.length 0 :: r.1, r.2)
  | .box cs :: l, s => let r := enterT l { s with bx := s.bx ++ [(false, cs.map .pv)] }; (.box s.bx.length 0 :: r.1, r.2)

def resAV (x : AS) : ResultVar → Option AV
  | .tmp t => x.t[t]?
  | .cell a t => match x.t[a]? with
    | some v => match loadAV P t v x.s some with | some r => some r | none => loadAgg P t v x.s some
    | none => none
def resAVs (x : AS) : List ResultVar → Option (List AV)
  | [] => some []
  | r :: l => match resAV P x r, resAVs x l with
    | some v, some vs => some (v :: vs)
    | _, _ => none
def outOf (ty : TypeId) (v : AV) (s : St) : Option Out :=
  match v with
  | .pv .nils => bif E.keepNil f then some (.pv .nils, []) else match elemT P ty with | some e => bif Nat.blt 0 (sizeT P e) then (bif E.retVec f then some (.vec (sizeT P e) [], []) else some (.bld (sizeT P e) [], [])) else none | none => some (.pv .nils, [])
  | .pv p => some (.pv p, [])
  | .bld i ver xs => match s.tp[i]? with
    | some (cur, sz) => bif Nat.beq cur ver then some (.bld sz xs, []) else some (.pv (.lst xs), [])
    | none => some (.pv (.lst xs), [])
  | .vec i ver => match s.vc[i]? with
    | some (some (cur, sz, xs)) => bif Nat.beq cur ver then (bif E.retVec f then some (.vec sz xs, []) else some (.pv (.lst xs), [])) else none
    | _ => none
  | .agg cs => match pubAll cs s with | some (ps, _) => some (.pv (.agg ps), []) | none => none
  | _ => none
def results (fn : Func) (x : AS) : Option Out :=
  match resAVs P x fn.results.toList with
  | some [v] => outOf P E f (fn.resultTypes.getD 0 0) v x.s
  | some vs => match pubAll vs x.s with | some (ps, _) => some (.pv (.tup ps), []) | none => none
  | none => none

def plainArg : Arg → Bool
  | .pv _ => true
  | .bld sz _ => Nat.blt 0 sz
  | _ => false

def run (n : Nat) (args : List Arg) : Option Out :=
  match P.funcs[f]? with
  | some fn => match fn.body with
    | some c => bif args.all plainArg then
        let r := enterT args ⟨[], [], []⟩
        exec P E f n c 0 (E.cuts f) ⟨results P E f fn, [], results P E f fn⟩ ⟨r.1 ++ List.replicate (fn.ntmps - r.1.length) .undef, r.2⟩
      else none
    | none => none
  | none => none
end

structure Tab where
  heads : FuncId → Nat → Option Head
  kind : FuncId → Tmp → Nat
  mode : FuncId → Nat → Nat
  keepNil : FuncId → Bool
  retVec : FuncId → Bool
  cuts : FuncId → List (List Nat × Head)
  lend : FuncId → Tmp → Bool
  prim : FuncId → Option ((FuncId → List Arg → Option Out) → List Arg → Option Out)

def envOf (T : Tab) (call : FuncId → List Arg → Option Out) : Env := ⟨call, T.heads, T.kind, T.mode, T.keepNil, T.retVec, T.cuts, T.lend⟩

/-- A call, of so many calls within one another and rounds of a loop at the most. -/
def acall (P : Program) (T : Tab) : Nat → FuncId → List Arg → Option Out
  | 0, _, _ => none
  | n + 1, f, args => match T.prim f with
    | some g => g (acall P T n) args
    | none => run P (envOf T (acall P T n)) f n args

def pcall (P : Program) (T : Tab) (n : Nat) (f : FuncId) (args : List PV) : Option PV := (acall P T n f (args.map .pv)).bind retPV

end Go.AL
