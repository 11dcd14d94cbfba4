/- The abstract machine: values, rows with versions, the operations of a region as plain functions, code as a plain function. Nothing here is trusted; E1 to E4 prove that what it tells is what the model's machine does. -/
import Derived.Calls
import Derived.Orders
namespace Go.Proofs.Ytchapaejdgnihaa.E
open Go

/-- One cell's value. A pointer or a slice names an object, the object's version at which it was made, and a place in cells; a slice its length in elements. -/
inductive SV where
  | int (k : IntKind) (n : Int)
  | bool (b : Bool)
  | nilPtr
  | ptr (id ver off : Nat)
  | nilSlice
  | slice (id ver off len : Nat)
  | nilFunc
  | func (f : FuncId) (caps : List (Nat × Nat × Nat))
  | undef
  deriving Inhabited

/-- A slot's value. -/
inductive AV where
  | s (v : SV)
  | agg (l : List SV)
  | tuple (l : List AV)
  | unk
  deriving Inhabited

/-- An object: its cells, how many cells an element has, the elements' type, the version, is it the call's own, its capacity (in elements) where it is known. -/
structure AObj where
  cells : List SV
  size : Nat
  elem : TypeId
  ver : Nat
  own : Bool
  cap : Option Nat

structure AMem where
  next : Nat
  obj : Nat → Option AObj

def AMem.set (μ : AMem) (id : Nat) (o : AObj) : AMem := { next := μ.next, obj := fun j => if j = id then some o else μ.obj j }
def AMem.bump (μ : AMem) (n : Nat) : AMem := { next := μ.next + n, obj := μ.obj }

abbrev Env := Nat → AV
def Env.put (e : Env) (d : Option Nat) (v : AV) : Env := match d with | none => e | some d => fun s => bif Nat.beq s d then v else e s
def constA : Value → AV
  | .int k n => .s (.int k n)
  | .bool b => .s (.bool b)
  | .pointer none => .s .nilPtr
  | .slice none 0 0 => .s .nilSlice
  | .nilFunc => .s .nilFunc
  | _ => .unk
def evalA (e : Env) : Operand → AV
  | .tmp t => e t
  | .const v => constA v
  | .global _ => .unk
  | .func f => .s (.func f [])

def AV.cells : AV → Option (List SV)
  | .s v => some [v]
  | .agg l => some l
  | _ => none

/-! ### Operations that do not look at memory. Each hands what it tells to K; nothing is told where the machine would panic or where we do not follow it. -/
section
variable {R : Type}

def intK (op : BinOp) (k : IntKind) (a b : Int) (K : SV → Option R) : Option R :=
  match op with
  | .add => K (.int k (k.wrap (a + b)))
  | .sub => K (.int k (k.wrap (a - b)))
  | .mul => K (.int k (k.wrap (a * b)))
  | .quo => if b = 0 then none else K (.int k (k.wrap (a.tdiv b)))
  | .rem => if b = 0 then none else K (.int k (a.tmod b))
  | .and => K (.int k (k.wrap (BitVec.ofInt k.bits a &&& BitVec.ofInt k.bits b).toNat))
  | .or => K (.int k (k.wrap (BitVec.ofInt k.bits a ||| BitVec.ofInt k.bits b).toNat))
  | .xor => K (.int k (k.wrap (BitVec.ofInt k.bits a ^^^ BitVec.ofInt k.bits b).toNat))
  | .andNot => K (.int k (k.wrap (BitVec.ofInt k.bits a &&& ~~~BitVec.ofInt k.bits b).toNat))
  | .eql => K (.bool (a == b))
  | .neq => K (.bool (a != b))
  | .lss => K (.bool (a < b))
  | .leq => K (.bool (a ≤ b))
  | .gtr => K (.bool (a > b))
  | .geq => K (.bool (a ≥ b))
  | .shl | .shr => none
def shiftK (op : BinOp) (k : IntKind) (a b : Int) (K : SV → Option R) : Option R :=
  match op with
  | .shl => if b < 0 then none else K (.int k (k.wrap (a * 2 ^ min b.toNat k.bits)))
  | .shr => if b < 0 then none else K (.int k (a.fdiv (2 ^ min b.toNat k.bits)))
  | _ => none
def isShift : BinOp → Bool
  | .shl | .shr => true
  | _ => false
/-- A number of a kind. -/
def asI (k : IntKind) (v : AV) (K : Int → Option R) : Option R :=
  match v with
  | .s (.int k' n) => if k' = k then K n else none
  | _ => none
/-- One cell's value. -/
def asS (v : AV) (K : SV → Option R) : Option R :=
  match v with
  | .s x => K x
  | _ => none
def asB (v : AV) (K : Bool → Option R) : Option R :=
  match v with
  | .s (.bool b) => K b
  | _ => none
/-- A number of whatever kind. -/
def asN (v : AV) (K : Int → Option R) : Option R :=
  match v with
  | .s (.int _ n) => K n
  | _ => none
/-- Is a pointer nil? -/
def isNil : AV → Option Bool
  | .s .nilPtr => some true
  | .s (.ptr _ _ _) => some false
  | _ => none
def binK (P : Program) (op : BinOp) (t : TypeId) (x y : AV) (K : AV → Option R) : Option R :=
  match P.underlying t with
  | some (.int k) => bif isShift op then asI k x fun a => asN y fun b => shiftK op k a b fun v => K (.s v)
      else asI k x fun a => asI k y fun b => intK op k a b fun v => K (.s v)
  | some .bool => match op with
    | .eql => asB x fun a => asB y fun b => K (.s (.bool (a == b)))
    | .neq => asB x fun a => asB y fun b => K (.s (.bool (!(a == b))))
    | _ => none
  | some (.pointer _) => match op, y with
    | .eql, .s .nilPtr => (isNil x).bind fun b => K (.s (.bool b))
    | .neq, .s .nilPtr => (isNil x).bind fun b => K (.s (.bool (!b)))
    | _, _ => none
  | _ => none
def unK (op : UnOp) (v : AV) (K : AV → Option R) : Option R :=
  match op with
  | .neg => match v with
    | .s (.int k n) => K (.s (.int k (k.wrap (0 - n))))
    | _ => none
  | .xor => match v with
    | .s (.int k n) => K (.s (.int k (k.wrap (BitVec.ofInt k.bits (if k.signed then -1 else k.max) ^^^ BitVec.ofInt k.bits n).toNat)))
    | _ => none
  | .not => asB v fun b => K (.s (.bool (!b)))
  | _ => none
def convK (P : Program) (src dst : TypeId) (v : AV) (K : AV → Option R) : Option R :=
  match P.underlying src, P.underlying dst with
  | some (.int _), some (.int k) => asN v fun n => K (.s (.int k (k.wrap n)))
  | _, _ => none
/-- What is no nil. -/
def nonNil (v : AV) (K : Option R) : Option R :=
  match v with
  | .s (.ptr _ _ _) => K
  | .s (.func _ _) => K
  | _ => none
/-- How many cells a type's value has. -/
def sizeA (P : Program) (t : TypeId) : Option Nat := (P.info? t).map (·.size)
def aggA (P : Program) (t : TypeId) : Option Bool :=
  match P.underlying t with
  | some (.struct _) | some (.array _ _) => some true
  | some _ => some false
  | none => none
/-- A pointer so many cells on. -/
def ptrAdd (n : Nat) (v : AV) (K : AV → Option R) : Option R :=
  match v with
  | .s (.ptr id ver off) => K (.s (.ptr id ver (off + n)))
  | _ => none
def fieldK (P : Program) (st : TypeId) (f : Nat) (v : AV) (K : AV → Option R) : Option R :=
  match P.underlying st with
  | some (.struct fs) => match fs[f]? with
    | some fd => match sizeA P fd.type with
      | some (_ + 1) => ptrAdd fd.offset v K
      | _ => none
    | none => none
  | _ => none
/-- A field of a struct's value. -/
def aggAt (off : Nat) (v : AV) (K : AV → Option R) : Option R :=
  match v with
  | .agg l => match l[off]? with
    | some x => K (.s x)
    | none => none
  | _ => none
def aggCut (off n : Nat) (v : AV) (K : AV → Option R) : Option R :=
  match v with
  | .agg l => K (.agg ((l.drop off).take n))
  | _ => none
def partK (P : Program) (st : TypeId) (f : Nat) (v : AV) (K : AV → Option R) : Option R :=
  match P.underlying st with
  | some (.struct fs) => match fs[f]? with
    | some fd => match aggA P fd.type, sizeA P fd.type with
      | some true, some n => aggCut fd.offset n v K
      | some false, some _ => aggAt fd.offset v K
      | _, _ => none
    | none => none
  | _ => none
/-- The place of a slice's element, its elements of n cells; of an array's. -/
def indS (n : Nat) (v : AV) (i : Int) (K : AV → Option R) : Option R :=
  match v with
  | .s (.slice id ver off len) => if 0 ≤ i ∧ i < len then K (.s (.ptr id ver (off + i.toNat * n))) else none
  | _ => none
def indP (len n : Nat) (v : AV) (i : Int) (K : AV → Option R) : Option R :=
  match v with
  | .s (.ptr id ver off) => if 0 ≤ i ∧ i < len then K (.s (.ptr id ver (off + i.toNat * n))) else none
  | _ => none
def indexK (P : Program) (t : TypeId) (v i : AV) (K : AV → Option R) : Option R :=
  match P.underlying t with
  | some (.slice e) => match sizeA P e with
    | some n => asN i fun i => indS n v i K
    | none => none
  | some (.array len e) => match sizeA P e with
    | some n => asN i fun i => indP len n v i K
    | none => none
  | _ => none
/-- 'v[l:h]', 'v[l:]'. -/
def cutS (n : Nat) (v : AV) (l h : Int) (K : AV → Option R) : Option R :=
  match v with
  | .s (.slice id ver off len) => if 0 ≤ l ∧ l ≤ h ∧ h ≤ len then K (.s (.slice id ver (off + l.toNat * n) (h.toNat - l.toNat))) else none
  | .s .nilSlice => if l = 0 ∧ h = 0 then K (.s .nilSlice) else none
  | _ => none
def lenS : AV → Option Nat
  | .s (.slice _ _ _ len) => some len
  | .s .nilSlice => some 0
  | _ => none
def sliceK (P : Program) (t : TypeId) (lo hi : Option AV) (v : AV) (K : AV → Option R) : Option R :=
  match P.underlying t with
  | some (.slice e) => match sizeA P e with
    | some (k + 1) => match lo, hi with
      | none, none => (lenS v).bind fun h => cutS (k + 1) v 0 h K
      | some a, none => asN a fun l => (lenS v).bind fun h => cutS (k + 1) v l h K
      | none, some b => asN b fun h => cutS (k + 1) v 0 h K
      | some a, some b => asN a fun l => asN b fun h => cutS (k + 1) v l h K
    | _ => none
  | _ => none
def lenK (P : Program) (t : TypeId) (v : AV) (K : AV → Option R) : Option R :=
  match P.underlying t with
  | some (.slice _) => (lenS v).bind fun n => K (.s (.int .i64 n))
  | _ => none
def extrK (i : Nat) (v : AV) (K : AV → Option R) : Option R :=
  match v with
  | .tuple l => match l[i]? with
    | some x => K x
    | none => none
  | _ => none
def pickK (c a b : AV) (K : AV → Option R) : Option R := asB c fun t => bif t then K a else K b
def minK (x y : AV) (K : AV → Option R) : Option R :=
  match x, y with
  | .s (.int k x), .s (.int k' y) => if k = k' then K (.s (.int k (if y < x then y else x))) else none
  | _, _ => none
def maxK (x y : AV) (K : AV → Option R) : Option R :=
  match x, y with
  | .s (.int k x), .s (.int k' y) => if k = k' then K (.s (.int k (if y > x then y else x))) else none
  | _, _ => none
def foldMin (K : AV → Option R) : AV → List AV → Option R
  | a, [] => K a
  | a, b :: l => minK a b fun c => foldMin K c l
def foldMax (K : AV → Option R) : AV → List AV → Option R
  | a, [] => K a
  | a, b :: l => maxK a b fun c => foldMax K c l
/-- A value as its type has it. -/
def viewK (P : Program) (t : TypeId) (v : AV) (K : AV → Option R) : Option R :=
  match P.underlying t with
  | some (.int k) => asI k v fun n => K (.s (.int k n))
  | some .bool => asB v fun b => K (.s (.bool b))
  | some (.slice _) | some (.pointer _) | some (.func _ _ _) => asS v fun x => K (.s x)
  | _ => K v
end

/-- Cells written over others, from a place on. -/
def overA (cs : List SV) (at_ : Nat) (new : List SV) : List SV := cs.take at_ ++ new ++ cs.drop (at_ + new.length)
/-- A literal's parts laid over its zero cells. -/
def fillA (place : Nat → Option (Nat × Nat)) : List SV → List (Nat × AV) → Option (List SV)
  | cs, [] => some cs
  | cs, (i, v) :: r => (place i).bind fun (off, n) => v.cells.bind fun l => if l.length = n ∧ off + n ≤ cs.length then fillA place (overA cs off l) r else none
def svOf : AV → Option SV
  | .s x => some x
  | _ => none
def svsOf : List Value → Option (List SV)
  | [] => some []
  | v :: r => (svOf (constA v)).bind fun x => (svsOf r).map (x :: ·)
/-- A type's zero cells. -/
def zeroA (P : Program) (t : TypeId) : Option (List SV) :=
  ((P.info? t).bind (·.zero)).bind fun z => svsOf z.cells.toList
def fieldsAt (P : Program) (fs : Array Field) (i : Nat) : Option (Nat × Nat) := (fs[i]?).bind fun f => (sizeA P f.type).map fun n => (f.offset, n)
def buildV (P : Program) (t : TypeId) (parts : List (Nat × AV)) : Option AV :=
  match P.underlying t with
  | some (.struct fs) => if fs.all (fun f => (sizeA P f.type).isSome) = true then (zeroA P t).bind fun z => (fillA (fieldsAt P fs) z parts).map .agg else none
  | some (.array _ e) => (zeroA P t).bind fun z => (sizeA P e).bind fun n => (fillA (fun i => some (i * n, n)) z parts).map .agg
  | _ => none
def capsA : List AV → Option (List (Nat × Nat × Nat))
  | [] => some []
  | .s (.ptr id ver off) :: r => (capsA r).map fun l => (id, ver, off) :: l
  | _ :: _ => none

section
variable {R : Type}
/-- What does not look at memory. -/
def pureK (P : Program) (ev : Operand → AV) (op : Op) (ty : TypeId) (K : AV → Option R) : Option R :=
  match op with
  | .move x | .assign x => K (ev x)
  | .pick c a b => pickK (ev c) (ev a) (ev b) K
  | .nilCheck x => nonNil (ev x) (K (ev x))
  | .binOp op t x y _ => binK P op t (ev x) (ev y) K
  | .unOp op _ x => unK op (ev x) K
  | .convert s d x => convK P s d (ev x) K
  | .fieldAddr st x f => fieldK P st f (ev x) K
  | .field st x f => partK P st f (ev x) fun v => viewK P ty v K
  | .indexAddr t x i => indexK P t (ev x) (ev i) K
  | .slice t x lo hi none => sliceK P t (lo.map ev) (hi.map ev) (ev x) K
  | .extract x i => extrK i (ev x) fun v => viewK P ty v K
  | .build t ps => (buildV P t (ps.toList.map fun p => (p.1, ev p.2))).bind K
  | .makeFunc (.func f) first caps => bif first.isEmpty then (capsA (caps.toList.map ev)).bind fun l => K (.s (.func f l)) else none
  | .call { callee := .builtin .len, args, argTypes } => match args.toList, argTypes.toList with
    | [x], [t] => lenK P t (ev x) K
    | _, _ => none
  | .call { callee := .builtin .min, args, argTypes := _ } => match args.toList with
    | x :: r => foldMin K (ev x) (r.map ev)
    | _ => none
  | .call { callee := .builtin .max, args, argTypes := _ } => match args.toList with
    | x :: r => foldMax K (ev x) (r.map ev)
    | _ => none
  | _ => none
end

/-! ### Memory -/
def AMem.cell (μ : AMem) (id ver off : Nat) : Option SV := (μ.obj id).bind fun o => if o.ver = ver then o.cells[off]? else none
def AMem.loadN (μ : AMem) (id ver off : Nat) : Nat → Option (List SV)
  | 0 => some []
  | n + 1 => (μ.cell id ver off).bind fun v => (AMem.loadN μ id ver (off + 1) n).map (v :: ·)
/-- Cells of an object of the call's own are written. -/
def AMem.store (μ : AMem) (id ver off : Nat) (l : List SV) : Option AMem :=
  (μ.obj id).bind fun o => if o.own = true ∧ o.ver = ver ∧ off + l.length ≤ o.cells.length then some (μ.set id { o with cells := overA o.cells off l }) else none
/-- The cells of a slice's first n elements, of size cells each. -/
def AMem.row (μ : AMem) (size : Nat) (n : Nat) : AV → Option (List SV)
  | .s (.slice id ver off len) => (μ.obj id).bind fun o =>
    if o.ver = ver ∧ n ≤ len ∧ off + n * size ≤ o.cells.length then some ((o.cells.drop off).take (n * size)) else none
  | .s .nilSlice => some []
  | _ => none
def zerosA (z : List SV) : Nat → List SV
  | 0 => []
  | n + 1 => z ++ zerosA z n
def rowObj (cs : List SV) (size : Nat) (e : TypeId) (cap : Option Nat) : AObj := { cells := cs, size := size, elem := e, ver := 0, own := true, cap := cap }
def newVer (o : AObj) (cs : List SV) : AObj := { o with cells := cs, ver := o.ver + 1, cap := none }

section
variable {R : Type}
def loadAt (μ : AMem) (v : AV) (K : AV → Option R) : Option R :=
  match v with
  | .s (.ptr id ver off) => (μ.cell id ver off).bind fun x => K (.s x)
  | _ => none
def loadsAt (μ : AMem) (n : Nat) (v : AV) (K : AV → Option R) : Option R :=
  match v with
  | .s (.ptr id ver off) => (μ.loadN id ver off n).bind fun l => K (.agg l)
  | _ => none
def loadK (P : Program) (t : TypeId) (μ : AMem) (v : AV) (K : AV → Option R) : Option R :=
  match aggA P t, sizeA P t with
  | some true, some n => loadsAt μ n v K
  | some false, some _ => loadAt μ v K
  | _, _ => none
def storeAt (n : Nat) (μ : AMem) (p v : AV) (K : AMem → Option R) : Option R :=
  match p with
  | .s (.ptr id ver off) => match v.cells with
    | some l => if l.length = n then (μ.store id ver off l).bind K else none
    | none => none
  | _ => none
def storeK (P : Program) (t : TypeId) (μ : AMem) (p v : AV) (K : AMem → Option R) : Option R :=
  match sizeA P t with
  | some n => storeAt n μ p v K
  | none => none

/-- A new object, and the value that leads to it. -/
def boxV (t : TypeId) (nid : Nat) (v : AV) (K : AObj → AV → Option R) : Option R :=
  match v.cells with
  | some l => K (rowObj l l.length t (some 1)) (.s (.ptr nid 0 0))
  | none => none
def makeV (e n bytes : Nat) (z : List SV) (nid : Nat) (l c : Int) (K : AObj → AV → Option R) : Option R :=
  if 0 ≤ l ∧ l ≤ c ∧ c ≤ 9223372036854775807 ∧ bytes * c ≤ 140737488355328 then K (rowObj (zerosA z c.toNat) n e (some c.toNat)) (.s (.slice nid 0 0 l.toNat)) else none
def allocK (P : Program) (ev : Operand → AV) (nid : Nat) (op : Op) (K : AObj → AV → Option R) : Option R :=
  match op with
  | .box t x => boxV t nid (ev x) K
  | .alloc t => (zeroA P t).bind fun l => K (rowObj l l.length t (some 1)) (.s (.ptr nid 0 0))
  | .buildSlice t len ps => match P.underlying t with
    | some (.slice e) => (sizeA P e).bind fun n => (zeroA P e).bind fun z =>
      if z.length = n ∧ 0 < n ∧ len * n ≤ 16777216 then
        (fillA (fun i => some (i * n, n)) (zerosA z len) (ps.toList.map fun p => (p.1, ev p.2))).bind fun cs =>
          K (rowObj cs n e (some len)) (.s (.slice nid 0 0 len))
      else none
    | _ => none
  | .makeSlice t l c => match P.underlying t with
    | some (.slice e) => (P.info? e).bind fun i => (zeroA P e).bind fun z =>
      if z.length = i.size ∧ 0 < i.size then asN (ev l) fun l => asN (ev c) fun c => makeV e i.size i.bytes z nid l c K else none
    | _ => none
  | _ => none

/-- append: to nil, or to a row of the call's own that begins its object. What was the row's is the row's in a new version. -/
def appendS (e size bytes : Nat) (nid : Nat) (μ : AMem) (x : AV) (m : Nat) (new : List SV) (K : AV → AMem → Option R) : Option R :=
  match x with
  | .s .nilSlice =>
    if m * bytes ≤ 140737488355328 ∧ m ≤ 9223372036854775807 then
      if m = 0 then K (.s .nilSlice) μ else K (.s (.slice nid 0 0 m)) (μ.set nid (rowObj new size e none))
    else none
  | .s (.slice id ver 0 len) => (μ.obj id).bind fun o =>
    if o.own = true ∧ o.ver = ver ∧ o.size = size ∧ o.elem = e ∧ len * size ≤ o.cells.length ∧ (len + m) * bytes ≤ 140737488355328 ∧ len + m ≤ 9223372036854775807 then
      if m = 0 then K (.s (.slice id ver 0 len)) μ
      else K (.s (.slice id (ver + 1) 0 (len + m))) (μ.set id (newVer o (o.cells.take (len * size) ++ new)))
    else none
  | _ => none
def appendA (e size bytes : Nat) (nid : Nat) (μ : AMem) (x y : AV) (K : AV → AMem → Option R) : Option R :=
  (lenS y).bind fun m => (μ.row size m y).bind fun new => appendS e size bytes nid μ x m new K
/-- 'append(x, make([]T, n)...)'. -/
def appendZ (e size bytes : Nat) (z : List SV) (nid : Nat) (μ : AMem) (x : AV) (n : Int) (K : AV → AMem → Option R) : Option R :=
  if 0 ≤ n ∧ n ≤ 9223372036854775807 then appendS e size bytes nid μ x n.toNat (zerosA z n.toNat) K else none
def appendK (P : Program) (t u : TypeId) (nid : Nat) (μ : AMem) (x y : AV) (K : AV → AMem → Option R) : Option R :=
  match P.underlying t with
  | some (.slice e) => (P.info? e).bind fun i => (zeroA P e).bind fun z =>
    if z.length = i.size ∧ 0 < i.size then
      match P.underlying u with
      | some (.slice _) => appendA e i.size i.bytes nid μ x y K
      | _ => none
    else none
  | _ => none
/-- copy: what is written, and how much. -/
def copyA (size : Nat) (μ : AMem) (x y : AV) (K : AV → AMem → Option R) : Option R :=
  (lenS x).bind fun n => (lenS y).bind fun m => if min m n = 0 then K (.s (.int .i64 0)) μ else (μ.row size (min m n) y).bind fun new =>
    match x with
    | .s (.slice id ver off _) => (μ.store id ver off new).bind fun μ' => K (.s (.int .i64 (min m n : Nat))) μ'
    | _ => none
def capA (μ : AMem) (v : AV) (K : AV → Option R) : Option R :=
  match v with
  | .s .nilSlice => K (.s (.int .i64 0))
  | .s (.slice id ver 0 _) => (μ.obj id).bind fun o => if o.ver = ver then o.cap.bind fun c => K (.s (.int .i64 (c : Nat))) else none
  | _ => none
/-- What writes, or asks for a capacity. -/
def effK (P : Program) (ev : Operand → AV) (nid : Nat) (μ : AMem) (op : Op) (K : AV → AMem → Option R) : Option R :=
  match op with
  | .store t p x => storeK P t μ (ev p) (ev x) fun μ' => K (.tuple []) μ'
  | .call { callee := .builtin .append, args, argTypes } => match args.toList, argTypes.toList with
    | [x, y], [t, u] => appendK P t u nid μ (ev x) (ev y) K
    | _, _ => none
  | .call { callee := .builtin .copy, args, argTypes } => match args.toList, argTypes.toList with
    | [x, y], [t, _] => match P.underlying t with
      | some (.slice e) => match sizeA P e with
        | some (n + 1) => copyA (n + 1) μ (ev x) (ev y) K
        | _ => none
      | _ => none
    | _, _ => none
  | .call { callee := .builtin .cap, args, argTypes } => match args.toList, argTypes.toList with
    | [x], [t] => match P.underlying t with
      | some (.slice _) => capA μ (ev x) fun v => K v μ
      | _ => none
    | _, _ => none
  | _ => none
end

/-- What functions do: arguments, memory; the answer, and memory. -/
abbrev FunA := List AV → AMem → Option (AV × AMem)
section
variable {R : Type}
def callV (Γ : FuncId → FunA) (f : AV) (as : List AV) (μ : AMem) (K : AV → AMem → Option R) : Option R :=
  match f with
  | .s (.func g caps) => (Γ g (as ++ caps.map fun c => .s (.ptr c.1 c.2.1 c.2.2)) μ).bind fun r => K r.1 r.2
  | _ => none
def callK (P : Program) (Γ : FuncId → FunA) (ev : Operand → AV) (μ : AMem) (op : Op) (ty : TypeId) (K : AV → AMem → Option R) : Option R :=
  match op with
  | .call { callee := .value f, args, argTypes := _ } => callV Γ (ev f) (args.toList.map ev) μ fun v μ' => viewK P ty v fun v => K v μ'
  | _ => none
end

inductive Kd where
  | pur | lod | alc | eff | cal
  deriving DecidableEq
def kdOf : Op → Kd
  | .load _ _ => .lod
  | .box _ _ | .alloc _ | .buildSlice _ _ _ | .makeSlice _ _ _ => .alc
  | .store _ _ _ => .eff
  | .call { callee := .builtin b, .. } => match b with
    | .append | .copy | .cap => .eff
    | _ => .pur
  | .call _ => .cal
  | _ => .pur

section
variable {R : Type}
/-- One operation that is carried out. -/
def stepK (P : Program) (Γ : FuncId → FunA) (e : Env) (nid : Nat) (μ : AMem) (o : Oper) (K : AV → AMem → Option R) : Option R :=
  match kdOf o.op with
  | .pur => pureK P (evalA e) o.op o.type fun v => K v μ
  | .lod => match o.op with
    | .load t x => loadK P t μ (evalA e x) fun v => viewK P o.type v fun v => K v μ
    | _ => none
  | .alc => allocK P (evalA e) nid o.op fun ob v => K v (μ.set nid ob)
  | .eff => effK P (evalA e) nid μ o.op fun v μ' => viewK P o.type v fun v => K v μ'
  | .cal => callK P Γ (evalA e) μ o.op o.type K

/-- A test of a slot. -/
def condK (v : AV) (X Y : Option R) : Option R :=
  match v with
  | .s (.bool t) => bif t then X else Y
  | _ => none
/-- A guard's slot: X where it tells what is wanted; Y where it tells the other; Z where it was not carried out itself. -/
def guardK (want : Bool) (v : AV) (X Y Z : Option R) : Option R :=
  match v with
  | .s (.bool b) => bif (bif want then b else !b) then X else Y
  | .tuple [] => Z
  | _ => none
def guardedK (ops : Array Oper) (e : Env) (o : Oper) (X Y : Env → Option R) : Option R :=
  match o.guard with
  | none => X e
  | some (j, want) => match (ops[j]?).bind (·.dst) with
    | none => none
    | some d => guardK want (e d) (X (e.put (some d) (.s (.bool want)))) (Y (e.put (some d) (.s (.bool (!want))))) (Y e)
end

/-! ### Regions -/
/-- What a load has read: the operation, the type, the pointer, the value. -/
abbrev Rec := Nat × TypeId × AV × AV
open Classical in
noncomputable def checkA {α : Type} (p : Prop) (x : Option α) : Option α := if p then x else none
theorem checkA_pos {α : Type} {p : Prop} (h : p) (x : Option α) : checkA p x = x := if_pos h
theorem checkA_some {α : Type} {p : Prop} {x : Option α} {r : α} (h : checkA p x = some r) : p ∧ x = some r := by
  unfold checkA at h; split at h
  · exact ⟨‹_›, h⟩
  · cases h
/-- What was read is read still. -/
noncomputable def stillA {α : Type} (P : Program) (μ : AMem) : List Rec → Option α → Option α
  | [], x => x
  | r :: D, x => checkA (loadK P r.2.1 μ r.2.2.1 some = some r.2.2.2) (stillA P μ D x)

/-- The operations of a region, one behind the other; then K. -/
def runA {R : Type} (P : Program) (Γ : FuncId → FunA) (ops : Array Oper) (N : Nat) (K : Env → AMem → Option R) : List Nat → Env → AMem → Option R
  | [], e, μ => K e μ
  | i :: l, e, μ => match ops[i]? with
    | none => none
    | some o => guardedK ops e o (fun e => stepK P Γ e (N + i) μ o fun v μ' => runA P Γ ops N K l (e.put o.dst v) μ') (fun e => runA P Γ ops N K l (e.put o.dst (.tuple [])) μ)

/-- A cut of a row that begins its object, up to the capacity where that is known. -/
def cutM {R : Type} (n : Nat) (μ : AMem) (v : AV) (l h : Int) (K : AV → Option R) : Option R :=
  match v with
  | .s .nilSlice => if l = 0 ∧ h = 0 then K (.s .nilSlice) else none
  | .s (.slice id ver 0 _) => (μ.obj id).bind fun o => if o.ver = ver then o.cap.bind fun c => if 0 ≤ l ∧ l ≤ h ∧ h ≤ (c : Int) then K (.s (.slice id ver (0 + l.toNat * n) (h.toNat - l.toNat))) else none else none
  | _ => none
def sliceW {R : Type} (P : Program) (t : TypeId) (μ : AMem) (lo hi : Option AV) (v : AV) (K : AV → Option R) : Option R :=
  match P.underlying t with
  | some (.slice e) => match sizeA P e with
    | some (k + 1) => match lo, hi with
      | none, some b => asN b fun h => cutM (k + 1) μ v 0 h K
      | some a, some b => asN a fun l => asN b fun h => cutM (k + 1) μ v l h K
      | _, _ => none
    | _ => none
  | _ => none
/-- One operation, where cuts go up to the capacity. -/
def stepW {R : Type} (P : Program) (Γ : FuncId → FunA) (e : Env) (nid : Nat) (μ : AMem) (o : Oper) (K : AV → AMem → Option R) : Option R :=
  match o.op with
  | .slice t x lo hi none => sliceW P t μ (lo.map (evalA e)) (hi.map (evalA e)) (evalA e x) fun v => K v μ
  | _ => stepK P Γ e nid μ o K
/-- The operations of a region, one behind the other, where cuts go up to the capacity. -/
def runW {R : Type} (P : Program) (Γ : FuncId → FunA) (ops : Array Oper) (N : Nat) (K : Env → AMem → Option R) : List Nat → Env → AMem → Option R
  | [], e, μ => K e μ
  | i :: l, e, μ => match ops[i]? with
    | none => none
    | some o => guardedK ops e o (fun e => stepW P Γ e (N + i) μ o fun v μ' => runW P Γ ops N K l (e.put o.dst v) μ') (fun e => runW P Γ ops N K l (e.put o.dst (.tuple [])) μ)

/-- Bits of all that stand ahead of each operation by its edges. -/
def ancsA : List Oper → Array Nat → Array Nat
  | [], acc => acc
  | o :: r, acc => ancsA r (acc.push (o.after.toList.foldl (fun s e => if Region.binds .any e then s ||| 2 ^ e.on ||| acc.getD e.on 0 else s) 0))
def ancs (ops : Array Oper) : Array Nat := ancsA ops.toList #[]
def anc (b : Array Nat) (j i : Nat) : Bool := (b.getD i 0).testBit j

def recOf (i : Nat) (e : Env) (o : Oper) (v : AV) (D : List Rec) : List Rec :=
  match o.op with
  | .load t x => (i, t, evalA e x, v) :: D
  | _ => D
/-- The same in an order of its own, of a region whose order is open: what was read is read still behind what writes and is not ordered with it. -/
noncomputable def runD {R : Type} (P : Program) (Γ : FuncId → FunA) (ops : Array Oper) (b : Array Nat) (N : Nat) (K : Env → AMem → Option R) : List Nat → Env → AMem → List Rec → Option R
  | [], e, μ, _ => K e μ
  | i :: l, e, μ, D => match ops[i]? with
    | none => none
    | some o => guardedK ops e o (fun e => stepK P Γ e (N + i) μ o fun v μ' =>
          match kdOf o.op with
          | .eff | .cal => stillA P μ' (D.filter fun d => !anc b d.1 i) (runD P Γ ops b N K l (e.put o.dst v) μ' D)
          | .alc => checkA (μ.obj (N + i) = none) (runD P Γ ops b N K l (e.put o.dst v) μ' D)
          | .lod => runD P Γ ops b N K l (e.put o.dst v) μ' (recOf i e o v D)
          | _ => runD P Γ ops b N K l (e.put o.dst v) μ' D)
        (fun e => runD P Γ ops b N K l (e.put o.dst (.tuple [])) μ D)

/-- Slots that an operation looks at. -/
def looksA (ops : Array Oper) (o : Oper) : List Nat :=
  (o.op.operands.toList.filterMap fun x => match x with | .tmp t => some t | _ => none) ++
  match o.guard with
  | some (j, _) => match (ops[j]?).bind (·.dst) with | some d => [d] | none => []
  | none => []
def appA (op : Op) : Bool := match op with
  | .call { callee := .builtin .append, .. } => true
  | _ => false
/-- Two operations, the first ahead of the second, may change places. -/
def swapA (ops : Array Oper) (x y : Oper) : Bool :=
  (match x.dst with | some d => !(looksA ops y).contains d && !(y.dst == some d) | none => true) &&
  (match y.dst with | some d => !(looksA ops x).contains d | none => true) &&
  match kdOf x.op, kdOf y.op with
  | .pur, _ | _, .pur => true
  | .lod, _ => true
  | .alc, .alc => true
  | .eff, .alc => appA x.op
  | _, _ => false
def pairA (ops : Array Oper) (b : Array Nat) (i j : Nat) : Bool :=
  !Nat.beq i j && (!anc b j i && (anc b i j || match ops[i]?, ops[j]? with | some x, some y => swapA ops x y | _, _ => false))
def pairsA (ops : Array Oper) (b : Array Nat) : List Nat → Bool
  | [] => true
  | i :: l => (l.all fun j => pairA ops b i j) && pairsA ops b l
/-- What stands ahead of an operation, by the table itself. -/
def aheadA (b : Array Nat) (o : Oper) : Nat := o.after.toList.foldl (fun s e => if Region.binds .any e then s ||| 2 ^ e.on ||| b.getD e.on 0 else s) 0
/-- The table is what it says; edges go back. -/
def tableA (ops : Array Oper) (b : Array Nat) : Bool := (List.range ops.size).all fun i => match ops[i]? with
  | some o => Nat.beq (b.getD i 0) (aheadA b o) && o.after.toList.all fun e => !Region.binds .any e || Nat.blt e.on i
  | none => false
/-- An order that serves: each operation once, none ahead of what it waits for; what is not ordered by edges may change places. -/
def orderA (ops : Array Oper) (b : Array Nat) (l : List Nat) : Bool :=
  tableA ops b && (l.length == ops.size && (l.all (fun i => Nat.blt i ops.size) && ((List.range ops.size).all (fun i => l.contains i) && pairsA ops b l)))
def dstsA (nt : Nat) (ops : Array Oper) : Bool := ops.all fun o => match o.dst with | some d => d < nt | none => true
def newA (op : Op) : Bool := match op with
  | .box _ _ | .alloc _ | .buildSlice _ _ _ | .makeSlice _ _ _ => true
  | .call { callee := .builtin .append, .. } => true
  | _ => false
def newsA (ops : Array Oper) : Bool := ops.any fun o => newA o.op
/-- Numbers of objects are set aside for a region that makes any. -/
def resvA (ops : Array Oper) (μ : AMem) : AMem := bif newsA ops then μ.bump ops.size else μ

/-! ### Code -/
inductive AExit where
  | normal
  | exit (id : Nat)
  | ret
/-- How a slot's value is told at a joint. -/
inductive VT where
  | i (k : IntKind)
  | b
  | s
  | v
abbrev Slots := List (Nat × VT)
/-- What is noted of code: the order of a region whose order is open; a joint behind the first of two, or a loop's head, with the slots that live there. -/
inductive Ann where
  | leaf
  | wide
  | ord (l : List Nat)
  | two (a b : Ann)
  | join (L : Slots) (O : List Nat) (xs : List Nat) (a b : Ann)
  | loop (L : Slots) (O : List Nat) (xs : List Nat) (a : Ann)
abbrev Res := AExit × List AV × AMem
/-- Which slots are wanted where. -/
structure Lv where
  ret : Slots
  exits : List (Nat × Slots)
def exitsOf : List (Nat × Slots) → Nat → Slots
  | [], _ => []
  | (j, l) :: r, i => bif Nat.beq j i then l else exitsOf r i
def Lv.at (lv : Lv) (n : Slots) : AExit → Slots
  | .normal => n
  | .ret => lv.ret
  | .exit id => exitsOf lv.exits id
def valsOf (L : Slots) (e : Env) : List AV := L.map fun p => e p.1
section
variable {R : Type}
def headK (vs : List AV) (K : AV → List AV → Option R) : Option R :=
  match vs with
  | v :: r => K v r
  | [] => none
/-- Slots out of a list of values. -/
def joinK : Slots → List AV → Env → (Env → Option R) → Option R
  | [], _, e, K => K e
  | (s, t) :: L, vs, e, K => headK vs fun v r => match t with
    | .i k => asI k v fun n => joinK L r (e.put (some s) (.s (.int k n))) K
    | .b => asB v fun b => joinK L r (e.put (some s) (.s (.bool b))) K
    | .s => asS v fun x => joinK L r (e.put (some s) (.s x)) K
    | .v => joinK L r (e.put (some s) v) K
/-- One of the exits that may be. -/
def exitsK (xs : List Nat) (id : Nat) (f : Nat → Option R) : Option R :=
  match xs with
  | [] => none
  | j :: r => bif Nat.beq j id then f j else exitsK r id f
def noEnv : Env := fun _ => .unk
/-- Slots that stay as they are. -/
def envO : List Nat → List AV → Env
  | d :: ds, v :: vs => fun s => bif Nat.beq s d then v else envO ds vs s
  | _, _ => noEnv
/-- Behind a joint. -/
def seqJ (x : Option Res) (N E : List AV → AMem → Option R) (I : Nat → List AV → AMem → Option R) : Option R :=
  x.bind fun r => match r.1 with
    | .normal => N r.2.1 r.2.2
    | .ret => E r.2.1 r.2.2
    | .exit id => I id r.2.1 r.2.2
end

/-- A loop: the body's normal end is the next round. -/
def roundsA (body : List AV → AMem → Option Res) : Nat → List AV → AMem → Option Res
  | 0, _, _ => none
  | k + 1, vs, μ => (body vs μ).bind fun r => match r.1 with
    | .normal => roundsA body k r.2.1 r.2.2
    | _ => some r
open Classical in
noncomputable def loopA (body : List AV → AMem → Option Res) (vs : List AV) (μ : AMem) : Option Res :=
  if h : ∃ k r, roundsA body k vs μ = some r then some (Classical.choose (Classical.choose_spec h)) else none

theorem roundsA_more (body : List AV → AMem → Option Res) : ∀ k vs μ r, roundsA body k vs μ = some r → ∀ j, roundsA body (k + j) vs μ = some r := by
  intro k
  induction k with
  | zero => intro vs μ r h; simp [roundsA] at h
  | succ k ih =>
    intro vs μ r h j
    rw [show k + 1 + j = (k + j) + 1 by omega]
    simp only [roundsA] at h ⊢
    cases hb : body vs μ with
    | none => rw [hb] at h; simp at h
    | some q =>
      rw [hb] at h
      simp only [Option.bind_some] at h ⊢
      split at h
      · exact ih _ _ _ h j
      · exact h
theorem loopA_some {body : List AV → AMem → Option Res} {vs : List AV} {μ : AMem} {r : Res} : loopA body vs μ = some r ↔ ∃ k, roundsA body k vs μ = some r := by
  unfold loopA
  constructor
  · intro h
    split at h
    · rename_i hk
      have := Classical.choose_spec (Classical.choose_spec hk)
      cases h
      exact ⟨_, this⟩
    · cases h
  · rintro ⟨k, hk⟩
    have hex : ∃ k r, roundsA body k vs μ = some r := ⟨k, r, hk⟩
    rw [dif_pos hex]
    have := Classical.choose_spec (Classical.choose_spec hex)
    have h1 := roundsA_more body _ _ _ _ this k
    have h2 := roundsA_more body _ _ _ _ hk (Classical.choose hex)
    rw [Nat.add_comm] at h2
    rw [h1] at h2
    exact h2
/-- One round, and the rest. -/
theorem loopA_eq (body : List AV → AMem → Option Res) (vs : List AV) (μ : AMem) :
    loopA body vs μ = (body vs μ).bind fun r => match r.1 with | .normal => loopA body r.2.1 r.2.2 | _ => some r := by
  apply Option.ext
  intro r
  constructor
  · intro h
    obtain ⟨k, hk⟩ := loopA_some.mp h
    cases k with
    | zero => simp [roundsA] at hk
    | succ k =>
      simp only [roundsA] at hk
      cases hb : body vs μ with
      | none => rw [hb] at hk; simp at hk
      | some q =>
        rw [hb] at hk
        obtain ⟨x, vs1, μ1⟩ := q
        cases x with
        | normal => exact loopA_some.mpr ⟨k, hk⟩
        | exit id => exact hk
        | ret => exact hk
  · intro h
    cases hb : body vs μ with
    | none => rw [hb] at h; simp at h
    | some q =>
      rw [hb] at h
      obtain ⟨x, vs1, μ1⟩ := q
      cases x with
      | normal =>
        obtain ⟨k, hk⟩ := loopA_some.mp h
        exact loopA_some.mpr ⟨k + 1, by simp only [roundsA, hb, Option.bind_some]; exact hk⟩
      | exit id => exact loopA_some.mpr ⟨1, by simp only [roundsA, hb, Option.bind_some]; exact h⟩
      | ret => exact loopA_some.mpr ⟨1, by simp only [roundsA, hb, Option.bind_some]; exact h⟩

/-- Slots that code writes. -/
def writesA : Code → List Nat
  | .region _ ops _ => ops.toList.filterMap (·.dst)
  | .seq a b => writesA a ++ writesA b
  | .cond _ a b => writesA a ++ writesA b
  | .block _ a => writesA a
  | .loop a => writesA a
  | _ => []
def keepsA (O : List Nat) (c : Code) : Bool := O.all fun s => !(writesA c).contains s
/-- Code; K goes on behind it. -/
noncomputable def den (P : Program) (Γ : FuncId → FunA) (nt : Nat) : Code → Ann → Lv → (R : Type) → Env → AMem → (AExit → Env → AMem → Option R) → Option R
  | .skip, _, _, _, e, μ, K => K .normal e μ
  | .ret, _, _, _, e, μ, K => K .ret e μ
  | .exit id, _, _, _, e, μ, K => K (.exit id) e μ
  | .region _ ops false, .wide, _, _, e, μ, K =>
    bif dstsA nt ops then runW P Γ ops μ.next (K .normal) (List.range ops.size) e (resvA ops μ) else none
  | .region _ ops false, _, _, _, e, μ, K =>
    bif dstsA nt ops then runA P Γ ops μ.next (K .normal) (List.range ops.size) e (resvA ops μ) else none
  | .region _ ops true, .ord l, _, _, e, μ, K =>
    bif dstsA nt ops && orderA ops (ancs ops) l then runD P Γ ops (ancs ops) μ.next (K .normal) l e (resvA ops μ) [] else none
  | .seq a b, .two x y, lv, R, e, μ, K => den P Γ nt a x lv R e μ fun ex e μ => match ex with
    | .normal => den P Γ nt b y lv R e μ K
    | .ret => K .ret e μ
    | .exit id => K (.exit id) e μ
  | .seq a b, .join L O xs x y, lv, R, e, μ, K =>
    bif keepsA O a then seqJ (den P Γ nt a x lv Res e μ fun ex e μ => some (ex, valsOf (lv.at L ex) e, μ))
      (fun vs μ => joinK L vs (envO O (O.map e)) fun e => den P Γ nt b y lv R e μ K)
      (fun vs μ => joinK lv.ret vs noEnv fun e => K .ret e μ)
      (fun id vs μ => exitsK xs id fun j => joinK (exitsOf lv.exits j) vs noEnv fun e => K (.exit j) e μ) else none
  | .cond c a b, .two x y, lv, R, e, μ, K => condK (evalA e c) (den P Γ nt a x lv R e μ K) (den P Γ nt b y lv R e μ K)
  | .block id a, .join L _ _ x _, lv, R, e, μ, K => den P Γ nt a x { lv with exits := (id, L) :: lv.exits } R e μ fun ex e μ => match ex with
    | .exit j => bif Nat.beq j id then K .normal e μ else K (.exit j) e μ
    | .normal => K .normal e μ
    | .ret => K .ret e μ
  | .loop a, .loop L O xs x, lv, _, e, μ, K =>
    bif keepsA O a then seqJ (loopA (fun vs μ => joinK L vs (envO O (O.map e)) fun e => den P Γ nt a x lv Res e μ fun ex e μ => some (ex, valsOf (lv.at L ex) e, μ)) (valsOf L e) μ)
      (fun _ _ => none)
      (fun vs μ => joinK lv.ret vs noEnv fun e => K .ret e μ)
      (fun id vs μ => exitsK xs id fun j => joinK (exitsOf lv.exits j) vs noEnv fun e => K (.exit j) e μ) else none
  | _, _, _, _, _, _, _ => none

def resL : List ResultVar → Option (List Nat)
  | [] => some []
  | .tmp t :: r => (resL r).map (t :: ·)
  | .cell _ _ :: _ => none
def packV : List AV → AV
  | [v] => v
  | l => .tuple l
/-- A function; its result slots, as they are told. -/
noncomputable def denF (P : Program) (Γ : FuncId → FunA) (fn : Func) (an : Ann) (rs : Slots) : FunA := fun as μ =>
  match fn.body, resL fn.results.toList with
  | some c, some l => bif Nat.ble as.length fn.ntmps then
      den P Γ fn.ntmps c an { ret := rs, exits := [] } (AV × AMem) (fun s => as.getD s (.tuple [])) μ fun ex e μ => match ex with
        | .exit _ => none
        | .normal => some (packV (l.map e), μ)
        | .ret => some (packV (l.map e), μ)
    else none
  | _, _ => none

/-! ### A function that writes into all of a row's room -/
/-- A row with a room of c; what is not known of it is z. -/
def roomO (o : AObj) (c : Nat) (z : SV) : AObj := { o with cells := o.cells ++ List.replicate (c - o.cells.length) z, cap := some c }
/-- What is asked of the function: whatever the room is, it ends, and nothing but the row is changed. -/
def Rooms (e : TypeId) (z : SV) (D : FunA) (as : List AV) (id ver len : Nat) (μ : AMem) (o : AObj) : Prop :=
  o.own = true ∧ o.ver = ver ∧ o.size = 1 ∧ o.elem = e ∧ (z = .undef ∨ ver = 0) ∧ ∀ c, len ≤ c → o.cells.length ≤ c → c ≤ 9223372036854775807 → ∃ m o', D as (μ.set id (roomO o c z)) = some (.tuple [], m) ∧ (∀ j, j ≠ id → m.obj j = μ.obj j) ∧ m.obj id = some o' ∧ o'.own = true ∧ o'.size = 1 ∧ o'.elem = e ∧ o'.ver = ver
noncomputable def roomF (e : TypeId) (z : SV) (D : FunA) : FunA := fun as μ =>
  match as with
  | [.s .nilSlice] => D as μ
  | [.s (.slice id ver 0 len)] => (μ.obj id).bind fun o => checkA (Rooms e z D as id ver len μ o) (some (.tuple [], μ.set id (newVer o [])))
  | _ => none

/-! ### Parts of code, by their ways -/
def cL : Code → Code
  | .seq a _ => a
  | .cond _ a _ => a
  | .block _ a => a
  | .loop a => a
  | _ => .skip
def cR : Code → Code
  | .seq _ b => b
  | .cond _ _ b => b
  | _ => .skip
def aL : Ann → Ann
  | .two a _ => a
  | .join _ _ _ a _ => a
  | .loop _ _ _ a => a
  | _ => .leaf
def aR : Ann → Ann
  | .two _ b => b
  | .join _ _ _ _ b => b
  | _ => .leaf
def bodyOf (fn : Func) : Code := match fn.body with | some c => c | none => .skip

end Go.Proofs.Ytchapaejdgnihaa.E
