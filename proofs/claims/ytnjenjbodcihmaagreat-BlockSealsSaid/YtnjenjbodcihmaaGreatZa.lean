/- The abstract machine, and that it is sound. -/
import Derived.Calls
import Derived.Orders
import Derived.Laws.AppendOwn
import Derived.Laws.CopyRow
import Derived.Laws.Rows
import Derived.Laws.Cells
import Derived.Laws.BytesString
import Derived.Laws.Strings
import Derived.Laws.BitsLemmas
namespace Go.Proofs.YtnjenjbodcihmaaGreat.E
open Go

inductive SV where
  | int (k : IntKind) (n : Int)
  | bool (b : Bool)
  | nilPtr
  | ptr (id ver off : Nat)
  | nilSlice
  | slice (id ver off len : Nat)
  | nilFunc
  | func (f : FuncId) (caps : List (Nat × Nat × Nat))
  | bound (f : FuncId) (id ver off : Nat)
  | str (l : List Int)
  | undef
  deriving Inhabited

inductive AV where
  | s (v : SV)
  | agg (l : List SV)
  | tuple (l : List AV)
  | unk
  deriving Inhabited

structure AObj where
  cells : List SV
  size : Nat
  elem : TypeId
  ver : Nat
  own : Bool
  cap : Option Nat

structure AMem where
  next : Nat
  obj : Nat → Option AObj

def AMem.set (μ : AMem) (id : Nat) (o : AObj) : AMem := { next := μ.next, obj := fun j => if j = id then some o else μ.obj j }
def AMem.bump (μ : AMem) (n : Nat) : AMem := { next := μ.next + n, obj := μ.obj }

abbrev Env := Nat → AV
def Env.put (e : Env) (d : Option Nat) (v : AV) : Env := match d with | none => e | some d => fun s => bif Nat.beq s d then v else e s
def constA : Value → AV
  | .int k n => .s (.int k n)
  | .bool b => .s (.bool b)
  | .pointer none => .s .nilPtr
  | .slice none 0 0 => .s .nilSlice
  | .nilFunc => .s .nilFunc
  | _ => .unk
def evalA (e : Env) : Operand → AV
  | .tmp t => e t
  | .const v => constA v
  | .global _ => .unk
  | .func f => .s (.func f [])

def AV.cells : AV → Option (List SV)
  | .s v => some [v]
  | .agg l => some l
  | _ => none

section
variable {R : Type}

def intK (op : BinOp) (k : IntKind) (a b : Int) (K : SV → Option R) : Option R :=
  match op with
  | .add => K (.int k (k.wrap (a + b)))
  | .sub => K (.int k (k.wrap (a - b)))
  | .mul => K (.int k (k.wrap (a * b)))
  | .quo => if b = 0 then none else K (.int k (k.wrap (a.tdiv b)))
  | .rem => if b = 0 then none else K (.int k (a.tmod b))
  | .and => K (.int k (k.wrap (BitVec.ofInt k.bits a &&& BitVec.ofInt k.bits b).toNat))
  | .or => K (.int k (k.wrap (BitVec.ofInt k.bits a ||| BitVec.ofInt k.bits b).toNat))
  | .xor => K (.int k (k.wrap (BitVec.ofInt k.bits a ^^^ BitVec.ofInt k.bits b).toNat))
  | .andNot => K (.int k (k.wrap (BitVec.ofInt k.bits a &&& ~~~BitVec.ofInt k.bits b).toNat))
  | .eql => K (.bool (a == b))
  | .neq => K (.bool (a != b))
  | .lss => K (.bool (a < b))
  | .leq => K (.bool (a ≤ b))
  | .gtr => K (.bool (a > b))
  | .geq => K (.bool (a ≥ b))
  | .shl | .shr => none
def shiftK (op : BinOp) (k : IntKind) (a b : Int) (K : SV → Option R) : Option R :=
  match op with
  | .shl => if b < 0 then none else K (.int k (k.wrap (a * 2 ^ min b.toNat k.bits)))
  | .shr => if b < 0 then none else K (.int k (a.fdiv (2 ^ min b.toNat k.bits)))
  | _ => none
def isShift : BinOp → Bool
  | .shl | .shr => true
  | _ => false
def asI (k : IntKind) (v : AV) (K : Int → Option R) : Option R :=
  match v with
  | .s (.int k' n) => if k' = k then K n else none
  | _ => none
def asS (v : AV) (K : SV → Option R) : Option R :=
  match v with
  | .s x => K x
  | _ => none
def asB (v : AV) (K : Bool → Option R) : Option R :=
  match v with
  | .s (.bool b) => K b
  | _ => none
def asN (v : AV) (K : Int → Option R) : Option R :=
  match v with
  | .s (.int _ n) => K n
  | _ => none
def isNil : AV → Option Bool
  | .s .nilPtr => some true
  | .s (.ptr _ _ _) => some false
  | _ => none
def asT (v : AV) (K : List Int → Option R) : Option R :=
  match v with
  | .s (.str l) => K l
  | _ => none
def binK (P : Program) (op : BinOp) (t : TypeId) (x y : AV) (K : AV → Option R) : Option R :=
  match P.underlying t with
  | some (.int k) => bif isShift op then asI k x fun a => asN y fun b => shiftK op k a b fun v => K (.s v)
      else asI k x fun a => asI k y fun b => intK op k a b fun v => K (.s v)
  | some .bool => match op with
    | .eql => asB x fun a => asB y fun b => K (.s (.bool (a == b)))
    | .neq => asB x fun a => asB y fun b => K (.s (.bool (!(a == b))))
    | _ => none
  | some (.pointer _) => match op, y with
    | .eql, .s .nilPtr => (isNil x).bind fun b => K (.s (.bool b))
    | .neq, .s .nilPtr => (isNil x).bind fun b => K (.s (.bool (!b)))
    | _, _ => none
  | some .string => match op with
    | .eql => asT x fun a => asT y fun b => K (.s (.bool (a == b)))
    | .neq => asT x fun a => asT y fun b => K (.s (.bool (!(a == b))))
    | _ => none
  | _ => none
def unK (op : UnOp) (v : AV) (K : AV → Option R) : Option R :=
  match op with
  | .neg => match v with
    | .s (.int k n) => K (.s (.int k (k.wrap (0 - n))))
    | _ => none
  | .xor => match v with
    | .s (.int k n) => K (.s (.int k (k.wrap (BitVec.ofInt k.bits (if k.signed then -1 else k.max) ^^^ BitVec.ofInt k.bits n).toNat)))
    | _ => none
  | .not => asB v fun b => K (.s (.bool (!b)))
  | _ => none
def convK (P : Program) (src dst : TypeId) (v : AV) (K : AV → Option R) : Option R :=
  match P.underlying src, P.underlying dst with
  | some (.int _), some (.int k) => asN v fun n => K (.s (.int k (k.wrap n)))
  | _, _ => none
def nonNil (v : AV) (K : Option R) : Option R :=
  match v with
  | .s (.ptr _ _ _) => K
  | .s (.func _ _) => K
  | .s (.bound _ _ _ _) => K
  | _ => none
def sizeA (P : Program) (t : TypeId) : Option Nat := (P.info? t).map (·.size)
def aggA (P : Program) (t : TypeId) : Option Bool :=
  match P.underlying t with
  | some (.struct _) | some (.array _ _) => some true
  | some _ => some false
  | none => none
def ptrAdd (n : Nat) (v : AV) (K : AV → Option R) : Option R :=
  match v with
  | .s (.ptr id ver off) => K (.s (.ptr id ver (off + n)))
  | _ => none
def fieldK (P : Program) (st : TypeId) (f : Nat) (v : AV) (K : AV → Option R) : Option R :=
  match P.underlying st with
  | some (.struct fs) => match fs[f]? with
    | some fd => match sizeA P fd.type with
      | some (_ + 1) => ptrAdd fd.offset v K
      | _ => none
    | none => none
  | _ => none
def aggAt (off : Nat) (v : AV) (K : AV → Option R) : Option R :=
  match v with
  | .agg l => match l[off]? with
    | some x => K (.s x)
    | none => none
  | _ => none
def aggCut (off n : Nat) (v : AV) (K : AV → Option R) : Option R :=
  match v with
  | .agg l => K (.agg ((l.drop off).take n))
  | _ => none
def partK (P : Program) (st : TypeId) (f : Nat) (v : AV) (K : AV → Option R) : Option R :=
  match P.underlying st with
  | some (.struct fs) => match fs[f]? with
    | some fd => match aggA P fd.type, sizeA P fd.type with
      | some true, some n => aggCut fd.offset n v K
      | some false, some _ => aggAt fd.offset v K
      | _, _ => none
    | none => none
  | _ => none
def indS (n : Nat) (v : AV) (i : Int) (K : AV → Option R) : Option R :=
  match v with
  | .s (.slice id ver off len) => if 0 ≤ i ∧ i < len then K (.s (.ptr id ver (off + i.toNat * n))) else none
  | _ => none
def indP (len n : Nat) (v : AV) (i : Int) (K : AV → Option R) : Option R :=
  match v with
  | .s (.ptr id ver off) => if 0 ≤ i ∧ i < len then K (.s (.ptr id ver (off + i.toNat * n))) else none
  | _ => none
def indexK (P : Program) (t : TypeId) (v i : AV) (K : AV → Option R) : Option R :=
  match P.underlying t with
  | some (.slice e) => match sizeA P e with
    | some n => asN i fun i => indS n v i K
    | none => none
  | some (.array len e) => match sizeA P e with
    | some n => asN i fun i => indP len n v i K
    | none => none
  | _ => none
def cutS (n : Nat) (v : AV) (l h : Int) (K : AV → Option R) : Option R :=
  match v with
  | .s (.slice id ver off len) => if 0 ≤ l ∧ l ≤ h ∧ h ≤ len then K (.s (.slice id ver (off + l.toNat * n) (h.toNat - l.toNat))) else none
  | .s .nilSlice => if l = 0 ∧ h = 0 then K (.s .nilSlice) else none
  | _ => none
def lenS : AV → Option Nat
  | .s (.slice _ _ _ len) => some len
  | .s .nilSlice => some 0
  | _ => none
def sliceK (P : Program) (t : TypeId) (lo hi : Option AV) (v : AV) (K : AV → Option R) : Option R :=
  match P.underlying t with
  | some (.slice e) => match sizeA P e with
    | some (k + 1) => match lo, hi with
      | none, none => (lenS v).bind fun h => cutS (k + 1) v 0 h K
      | some a, none => asN a fun l => (lenS v).bind fun h => cutS (k + 1) v l h K
      | none, some b => asN b fun h => cutS (k + 1) v 0 h K
      | some a, some b => asN a fun l => asN b fun h => cutS (k + 1) v l h K
    | _ => none
  | _ => none
def lenK (P : Program) (t : TypeId) (v : AV) (K : AV → Option R) : Option R :=
  match P.underlying t with
  | some (.slice _) => (lenS v).bind fun n => K (.s (.int .i64 n))
  | _ => none
def extrK (i : Nat) (v : AV) (K : AV → Option R) : Option R :=
  match v with
  | .tuple l => match l[i]? with
    | some x => K x
    | none => none
  | _ => none
def pickK (c a b : AV) (K : AV → Option R) : Option R := asB c fun t => bif t then K a else K b
def minK (x y : AV) (K : AV → Option R) : Option R :=
  match x, y with
  | .s (.int k x), .s (.int k' y) => if k = k' then K (.s (.int k (if y < x then y else x))) else none
  | _, _ => none
def maxK (x y : AV) (K : AV → Option R) : Option R :=
  match x, y with
  | .s (.int k x), .s (.int k' y) => if k = k' then K (.s (.int k (if y > x then y else x))) else none
  | _, _ => none
def foldMin (K : AV → Option R) : AV → List AV → Option R
  | a, [] => K a
  | a, b :: l => minK a b fun c => foldMin K c l
def foldMax (K : AV → Option R) : AV → List AV → Option R
  | a, [] => K a
  | a, b :: l => maxK a b fun c => foldMax K c l
def viewK (P : Program) (t : TypeId) (v : AV) (K : AV → Option R) : Option R :=
  match P.underlying t with
  | some (.int k) => asI k v fun n => K (.s (.int k n))
  | some .bool => asB v fun b => K (.s (.bool b))
  | some (.slice _) | some (.pointer _) | some (.func _ _ _) => asS v fun x => K (.s x)
  | _ => K v
end

def overA (cs : List SV) (at_ : Nat) (new : List SV) : List SV := cs.take at_ ++ new ++ cs.drop (at_ + new.length)
def fillA (place : Nat → Option (Nat × Nat)) : List SV → List (Nat × AV) → Option (List SV)
  | cs, [] => some cs
  | cs, (i, v) :: r => (place i).bind fun (off, n) => v.cells.bind fun l => if l.length = n ∧ off + n ≤ cs.length then fillA place (overA cs off l) r else none
def svOf : AV → Option SV
  | .s x => some x
  | _ => none
def svsOf : List Value → Option (List SV)
  | [] => some []
  | v :: r => (svOf (constA v)).bind fun x => (svsOf r).map (x :: ·)
def zeroA (P : Program) (t : TypeId) : Option (List SV) :=
  ((P.info? t).bind (·.zero)).bind fun z => svsOf z.cells.toList
def fieldsAt (P : Program) (fs : Array Field) (i : Nat) : Option (Nat × Nat) := (fs[i]?).bind fun f => (sizeA P f.type).map fun n => (f.offset, n)
def buildV (P : Program) (t : TypeId) (parts : List (Nat × AV)) : Option AV :=
  match P.underlying t with
  | some (.struct fs) => if fs.all (fun f => (sizeA P f.type).isSome) = true then (zeroA P t).bind fun z => (fillA (fieldsAt P fs) z parts).map .agg else none
  | some (.array _ e) => (zeroA P t).bind fun z => (sizeA P e).bind fun n => (fillA (fun i => some (i * n, n)) z parts).map .agg
  | _ => none
def capsA : List AV → Option (List (Nat × Nat × Nat))
  | [] => some []
  | .s (.ptr id ver off) :: r => (capsA r).map fun l => (id, ver, off) :: l
  | _ :: _ => none

section
variable {R : Type}
def boundK (f : FuncId) (v : AV) (K : AV → Option R) : Option R :=
  match v with
  | .s (.ptr id ver off) => K (.s (.bound f id ver off))
  | _ => none
def pureK (P : Program) (ev : Operand → AV) (op : Op) (ty : TypeId) (K : AV → Option R) : Option R :=
  match op with
  | .move x | .assign x => K (ev x)
  | .pick c a b => pickK (ev c) (ev a) (ev b) K
  | .nilCheck x => nonNil (ev x) (K (ev x))
  | .binOp op t x y _ => binK P op t (ev x) (ev y) K
  | .unOp op _ x => unK op (ev x) K
  | .convert s d x => convK P s d (ev x) K
  | .fieldAddr st x f => fieldK P st f (ev x) K
  | .field st x f => partK P st f (ev x) fun v => viewK P ty v K
  | .indexAddr t x i => indexK P t (ev x) (ev i) K
  | .slice t x lo hi none => sliceK P t (lo.map ev) (hi.map ev) (ev x) K
  | .extract x i => extrK i (ev x) fun v => viewK P ty v K
  | .build t ps => (buildV P t (ps.toList.map fun p => (p.1, ev p.2))).bind K
  | .makeFunc (.func f) first caps => bif first.isEmpty then (capsA (caps.toList.map ev)).bind fun l => K (.s (.func f l))
      else bif caps.isEmpty then match first.toList with
        | [x] => boundK f (ev x) K
        | _ => none
      else none
  | .call { callee := .builtin .len, args, argTypes } => match args.toList, argTypes.toList with
    | [x], [t] => lenK P t (ev x) K
    | _, _ => none
  | .call { callee := .builtin .min, args, argTypes := _ } => match args.toList with
    | x :: r => foldMin K (ev x) (r.map ev)
    | _ => none
  | .call { callee := .builtin .max, args, argTypes := _ } => match args.toList with
    | x :: r => foldMax K (ev x) (r.map ev)
    | _ => none
  | _ => none
end

def AMem.cell (μ : AMem) (id ver off : Nat) : Option SV := (μ.obj id).bind fun o => if o.ver = ver then o.cells[off]? else none
def AMem.loadN (μ : AMem) (id ver off : Nat) : Nat → Option (List SV)
  | 0 => some []
  | n + 1 => (μ.cell id ver off).bind fun v => (AMem.loadN μ id ver (off + 1) n).map (v :: ·)
def AMem.store (μ : AMem) (id ver off : Nat) (l : List SV) : Option AMem :=
  (μ.obj id).bind fun o => if o.own = true ∧ o.ver = ver ∧ off + l.length ≤ o.cells.length then some (μ.set id { o with cells := overA o.cells off l }) else none
def AMem.row (μ : AMem) (size : Nat) (n : Nat) : AV → Option (List SV)
  | .s (.slice id ver off len) => (μ.obj id).bind fun o =>
    if o.ver = ver ∧ n ≤ len ∧ off + n * size ≤ o.cells.length then some ((o.cells.drop off).take (n * size)) else none
  | .s .nilSlice => some []
  | _ => none
def zerosA (z : List SV) : Nat → List SV
  | 0 => []
  | n + 1 => z ++ zerosA z n
def rowObj (cs : List SV) (size : Nat) (e : TypeId) (cap : Option Nat) : AObj := { cells := cs, size := size, elem := e, ver := 0, own := true, cap := cap }
def newVer (o : AObj) (cs : List SV) : AObj := { o with cells := cs, ver := o.ver + 1, cap := none }

section
variable {R : Type}
def loadAt (μ : AMem) (v : AV) (K : AV → Option R) : Option R :=
  match v with
  | .s (.ptr id ver off) => (μ.cell id ver off).bind fun x => K (.s x)
  | _ => none
def loadsAt (μ : AMem) (n : Nat) (v : AV) (K : AV → Option R) : Option R :=
  match v with
  | .s (.ptr id ver off) => (μ.loadN id ver off n).bind fun l => K (.agg l)
  | _ => none
def loadK (P : Program) (t : TypeId) (μ : AMem) (v : AV) (K : AV → Option R) : Option R :=
  match aggA P t, sizeA P t with
  | some true, some n => loadsAt μ n v K
  | some false, some _ => loadAt μ v K
  | _, _ => none
def storeAt (n : Nat) (μ : AMem) (p v : AV) (K : AMem → Option R) : Option R :=
  match p with
  | .s (.ptr id ver off) => match v.cells with
    | some l => if l.length = n then (μ.store id ver off l).bind K else none
    | none => none
  | _ => none
def storeK (P : Program) (t : TypeId) (μ : AMem) (p v : AV) (K : AMem → Option R) : Option R :=
  match sizeA P t with
  | some n => storeAt n μ p v K
  | none => none

def byteA : SV → Option Int
  | .int .u8 n => if 0 ≤ n ∧ n < 256 then some n else none
  | _ => none
def bytesA : List SV → Option (List Int)
  | [] => some []
  | x :: r => (byteA x).bind fun n => (bytesA r).map (n :: ·)
def strA (μ : AMem) (v : AV) (K : AV → Option R) : Option R :=
  (lenS v).bind fun n => (μ.row 1 n v).bind fun l => (bytesA l).bind fun b => K (.s (.str b))
def strK (P : Program) (s d : TypeId) (μ : AMem) (v : AV) (K : AV → Option R) : Option R :=
  match P.underlying s, P.underlying d with
  | some (.slice e), some .string => match P.underlying e with
    | some (.int .u8) => strA μ v K
    | _ => none
  | _, _ => none
def readK (P : Program) (q : TypeId × Option TypeId) (μ : AMem) (v : AV) (K : AV → Option R) : Option R :=
  match q.2 with
  | none => loadK P q.1 μ v K
  | some d => strK P q.1 d μ v K

def boxV (t : TypeId) (nid : Nat) (v : AV) (K : AObj → AV → Option R) : Option R :=
  match v.cells with
  | some l => K (rowObj l l.length t (some 1)) (.s (.ptr nid 0 0))
  | none => none
def makeV (e n bytes : Nat) (z : List SV) (nid : Nat) (l c : Int) (K : AObj → AV → Option R) : Option R :=
  if 0 ≤ l ∧ l ≤ c ∧ c ≤ 9223372036854775807 ∧ bytes * c ≤ 140737488355328 then K (rowObj (zerosA z c.toNat) n e (some c.toNat)) (.s (.slice nid 0 0 l.toNat)) else none
def allocK (P : Program) (ev : Operand → AV) (nid : Nat) (op : Op) (K : AObj → AV → Option R) : Option R :=
  match op with
  | .box t x => boxV t nid (ev x) K
  | .alloc t => (zeroA P t).bind fun l => K (rowObj l l.length t (some 1)) (.s (.ptr nid 0 0))
  | .buildSlice t len ps => match P.underlying t with
    | some (.slice e) => (sizeA P e).bind fun n => (zeroA P e).bind fun z =>
      if z.length = n ∧ 0 < n ∧ len * n ≤ 16777216 then
        (fillA (fun i => some (i * n, n)) (zerosA z len) (ps.toList.map fun p => (p.1, ev p.2))).bind fun cs =>
          K (rowObj cs n e (some len)) (.s (.slice nid 0 0 len))
      else none
    | _ => none
  | .makeSlice t l c => match P.underlying t with
    | some (.slice e) => (P.info? e).bind fun i => (zeroA P e).bind fun z =>
      if z.length = i.size ∧ 0 < i.size then asN (ev l) fun l => asN (ev c) fun c => makeV e i.size i.bytes z nid l c K else none
    | _ => none
  | _ => none

def appendS (e size bytes : Nat) (nid : Nat) (μ : AMem) (x : AV) (m : Nat) (new : List SV) (K : AV → AMem → Option R) : Option R :=
  match x with
  | .s .nilSlice =>
    if m * bytes ≤ 140737488355328 ∧ m ≤ 9223372036854775807 then
      if m = 0 then K (.s .nilSlice) μ else K (.s (.slice nid 0 0 m)) (μ.set nid (rowObj new size e none))
    else none
  | .s (.slice id ver 0 len) => (μ.obj id).bind fun o =>
    if o.own = true ∧ o.ver = ver ∧ o.size = size ∧ o.elem = e ∧ len * size ≤ o.cells.length ∧ (len + m) * bytes ≤ 140737488355328 ∧ len + m ≤ 9223372036854775807 then
      if m = 0 then K (.s (.slice id ver 0 len)) μ
      else K (.s (.slice id (ver + 1) 0 (len + m))) (μ.set id (newVer o (o.cells.take (len * size) ++ new)))
    else none
  | _ => none
def appendA (e size bytes : Nat) (nid : Nat) (μ : AMem) (x y : AV) (K : AV → AMem → Option R) : Option R :=
  (lenS y).bind fun m => (μ.row size m y).bind fun new => appendS e size bytes nid μ x m new K
def appendZ (e size bytes : Nat) (z : List SV) (nid : Nat) (μ : AMem) (x : AV) (n : Int) (K : AV → AMem → Option R) : Option R :=
  if 0 ≤ n ∧ n ≤ 9223372036854775807 then appendS e size bytes nid μ x n.toNat (zerosA z n.toNat) K else none
def appendK (P : Program) (t u : TypeId) (nid : Nat) (μ : AMem) (x y : AV) (K : AV → AMem → Option R) : Option R :=
  match P.underlying t with
  | some (.slice e) => (P.info? e).bind fun i => (zeroA P e).bind fun z =>
    if z.length = i.size ∧ 0 < i.size then
      match P.underlying u with
      | some (.slice _) => appendA e i.size i.bytes nid μ x y K
      | some (.int .i64) => asI .i64 y fun n => appendZ e i.size i.bytes z nid μ x n K
      | _ => none
    else none
  | _ => none
def copyA (size : Nat) (μ : AMem) (x y : AV) (K : AV → AMem → Option R) : Option R :=
  (lenS x).bind fun n => (lenS y).bind fun m => if min m n = 0 then K (.s (.int .i64 0)) μ else (μ.row size (min m n) y).bind fun new =>
    match x with
    | .s (.slice id ver off _) => (μ.store id ver off new).bind fun μ' => K (.s (.int .i64 (min m n : Nat))) μ'
    | _ => none
def capA (μ : AMem) (v : AV) (K : AV → Option R) : Option R :=
  match v with
  | .s .nilSlice => K (.s (.int .i64 0))
  | .s (.slice id ver 0 _) => (μ.obj id).bind fun o => if o.ver = ver then o.cap.bind fun c => K (.s (.int .i64 (c : Nat))) else none
  | _ => none
def effK (P : Program) (ev : Operand → AV) (nid : Nat) (μ : AMem) (op : Op) (K : AV → AMem → Option R) : Option R :=
  match op with
  | .store t p x => storeK P t μ (ev p) (ev x) fun μ' => K (.tuple []) μ'
  | .call { callee := .builtin .append, args, argTypes } => match args.toList, argTypes.toList with
    | [x, y], [t, u] => appendK P t u nid μ (ev x) (ev y) K
    | _, _ => none
  | .call { callee := .builtin .copy, args, argTypes } => match args.toList, argTypes.toList with
    | [x, y], [t, _] => match P.underlying t with
      | some (.slice e) => match sizeA P e with
        | some (n + 1) => copyA (n + 1) μ (ev x) (ev y) K
        | _ => none
      | _ => none
    | _, _ => none
  | .call { callee := .builtin .cap, args, argTypes } => match args.toList, argTypes.toList with
    | [x], [t] => match P.underlying t with
      | some (.slice _) => capA μ (ev x) fun v => K v μ
      | _ => none
    | _, _ => none
  | _ => none
end

abbrev FunA := List AV → AMem → Option (AV × AMem)
section
variable {R : Type}
def callV (Γ : FuncId → FunA) (f : AV) (as : List AV) (μ : AMem) (K : AV → AMem → Option R) : Option R :=
  match f with
  | .s (.func g caps) => (Γ g (as ++ caps.map fun c => .s (.ptr c.1 c.2.1 c.2.2)) μ).bind fun r => K r.1 r.2
  | .s (.bound g id ver off) => (Γ g (.s (.ptr id ver off) :: as) μ).bind fun r => K r.1 r.2
  | _ => none
def callK (P : Program) (Γ : FuncId → FunA) (ev : Operand → AV) (μ : AMem) (op : Op) (ty : TypeId) (K : AV → AMem → Option R) : Option R :=
  match op with
  | .call { callee := .value f, args, argTypes := _ } => callV Γ (ev f) (args.toList.map ev) μ fun v μ' => viewK P ty v fun v => K v μ'
  | _ => none
end

inductive Kd where
  | pur | lod | alc | eff | cal
  deriving DecidableEq
def kdOf : Op → Kd
  | .load _ _ => .lod
  | .convert _ d _ => if d = 9 then .lod else .pur
  | .box _ _ | .alloc _ | .buildSlice _ _ _ | .makeSlice _ _ _ => .alc
  | .store _ _ _ => .eff
  | .call { callee := .builtin b, .. } => match b with
    | .append | .copy | .cap => .eff
    | _ => .pur
  | .call _ => .cal
  | _ => .pur

section
variable {R : Type}
def stepK (P : Program) (Γ : FuncId → FunA) (e : Env) (nid : Nat) (μ : AMem) (o : Oper) (K : AV → AMem → Option R) : Option R :=
  match kdOf o.op with
  | .pur => pureK P (evalA e) o.op o.type fun v => K v μ
  | .lod => match o.op with
    | .load t x => loadK P t μ (evalA e x) fun v => viewK P o.type v fun v => K v μ
    | .convert s d x => strK P s d μ (evalA e x) fun v => viewK P o.type v fun v => K v μ
    | _ => none
  | .alc => allocK P (evalA e) nid o.op fun ob v => K v (μ.set nid ob)
  | .eff => effK P (evalA e) nid μ o.op fun v μ' => viewK P o.type v fun v => K v μ'
  | .cal => callK P Γ (evalA e) μ o.op o.type K

def condK (v : AV) (X Y : Option R) : Option R :=
  match v with
  | .s (.bool t) => bif t then X else Y
  | _ => none
def guardK (want : Bool) (v : AV) (X Y Z : Option R) : Option R :=
  match v with
  | .s (.bool b) => bif (bif want then b else !b) then X else Y
  | .tuple [] => Z
  | _ => none
def guardedK (ops : Array Oper) (e : Env) (o : Oper) (X Y : Env → Option R) : Option R :=
  match o.guard with
  | none => X e
  | some (j, want) => match (ops[j]?).bind (·.dst) with
    | none => none
    | some d => guardK want (e d) (X (e.put (some d) (.s (.bool want)))) (Y (e.put (some d) (.s (.bool (!want))))) (Y e)
end

abbrev Rec := Nat × (TypeId × Option TypeId) × AV × AV
open Classical in
noncomputable def checkA {α : Type} (p : Prop) (x : Option α) : Option α := if p then x else none
theorem checkA_pos {α : Type} {p : Prop} (h : p) (x : Option α) : checkA p x = x := if_pos h
theorem checkA_some {α : Type} {p : Prop} {x : Option α} {r : α} (h : checkA p x = some r) : p ∧ x = some r := by
  unfold checkA at h; split at h
  · exact ⟨‹_›, h⟩
  · cases h
noncomputable def stillA {α : Type} (P : Program) (μ : AMem) : List Rec → Option α → Option α
  | [], x => x
  | r :: D, x => checkA (readK P r.2.1 μ r.2.2.1 some = some r.2.2.2) (stillA P μ D x)

def runA {R : Type} (P : Program) (Γ : FuncId → FunA) (ops : Array Oper) (N : Nat) (K : Env → AMem → Option R) : List Nat → Env → AMem → Option R
  | [], e, μ => K e μ
  | i :: l, e, μ => match ops[i]? with
    | none => none
    | some o => guardedK ops e o (fun e => stepK P Γ e (N + i) μ o fun v μ' => runA P Γ ops N K l (e.put o.dst v) μ') (fun e => runA P Γ ops N K l (e.put o.dst (.tuple [])) μ)

def cutM {R : Type} (n : Nat) (μ : AMem) (v : AV) (l h : Int) (K : AV → Option R) : Option R :=
  match v with
  | .s .nilSlice => if l = 0 ∧ h = 0 then K (.s .nilSlice) else none
  | .s (.slice id ver 0 _) => (μ.obj id).bind fun o => if o.ver = ver then o.cap.bind fun c => if 0 ≤ l ∧ l ≤ h ∧ h ≤ (c : Int) then K (.s (.slice id ver (0 + l.toNat * n) (h.toNat - l.toNat))) else none else none
  | _ => none
def sliceW {R : Type} (P : Program) (t : TypeId) (μ : AMem) (lo hi : Option AV) (v : AV) (K : AV → Option R) : Option R :=
  match P.underlying t with
  | some (.slice e) => match sizeA P e with
    | some (k + 1) => match lo, hi with
      | none, some b => asN b fun h => cutM (k + 1) μ v 0 h K
      | some a, some b => asN a fun l => asN b fun h => cutM (k + 1) μ v l h K
      | _, _ => none
    | _ => none
  | _ => none
def stepW {R : Type} (P : Program) (Γ : FuncId → FunA) (e : Env) (nid : Nat) (μ : AMem) (o : Oper) (K : AV → AMem → Option R) : Option R :=
  match o.op with
  | .slice t x lo hi none => sliceW P t μ (lo.map (evalA e)) (hi.map (evalA e)) (evalA e x) fun v => K v μ
  | _ => stepK P Γ e nid μ o K
def runW {R : Type} (P : Program) (Γ : FuncId → FunA) (ops : Array Oper) (N : Nat) (K : Env → AMem → Option R) : List Nat → Env → AMem → Option R
  | [], e, μ => K e μ
  | i :: l, e, μ => match ops[i]? with
    | none => none
    | some o => guardedK ops e o (fun e => stepW P Γ e (N + i) μ o fun v μ' => runW P Γ ops N K l (e.put o.dst v) μ') (fun e => runW P Γ ops N K l (e.put o.dst (.tuple [])) μ)

def ancsA : List Oper → Array Nat → Array Nat
  | [], acc => acc
  | o :: r, acc => ancsA r (acc.push (o.after.toList.foldl (fun s e => if Region.binds .any e then s ||| 2 ^ e.on ||| acc.getD e.on 0 else s) 0))
def ancs (ops : Array Oper) : Array Nat := ancsA ops.toList #[]
def anc (b : Array Nat) (j i : Nat) : Bool := (b.getD i 0).testBit j

def recOf (i : Nat) (e : Env) (o : Oper) (v : AV) (D : List Rec) : List Rec :=
  match o.op with
  | .load t x => (i, (t, none), evalA e x, v) :: D
  | .convert s d x => (i, (s, some d), evalA e x, v) :: D
  | _ => D
noncomputable def runD {R : Type} (P : Program) (Γ : FuncId → FunA) (ops : Array Oper) (b : Array Nat) (N : Nat) (K : Env → AMem → Option R) : List Nat → Env → AMem → List Rec → Option R
  | [], e, μ, _ => K e μ
  | i :: l, e, μ, D => match ops[i]? with
    | none => none
    | some o => guardedK ops e o (fun e => stepK P Γ e (N + i) μ o fun v μ' =>
          match kdOf o.op with
          | .eff | .cal => stillA P μ' (D.filter fun d => !anc b d.1 i) (runD P Γ ops b N K l (e.put o.dst v) μ' D)
          | .alc => checkA (μ.obj (N + i) = none) (runD P Γ ops b N K l (e.put o.dst v) μ' D)
          | .lod => runD P Γ ops b N K l (e.put o.dst v) μ' (recOf i e o v D)
          | _ => runD P Γ ops b N K l (e.put o.dst v) μ' D)
        (fun e => runD P Γ ops b N K l (e.put o.dst (.tuple [])) μ D)

def looksA (ops : Array Oper) (o : Oper) : List Nat :=
  (o.op.operands.toList.filterMap fun x => match x with | .tmp t => some t | _ => none) ++
  match o.guard with
  | some (j, _) => match (ops[j]?).bind (·.dst) with | some d => [d] | none => []
  | none => []
def appA (op : Op) : Bool := match op with
  | .call { callee := .builtin .append, .. } => true
  | .store _ _ _ => true
  | _ => false
def swapA (ops : Array Oper) (x y : Oper) : Bool :=
  (match x.dst with | some d => !(looksA ops y).contains d && !(y.dst == some d) | none => true) &&
  (match y.dst with | some d => !(looksA ops x).contains d | none => true) &&
  match kdOf x.op, kdOf y.op with
  | .pur, _ | _, .pur => true
  | .lod, _ => true
  | .alc, .alc => true
  | .eff, .alc => appA x.op
  | _, _ => false
def pairA (ops : Array Oper) (b : Array Nat) (i j : Nat) : Bool :=
  !Nat.beq i j && (!anc b j i && (anc b i j || match ops[i]?, ops[j]? with | some x, some y => swapA ops x y | _, _ => false))
def pairsA (ops : Array Oper) (b : Array Nat) : List Nat → Bool
  | [] => true
  | i :: l => (l.all fun j => pairA ops b i j) && pairsA ops b l
def aheadA (b : Array Nat) (o : Oper) : Nat := o.after.toList.foldl (fun s e => if Region.binds .any e then s ||| 2 ^ e.on ||| b.getD e.on 0 else s) 0
def tableA (ops : Array Oper) (b : Array Nat) : Bool := (List.range ops.size).all fun i => match ops[i]? with
  | some o => Nat.beq (b.getD i 0) (aheadA b o) && o.after.toList.all fun e => !Region.binds .any e || Nat.blt e.on i
  | none => false
def orderA (ops : Array Oper) (b : Array Nat) (l : List Nat) : Bool :=
  tableA ops b && (l.length == ops.size && (l.all (fun i => Nat.blt i ops.size) && ((List.range ops.size).all (fun i => l.contains i) && pairsA ops b l)))
def dstsA (nt : Nat) (ops : Array Oper) : Bool := ops.all fun o => match o.dst with | some d => d < nt | none => true
def newA (op : Op) : Bool := match op with
  | .box _ _ | .alloc _ | .buildSlice _ _ _ | .makeSlice _ _ _ => true
  | .call { callee := .builtin .append, .. } => true
  | _ => false
def newsA (ops : Array Oper) : Bool := ops.any fun o => newA o.op
def resvA (ops : Array Oper) (μ : AMem) : AMem := bif newsA ops then μ.bump ops.size else μ

inductive AExit where
  | normal
  | exit (id : Nat)
  | ret
inductive VT where
  | i (k : IntKind)
  | b
  | s
  | v
abbrev Slots := List (Nat × VT)
inductive Ann where
  | leaf
  | wide
  | ord (l : List Nat)
  | two (a b : Ann)
  | join (L : Slots) (O : List Nat) (xs : List Nat) (a b : Ann)
  | loop (L : Slots) (O : List Nat) (xs : List Nat) (a : Ann)
abbrev Res := AExit × List AV × AMem
structure Lv where
  ret : Slots
  exits : List (Nat × Slots)
def exitsOf : List (Nat × Slots) → Nat → Slots
  | [], _ => []
  | (j, l) :: r, i => bif Nat.beq j i then l else exitsOf r i
def Lv.at (lv : Lv) (n : Slots) : AExit → Slots
  | .normal => n
  | .ret => lv.ret
  | .exit id => exitsOf lv.exits id
def valsOf (L : Slots) (e : Env) : List AV := L.map fun p => e p.1
section
variable {R : Type}
def headK (vs : List AV) (K : AV → List AV → Option R) : Option R :=
  match vs with
  | v :: r => K v r
  | [] => none
def joinK : Slots → List AV → Env → (Env → Option R) → Option R
  | [], _, e, K => K e
  | (s, t) :: L, vs, e, K => headK vs fun v r => match t with
    | .i k => asI k v fun n => joinK L r (e.put (some s) (.s (.int k n))) K
    | .b => asB v fun b => joinK L r (e.put (some s) (.s (.bool b))) K
    | .s => asS v fun x => joinK L r (e.put (some s) (.s x)) K
    | .v => joinK L r (e.put (some s) v) K
def exitsK (xs : List Nat) (id : Nat) (f : Nat → Option R) : Option R :=
  match xs with
  | [] => none
  | j :: r => bif Nat.beq j id then f j else exitsK r id f
def noEnv : Env := fun _ => .unk
def envO : List Nat → List AV → Env
  | d :: ds, v :: vs => fun s => bif Nat.beq s d then v else envO ds vs s
  | _, _ => noEnv
def seqJ (x : Option Res) (N E : List AV → AMem → Option R) (I : Nat → List AV → AMem → Option R) : Option R :=
  x.bind fun r => match r.1 with
    | .normal => N r.2.1 r.2.2
    | .ret => E r.2.1 r.2.2
    | .exit id => I id r.2.1 r.2.2
end

def roundsA (body : List AV → AMem → Option Res) : Nat → List AV → AMem → Option Res
  | 0, _, _ => none
  | k + 1, vs, μ => (body vs μ).bind fun r => match r.1 with
    | .normal => roundsA body k r.2.1 r.2.2
    | _ => some r
open Classical in
noncomputable def loopA (body : List AV → AMem → Option Res) (vs : List AV) (μ : AMem) : Option Res :=
  if h : ∃ k r, roundsA body k vs μ = some r then some (Classical.choose (Classical.choose_spec h)) else none

theorem roundsA_more (body : List AV → AMem → Option Res) : ∀ k vs μ r, roundsA body k vs μ = some r → ∀ j, roundsA body (k + j) vs μ = some r := by
  intro k
  induction k with
  | zero => intro vs μ r h; simp [roundsA] at h
  | succ k ih =>
    intro vs μ r h j
    rw [show k + 1 + j = (k + j) + 1 by omega]
    simp only [roundsA] at h ⊢
    cases hb : body vs μ with
    | none => rw [hb] at h; simp at h
    | some q =>
      rw [hb] at h
      simp only [Option.bind_some] at h ⊢
      split at h
      · exact ih _ _ _ h j
      · exact h
theorem loopA_some {body : List AV → AMem → Option Res} {vs : List AV} {μ : AMem} {r : Res} : loopA body vs μ = some r ↔ ∃ k, roundsA body k vs μ = some r := by
  unfold loopA
  constructor
  · intro h
    split at h
    · rename_i hk
      have := Classical.choose_spec (Classical.choose_spec hk)
      cases h
      exact ⟨_, this⟩
    · cases h
  · rintro ⟨k, hk⟩
    have hex : ∃ k r, roundsA body k vs μ = some r := ⟨k, r, hk⟩
    rw [dif_pos hex]
    have := Classical.choose_spec (Classical.choose_spec hex)
    have h1 := roundsA_more body _ _ _ _ this k
    have h2 := roundsA_more body _ _ _ _ hk (Classical.choose hex)
    rw [Nat.add_comm] at h2
    rw [h1] at h2
    exact h2
theorem loopA_eq (body : List AV → AMem → Option Res) (vs : List AV) (μ : AMem) :
    loopA body vs μ = (body vs μ).bind fun r => match r.1 with | .normal => loopA body r.2.1 r.2.2 | _ => some r := by
  apply Option.ext
  intro r
  constructor
  · intro h
    obtain ⟨k, hk⟩ := loopA_some.mp h
    cases k with
    | zero => simp [roundsA] at hk
    | succ k =>
      simp only [roundsA] at hk
      cases hb : body vs μ with
      | none => rw [hb] at hk; simp at hk
      | some q =>
        rw [hb] at hk
        obtain ⟨x, vs1, μ1⟩ := q
        cases x with
        | normal => exact loopA_some.mpr ⟨k, hk⟩
        | exit id => exact hk
        | ret => exact hk
  · intro h
    cases hb : body vs μ with
    | none => rw [hb] at h; simp at h
    | some q =>
      rw [hb] at h
      obtain ⟨x, vs1, μ1⟩ := q
      cases x with
      | normal =>
        obtain ⟨k, hk⟩ := loopA_some.mp h
        exact loopA_some.mpr ⟨k + 1, by simp only [roundsA, hb, Option.bind_some]; exact hk⟩
      | exit id => exact loopA_some.mpr ⟨1, by simp only [roundsA, hb, Option.bind_some]; exact h⟩
      | ret => exact loopA_some.mpr ⟨1, by simp only [roundsA, hb, Option.bind_some]; exact h⟩

def writesA : Code → List Nat
  | .region _ ops _ => ops.toList.filterMap (·.dst)
  | .seq a b => writesA a ++ writesA b
  | .cond _ a b => writesA a ++ writesA b
  | .block _ a => writesA a
  | .loop a => writesA a
  | _ => []
def keepsA (O : List Nat) (c : Code) : Bool := O.all fun s => !(writesA c).contains s
noncomputable def den (P : Program) (Γ : FuncId → FunA) (nt : Nat) : Code → Ann → Lv → (R : Type) → Env → AMem → (AExit → Env → AMem → Option R) → Option R
  | .skip, _, _, _, e, μ, K => K .normal e μ
  | .ret, _, _, _, e, μ, K => K .ret e μ
  | .exit id, _, _, _, e, μ, K => K (.exit id) e μ
  | .region _ ops false, .wide, _, _, e, μ, K =>
    bif dstsA nt ops then runW P Γ ops μ.next (K .normal) (List.range ops.size) e (resvA ops μ) else none
  | .region _ ops false, _, _, _, e, μ, K =>
    bif dstsA nt ops then runA P Γ ops μ.next (K .normal) (List.range ops.size) e (resvA ops μ) else none
  | .region _ ops true, .ord l, _, _, e, μ, K =>
    bif dstsA nt ops && orderA ops (ancs ops) l then runD P Γ ops (ancs ops) μ.next (K .normal) l e (resvA ops μ) [] else none
  | .seq a b, .two x y, lv, R, e, μ, K => den P Γ nt a x lv R e μ fun ex e μ => match ex with
    | .normal => den P Γ nt b y lv R e μ K
    | .ret => K .ret e μ
    | .exit id => K (.exit id) e μ
  | .seq a b, .join L O xs x y, lv, R, e, μ, K =>
    bif keepsA O a then seqJ (den P Γ nt a x lv Res e μ fun ex e μ => some (ex, valsOf (lv.at L ex) e, μ))
      (fun vs μ => joinK L vs (envO O (O.map e)) fun e => den P Γ nt b y lv R e μ K)
      (fun vs μ => joinK lv.ret vs noEnv fun e => K .ret e μ)
      (fun id vs μ => exitsK xs id fun j => joinK (exitsOf lv.exits j) vs noEnv fun e => K (.exit j) e μ) else none
  | .cond c a b, .two x y, lv, R, e, μ, K => condK (evalA e c) (den P Γ nt a x lv R e μ K) (den P Γ nt b y lv R e μ K)
  | .block id a, .join L _ _ x _, lv, R, e, μ, K => den P Γ nt a x { lv with exits := (id, L) :: lv.exits } R e μ fun ex e μ => match ex with
    | .exit j => bif Nat.beq j id then K .normal e μ else K (.exit j) e μ
    | .normal => K .normal e μ
    | .ret => K .ret e μ
  | .loop a, .loop L O xs x, lv, _, e, μ, K =>
    bif keepsA O a then seqJ (loopA (fun vs μ => joinK L vs (envO O (O.map e)) fun e => den P Γ nt a x lv Res e μ fun ex e μ => some (ex, valsOf (lv.at L ex) e, μ)) (valsOf L e) μ)
      (fun _ _ => none)
      (fun vs μ => joinK lv.ret vs noEnv fun e => K .ret e μ)
      (fun id vs μ => exitsK xs id fun j => joinK (exitsOf lv.exits j) vs noEnv fun e => K (.exit j) e μ) else none
  | _, _, _, _, _, _, _ => none

def resL : List ResultVar → Option (List Nat)
  | [] => some []
  | .tmp t :: r => (resL r).map (t :: ·)
  | .cell _ _ :: _ => none
def packV : List AV → AV
  | [v] => v
  | l => .tuple l
noncomputable def denF (P : Program) (Γ : FuncId → FunA) (fn : Func) (an : Ann) (rs : Slots) : FunA := fun as μ =>
  match fn.body, resL fn.results.toList with
  | some c, some l => bif Nat.ble as.length fn.ntmps then
      den P Γ fn.ntmps c an { ret := rs, exits := [] } (AV × AMem) (fun s => as.getD s (.tuple [])) μ fun ex e μ => match ex with
        | .exit _ => none
        | .normal => some (packV (l.map e), μ)
        | .ret => some (packV (l.map e), μ)
    else none
  | _, _ => none

def roomO (o : AObj) (c : Nat) (z : SV) : AObj := { o with cells := o.cells ++ List.replicate (c - o.cells.length) z, cap := some c }
def Rooms (e : TypeId) (z : SV) (D : FunA) (as : List AV) (id ver len : Nat) (μ : AMem) (o : AObj) : Prop :=
  o.own = true ∧ o.ver = ver ∧ o.size = 1 ∧ o.elem = e ∧ (z = .undef ∨ ver = 0) ∧ ∀ c, len ≤ c → o.cells.length ≤ c → c ≤ 9223372036854775807 → ∃ m o', D as (μ.set id (roomO o c z)) = some (.tuple [], m) ∧ (∀ j, j ≠ id → m.obj j = μ.obj j) ∧ m.obj id = some o' ∧ o'.own = true ∧ o'.size = 1 ∧ o'.elem = e ∧ o'.ver = ver
noncomputable def roomF (e : TypeId) (z : SV) (D : FunA) : FunA := fun as μ =>
  match as with
  | [.s .nilSlice] => D as μ
  | [.s (.slice id ver 0 len)] => (μ.obj id).bind fun o => checkA (Rooms e z D as id ver len μ o) (some (.tuple [], μ.set id (newVer o [])))
  | _ => none

def onceF (Γ : FuncId → FunA) : FunA := fun as μ =>
  match as with
  | [.s (.ptr id ver off), f] => (μ.cell id ver off).bind fun c => match c with
    | .int .u32 n => if n = 0 then (μ.cell id ver (off + 1)).bind fun s => match s with
        | .int .i32 0 => (μ.store id ver (off + 1) [.int .i32 1]).bind fun μ1 => callV Γ f [] μ1 fun _ μ2 =>
          (μ2.cell id ver off).bind fun c2 => (μ2.cell id ver (off + 1)).bind fun s2 => match c2, s2 with
          | .int .u32 0, .int .i32 1 => (μ2.store id ver off [.int .u32 1]).bind fun μ3 => (μ3.store id ver (off + 1) [.int .i32 0]).bind fun μ4 => some (.tuple [], μ4)
          | _, _ => none
        | _ => none
      else some (.tuple [], μ)
    | _ => none
  | _ => none
def addI64F : FunA := fun as μ =>
  match as with
  | [.s (.ptr id ver off), .s (.int .i64 d)] => (μ.cell id ver off).bind fun c => match c with
    | .int .i64 n => (μ.store id ver off [.int .i64 (IntKind.wrap .i64 (n + d))]).bind fun μ' => some (.s (.int .i64 (IntKind.wrap .i64 (n + d))), μ')
    | _ => none
  | _ => none
def loadI64F : FunA := fun as μ =>
  match as with
  | [.s (.ptr id ver off)] => (μ.cell id ver off).bind fun c => match c with
    | .int .i64 n => some (.s (.int .i64 n), μ)
    | _ => none
  | _ => none

def cL : Code → Code
  | .seq a _ => a
  | .cond _ a _ => a
  | .block _ a => a
  | .loop a => a
  | _ => .skip
def cR : Code → Code
  | .seq _ b => b
  | .cond _ _ b => b
  | _ => .skip
def aL : Ann → Ann
  | .two a _ => a
  | .join _ _ _ a _ => a
  | .loop _ _ _ a => a
  | _ => .leaf
def aR : Ann → Ann
  | .two _ b => b
  | .join _ _ _ _ b => b
  | _ => .leaf
def bodyOf (fn : Func) : Code := match fn.body with | some c => c | none => .skip

end Go.Proofs.YtnjenjbodcihmaaGreat.E
namespace Go.Proofs.YtnjenjbodcihmaaGreat.E
open Go
set_option linter.unusedVariables false

structure Loc where
  b : Nat
  o : Nat
  cap : Nat

def PtrR (ι : Nat → Loc) (μ : AMem) (id ver off : Nat) (v : Value) : Prop :=
  ∃ o, μ.obj id = some o ∧ ver ≤ o.ver ∧ ∃ a, v = .pointer (some a) ∧ (o.ver = ver → a = ⟨(ι id).b, (ι id).o + off, none⟩)
def SliceR (ι : Nat → Loc) (μ : AMem) (id ver off len : Nat) (v : Value) : Prop :=
  ∃ o, μ.obj id = some o ∧ ver ≤ o.ver ∧ ∃ a cap, v = .slice (some a) len cap ∧ len ≤ cap ∧
    (o.ver = ver → (off = 0 → cap = (ι id).cap) ∧ (a = ⟨(ι id).b, (ι id).o + off, none⟩ ∨ cap = 0))
def bytesOf (l : List Int) : ByteArray := l.foldl (fun r n => r.push (UInt8.ofNat n.toNat)) ByteArray.empty
def SVR (ι : Nat → Loc) (μ : AMem) (x : SV) (v : Value) : Prop :=
  match x with
  | .int k n => v = .int k n
  | .bool b => v = .bool b
  | .nilPtr => v = .pointer none
  | .ptr id ver off => PtrR ι μ id ver off v
  | .nilSlice => v = .slice none 0 0
  | .slice id ver off len => SliceR ι μ id ver off len v
  | .nilFunc => v = .nilFunc
  | .func f caps => ∃ cvs : Array Value, v = .func (.func f) #[] cvs ∧ cvs.size = caps.length ∧ ∀ (i : Nat) (c : Nat × Nat × Nat), caps[i]? = some c → ∃ u, cvs[i]? = some u ∧ PtrR ι μ c.1 c.2.1 c.2.2 u
  | .bound f id ver off => ∃ u, v = .func (.func f) #[u] #[] ∧ PtrR ι μ id ver off u
  | .str l => v = .string (bytesOf l) ∧ ∀ x ∈ l, 0 ≤ x ∧ x < 256
  | .undef => v.oneCell' = true
def All2 {α β : Type} (R : α → β → Prop) (l : List α) (m : List β) : Prop := m.length = l.length ∧ ∀ (i : Nat) x, l[i]? = some x → ∃ y, m[i]? = some y ∧ R x y
mutual
def AVR (ι : Nat → Loc) (μ : AMem) : AV → Value → Prop
  | .s y, v => SVR ι μ y v
  | .agg l, v => ∃ cs : Array Value, v = .agg cs ∧ All2 (SVR ι μ) l cs.toList
  | .tuple l, v => ∃ vs : Array Value, v = .tuple vs ∧ AVRs ι μ l vs.toList
  | .unk, _ => True
def AVRs (ι : Nat → Loc) (μ : AMem) : List AV → List Value → Prop
  | [], m => m = []
  | x :: l, m => ∃ y m', m = y :: m' ∧ AVR ι μ x y ∧ AVRs ι μ l m'
end

theorem SVR.one {ι : Nat → Loc} {μ : AMem} {x : SV} {v : Value} (h : SVR ι μ x v) : v.oneCell' = true := by
  cases x with
  | ptr id ver off => obtain ⟨_, _, _, a, rfl, _⟩ := h; rfl
  | slice id ver off len => obtain ⟨_, _, _, a, c, rfl, _⟩ := h; rfl
  | func f caps => obtain ⟨_, rfl, _⟩ := h; rfl
  | bound f id ver off => obtain ⟨_, rfl, _⟩ := h; rfl
  | str l => obtain ⟨rfl, _⟩ := h; rfl
  | undef => exact h
  | _ => first | (cases h; rfl) | (simp only [SVR] at h; subst h; rfl)

def Ext (ι : Nat → Loc) (μ : AMem) (ι' : Nat → Loc) (μ' : AMem) : Prop :=
  ∀ id o, μ.obj id = some o → ∃ o', μ'.obj id = some o' ∧ o.ver ≤ o'.ver ∧ (o'.ver = o.ver → ι' id = ι id ∧ o'.size = o.size)
theorem Ext.refl (ι : Nat → Loc) (μ : AMem) : Ext ι μ ι μ := fun _ o h => ⟨o, h, Nat.le_refl _, fun _ => ⟨rfl, rfl⟩⟩
theorem Ext.trans {ι ι1 ι2 : Nat → Loc} {μ μ1 μ2 : AMem} (h : Ext ι μ ι1 μ1) (k : Ext ι1 μ1 ι2 μ2) : Ext ι μ ι2 μ2 := by
  intro id o ho
  obtain ⟨o1, h1, l1, e1⟩ := h id o ho
  obtain ⟨o2, h2, l2, e2⟩ := k id o1 h1
  refine ⟨o2, h2, Nat.le_trans l1 l2, fun he => ?_⟩
  obtain ⟨a1, a2⟩ := e1 (by omega)
  obtain ⟨b1, b2⟩ := e2 (by omega)
  exact ⟨b1.trans a1, b2.trans a2⟩
section
variable {ι ι' : Nat → Loc} {μ μ' : AMem}
theorem PtrR.mono (hx : Ext ι μ ι' μ') {id ver off : Nat} {v : Value} (h : PtrR ι μ id ver off v) : PtrR ι' μ' id ver off v := by
  obtain ⟨o, ho, hv, a, rfl, ha⟩ := h
  obtain ⟨o', ho', hl, he⟩ := hx id o ho
  refine ⟨o', ho', Nat.le_trans hv hl, a, rfl, fun hh => ?_⟩
  obtain ⟨e1, _⟩ := he (by omega)
  rw [ha (by omega), e1]
theorem SVR.mono (hx : Ext ι μ ι' μ') {x : SV} {v : Value} (h : SVR ι μ x v) : SVR ι' μ' x v := by
  cases x with
  | ptr id ver off => exact PtrR.mono hx h
  | slice id ver off len =>
    obtain ⟨o, ho, hv, a, c, rfl, hc, ha⟩ := h
    obtain ⟨o', ho', hl, he⟩ := hx id o ho
    refine ⟨o', ho', Nat.le_trans hv hl, a, c, rfl, hc, fun hh => ?_⟩
    obtain ⟨e1, _⟩ := he (by omega)
    rw [e1]
    exact ha (by omega)
  | func f caps =>
    obtain ⟨cvs, rfl, hs, hc⟩ := h
    refine ⟨cvs, rfl, hs, fun i c hi => ?_⟩
    obtain ⟨u, hu, hp⟩ := hc i c hi
    exact ⟨u, hu, hp.mono hx⟩
  | bound f id ver off =>
    obtain ⟨u, rfl, hu⟩ := h
    exact ⟨u, rfl, hu.mono hx⟩
  | _ => exact h
theorem All2.imp {α β : Type} {R S : α → β → Prop} {l : List α} {m : List β} (h : All2 R l m) (k : ∀ x y, R x y → S x y) : All2 S l m :=
  ⟨h.1, fun i x hi => let ⟨y, hy, hr⟩ := h.2 i x hi; ⟨y, hy, k _ _ hr⟩⟩
mutual
theorem AVR.mono' (hx : Ext ι μ ι' μ') : ∀ (x : AV) (v : Value), AVR ι μ x v → AVR ι' μ' x v
  | .s y, v, h => by unfold AVR at h ⊢; exact SVR.mono hx h
  | .agg l, v, h => by
    unfold AVR at h ⊢
    obtain ⟨cs, rfl, hc⟩ := h; exact ⟨cs, rfl, hc.imp fun _ _ => SVR.mono hx⟩
  | .tuple l, v, h => by
    unfold AVR at h ⊢
    obtain ⟨cs, rfl, hc⟩ := h; exact ⟨cs, rfl, AVRs.mono hx l _ hc⟩
  | .unk, v, h => by unfold AVR; trivial
theorem AVRs.mono (hx : Ext ι μ ι' μ') : ∀ (l : List AV) (m : List Value), AVRs ι μ l m → AVRs ι' μ' l m
  | [], m, h => h
  | x :: l, m, h => by
    unfold AVRs at h ⊢
    obtain ⟨y, m', e, h1, h2⟩ := h
    exact ⟨y, m', e, AVR.mono' hx x y h1, AVRs.mono hx l m' h2⟩
end
theorem AVR.mono (hx : Ext ι μ ι' μ') {x : AV} {v : Value} (h : AVR ι μ x v) : AVR ι' μ' x v := AVR.mono' hx x v h
end

theorem All2.nil {α β : Type} (R : α → β → Prop) : All2 R [] [] := ⟨rfl, fun _ _ h => by simp at h⟩
theorem All2.cons {α β : Type} {R : α → β → Prop} {x : α} {y : β} {l : List α} {m : List β} (h : R x y) (k : All2 R l m) : All2 R (x :: l) (y :: m) := by
  refine ⟨by simp [k.1], fun i z hz => ?_⟩
  cases i with
  | zero => simp at hz; subst hz; exact ⟨y, rfl, h⟩
  | succ i => simpa using k.2 i z (by simpa using hz)
theorem All2.cons_inv {α β : Type} {R : α → β → Prop} {x : α} {l : List α} {m : List β} (h : All2 R (x :: l) m) : ∃ y m', m = y :: m' ∧ R x y ∧ All2 R l m' := by
  cases m with
  | nil => have := h.1; simp at this
  | cons y m' =>
    refine ⟨y, m', rfl, ?_, ⟨by have := h.1; simpa using this, fun i z hz => by simpa using h.2 (i + 1) z (by simpa using hz)⟩⟩
    obtain ⟨z, hz, hr⟩ := h.2 0 x rfl
    simp at hz; subst hz; exact hr
theorem All2.nil_inv {α β : Type} {R : α → β → Prop} {m : List β} (h : All2 R [] m) : m = [] := List.eq_nil_of_length_eq_zero (by simpa using h.1)
theorem All2.append {α β : Type} {R : α → β → Prop} {l l' : List α} {m m' : List β} (h : All2 R l m) (k : All2 R l' m') : All2 R (l ++ l') (m ++ m') := by
  refine ⟨by simp [h.1, k.1], fun i x hx => ?_⟩
  rw [List.getElem?_append] at hx ⊢
  rw [h.1]
  split at hx
  · rename_i hi; rw [if_pos hi]; exact h.2 i x hx
  · rename_i hi; rw [if_neg hi]; exact k.2 _ x hx
theorem All2.take {α β : Type} {R : α → β → Prop} {l : List α} {m : List β} (h : All2 R l m) (n : Nat) : All2 R (l.take n) (m.take n) := by
  refine ⟨by simp [h.1], fun i x hx => ?_⟩
  rw [List.getElem?_take] at hx ⊢
  split at hx
  · rename_i hi; rw [if_pos hi]; exact h.2 i x hx
  · simp at hx
theorem All2.drop {α β : Type} {R : α → β → Prop} {l : List α} {m : List β} (h : All2 R l m) (n : Nat) : All2 R (l.drop n) (m.drop n) := by
  refine ⟨by simp [h.1], fun i x hx => ?_⟩
  rw [List.getElem?_drop] at hx ⊢
  exact h.2 _ x hx

theorem AVRs_iff {ι : Nat → Loc} {μ : AMem} : ∀ {l : List AV} {m : List Value}, AVRs ι μ l m ↔ All2 (AVR ι μ) l m
  | [], m => ⟨fun h => by unfold AVRs at h; subst h; exact All2.nil _, fun h => by unfold AVRs; exact h.nil_inv⟩
  | x :: l, m => by
    unfold AVRs
    constructor
    · rintro ⟨y, m', rfl, h1, h2⟩; exact All2.cons h1 (AVRs_iff.mp h2)
    · intro h; obtain ⟨y, m', e, h1, h2⟩ := h.cons_inv; exact ⟨y, m', e, h1, AVRs_iff.mpr h2⟩

def Sp (P : Program) (o : AObj) (arr : Array Value) : Prop := (∀ (j : Nat) v, arr[j]? = some v → v.oneCell' = true) ∧
  (o.ver = 0 → o.size = 1 → ∀ j, o.cells.length ≤ j → j < arr.size → ∃ i z, P.info? o.elem = some i ∧ i.zero = some z ∧ arr[j]? = z.cells[0]?)
structure ObjR (P : Program) (ι : Nat → Loc) (μ : AMem) (w : World) (id : Nat) (o : AObj) : Prop where
  ex : ∃ arr e fr, w.heap[(ι id).b]? = some (.cells arr e fr) ∧
    (∀ (j : Nat) x, o.cells[j]? = some x → ∃ v, arr[(ι id).o + j]? = some v ∧ SVR ι μ x v) ∧
    (o.own = true → (ι id).o = 0 ∧ fr = (0, 0) ∧ e = o.elem ∧ arr.size = (ι id).cap * o.size ∧ (ι id).cap ≤ maxLen)
  cap : ∀ c, o.cap = some c → (ι id).cap = c
  sp : o.own = true → ∀ arr e fr, w.heap[(ι id).b]? = some (.cells arr e fr) → Sp P o arr
structure Sim (P : Program) (ι : Nat → Loc) (μ : AMem) (w : World) : Prop where
  live : ∀ id o, μ.obj id = some o → id < μ.next ∧ ObjR P ι μ w id o
  sep : ∀ i j oi oj, μ.obj i = some oi → μ.obj j = some oj → oi.own = true → i ≠ j → (ι i).b ≠ (ι j).b
structure Tr (P : Program) (ι : Nat → Loc) (μ : AMem) (w : World) (ι' : Nat → Loc) (μ' : AMem) (w' : World) : Prop where
  sim : Sim P ι' μ' w'
  ext : Ext ι μ ι' μ'
  next : μ.next ≤ μ'.next
  os : w'.os = w.os
  tape : w'.tape = w.tape
  output : w'.output = w.output
  size : w.heap.size ≤ w'.heap.size
  block : ∀ b, b < w.heap.size → (∀ id o, μ.obj id = some o → o.own = true → (ι id).b ≠ b) → w'.heap[b]? = w.heap[b]?
  own : ∀ id o', μ'.obj id = some o' → o'.own = true → (∃ o, μ.obj id = some o ∧ o.own = true ∧ (ι' id).b = (ι id).b) ∨ w.heap.size ≤ (ι' id).b
variable {P : Program}
theorem Tr.refl {ι : Nat → Loc} {μ : AMem} {w : World} (h : Sim P ι μ w) : Tr P ι μ w ι μ w :=
  ⟨h, Ext.refl _ _, Nat.le_refl _, rfl, rfl, rfl, Nat.le_refl _, fun _ _ _ => rfl, fun _ o' ho' hw => .inl ⟨o', ho', hw, rfl⟩⟩
theorem Tr.trans {ι ι1 ι2 : Nat → Loc} {μ μ1 μ2 : AMem} {w w1 w2 : World} (h : Tr P ι μ w ι1 μ1 w1) (k : Tr P ι1 μ1 w1 ι2 μ2 w2) : Tr P ι μ w ι2 μ2 w2 := by
  refine ⟨k.sim, h.ext.trans k.ext, Nat.le_trans h.next k.next, k.os.trans h.os, k.tape.trans h.tape, k.output.trans h.output, Nat.le_trans h.size k.size, ?_, ?_⟩
  · intro b hb hne
    rw [k.block b (Nat.lt_of_lt_of_le hb h.size) ?_, h.block b hb hne]
    intro id o1 ho1 hw1 e
    rcases h.own id o1 ho1 hw1 with ⟨o, ho, hw, heq⟩ | hge
    · exact hne id o ho hw (heq ▸ e)
    · omega
  · intro id o2 ho2 hw2
    rcases k.own id o2 ho2 hw2 with ⟨o1, ho1, hw1, heq1⟩ | hge
    · rcases h.own id o1 ho1 hw1 with ⟨o, ho, hw, heq⟩ | hge
      · exact .inl ⟨o, ho, hw, heq1.trans heq⟩
      · exact .inr (by omega)
    · exact .inr (Nat.le_trans h.size hge)

theorem Sim.drewN {ι : Nat → Loc} {μ : AMem} {w : World} (h : Sim P ι μ w) {w' : World} (hh : w'.heap = w.heap) : Sim P ι μ w' := by
  refine ⟨fun id o ho => ⟨(h.live id o ho).1, ⟨?_, (h.live id o ho).2.cap, ?_⟩⟩, h.sep⟩
  · rw [hh]; exact (h.live id o ho).2.ex
  · rw [hh]; exact (h.live id o ho).2.sp
theorem Sim.bump {ι : Nat → Loc} {μ : AMem} {w : World} (h : Sim P ι μ w) (n : Nat) : Sim P ι (μ.bump n) w := by
  refine ⟨fun id o ho => ?_, h.sep⟩
  obtain ⟨h1, h2⟩ := h.live id o ho
  exact ⟨Nat.lt_of_lt_of_le h1 (Nat.le_add_right _ _), h2.ex, h2.cap, h2.sp⟩
theorem Tr.bump {ι : Nat → Loc} {μ : AMem} {w : World} (h : Sim P ι μ w) (n : Nat) : Tr P ι μ w ι (μ.bump n) w :=
  ⟨h.bump n, Ext.refl _ _, Nat.le_add_right _ _, rfl, rfl, rfl, Nat.le_refl _, fun _ _ _ => rfl, fun _ o' ho' hw => .inl ⟨o', ho', hw, rfl⟩⟩

theorem oneCell_agg {v : Value} (h : v.oneCell' = true) : v.cells = #[v] := by cases v <;> first | rfl | (simp [Value.oneCell'] at h)
theorem Sim.cell {ι : Nat → Loc} {μ : AMem} {w : World} (h : Sim P ι μ w) {id ver off : Nat} {x : SV} (hc : μ.cell id ver off = some x) :
    ∃ o v, μ.obj id = some o ∧ o.ver = ver ∧ w.cell? ⟨(ι id).b, (ι id).o + off, none⟩ = some v ∧ SVR ι μ x v := by
  unfold AMem.cell at hc
  obtain ⟨o, ho, hc⟩ := Option.bind_eq_some_iff.mp hc
  split at hc
  · rename_i hv
    obtain ⟨arr, e, fr, hb, hcells, _⟩ := (h.live id o ho).2.ex
    obtain ⟨v, hv1, hv2⟩ := hcells off x hc
    exact ⟨o, v, ho, hv, by simp [World.cell?, hb, hv1], hv2⟩
  · cases hc
theorem Tr.alloc {ι : Nat → Loc} {μ : AMem} {w : World} (h : Sim P ι μ w) {nid : Nat} (hn : nid < μ.next) (hfree : μ.obj nid = none)
    (o : AObj) (ho : o.ver = 0) (arr : Array Value) (cap : Nat) (hs : arr.size = cap * o.size) (hm : cap ≤ maxLen)
    (hc : ∀ (j : Nat) x, o.cells[j]? = some x → ∃ v, arr[j]? = some v ∧ SVR ι μ x v) (hcap : ∀ c, o.cap = some c → cap = c) (hsp : Sp P o arr)
    {w0 : World} (hh : w0.heap = w.heap) (h1 : w0.os = w.os) (h2 : w0.tape = w.tape) (h3 : w0.output = w.output) :
    Tr P ι μ w (fun j => if j = nid then ⟨w.heap.size, 0, cap⟩ else ι j) (μ.set nid o) (w0.alloc (.cells arr o.elem)) := by
  have hne : ∀ id x, μ.obj id = some x → id ≠ nid := fun id x hx e => by subst e; rw [hfree] at hx; cases hx
  have hext : Ext ι μ (fun j => if j = nid then ⟨w.heap.size, 0, cap⟩ else ι j) (μ.set nid o) := by
    intro id x hx
    have := hne id x hx
    exact ⟨x, by simp [AMem.set, this, hx], Nat.le_refl _, fun _ => ⟨by simp [this], rfl⟩⟩
  have hlt : ∀ id x, μ.obj id = some x → (ι id).b < w.heap.size := by
    intro id x hx
    obtain ⟨arr', e, fr, hb, _⟩ := (h.live id x hx).2.ex
    exact (Array.getElem?_eq_some_iff.1 hb).1
  have hold : ∀ b, b < w.heap.size → (w0.alloc (.cells arr o.elem)).heap[b]? = w.heap[b]? := by
    intro b hb
    rw [heap_alloc_old _ _ _ (by rw [hh]; exact hb), hh]
  have hnew : (w0.alloc (.cells arr o.elem)).heap[w.heap.size]? = some (.cells arr o.elem) := by
    have := heap_alloc_new w0 (.cells arr o.elem)
    rwa [hh] at this
  have hsz : (w0.alloc (.cells arr o.elem)).heap.size = w.heap.size + 1 := by
    show (w0.heap.push _).size = _
    rw [Array.size_push, hh]
  refine ⟨⟨?_, ?_⟩, hext, Nat.le_refl _, h1, h2, h3, by omega, fun b hb _ => hold b hb, ?_⟩
  · intro id x hx
    by_cases e : id = nid
    · subst e
      simp only [AMem.set, if_true] at hx
      obtain rfl := Option.some.inj hx
      refine ⟨hn, ⟨arr, o.elem, (0, 0), by simpa using hnew, ?_, fun _ => ⟨by simp, rfl, rfl, by simpa using hs, by simpa using hm⟩⟩, fun c hcc => by simpa using hcap c hcc, fun _ arr' e' fr' hb' => ?_⟩
      · intro j y hy
        obtain ⟨v, hv, hr⟩ := hc j y hy
        exact ⟨v, by simpa using hv, hr.mono hext⟩
      · simp only [if_true] at hb'
        rw [hnew] at hb'
        cases hb'
        exact hsp
    · simp only [AMem.set, if_neg e] at hx
      obtain ⟨g1, ⟨arr', e', fr, hb, hcs, hown⟩, g3, g4⟩ := h.live id x hx
      refine ⟨g1, ⟨arr', e', fr, ?_, ?_, ?_⟩, ?_, ?_⟩
      · simp only [if_neg e]; rw [hold _ (hlt id x hx)]; exact hb
      · intro j y hy
        obtain ⟨v, hv, hr⟩ := hcs j y hy
        exact ⟨v, by simpa only [if_neg e] using hv, hr.mono hext⟩
      · simpa only [if_neg e] using hown
      · simpa only [if_neg e] using g3
      · simp only [if_neg e]; rw [hold _ (hlt id x hx)]; exact g4
  · intro i j oi oj hi hj hw hij
    by_cases ei : i = nid
    · subst ei
      have ej : j ≠ i := fun e => hij e.symm
      simp only [AMem.set, if_neg ej] at hj
      have := hlt j oj hj
      simp only [if_true, if_neg ej]
      omega
    · by_cases ej : j = nid
      · subst ej
        simp only [AMem.set, if_neg ei] at hi
        have := hlt i oi hi
        simp only [if_true, if_neg ei]
        omega
      · simp only [AMem.set, if_neg ei, if_neg ej] at hi hj ⊢
        exact h.sep i j oi oj hi hj hw hij
  · intro id x hx hw
    by_cases e : id = nid
    · right; subst e; simp
    · left
      simp only [AMem.set, if_neg e] at hx
      exact ⟨x, hx, hw, by simp [e]⟩
theorem Tr.change {ι : Nat → Loc} {μ : AMem} {w : World} (h : Sim P ι μ w) {id : Nat} {o o' : AObj} (ho : μ.obj id = some o) (hw : o.own = true)
    (hown : o'.own = true) (hsize : o'.size = o.size) (helem : o'.elem = o.elem) (hver : o.ver ≤ o'.ver) (hcap : o'.cap = o.cap ∨ o'.cap = none)
    (arr : Array Value) (hs : arr.size = (ι id).cap * o.size)
    (hc : ∀ (j : Nat) x, o'.cells[j]? = some x → ∃ v, arr[j]? = some v ∧ SVR ι μ x v) (hsp : Sp P o' arr) :
    Tr P ι μ w ι (μ.set id o') (w.setRow (ι id).b arr) := by
  obtain ⟨g1, ⟨arr0, e0, fr0, hb, hcs, hown0⟩, g3, g4⟩ := h.live id o ho
  obtain ⟨q1, q2, q3, q4, q5⟩ := hown0 hw
  subst q2 q3
  have hext : Ext ι μ ι (μ.set id o') := by
    intro i x hx
    by_cases e : i = id
    · subst e
      rw [ho] at hx
      obtain rfl := Option.some.inj hx
      exact ⟨o', by simp [AMem.set], hver, fun _ => ⟨rfl, hsize⟩⟩
    · exact ⟨x, by simp [AMem.set, e, hx], Nat.le_refl _, fun _ => ⟨rfl, rfl⟩⟩
  have hne : ∀ i x, μ.obj i = some x → i ≠ id → (ι i).b ≠ (ι id).b := fun i x hx e => (h.sep id i o x ho hx hw (fun e' => e e'.symm)).symm
  refine ⟨⟨?_, ?_⟩, hext, Nat.le_refl _, rfl, rfl, rfl, by simp [World.setRow], ?_, ?_⟩
  · intro i x hx
    by_cases e : i = id
    · subst e
      simp only [AMem.set, if_true] at hx
      obtain rfl := Option.some.inj hx
      refine ⟨g1, ⟨arr, o.elem, (0, 0), setRow_heap w _ arr0 arr _ _ hb, ?_, fun _ => ⟨q1, rfl, helem.symm, by rw [hsize]; exact hs, q5⟩⟩, ?_, fun _ arr' e' fr' hb' => ?_⟩
      · intro j y hy
        obtain ⟨v, hv, hr⟩ := hc j y hy
        exact ⟨v, by rw [q1, Nat.zero_add]; exact hv, hr.mono hext⟩
      · intro c hcc
        rcases hcap with e | e
        · exact g3 c (e ▸ hcc)
        · rw [e] at hcc; cases hcc
      · rw [setRow_heap w _ arr0 arr _ _ hb] at hb'
        cases hb'
        exact hsp
    · simp only [AMem.set, if_neg e] at hx
      obtain ⟨k1, ⟨arr', e', fr, hb', hcs', hown'⟩, k3, k4⟩ := h.live i x hx
      refine ⟨k1, ⟨arr', e', fr, ?_, ?_, hown'⟩, k3, ?_⟩
      · rw [setRow_other _ _ _ _ (hne i x hx e)]; exact hb'
      · intro j y hy
        obtain ⟨v, hv, hr⟩ := hcs' j y hy
        exact ⟨v, hv, hr.mono hext⟩
      · rw [setRow_other _ _ _ _ (hne i x hx e)]; exact k4
  · intro i j oi oj hi hj hwi hij
    have key : ∀ k ok, (μ.set id o').obj k = some ok → ∃ ok0, μ.obj k = some ok0 ∧ (ok.own = true → ok0.own = true) := by
      intro k ok hk
      by_cases e : k = id
      · subst e; exact ⟨o, ho, fun _ => hw⟩
      · simp only [AMem.set, if_neg e] at hk; exact ⟨ok, hk, fun x => x⟩
    obtain ⟨oi0, hi0, hwi0⟩ := key i oi hi
    obtain ⟨oj0, hj0, _⟩ := key j oj hj
    exact h.sep i j oi0 oj0 hi0 hj0 (hwi0 hwi) hij
  · intro b _ hb'
    exact setRow_other _ _ _ _ (fun e => hb' id o ho hw e.symm)
  · intro i x hx hwx
    left
    by_cases e : i = id
    · subst e; exact ⟨o, ho, hw, rfl⟩
    · simp only [AMem.set, if_neg e] at hx; exact ⟨x, hx, hwx, rfl⟩
theorem Tr.moved {ι : Nat → Loc} {μ : AMem} {w : World} (h : Sim P ι μ w) {id : Nat} {o o' : AObj} (ho : μ.obj id = some o)
    (hsize : o'.size = o.size) (hver : o.ver < o'.ver) (hcap : o'.cap = none)
    (arr : Array Value) (cap : Nat) (hs : arr.size = cap * o.size) (hm : cap ≤ maxLen)
    (hc : ∀ (j : Nat) x, o'.cells[j]? = some x → ∃ v, arr[j]? = some v ∧ SVR ι μ x v) (hsp : Sp P o' arr)
    {w0 : World} (hh : w0.heap = w.heap) (h1 : w0.os = w.os) (h2 : w0.tape = w.tape) (h3 : w0.output = w.output) :
    Tr P ι μ w (fun j => if j = id then ⟨w.heap.size, 0, cap⟩ else ι j) (μ.set id o') (w0.alloc (.cells arr o'.elem)) := by
  have hext : Ext ι μ (fun j => if j = id then ⟨w.heap.size, 0, cap⟩ else ι j) (μ.set id o') := by
    intro i x hx
    by_cases e : i = id
    · subst e
      rw [ho] at hx
      obtain rfl := Option.some.inj hx
      exact ⟨o', by simp [AMem.set], Nat.le_of_lt hver, fun e => by omega⟩
    · exact ⟨x, by simp [AMem.set, e, hx], Nat.le_refl _, fun _ => ⟨by simp [e], rfl⟩⟩
  have hlt : ∀ i x, μ.obj i = some x → (ι i).b < w.heap.size := by
    intro i x hx
    obtain ⟨arr', e, fr, hb, _⟩ := (h.live i x hx).2.ex
    exact (Array.getElem?_eq_some_iff.1 hb).1
  have hold : ∀ b, b < w.heap.size → (w0.alloc (.cells arr o'.elem)).heap[b]? = w.heap[b]? := by
    intro b hb
    rw [heap_alloc_old _ _ _ (by rw [hh]; exact hb), hh]
  have hnew : (w0.alloc (.cells arr o'.elem)).heap[w.heap.size]? = some (.cells arr o'.elem) := by
    have := heap_alloc_new w0 (.cells arr o'.elem)
    rwa [hh] at this
  have hsz : (w0.alloc (.cells arr o'.elem)).heap.size = w.heap.size + 1 := by
    show (w0.heap.push _).size = _
    rw [Array.size_push, hh]
  obtain ⟨g1, _, _⟩ := h.live id o ho
  refine ⟨⟨?_, ?_⟩, hext, Nat.le_refl _, h1, h2, h3, by omega, fun b hb _ => hold b hb, ?_⟩
  · intro i x hx
    by_cases e : i = id
    · subst e
      simp only [AMem.set, if_true] at hx
      obtain rfl := Option.some.inj hx
      refine ⟨g1, ⟨arr, o'.elem, (0, 0), by simpa using hnew, ?_, fun _ => ⟨by simp, rfl, rfl, by simpa [hsize] using hs, by simpa using hm⟩⟩, fun c hcc => by (rw [hcap] at hcc; cases hcc), fun _ arr' e' fr' hb' => ?_⟩
      · intro j y hy
        obtain ⟨v, hv, hr⟩ := hc j y hy
        exact ⟨v, by simpa using hv, hr.mono hext⟩
      · simp only [if_true] at hb'
        rw [hnew] at hb'
        cases hb'
        exact hsp
    · simp only [AMem.set, if_neg e] at hx
      obtain ⟨k1, ⟨arr', e', fr, hb, hcs, hown⟩, k3, k4⟩ := h.live i x hx
      refine ⟨k1, ⟨arr', e', fr, ?_, ?_, ?_⟩, ?_, ?_⟩
      · simp only [if_neg e]; rw [hold _ (hlt i x hx)]; exact hb
      · intro j y hy
        obtain ⟨v, hv, hr⟩ := hcs j y hy
        exact ⟨v, by simpa only [if_neg e] using hv, hr.mono hext⟩
      · simpa only [if_neg e] using hown
      · simpa only [if_neg e] using k3
      · simp only [if_neg e]; rw [hold _ (hlt i x hx)]; exact k4
  · intro i j oi oj hi hj hwi hij
    by_cases ei : i = id
    · subst ei
      have ej : j ≠ i := fun e => hij e.symm
      simp only [AMem.set, if_neg ej] at hj
      have := hlt j oj hj
      simp only [if_true, if_neg ej]
      omega
    · by_cases ej : j = id
      · subst ej
        simp only [AMem.set, if_neg ei] at hi
        have := hlt i oi hi
        simp only [if_true, if_neg ei]
        omega
      · simp only [AMem.set, if_neg ei, if_neg ej] at hi hj ⊢
        exact h.sep i j oi oj hi hj hwi hij
  · intro i x hx hwx
    by_cases e : i = id
    · right; subst e; simp
    · left
      simp only [AMem.set, if_neg e] at hx
      exact ⟨x, hx, hwx, by simp [e]⟩

theorem Sp.full {ι : Nat → Loc} {μ : AMem} {o : AObj} {arr : Array Value} (h : All2 (SVR ι μ) o.cells arr.toList) : Sp P o arr := by
  have hl := h.1
  rw [Array.length_toList] at hl
  refine ⟨fun j v hj => ?_, fun _ _ j h1 h2 => by omega⟩
  have hlt := (Array.getElem?_eq_some_iff.1 hj).1
  obtain ⟨u, hu, hr⟩ := h.2 j o.cells[j] (List.getElem?_eq_getElem (by omega))
  rw [Array.getElem?_toList, hj] at hu
  obtain rfl := Option.some.inj hu
  exact hr.one
theorem Sp.later {o : AObj} {arr : Array Value} (hv : o.ver ≠ 0) (h : ∀ u ∈ arr.toList, u.oneCell' = true) : Sp P o arr :=
  ⟨fun j v hj => h v (Array.mem_toList_iff.2 (Array.mem_of_getElem? hj)), fun h0 => absurd h0 hv⟩
end Go.Proofs.YtnjenjbodcihmaaGreat.E
namespace Go.Proofs.YtnjenjbodcihmaaGreat.E
open Go
set_option linter.unusedVariables false

section
variable {R : Type} {ι : Nat → Loc} {μ : AMem} {P : Program}

def Tells (P : Program) (ι : Nat → Loc) (μ : AMem) (K : AV → Option R) (r : R) (s : Sem Value) : Prop :=
  ∃ y v, K y = some r ∧ AVR ι μ y v ∧ ∀ w, s.run P w = .ok v w

theorem constA_rel (v : Value) : AVR ι μ (constA v) v := by
  have key : ∀ y, constA v = y → AVR ι μ y v := by
    intro y h
    unfold constA at h
    split at h <;> subst h <;> first | trivial | rfl | exact ⟨#[], rfl, rfl, fun _ _ h => by simp at h⟩
  exact key _ rfl
theorem evalA_rel {e : Env} {a : Act} (h : ∀ s, AVR ι μ (e s) (a.tmps.getD s undef)) (x : Operand) : AVR ι μ (evalA e x) (a.eval x) := by
  cases x with
  | tmp t => exact h t
  | const v => exact constA_rel v
  | global g => trivial
  | func f => exact ⟨#[], rfl, rfl, fun _ _ h => by simp at h⟩

theorem asI_some {k : IntKind} {v : AV} {K : Int → Option R} {r : R} (h : asI k v K = some r) : ∃ n, v = .s (.int k n) ∧ K n = some r := by
  unfold asI at h
  split at h
  · split at h
    · rename_i e; subst e; exact ⟨_, rfl, h⟩
    · cases h
  · cases h
theorem asN_some {v : AV} {K : Int → Option R} {r : R} (h : asN v K = some r) : ∃ k n, v = .s (.int k n) ∧ K n = some r := by
  unfold asN at h
  split at h
  · exact ⟨_, _, rfl, h⟩
  · cases h
theorem asB_some {v : AV} {K : Bool → Option R} {r : R} (h : asB v K = some r) : ∃ n, v = .s (.bool n) ∧ K n = some r := by
  unfold asB at h
  split at h
  · exact ⟨_, rfl, h⟩
  · cases h
theorem asS_some {v : AV} {K : SV → Option R} {r : R} (h : asS v K = some r) : ∃ n, v = .s n ∧ K n = some r := by
  unfold asS at h
  split at h
  · exact ⟨_, rfl, h⟩
  · cases h
theorem viewK_some {P : Program} {t : TypeId} {v : AV} {K : AV → Option R} {r : R} (h : viewK P t v K = some r) : K v = some r := by
  unfold viewK at h
  split at h
  · obtain ⟨n, rfl, h1⟩ := asI_some h; exact h1
  · obtain ⟨n, rfl, h1⟩ := asB_some h; exact h1
  · obtain ⟨n, rfl, h1⟩ := asS_some h; exact h1
  · obtain ⟨n, rfl, h1⟩ := asS_some h; exact h1
  · obtain ⟨n, rfl, h1⟩ := asS_some h; exact h1
  · exact h
theorem lenS_rel {v : AV} {n : Nat} {u : Value} (h : lenS v = some n) (hv : AVR ι μ v u) : ∃ a c, u = .slice a n c := by
  unfold lenS at h
  split at h
  · obtain rfl := Option.some.inj h
    obtain ⟨o, _, _, a, c, rfl, _⟩ := hv
    exact ⟨_, _, rfl⟩
  · obtain rfl := Option.some.inj h
    simp only [AVR, SVR] at hv
    exact ⟨_, _, hv⟩
  · cases h

theorem run_und {P : Program} {t : TypeId} {d : TypeDesc} (h : P.underlying t = some d) (w : World) : (underlying t).run P w = .ok d w := by
  simp [underlying, h]
theorem run_inf {P : Program} {t : TypeId} {d : TypeInfo} (h : P.info? t = some d) (w : World) : (typeInfo t).run P w = .ok d w := by
  simp [typeInfo, h]
theorem run_siz {P : Program} {t : TypeId} {n : Nat} (h : sizeA P t = some n) (w : World) : (sizeOf t).run P w = .ok n w := by
  unfold sizeA at h
  cases hi : P.info? t with
  | none => rw [hi] at h; cases h
  | some i => rw [hi] at h; obtain rfl := Option.some.inj h; simp [sizeOf, run_inf hi]
theorem run_agg {P : Program} {t : TypeId} {b : Bool} (h : aggA P t = some b) (w : World) : (isAgg t).run P w = .ok b w := by
  unfold aggA at h
  unfold isAgg
  split at h <;> rename_i hd
  · obtain rfl := Option.some.inj h; simp [run_und hd]
  · obtain rfl := Option.some.inj h; simp [run_und hd]
  · obtain rfl := Option.some.inj h
    rename_i d h1 h2
    rw [Sem.run_bind, run_und hd]
    cases d <;> first | rfl | (exact (h1 _ rfl).elim) | (exact (h2 _ _ rfl).elim)
  · cases h

theorem intK_tells {t : TypeId} {op : BinOp} {k : IntKind} {a b : Int} {K : SV → Option R} {r : R} (hs : isShift op = false) (h : intK op k a b K = some r) :
    ∃ y v, K y = some r ∧ SVR ι μ y v ∧ ∀ w, (binOp op t (.int k a) (.int k b)).run P w = .ok v w := by
  cases op <;> simp only [isShift, Bool.true_eq_false] at hs <;> simp only [intK] at h
  case quo =>
    split at h
    · cases h
    · rename_i hb; exact ⟨_, _, h, rfl, fun w => by simp [binOp, Op.intDiv, hb]⟩
  case rem =>
    split at h
    · cases h
    · rename_i hb; exact ⟨_, _, h, rfl, fun w => by simp [binOp, Op.intDiv, hb]⟩
  all_goals exact ⟨_, _, h, rfl, fun w => by simp [binOp, Op.intArith, Op.intBits, Op.intCmp]⟩
theorem shiftK_tells {t : TypeId} {op : BinOp} {k k' : IntKind} {a b : Int} {K : SV → Option R} {r : R} (h : shiftK op k a b K = some r) :
    ∃ y v, K y = some r ∧ SVR ι μ y v ∧ ∀ w, (binOp op t (.int k a) (.int k' b)).run P w = .ok v w := by
  cases op <;> simp only [shiftK] at h <;> first | (cases h; done) | skip
  all_goals
    split at h
    · cases h
    · rename_i hb; exact ⟨_, _, h, rfl, fun w => by simp [binOp, Op.shift, hb]⟩
theorem eqGuard_int (op : BinOp) (t : TypeId) (x y : Operand) (k k' : IntKind) (a b : Int) (w : World) : (eqGuard op t x y (.int k a) (.int k' b)).run P w = .ok () w := by
  unfold eqGuard; cases op <;> simp
theorem eqGuard_bool (op : BinOp) (t : TypeId) (x y : Operand) (a b : Bool) (w : World) : (eqGuard op t x y (.bool a) (.bool b)).run P w = .ok () w := by
  unfold eqGuard; cases op <;> simp
theorem eqGuard_ptr (op : BinOp) (t : TypeId) (x y : Operand) (a b : Option Addr) (w : World) : (eqGuard op t x y (.pointer a) (.pointer b)).run P w = .ok () w := by
  unfold eqGuard; cases op <;> simp
theorem maxDepth_eq : Op.maxDepth = 9999 + 1 := rfl
theorem equal_bool {t : TypeId} (h : P.underlying t = some .bool) (a b : Bool) (w : World) : (Op.equal t (.bool a) (.bool b)).run P w = .ok (a == b) w := by
  unfold Op.equal
  rw [maxDepth_eq, Op.equalIn, Sem.run_bind, run_und h]
  rfl
theorem equal_ptr {t e : TypeId} (h : P.underlying t = some (.pointer e)) (a : Option Addr) (w : World) : (Op.equal t (.pointer a) (.pointer none)).run P w = .ok a.isNone w := by
  unfold Op.equal
  rw [maxDepth_eq, Op.equalIn, Sem.run_bind, run_und h]
  cases a <;> rfl
theorem isNil_rel {v : AV} {b : Bool} {u : Value} (h : isNil v = some b) (hv : AVR ι μ v u) : ∃ a, u = .pointer a ∧ a.isNone = b := by
  unfold isNil at h
  split at h
  · obtain rfl := Option.some.inj h; simp only [AVR, SVR] at hv; exact ⟨none, hv, rfl⟩
  · obtain rfl := Option.some.inj h; obtain ⟨_, _, _, a, rfl, _⟩ := hv; exact ⟨some a, rfl, rfl⟩
  · cases h
theorem nilPtr_rel {u : Value} (hv : AVR ι μ (.s .nilPtr) u) : u = .pointer none := hv
theorem int_rel {k : IntKind} {n : Int} {u : Value} (hv : AVR ι μ (.s (.int k n)) u) : u = .int k n := hv
theorem bool_rel {n : Bool} {u : Value} (hv : AVR ι μ (.s (.bool n)) u) : u = .bool n := hv

theorem asT_some {v : AV} {K : List Int → Option R} {r : R} (h : asT v K = some r) : ∃ n, v = .s (.str n) ∧ K n = some r := by
  unfold asT at h
  split at h
  · exact ⟨_, rfl, h⟩
  · cases h
theorem bytesOf_data (l : List Int) : (bytesOf l).data.toList = l.map fun n => UInt8.ofNat n.toNat := by
  have h : ∀ (l : List Int) (s : ByteArray), (l.foldl (fun r n => r.push (UInt8.ofNat n.toNat)) s).data.toList = s.data.toList ++ l.map fun n => UInt8.ofNat n.toNat := by
    intro l
    induction l with
    | nil => intro s; simp
    | cons n l ih => intro s; rw [List.foldl_cons, ih]; simp [ByteArray.push]
  unfold bytesOf
  rw [h]
  rfl
theorem byte_inj {x y : Int} (hx : 0 ≤ x ∧ x < 256) (hy : 0 ≤ y ∧ y < 256) (h : UInt8.ofNat x.toNat = UInt8.ofNat y.toNat) : x = y := by
  have h1 := congrArg UInt8.toNat h
  rw [UInt8.toNat_ofNat', UInt8.toNat_ofNat'] at h1
  omega
theorem bytesOf_inj : ∀ {l m : List Int}, (∀ x ∈ l, 0 ≤ x ∧ x < 256) → (∀ x ∈ m, 0 ≤ x ∧ x < 256) → (l.map fun n : Int => UInt8.ofNat n.toNat) = (m.map fun n : Int => UInt8.ofNat n.toNat) → l = m
  | [], [], _, _, _ => rfl
  | [], y :: m, _, _, h => by cases h
  | x :: l, [], _, _, h => by cases h
  | x :: l, y :: m, hl, hm, h => by
    simp only [List.map_cons, List.cons.injEq] at h
    rw [byte_inj (hl x (List.mem_cons_self ..)) (hm y (List.mem_cons_self ..)) h.1, bytesOf_inj (fun z hz => hl z (List.mem_cons_of_mem _ hz)) (fun z hz => hm z (List.mem_cons_of_mem _ hz)) h.2]
theorem bytesOf_beq {l m : List Int} (hl : ∀ x ∈ l, 0 ≤ x ∧ x < 256) (hm : ∀ x ∈ m, 0 ≤ x ∧ x < 256) : ((bytesOf l).toList == (bytesOf m).toList) = (l == m) := by
  rw [ByteArray.toList_eq, ByteArray.toList_eq, bytesOf_data, bytesOf_data]
  by_cases h : l = m
  · subst h; simp
  · rw [beq_eq_false_iff_ne.mpr h, beq_eq_false_iff_ne.mpr fun e => h (bytesOf_inj hl hm e)]
theorem eqGuard_str (op : BinOp) (t : TypeId) (x y : Operand) (a b : ByteArray) (w : World) : (eqGuard op t x y (.string a) (.string b)).run P w = .ok () w := by
  cases op <;> simp [eqGuard]
theorem binK_tells {op : BinOp} {t : TypeId} {x y : AV} {K : AV → Option R} {r : R} (h : binK P op t x y K = some r) {a b : Value} (ha : AVR ι μ x a) (hb : AVR ι μ y b) (p q : Operand) :
    Tells P ι μ K r (do eqGuard op t p q a b; binOp op t a b) := by
  unfold binK at h
  split at h
  · rename_i k hu
    cases hs : isShift op with
    | true =>
      rw [hs] at h
      simp only [cond_true] at h
      obtain ⟨n, rfl, h1⟩ := asI_some h
      obtain ⟨k', m, rfl, h2⟩ := asN_some h1
      obtain rfl := int_rel ha
      obtain rfl := int_rel hb
      obtain ⟨y, v, g1, g2, g3⟩ := shiftK_tells (t := t) (P := P) (ι := ι) (μ := μ) (k' := k') h2
      exact ⟨_, v, g1, g2, fun w => by rw [Sem.run_bind, eqGuard_int]; exact g3 w⟩
    | false =>
      rw [hs] at h
      simp only [cond_false] at h
      obtain ⟨n, rfl, h1⟩ := asI_some h
      obtain ⟨m, rfl, h2⟩ := asI_some h1
      obtain rfl := int_rel ha
      obtain rfl := int_rel hb
      obtain ⟨y, v, g1, g2, g3⟩ := intK_tells (t := t) (P := P) (ι := ι) (μ := μ) hs h2
      exact ⟨_, v, g1, g2, fun w => by rw [Sem.run_bind, eqGuard_int]; exact g3 w⟩
  · rename_i hu
    split at h
    · obtain ⟨n, rfl, h1⟩ := asB_some h
      obtain ⟨m, rfl, h2⟩ := asB_some h1
      obtain rfl := bool_rel ha
      obtain rfl := bool_rel hb
      exact ⟨_, _, h2, rfl, fun w => by rw [Sem.run_bind, eqGuard_bool]; simp [binOp, equal_bool hu]⟩
    · obtain ⟨n, rfl, h1⟩ := asB_some h
      obtain ⟨m, rfl, h2⟩ := asB_some h1
      obtain rfl := bool_rel ha
      obtain rfl := bool_rel hb
      exact ⟨_, _, h2, rfl, fun w => by rw [Sem.run_bind, eqGuard_bool]; simp [binOp, equal_bool hu]⟩
    · cases h
  · rename_i e hu
    split at h
    · obtain ⟨n, hn, h1⟩ := Option.bind_eq_some_iff.mp h
      obtain ⟨p', rfl, hp⟩ := isNil_rel hn ha
      obtain rfl := nilPtr_rel hb
      exact ⟨_, _, h1, rfl, fun w => by rw [Sem.run_bind, eqGuard_ptr]; simp [binOp, equal_ptr hu, hp]⟩
    · obtain ⟨n, hn, h1⟩ := Option.bind_eq_some_iff.mp h
      obtain ⟨p', rfl, hp⟩ := isNil_rel hn ha
      obtain rfl := nilPtr_rel hb
      exact ⟨_, _, h1, rfl, fun w => by rw [Sem.run_bind, eqGuard_ptr]; simp [binOp, equal_ptr hu, hp]⟩
    · cases h
  · rename_i hu
    split at h
    · obtain ⟨n, rfl, h1⟩ := asT_some h
      obtain ⟨m, rfl, h2⟩ := asT_some h1
      obtain ⟨rfl, hn⟩ := ha
      obtain ⟨rfl, hm⟩ := hb
      exact ⟨_, _, h2, rfl, fun w => by rw [Sem.run_bind, eqGuard_str]; simp [binOp, Op.stringOp, bytesOf_beq hn hm]⟩
    · obtain ⟨n, rfl, h1⟩ := asT_some h
      obtain ⟨m, rfl, h2⟩ := asT_some h1
      obtain ⟨rfl, hn⟩ := ha
      obtain ⟨rfl, hm⟩ := hb
      exact ⟨_, _, h2, rfl, fun w => by rw [Sem.run_bind, eqGuard_str]; simp [binOp, Op.stringOp, bytesOf_beq hn hm]⟩
    · cases h
  · cases h
theorem unK_tells {op : UnOp} {x : AV} {K : AV → Option R} {r : R} (h : unK op x K = some r) {a : Value} (ha : AVR ι μ x a) : Tells P ι μ K r (Op.unary op a) := by
  unfold unK at h
  split at h
  · split at h
    · obtain rfl := int_rel ha
      exact ⟨_, _, h, rfl, fun w => by simp [Op.unary, Op.intArith]⟩
    · cases h
  · split at h
    · obtain rfl := int_rel ha
      exact ⟨_, _, h, rfl, fun w => by simp [Op.unary, Op.intBits]⟩
    · cases h
  · obtain ⟨n, rfl, h1⟩ := asB_some h
    obtain rfl := bool_rel ha
    exact ⟨_, _, h1, rfl, fun w => by simp [Op.unary]⟩
  · cases h
theorem convK_tells {s d : TypeId} {x : AV} {K : AV → Option R} {r : R} (h : convK P s d x K = some r) {a : Value} (ha : AVR ι μ x a) : Tells P ι μ K r (convert s d a) := by
  unfold convK at h
  split at h
  · rename_i k' k hs hd
    obtain ⟨q, n, rfl, h1⟩ := asN_some h
    obtain rfl := int_rel ha
    exact ⟨_, _, h1, rfl, fun w => by simp [convert, run_und hs, run_und hd, Conv.intToInt]⟩
  · cases h
theorem ptr_add_rel {id ver off n : Nat} {a : Value} (h : PtrR ι μ id ver off a) : ∃ ad, a = .pointer (some ad) ∧ PtrR ι μ id ver (off + n) (.pointer (some (ad.add n))) := by
  obtain ⟨o, ho, hv, ad, rfl, he⟩ := h
  refine ⟨ad, rfl, o, ho, hv, _, rfl, fun hh => ?_⟩
  rw [he hh]
  unfold Addr.add
  split
  · rename_i e; subst e; rfl
  · simp [Nat.add_assoc]
theorem fieldK_tells {st : TypeId} {f : Nat} {x : AV} {K : AV → Option R} {r : R} (h : fieldK P st f x K = some r) {a : Value} (ha : AVR ι μ x a) : Tells P ι μ K r (Instr.fieldAt st a f) := by
  unfold fieldK at h
  split at h
  · rename_i fs hu
    split at h
    · rename_i fd hf
      split at h
      · rename_i n hn
        unfold ptrAdd at h
        split at h
        · obtain ⟨ad, rfl, hp⟩ := ptr_add_rel (n := fd.offset) ha
          exact ⟨_, _, h, hp, fun w => by simp [Instr.fieldAt, run_und hu, hf, Instr.sureAddr, fieldPlace, run_siz hn]⟩
        · cases h
      · cases h
    · cases h
  · cases h
theorem partK_tells {st : TypeId} {f : Nat} {x : AV} {K : AV → Option R} {r : R} (h : partK P st f x K = some r) {a : Value} (ha : AVR ι μ x a) : Tells P ι μ K r (Instr.field st a f) := by
  unfold partK at h
  split at h
  · rename_i fs hu
    split at h
    · rename_i fd hf
      split at h
      · rename_i n hg hn
        unfold aggCut at h
        split at h
        · rename_i l
          obtain ⟨cs, rfl, hc⟩ := ha
          refine ⟨_, .agg (cs.extract fd.offset (fd.offset + n)), h, ⟨_, rfl, ?_⟩, fun w => by simp [Instr.field, run_und hu, hf, asAgg, part, run_agg hg, run_siz hn]⟩
          rw [Array.toList_extract]
          rw [List.extract_eq_take_drop]
          rw [Nat.add_sub_cancel_left]
          exact (hc.drop _).take _
        · cases h
      · rename_i n hg hn
        unfold aggAt at h
        split at h
        · rename_i l
          split at h
          · rename_i y hy
            obtain ⟨cs, rfl, hc⟩ := ha
            obtain ⟨u, hu', hr⟩ := hc.2 _ _ hy
            rw [Array.getElem?_toList] at hu'
            exact ⟨_, u, h, hr, fun w => by simp [Instr.field, run_und hu, hf, asAgg, part, run_agg hg, hu']⟩
          · cases h
        · cases h
      · cases h
    · cases h
  · cases h
theorem indexK_tells {t : TypeId} {x i : AV} {K : AV → Option R} {r : R} (h : indexK P t x i K = some r) {a b : Value} (ha : AVR ι μ x a) (hb : AVR ι μ i b) : Tells P ι μ K r (Instr.indexAt t a b) := by
  unfold indexK at h
  split at h
  · rename_i e hu
    split at h
    · rename_i n hn
      obtain ⟨k, m, rfl, h0⟩ := asN_some h
      obtain rfl := int_rel hb
      clear h
      unfold indS at h0
      split at h0
      · rename_i id ver off len
        split at h0
        · rename_i hm
          obtain ⟨o, ho, hv, ad, c, rfl, hlc, hh⟩ := ha
          have hp : PtrR ι μ id ver (off + m.toNat * n) (.pointer (some (ad.add (m.toNat * n)))) := by
            refine ⟨o, ho, hv, _, rfl, fun hov => ?_⟩
            obtain ⟨h1, h2⟩ := hh hov
            rcases h2 with h2 | h2
            · rw [h2]
              unfold Addr.add
              split
              · rename_i e0; simp [e0]
              · simp [Nat.add_assoc]
            · omega
          exact ⟨_, _, h0, hp, fun w => by simp [Instr.indexAt, asIntOf, run_und hu, run_siz hn, hm.1, hm.2]⟩
        · cases h0
      · cases h0
    · cases h
  · rename_i len e hu
    split at h
    · rename_i n hn
      obtain ⟨k, m, rfl, h0⟩ := asN_some h
      obtain rfl := int_rel hb
      clear h
      unfold indP at h0
      split at h0
      · split at h0
        · rename_i hm
          obtain ⟨ad, rfl, hp⟩ := ptr_add_rel (n := m.toNat * n) ha
          exact ⟨_, _, h0, hp, fun w => by simp [Instr.indexAt, asIntOf, run_und hu, run_siz hn, Instr.sureAddr, hm.1, hm.2]⟩
        · cases h0
      · cases h0
    · cases h
  · cases h

theorem bounds_run {lo hi : Option Value} {len cap l h : Nat} {w : World}
    (h1 : (match hi with | some v => Instr.sliceBound v cap .sliceAcap | none => pure len : Sem Nat).run P w = .ok h w)
    (h2 : (match lo with | some v => Instr.sliceBound v h .sliceB | none => pure 0 : Sem Nat).run P w = .ok l w) :
    (Instr.sliceBounds true len cap lo hi none).run P w = .ok (l, h, cap) w := by
  unfold Instr.sliceBounds
  cases hi <;> cases lo <;> simp_all
theorem cut_tells {t e : TypeId} {n : Nat} {x : AV} {l h : Int} {K : AV → Option R} {r : R} (hk : cutS (n + 1) x l h K = some r) {a : Value} (ha : AVR ι μ x a)
    (hu : P.underlying t = some (.slice e)) (hn : sizeA P e = some (n + 1)) (lo hi : Option Value)
    (hlo : ∀ w (y : Nat), 0 ≤ l → l ≤ y → (match lo with | some v => Instr.sliceBound v y .sliceB | none => pure 0 : Sem Nat).run P w = .ok l.toNat w)
    (hhi : ∀ w (len cap : Nat), 0 ≤ h → h ≤ len → len ≤ cap → (∀ q c, a = .slice q len c → (match hi with | some v => Instr.sliceBound v cap .sliceAcap | none => pure len : Sem Nat).run P w = .ok h.toNat w)) :
    Tells P ι μ K r (Instr.sliceAt t a lo hi none) := by
  unfold cutS at hk
  split at hk
  · rename_i id ver off len
    split at hk
    · rename_i hb
      obtain ⟨o, ho, hv, ad, c, rfl, hlc, hh⟩ := ha
      have h1 := fun w => hhi w len c (by omega) hb.2.2 hlc (some ad) c rfl
      have h2 := fun w => hlo w h.toNat hb.1 (by omega)
      refine ⟨_, .slice (some (if c = l.toNat then ad else ad.add (l.toNat * (n + 1)))) (h.toNat - l.toNat) (c - l.toNat), hk, ?_, fun w => ?_⟩
      · refine ⟨o, ho, hv, _, _, rfl, by omega, fun hov => ?_⟩
        obtain ⟨g1, g2⟩ := hh hov
        refine ⟨fun h0 => ?_, ?_⟩
        · have : l.toNat = 0 := by
            have h0' : l.toNat * (n + 1) = 0 := by omega
            rcases Nat.mul_eq_zero.mp h0' with h0' | h0'
            · exact h0'
            · omega
          rw [this, Nat.sub_zero]; exact g1 (by omega)
        · by_cases hc : c = l.toNat
          · right; omega
          · rw [if_neg hc]
            rcases g2 with g2 | g2
            · left
              rw [g2]
              unfold Addr.add
              split
              · rename_i e0; simp [e0]
              · simp [Nat.add_assoc]
            · right; omega
      · have hbs := bounds_run (h1 w) (h2 w)
        simp only [Instr.sliceAt, Sem.run_bind, run_und hu, Result.andThen_ok, Instr.slice, hbs, run_siz hn, Sem.run_pure, Option.map_some]
        congr 2
        split <;> rfl
    · cases hk
  · split at hk
    · rename_i hb
      obtain ⟨rfl, rfl⟩ := hb
      simp only [AVR, SVR] at ha
      subst ha
      have h1 := fun w => hhi w 0 0 (by omega) (by omega) (by omega) none 0 rfl
      have h2 := fun w => hlo w 0 (by omega) (by omega)
      refine ⟨_, .slice none 0 0, hk, rfl, fun w => ?_⟩
      have hbs := bounds_run (h1 w) (h2 w)
      simp only [Instr.sliceAt, Sem.run_bind, run_und hu, Result.andThen_ok, Instr.slice, hbs, run_siz hn, Sem.run_pure, Option.map_none]
      rfl
    · cases hk
  · cases hk
theorem bound_run {k : IntKind} {l : Int} {y : Nat} (code : BoundsCode) (h0 : 0 ≤ l) (h1 : l ≤ y) (w : World) : (Instr.sliceBound (.int k l) y code).run P w = .ok l.toNat w := by
  simp [Instr.sliceBound, asIntOf, h0, h1]
theorem sliceK_tells {t : TypeId} {lo hi : Option AV} {x : AV} {K : AV → Option R} {r : R} (h : sliceK P t lo hi x K = some r) {a : Value} (ha : AVR ι μ x a) {lv hv : Option Value}
    (hlo : ∀ y, lo = some y → ∃ v, lv = some v ∧ AVR ι μ y v) (hlo' : lo = none → lv = none) (hhi : ∀ y, hi = some y → ∃ v, hv = some v ∧ AVR ι μ y v) (hhi' : hi = none → hv = none) :
    Tells P ι μ K r (Instr.sliceAt t a lv hv none) := by
  unfold sliceK at h
  split at h
  · rename_i e hu
    split at h
    · rename_i n hn
      split at h
      · obtain ⟨m, hm, h1⟩ := Option.bind_eq_some_iff.mp h
        obtain ⟨q, c, rfl⟩ := lenS_rel hm ha
        rw [hlo' rfl, hhi' rfl]
        exact cut_tells h1 ha hu hn none none (fun w y _ _ => by simp) (fun w len cap _ _ _ q c he => by cases he; simp)
      · obtain ⟨k, l, rfl, h1⟩ := asN_some h
        obtain ⟨m, hm, h2⟩ := Option.bind_eq_some_iff.mp h1
        obtain ⟨q, c, rfl⟩ := lenS_rel hm ha
        obtain ⟨v, rfl, hv1⟩ := hlo _ rfl
        obtain rfl := int_rel hv1
        rw [hhi' rfl]
        exact cut_tells h2 ha hu hn _ none (fun w y h0 h1 => bound_run _ h0 h1 w) (fun w len cap _ _ _ q c he => by cases he; simp)
      · obtain ⟨k, l, rfl, h1⟩ := asN_some h
        obtain ⟨v, rfl, hv1⟩ := hhi _ rfl
        obtain rfl := int_rel hv1
        rw [hlo' rfl]
        exact cut_tells h1 ha hu hn none _ (fun w y _ _ => by simp) (fun w len cap h0 h1 h2 q c he => bound_run _ h0 (by omega) w)
      · obtain ⟨k, l, rfl, h1⟩ := asN_some h
        obtain ⟨k', l', rfl, h2⟩ := asN_some h1
        obtain ⟨v, rfl, hv1⟩ := hlo _ rfl
        obtain ⟨v', rfl, hv2⟩ := hhi _ rfl
        obtain rfl := int_rel hv1
        obtain rfl := int_rel hv2
        exact cut_tells h2 ha hu hn _ _ (fun w y h0 h1 => bound_run _ h0 h1 w) (fun w len cap h0 h1 h2 q c he => bound_run _ h0 (by omega) w)
    · cases h
  · cases h
theorem lenK_tells {t ty : TypeId} {x : AV} {K : AV → Option R} {r : R} (h : lenK P t x K = some r) {a : Value} (ha : AVR ι μ x a) : Tells P ι μ K r (Builtin.len_ #[t] ty #[a]) := by
  unfold lenK at h
  split at h
  · rename_i e hu
    obtain ⟨m, hm, h1⟩ := Option.bind_eq_some_iff.mp h
    obtain ⟨q, c, rfl⟩ := lenS_rel hm ha
    exact ⟨_, _, h1, rfl, fun w => by simp [Builtin.len_, run_und hu, goInt]⟩
  · cases h
theorem extrK_tells {i : Nat} {x : AV} {K : AV → Option R} {r : R} (h : extrK i x K = some r) {a : Value} (ha : AVR ι μ x a) : Tells P ι μ K r (Instr.extract a i) := by
  unfold extrK at h
  split at h
  · split at h
    · rename_i y hy
      obtain ⟨vs, rfl, hc⟩ := ha
      obtain ⟨u, hu, hr⟩ := (AVRs_iff.mp hc).2 _ _ hy
      rw [Array.getElem?_toList] at hu
      exact ⟨_, u, h, hr, fun w => by simp [Instr.extract, hu]⟩
    · cases h
  · cases h
theorem minK_tells {x y : AV} {K : AV → Option R} {r : R} (h : minK x y K = some r) {a b : Value} (ha : AVR ι μ x a) (hb : AVR ι μ y b) : Tells P ι μ K r (Builtin.min2 a b) := by
  unfold minK at h
  split at h
  · split at h
    · obtain rfl := int_rel ha; obtain rfl := int_rel hb
      exact ⟨_, _, h, rfl, fun w => by simp [Builtin.min2]⟩
    · cases h
  · cases h
theorem maxK_tells {x y : AV} {K : AV → Option R} {r : R} (h : maxK x y K = some r) {a b : Value} (ha : AVR ι μ x a) (hb : AVR ι μ y b) : Tells P ι μ K r (Builtin.max2 a b) := by
  unfold maxK at h
  split at h
  · split at h
    · obtain rfl := int_rel ha; obtain rfl := int_rel hb
      exact ⟨_, _, h, rfl, fun w => by simp [Builtin.max2]⟩
    · cases h
  · cases h
theorem foldMin_tells {K : AV → Option R} {r : R} : ∀ {l : List AV} {x : AV}, foldMin K x l = some r → ∀ {a : Value} {m : List Value}, AVR ι μ x a → All2 (AVR ι μ) l m → Tells P ι μ K r (m.foldlM Builtin.min2 a)
  | [], x, h, a, m, ha, hm => by obtain rfl := hm.nil_inv; exact ⟨_, _, h, ha, fun w => by simp⟩
  | y :: l, x, h, a, m, ha, hm => by
    obtain ⟨b, m', rfl, hb, hm'⟩ := hm.cons_inv
    obtain ⟨z, c, h1, h2, h3⟩ := minK_tells (P := P) h ha hb
    obtain ⟨z', c', g1, g2, g3⟩ := foldMin_tells h1 h2 hm'
    exact ⟨z', c', g1, g2, fun w => by rw [List.foldlM_cons, Sem.run_bind, h3]; exact g3 w⟩
theorem foldMax_tells {K : AV → Option R} {r : R} : ∀ {l : List AV} {x : AV}, foldMax K x l = some r → ∀ {a : Value} {m : List Value}, AVR ι μ x a → All2 (AVR ι μ) l m → Tells P ι μ K r (m.foldlM Builtin.max2 a)
  | [], x, h, a, m, ha, hm => by obtain rfl := hm.nil_inv; exact ⟨_, _, h, ha, fun w => by simp⟩
  | y :: l, x, h, a, m, ha, hm => by
    obtain ⟨b, m', rfl, hb, hm'⟩ := hm.cons_inv
    obtain ⟨z, c, h1, h2, h3⟩ := maxK_tells (P := P) h ha hb
    obtain ⟨z', c', g1, g2, g3⟩ := foldMax_tells h1 h2 hm'
    exact ⟨z', c', g1, g2, fun w => by rw [List.foldlM_cons, Sem.run_bind, h3]; exact g3 w⟩
end
end Go.Proofs.YtnjenjbodcihmaaGreat.E
namespace Go.Proofs.YtnjenjbodcihmaaGreat.E
open Go
set_option linter.unusedVariables false

section
variable {R : Type} {ι : Nat → Loc} {μ : AMem} {P : Program}

theorem cells_rel {y : AV} {l : List SV} {v : Value} (h : y.cells = some l) (hv : AVR ι μ y v) : All2 (SVR ι μ) l v.cells.toList := by
  unfold AV.cells at h
  split at h
  · obtain rfl := Option.some.inj h
    rename_i x
    have h1 : SVR ι μ x v := hv
    rw [oneCell_agg h1.one]
    exact All2.cons h1 (All2.nil _)
  · obtain rfl := Option.some.inj h
    obtain ⟨cs, rfl, hc⟩ := hv
    exact hc
  · cases h
theorem cells_one {y : AV} {l : List SV} {v : Value} (h : y.cells = some l) (hv : AVR ι μ y v) : ∀ u ∈ v.cells.toList, u.oneCell' = true := by
  intro u hu
  obtain ⟨i, hi⟩ := List.mem_iff_getElem?.mp hu
  have hc := cells_rel h hv
  have hlt : i < l.length := by
    rw [← hc.1]
    exact (List.getElem?_eq_some_iff.mp hi).1
  obtain ⟨u', hu', hr⟩ := hc.2 i l[i] (List.getElem?_eq_getElem hlt)
  rw [hi] at hu'
  obtain rfl := Option.some.inj hu'
  exact hr.one

theorem overA_get (cs : List SV) (off : Nat) (new : List SV) (h : off + new.length ≤ cs.length) (j : Nat) :
    (overA cs off new)[j]? = if off ≤ j ∧ j < off + new.length then new[j - off]? else cs[j]? := by
  unfold overA
  by_cases h1 : j < off
  · rw [List.append_assoc, List.getElem?_append_left (by simp; omega), List.getElem?_take, if_pos h1, if_neg (by omega)]
  · by_cases h2 : j < off + new.length
    · rw [List.append_assoc, List.getElem?_append_right (by simp; omega), List.getElem?_append_left (by simp; omega), if_pos (by omega)]
      congr 1; simp; omega
    · rw [List.getElem?_append_right (by simp; omega), List.getElem?_drop, if_neg (by omega)]
      congr 1; simp; omega
theorem overA_length (cs : List SV) (off : Nat) (new : List SV) (h : off + new.length ≤ cs.length) : (overA cs off new).length = cs.length := by
  unfold overA; simp; omega
theorem overA_rel {α : Type} {S : SV → α → Prop} {cs new : List SV} {off : Nat} {cs' new' : List α} (hc : All2 S cs cs') (hn : All2 S new new') (h : off + new.length ≤ cs.length) :
    All2 S (overA cs off new) (cs'.take off ++ new' ++ cs'.drop (off + new'.length)) := by
  unfold overA
  rw [hn.1]
  exact ((hc.take _).append hn).append (hc.drop _)
theorem over_get {α : Type} (cs : List α) (off : Nat) (new : List α) (h : off + new.length ≤ cs.length) (j : Nat) :
    (cs.take off ++ new ++ cs.drop (off + new.length))[j]? = if off ≤ j ∧ j < off + new.length then new[j - off]? else cs[j]? := by
  by_cases h1 : j < off
  · rw [List.append_assoc, List.getElem?_append_left (by simp; omega), List.getElem?_take, if_pos h1, if_neg (by omega)]
  · by_cases h2 : j < off + new.length
    · rw [List.append_assoc, List.getElem?_append_right (by simp; omega), List.getElem?_append_left (by simp; omega), if_pos (by omega)]
      congr 1; simp; omega
    · rw [List.getElem?_append_right (by simp; omega), List.getElem?_drop, if_neg (by omega)]
      congr 1; simp; omega
theorem foldl_get (off : Nat) : ∀ (l : List Value) (k : Nat) (arr : Array Value), off + k + l.length ≤ arr.size → ∀ j,
    ((l.zipIdx k).foldl (fun cs (p : Value × Nat) => cs.setIfInBounds (off + p.2) p.1) arr)[j]? = if off + k ≤ j ∧ j < off + k + l.length then l[j - (off + k)]? else arr[j]?
  | [], k, arr, _, j => by simp; omega
  | v :: l, k, arr, h, j => by
    simp only [List.length_cons] at h ⊢
    rw [List.zipIdx_cons, List.foldl_cons, foldl_get off l (k + 1) _ (by simp; omega) j]
    rw [Array.getElem?_setIfInBounds]
    by_cases h1 : off + k = j
    · rw [if_neg (by omega), if_pos h1, if_pos (by omega), if_pos (by omega), show j - (off + k) = 0 by omega]
      rfl
    · by_cases h2 : off + (k + 1) ≤ j ∧ j < off + (k + 1) + l.length
      · rw [if_pos h2, if_pos (by omega), show j - (off + k) = (j - (off + (k + 1))) + 1 by omega, List.getElem?_cons_succ]
      · rw [if_neg h2, if_neg h1, if_neg (by omega)]
theorem foldl_set (off : Nat) (l : List Value) (arr : Array Value) (h : off + l.length ≤ arr.size) :
    ((l.zipIdx 0).foldl (fun cs (p : Value × Nat) => cs.setIfInBounds (off + p.2) p.1) arr).toList = arr.toList.take off ++ l ++ arr.toList.drop (off + l.length) := by
  apply List.ext_getElem?
  intro j
  have h1 := foldl_get off l 0 arr (by omega) j
  rw [Array.getElem?_toList, h1, over_get _ _ _ (by simpa using h)]
  simp
theorem fillA_rel {place : Nat → Option (Nat × Nat)} : ∀ {parts : List (Nat × AV)} {cs cs' : List SV} {arr : Array Value} {parts' : List (Nat × Value)},
    fillA place cs parts = some cs' → All2 (SVR ι μ) cs arr.toList → All2 (fun p q => p.1 = q.1 ∧ AVR ι μ p.2 q.2) parts parts' →
    ∃ arr', Instr.fill place arr parts' = some arr' ∧ All2 (SVR ι μ) cs' arr'.toList
  | [], cs, cs', arr, parts', h, hc, hp => by
    obtain rfl := hp.nil_inv
    obtain rfl := Option.some.inj h
    exact ⟨arr, rfl, hc⟩
  | (i, v) :: r, cs, cs', arr, parts', h, hc, hp => by
    obtain ⟨⟨i', u⟩, m', rfl, ⟨hi, hv⟩, hp'⟩ := hp.cons_inv
    simp only at hi hv
    subst hi
    simp only [fillA] at h
    obtain ⟨⟨off, n⟩, hpl, h⟩ := Option.bind_eq_some_iff.mp h
    obtain ⟨l, hl, h⟩ := Option.bind_eq_some_iff.mp h
    split at h
    · rename_i hh
      have hul := cells_rel hl hv
      have hsz : u.cells.size = l.length := by rw [← Array.length_toList]; exact hul.1
      have hcs : arr.size = cs.length := by rw [← Array.length_toList]; exact hc.1
      simp only [Instr.fill, hpl]
      rw [if_neg (by simp only [ne_eq, Bool.or_eq_true, decide_eq_true_eq]; omega)]
      have e := foldl_set off u.cells.toList arr (by simp; omega)
      refine fillA_rel h ?_ hp'
      have e2 : (u.cells.zipIdx.foldl (fun cs (x : Value × Nat) => match x with | (c, j) => cs.setIfInBounds (off + j) c) arr).toList = arr.toList.take off ++ u.cells.toList ++ arr.toList.drop (off + u.cells.toList.length) := by
        rw [← Array.foldl_toList, Array.toList_zipIdx]
        simpa using e
      rw [e2]
      exact overA_rel hc hul (by omega)
    · cases h

theorem svsOf_rel : ∀ {l : List Value} {cs : List SV}, svsOf l = some cs → All2 (SVR ι μ) cs l
  | [], cs, h => by obtain rfl := Option.some.inj h; exact All2.nil _
  | v :: r, cs, h => by
    simp only [svsOf] at h
    obtain ⟨x, hx, h⟩ := Option.bind_eq_some_iff.mp h
    obtain ⟨cs', hcs, rfl⟩ := Option.map_eq_some_iff.mp h
    refine All2.cons ?_ (svsOf_rel hcs)
    unfold svOf at hx
    split at hx
    · rename_i y hy
      obtain rfl := Option.some.inj hx
      have := constA_rel (ι := ι) (μ := μ) v
      rw [hy] at this
      exact this
    · cases hx
theorem zeroA_rel {t : TypeId} {cs : List SV} (h : zeroA P t = some cs) : ∃ z, (∀ w, (zeroValue t).run P w = .ok z w) ∧ All2 (SVR ι μ) cs z.cells.toList ∧ (∀ i, P.info? t = some i → i.zero = some z) := by
  unfold zeroA at h
  obtain ⟨z, hz, h⟩ := Option.bind_eq_some_iff.mp h
  obtain ⟨i, hi, hz⟩ := Option.bind_eq_some_iff.mp hz
  exact ⟨z, fun w => by simp [zeroValue, run_inf hi, hz], svsOf_rel h, fun i' hi' => by rw [hi] at hi'; obtain rfl := Option.some.inj hi'; exact hz⟩
theorem parts_rel {ev : Operand → AV} {ρ : Operand → Value} (h : ∀ x, AVR ι μ (ev x) (ρ x)) : ∀ (ps : List (Nat × Operand)), All2 (fun (p : Nat × AV) (q : Nat × Value) => p.1 = q.1 ∧ AVR ι μ p.2 q.2) (ps.map fun p => (p.1, ev p.2)) (ps.map fun p => (p.1, ρ p.2))
  | [] => All2.nil _
  | p :: ps => All2.cons ⟨rfl, h p.2⟩ (parts_rel h ps)
theorem mapM_siz {fs : List Field} : ∀ (w : World), (∀ f ∈ fs, ∃ n, sizeA P f.type = some n) →
    (fs.mapM fun f => (do pure (f.offset, ← sizeOf f.type) : Sem (Nat × Nat))).run P w = .ok (fs.map fun f => (f.offset, (sizeA P f.type).getD 0)) w := by
  induction fs with
  | nil => intro w _; rfl
  | cons f fs ih =>
    intro w h
    obtain ⟨n, hn⟩ := h f (by simp)
    rw [List.mapM_cons]
    simp only [Sem.run_bind, run_siz hn, Result.andThen_ok, Sem.run_pure, ih w (fun g hg => h g (by simp [hg])), List.map_cons, hn, Option.getD_some]
theorem buildV_tells {t : TypeId} {ps : Array (Nat × Operand)} {ev : Operand → AV} {ρ : Operand → Value} {y : AV} (h : buildV P t (ps.toList.map fun p => (p.1, ev p.2)) = some y) (hr : ∀ x, AVR ι μ (ev x) (ρ x)) :
    ∃ v, AVR ι μ y v ∧ ∀ w, (Instr.build t (ps.map fun p => (p.1, ρ p.2))).run P w = .ok v w := by
  unfold buildV at h
  split at h
  · rename_i fs hu
    split at h
    · rename_i hall
      have hfs : ∀ f ∈ fs.toList, ∃ n, sizeA P f.type = some n := by
        intro f hf
        have := (Array.all_eq_true_iff_forall_mem.mp hall) f (by rwa [Array.mem_toList_iff] at hf)
        exact Option.isSome_iff_exists.mp this
      obtain ⟨z, hz, h⟩ := Option.bind_eq_some_iff.mp h
      obtain ⟨cs, hcs, rfl⟩ := Option.map_eq_some_iff.mp h
      obtain ⟨zv, hzv, hzr, _⟩ := zeroA_rel (ι := ι) (μ := μ) hz
      have hplace : ∀ i, fieldsAt P fs i = (fs.map fun f => (f.offset, (sizeA P f.type).getD 0))[i]? := by
        intro i
        unfold fieldsAt
        rw [Array.getElem?_map]
        cases hf : fs[i]? with
        | none => rfl
        | some f =>
          obtain ⟨n, hn⟩ := hfs f (by rw [Array.mem_toList_iff]; exact Array.mem_of_getElem? hf)
          simp [hn]
      rw [show fieldsAt P fs = fun i => (fs.map fun f => (f.offset, (sizeA P f.type).getD 0))[i]? from funext hplace] at hcs
      obtain ⟨arr, harr, hrel⟩ := fillA_rel hcs hzr (parts_rel hr ps.toList)
      refine ⟨.agg arr, ⟨arr, rfl, hrel⟩, fun w => ?_⟩
      have hm : (fs.mapM fun f => (do pure (f.offset, ← sizeOf f.type) : Sem (Nat × Nat))).run P w = .ok (fs.map fun f => (f.offset, (sizeA P f.type).getD 0)) w := by
        rw [Array.mapM_eq_mapM_toList, Sem.run_map, mapM_siz w hfs]
        simp only [Result.andThen_ok]
        congr 1
        apply Array.ext'
        simp
      simp only [Instr.build, Sem.run_bind, hzv, Result.andThen_ok, run_und hu, hm, Array.toList_map, harr, Sem.run_pure]
    · cases h
  · rename_i len e hu
    obtain ⟨z, hz, h⟩ := Option.bind_eq_some_iff.mp h
    obtain ⟨n, hn, h⟩ := Option.bind_eq_some_iff.mp h
    obtain ⟨cs, hcs, rfl⟩ := Option.map_eq_some_iff.mp h
    obtain ⟨zv, hzv, hzr, _⟩ := zeroA_rel (ι := ι) (μ := μ) hz
    obtain ⟨arr, harr, hrel⟩ := fillA_rel hcs hzr (parts_rel hr ps.toList)
    refine ⟨.agg arr, ⟨arr, rfl, hrel⟩, fun w => ?_⟩
    simp only [Instr.build, Sem.run_bind, hzv, Result.andThen_ok, run_und hu, run_siz hn, Array.toList_map, harr, Sem.run_pure]
  · cases h
theorem capsA_rel : ∀ {l : List AV} {cs : List (Nat × Nat × Nat)} {m : List Value}, capsA l = some cs → All2 (AVR ι μ) l m → All2 (fun c u => PtrR ι μ c.1 c.2.1 c.2.2 u) cs m
  | [], cs, m, h, hm => by obtain rfl := Option.some.inj h; obtain rfl := hm.nil_inv; exact All2.nil _
  | x :: l, cs, m, h, hm => by
    obtain ⟨u, m', rfl, hu, hm'⟩ := hm.cons_inv
    unfold capsA at h
    split at h
    · rename_i hx; cases hx
    · rename_i id ver off r hx
      obtain ⟨rfl, rfl⟩ := List.cons.inj hx
      obtain ⟨cs', hcs, rfl⟩ := Option.map_eq_some_iff.mp h
      exact All2.cons hu (capsA_rel hcs hm')
    · cases h

theorem map_rel {ev : Operand → AV} {ρ : Operand → Value} (h : ∀ x, AVR ι μ (ev x) (ρ x)) : ∀ (l : List Operand), All2 (AVR ι μ) (l.map ev) (l.map ρ)
  | [] => All2.nil _
  | x :: l => All2.cons (h x) (map_rel h l)
theorem omap_some {ev : Operand → AV} {ρ : Operand → Value} (h : ∀ x, AVR ι μ (ev x) (ρ x)) (o : Option Operand) : (∀ y, o.map ev = some y → ∃ v, o.map ρ = some v ∧ AVR ι μ y v) ∧ (o.map ev = none → o.map ρ = none) := by
  cases o with
  | none => exact ⟨fun y hy => by simp at hy, fun _ => rfl⟩
  | some x => exact ⟨fun y hy => by simp at hy; subst hy; exact ⟨_, rfl, h x⟩, fun hh => by simp at hh⟩
theorem list1 {l : Array Operand} {x : Operand} (h : l.toList = [x]) : l = #[x] := by apply Array.ext'; exact h
theorem list2 {l : Array Operand} {x y : Operand} (h : l.toList = [x, y]) : l = #[x, y] := by apply Array.ext'; exact h
theorem tys1 {l : Array TypeId} {x : TypeId} (h : l.toList = [x]) : l = #[x] := by apply Array.ext'; exact h
theorem tys2 {l : Array TypeId} {x y : TypeId} (h : l.toList = [x, y]) : l = #[x, y] := by apply Array.ext'; exact h
theorem pureK_tells {ev : Operand → AV} {ρ : Operand → Value} {o : Oper} {K : AV → Option R} {r : R} (h : pureK P ev o.op o.type K = some r) (hr : ∀ x, AVR ι μ (ev x) (ρ x)) :
    ∃ y v, K y = some r ∧ AVR ι μ y v ∧ ∀ w, (execOp ρ o).run P w = .ok (.value v) w := by
  have fin : ∀ {s : Sem Value}, Tells P ι μ K r s → execOp ρ o = (do pure (.value (← s)) : Sem Next) → ∃ y v, K y = some r ∧ AVR ι μ y v ∧ ∀ w, (execOp ρ o).run P w = .ok (.value v) w := by
    intro s hs he
    obtain ⟨y, v, h1, h2, h3⟩ := hs
    exact ⟨y, v, h1, h2, fun w => by rw [he, Sem.run_bind, h3]; rfl⟩
  unfold pureK at h
  split at h <;> rename_i hop
  · exact ⟨_, _, h, hr _, fun w => by unfold execOp; rw [hop]; rfl⟩
  · exact ⟨_, _, h, hr _, fun w => by unfold execOp; rw [hop]; rfl⟩
  · rename_i c a b
    unfold pickK at h
    obtain ⟨t, ht, h1⟩ := asB_some h
    have hc := hr c
    rw [ht] at hc
    have hcb : ρ c = .bool t := bool_rel hc
    cases t with
    | true => exact ⟨_, _, h1, hr a, fun w => by unfold execOp; rw [hop]; simp [hcb, asBool]⟩
    | false => exact ⟨_, _, h1, hr b, fun w => by unfold execOp; rw [hop]; simp [hcb, asBool]⟩
  · rename_i x
    have hx := hr x
    unfold nonNil at h
    split at h
    · rename_i id ver off he
      rw [he] at hx
      obtain ⟨ob, ho, hv, a, ha, hh⟩ := hx
      refine ⟨_, ρ x, h, by rw [he]; exact ⟨ob, ho, hv, a, ha, hh⟩, fun w => by unfold execOp; rw [hop]; simp [ha]⟩
    · rename_i f caps he
      rw [he] at hx
      obtain ⟨cvs, ha, hs, hh⟩ := hx
      refine ⟨_, ρ x, h, by rw [he]; exact ⟨cvs, ha, hs, hh⟩, fun w => by unfold execOp; rw [hop]; simp [ha]⟩
    · rename_i f id ver off he
      rw [he] at hx
      obtain ⟨u, ha, hh⟩ := hx
      refine ⟨_, ρ x, h, by rw [he]; exact ⟨u, ha, hh⟩, fun w => by unfold execOp; rw [hop]; simp [ha]⟩
    · cases h
  · rename_i bop t x y yt
    exact fin (binK_tells h (hr x) (hr y) x y) (by unfold execOp; rw [hop])
  · rename_i uop t x
    exact fin (unK_tells h (hr x)) (by unfold execOp; rw [hop])
  · rename_i s d x
    exact fin (convK_tells h (hr x)) (by unfold execOp; rw [hop])
  · rename_i st x f
    exact fin (fieldK_tells h (hr x)) (by unfold execOp; rw [hop])
  · rename_i st x f
    obtain ⟨y, v, h1, h2, h3⟩ := partK_tells (ι := ι) (μ := μ) h (hr x)
    exact fin ⟨y, v, viewK_some h1, h2, h3⟩ (by unfold execOp; rw [hop])
  · rename_i t x i
    exact fin (indexK_tells h (hr x) (hr i)) (by unfold execOp; rw [hop])
  · rename_i t x lo hi
    exact fin (sliceK_tells h (hr x) (omap_some hr lo).1 (omap_some hr lo).2 (omap_some hr hi).1 (omap_some hr hi).2) (by unfold execOp; rw [hop]; rfl)
  · rename_i x i
    obtain ⟨y, v, h1, h2, h3⟩ := extrK_tells (ι := ι) (μ := μ) (P := P) h (hr x)
    exact fin ⟨y, v, viewK_some h1, h2, h3⟩ (by unfold execOp; rw [hop])
  · rename_i t ps
    obtain ⟨y, hy, h1⟩ := Option.bind_eq_some_iff.mp h
    obtain ⟨v, h2, h3⟩ := buildV_tells hy hr
    exact fin ⟨y, v, h1, h2, h3⟩ (by unfold execOp; rw [hop])
  · rename_i f first caps
    cases hf : first.isEmpty with
    | false =>
      rw [hf] at h
      simp only [cond_false] at h
      cases hc : caps.isEmpty with
      | false => rw [hc] at h; cases h
      | true =>
        rw [hc] at h
        simp only [cond_true] at h
        have hce : caps = #[] := by simpa using hc
        subst hce
        split at h
        · rename_i x hx1
          obtain rfl := list1 hx1
          unfold boundK at h
          split at h
          · rename_i id ver off hev
            have hx := hr x
            rw [hev] at hx
            exact fin (s := Instr.makeFunc (.func f) (#[x].map ρ) (#[].map ρ)) ⟨_, .func (.func f) #[ρ x] #[], h, ⟨ρ x, rfl, hx⟩, fun w => by simp [Instr.makeFunc]⟩ (by unfold execOp; rw [hop])
          · cases h
        · cases h
    | true =>
      rw [hf] at h
      simp only [cond_true] at h
      have hfe : first = #[] := by simpa using hf
      subst hfe
      obtain ⟨cs, hcs, h1⟩ := Option.bind_eq_some_iff.mp h
      have hc := capsA_rel hcs (map_rel hr caps.toList)
      refine fin (s := Instr.makeFunc (.func f) (#[].map ρ) (caps.map ρ)) ⟨_, .func (.func f) #[] (caps.map ρ), h1, ⟨caps.map ρ, rfl, ?_, ?_⟩, fun w => by simp [Instr.makeFunc]⟩ (by unfold execOp; rw [hop])
      · have := hc.1; simpa using this
      · intro i c hi
        obtain ⟨u, hu, hp⟩ := hc.2 i c hi
        exact ⟨u, by rw [← Array.getElem?_toList, Array.toList_map]; exact hu, hp⟩
  · rename_i as ts
    split at h
    · rename_i x t ha ht
      obtain rfl := list1 ha
      obtain rfl := tys1 ht
      refine fin (lenK_tells (ty := o.type) h (hr x)) (by unfold execOp; rw [hop]; simp [resolve, invoke, builtin])
    · cases h
  · rename_i as ts
    split at h
    · rename_i x l ha
      refine fin (s := (l.map ρ).foldlM Builtin.min2 (ρ x)) (foldMin_tells h (hr x) (map_rel hr l)) ?_
      unfold execOp; rw [hop]
      simp [resolve, invoke, builtin, Builtin.min_, Array.toList_map, ha]
    · cases h
  · rename_i as ts
    split at h
    · rename_i x l ha
      refine fin (s := (l.map ρ).foldlM Builtin.max2 (ρ x)) (foldMax_tells h (hr x) (map_rel hr l)) ?_
      unfold execOp; rw [hop]
      simp [resolve, invoke, builtin, Builtin.max_, Array.toList_map, ha]
    · cases h
  · cases h
end
end Go.Proofs.YtnjenjbodcihmaaGreat.E
namespace Go.Proofs.YtnjenjbodcihmaaGreat.E
open Go
set_option linter.unusedVariables false
set_option linter.unusedSimpArgs false

section
variable {R : Type} {ι : Nat → Loc} {μ : AMem} {P : Program} {w : World}

theorem i64_in' (n : Int) (h : -9223372036854775808 ≤ n ∧ n ≤ 9223372036854775807) : IntKind.i64.wrap n = n := by rw [IntKind.wrap_i64]; omega
theorem add_none (b o n : Nat) : (⟨b, o, none⟩ : Addr).add n = ⟨b, o + n, none⟩ := by unfold Addr.add; split <;> simp_all
theorem loadN_rel (h : Sim P ι μ w) {id ver : Nat} : ∀ {n off : Nat} {l : List SV}, μ.loadN id ver off n = some l →
    ∃ cs : List Value, cs.length = n ∧ All2 (SVR ι μ) l cs ∧ ∀ j v, cs[j]? = some v → w.cell? ⟨(ι id).b, (ι id).o + off + j, none⟩ = some v
  | 0, off, l, hl => by obtain rfl := Option.some.inj hl; exact ⟨[], rfl, All2.nil _, fun j v hj => by simp at hj⟩
  | n + 1, off, l, hl => by
    simp only [AMem.loadN] at hl
    obtain ⟨x, hx, hl⟩ := Option.bind_eq_some_iff.mp hl
    obtain ⟨r, hr, rfl⟩ := Option.map_eq_some_iff.mp hl
    obtain ⟨o, v, ho, hv, hc, hrel⟩ := h.cell hx
    obtain ⟨cs, hlen, hall, hcs⟩ := loadN_rel h hr
    refine ⟨v :: cs, by simp [hlen], All2.cons hrel hall, fun j u hj => ?_⟩
    cases j with
    | zero => simp at hj; subst hj; simpa using hc
    | succ j =>
      have := hcs j u (by simpa using hj)
      rw [← this]
      congr 2
      omega
theorem cell_ver {id ver off : Nat} {x : SV} (h : μ.cell id ver off = some x) : ∃ o, μ.obj id = some o ∧ o.ver = ver := by
  unfold AMem.cell at h
  obtain ⟨o, ho, hc⟩ := Option.bind_eq_some_iff.mp h
  split at hc
  · exact ⟨o, ho, by assumption⟩
  · cases hc
theorem ptr_here {id ver off : Nat} {v : Value} {o : AObj} (h : PtrR ι μ id ver off v) (ho : μ.obj id = some o) (hv : o.ver = ver) : v = .pointer (some ⟨(ι id).b, (ι id).o + off, none⟩) := by
  obtain ⟨o', ho', _, a, rfl, he⟩ := h
  rw [ho] at ho'
  obtain rfl := Option.some.inj ho'
  rw [he hv]
theorem loadN_ver {id ver off n : Nat} {l : List SV} (h : μ.loadN id ver off (n + 1) = some l) : ∃ o, μ.obj id = some o ∧ o.ver = ver := by
  simp only [AMem.loadN] at h
  obtain ⟨x, hx, _⟩ := Option.bind_eq_some_iff.mp h
  exact cell_ver hx
theorem loadK_tells (hs : Sim P ι μ w) {t : TypeId} {x : AV} {K : AV → Option R} {r : R} (h : loadK P t μ x K = some r) {a : Value} (ha : AVR ι μ x a) :
    ∃ y v, K y = some r ∧ AVR ι μ y v ∧ (Instr.loadAt t a).run P w = .ok v w := by
  unfold loadK at h
  split at h
  · rename_i n hg hn
    unfold loadsAt at h
    split at h
    · rename_i id ver off
      obtain ⟨l, hl, h1⟩ := Option.bind_eq_some_iff.mp h
      obtain ⟨cs, hlen, hall, hcs⟩ := loadN_rel hs hl
      cases n with
      | zero =>
        obtain rfl := List.eq_nil_of_length_eq_zero hlen
        obtain ⟨o, ho, hv, ad, rfl, he⟩ := ha
        exact ⟨_, .agg #[], h1, ⟨#[], rfl, hall⟩, by simp [Instr.loadAt, Instr.sureAddr, loadVar, run_agg hg, run_siz hn, loadCells, loadCellsFrom]⟩
      | succ n =>
        obtain ⟨o, ho, hv⟩ := loadN_ver hl
        obtain rfl := ptr_here ha ho hv
        refine ⟨_, .agg cs.toArray, h1, ⟨cs.toArray, rfl, hall⟩, ?_⟩
        have hlc := run_loadCells_list (P := P) w ⟨(ι id).b, (ι id).o + off, none⟩ cs (fun j v hj => by rw [add_none]; exact hcs j v hj)
        rw [hlen] at hlc
        simp [Instr.loadAt, Instr.sureAddr, loadVar, run_agg hg, run_siz hn, hlc]
    · cases h
  · rename_i n hg hn
    unfold loadAt at h
    split at h
    · rename_i id ver off
      obtain ⟨y, hy, h1⟩ := Option.bind_eq_some_iff.mp h
      obtain ⟨o, v, ho, hv, hc, hrel⟩ := hs.cell hy
      obtain rfl := ptr_here ha ho hv
      exact ⟨_, v, h1, hrel, by simp [Instr.loadAt, Instr.sureAddr, loadVar, run_agg hg, hc]⟩
    · cases h
  · cases h

theorem new_ptr (nid : Nat) (ob : AObj) (hv : ob.ver = 0) (b cap : Nat) : PtrR (fun j => if j = nid then ⟨b, 0, cap⟩ else ι j) (μ.set nid ob) nid 0 0 (.pointer (some ⟨b, 0, none⟩)) :=
  ⟨ob, by simp [AMem.set], by omega, _, rfl, fun _ => by simp⟩
theorem new_slice (nid : Nat) (ob : AObj) (hv : ob.ver = 0) (b cap len : Nat) (h : len ≤ cap) : SliceR (fun j => if j = nid then ⟨b, 0, cap⟩ else ι j) (μ.set nid ob) nid 0 0 len (.slice (some ⟨b, 0, none⟩) len cap) :=
  ⟨ob, by simp [AMem.set], by omega, _, _, rfl, h, fun _ => ⟨fun _ => by simp, .inl (by simp)⟩⟩
theorem zerosA_length (z : List SV) : ∀ n, (zerosA z n).length = n * z.length
  | 0 => by simp [zerosA]
  | n + 1 => by simp [zerosA, zerosA_length z n, Nat.add_mul]; omega
theorem zerosA_get (z : List SV) (hz : 0 < z.length) : ∀ n j, j < n * z.length → (zerosA z n)[j]? = z[j % z.length]?
  | 0, j, h => by simp at h
  | n + 1, j, h => by
    simp only [zerosA]
    by_cases h1 : j < z.length
    · rw [List.getElem?_append_left h1, Nat.mod_eq_of_lt h1]
    · rw [List.getElem?_append_right (by omega), zerosA_get z hz n (j - z.length) (by rw [Nat.add_mul] at h; omega)]
      congr 1
      rw [Nat.mod_eq_sub_mod (by omega : z.length ≤ j)]
theorem zeros_rel {z : List SV} {zs : Array Value} (h : All2 (SVR ι μ) z zs.toList) (hz : 0 < z.length) (n : Nat) :
    All2 (SVR ι μ) (zerosA z n) ((Array.range (n * z.length)).map (zs[· % zs.size]!)).toList := by
  have hs : zs.size = z.length := by rw [← Array.length_toList]; exact h.1
  refine ⟨by simp [zerosA_length], fun j x hj => ?_⟩
  have hlt : j < n * z.length := by rw [← zerosA_length]; exact (List.getElem?_eq_some_iff.mp hj).1
  rw [zerosA_get z hz n j hlt] at hj
  obtain ⟨u, hu, hr⟩ := h.2 _ x hj
  rw [Array.getElem?_toList] at hu
  refine ⟨u, ?_, hr⟩
  simp only [Array.toList_map, Array.toList_range, List.getElem?_map, List.getElem?_range hlt, Option.map_some]
  rw [hs]
  rw [getElem!_def, hu]
theorem zeroCells_rel {z : List SV} {zs : Array Value} (h : All2 (SVR ι μ) z zs.toList) (hz : 0 < z.length) (n : Nat) :
    All2 (SVR ι μ) (zerosA z n) (Builtin.zeroCells zs n).toList := by
  have hs : zs.size = z.length := by rw [← Array.length_toList]; exact h.1
  have := zeros_rel h hz n
  unfold Builtin.zeroCells
  rw [hs]
  rw [hs] at this
  exact this
theorem allocK_tells (hs : Sim P ι μ w) {nid : Nat} (hn : nid < μ.next) (hf : μ.obj nid = none) {ev : Operand → AV} {ρ : Operand → Value} {o : Oper} {K : AObj → AV → Option R} {r : R}
    (h : allocK P ev nid o.op K = some r) (hr : ∀ x, AVR ι μ (ev x) (ρ x)) :
    ∃ ob y v ι' w', K ob y = some r ∧ (execOp ρ o).run P w = .ok (.value v) w' ∧ Tr P ι μ w ι' (μ.set nid ob) w' ∧ AVR ι' (μ.set nid ob) y v := by
  unfold allocK at h
  split at h <;> rename_i hop
  · rename_i t x
    unfold boxV at h
    split at h
    · rename_i l hl
      have hc := cells_rel hl (hr x)
      have hsz : (ρ x).cells.size = l.length := by rw [← Array.length_toList]; exact hc.1
      refine ⟨_, _, .pointer (some ⟨w.heap.size, 0, none⟩), _, w.alloc (.cells (ρ x).cells t), h, ?_,
        Tr.alloc hs hn hf (rowObj l l.length t (some 1)) rfl (ρ x).cells 1 (by simp [rowObj, hsz]) (by unfold maxLen; omega) ?_ (fun c hc => by simpa [rowObj] using hc) (Sp.full hc) rfl rfl rfl rfl, new_ptr nid _ rfl _ _⟩
      · unfold execOp; rw [hop]
        simp [Instr.box, newVar, newRow]
      · intro j y hy
        obtain ⟨v, hv, hvr⟩ := hc.2 j y hy
        exact ⟨v, by rwa [Array.getElem?_toList] at hv, hvr⟩
    · cases h
  · rename_i t
    obtain ⟨l, hl, h1⟩ := Option.bind_eq_some_iff.mp h
    obtain ⟨z, hz, hc, _⟩ := zeroA_rel (ι := ι) (μ := μ) hl
    have hsz : z.cells.size = l.length := by rw [← Array.length_toList]; exact hc.1
    refine ⟨_, _, .pointer (some ⟨w.heap.size, 0, none⟩), _, w.alloc (.cells z.cells t), h1, ?_,
      Tr.alloc hs hn hf (rowObj l l.length t (some 1)) rfl z.cells 1 (by simp [rowObj, hsz]) (by unfold maxLen; omega) ?_ (fun c hc => by simpa [rowObj] using hc) (Sp.full hc) rfl rfl rfl rfl, new_ptr nid _ rfl _ _⟩
    · unfold execOp; rw [hop]
      simp [Instr.alloc, newVar, newRow, hz]
    · intro j y hy
      obtain ⟨v, hv, hvr⟩ := hc.2 j y hy
      exact ⟨v, by rwa [Array.getElem?_toList] at hv, hvr⟩
  · rename_i t len ps
    split at h
    · rename_i e hu
      obtain ⟨n, hn1, h1⟩ := Option.bind_eq_some_iff.mp h
      obtain ⟨z, hz1, h2⟩ := Option.bind_eq_some_iff.mp h1
      split at h2
      · rename_i hb
        obtain ⟨cs, hcs, h3⟩ := Option.bind_eq_some_iff.mp h2
        obtain ⟨zv, hzv, hzr, _⟩ := zeroA_rel (ι := ι) (μ := μ) hz1
        have hz0 : 0 < z.length := by omega
        obtain ⟨arr, harr, hrel⟩ := fillA_rel hcs (zeros_rel hzr hz0 len) (parts_rel hr ps.toList)
        have hlen : cs.length = len * n := by
          have : ∀ {place : Nat → Option (Nat × Nat)} {parts : List (Nat × AV)} {a b : List SV}, fillA place a parts = some b → b.length = a.length := by
            intro place parts
            induction parts with
            | nil => intro a b h; obtain rfl := Option.some.inj h; rfl
            | cons p r ih =>
              intro a b h
              obtain ⟨i, v⟩ := p
              simp only [fillA] at h
              obtain ⟨⟨off, n⟩, _, h⟩ := Option.bind_eq_some_iff.mp h
              obtain ⟨l, _, h⟩ := Option.bind_eq_some_iff.mp h
              split at h
              · rw [ih h, overA_length _ _ _ (by omega)]
              · cases h
          rw [this hcs, zerosA_length, hb.1]
        have hsz : arr.size = len * n := by rw [← Array.length_toList, hrel.1, hlen]
        refine ⟨_, _, .slice (some ⟨w.heap.size, 0, none⟩) len len, _, w.alloc (.cells arr e), h3, ?_,
          Tr.alloc hs hn hf (rowObj cs n e (some len)) rfl arr len (by simp [rowObj, hsz]) ?_ ?_ (fun c hc => by simpa [rowObj] using hc) (Sp.full hrel) rfl rfl rfl rfl, new_slice nid _ rfl _ _ _ (Nat.le_refl _)⟩
        · have hne : ¬ (16777216 < len * n) := by omega
          have hzsz : zv.cells.size = z.length := by rw [← Array.length_toList]; exact hzr.1
          unfold execOp; rw [hop]
          have hfill : Instr.fill (fun i => some (i * n, n)) (Array.map (fun x => zv.cells[x % zv.cells.size]!) (Array.range (len * n))) (List.map (fun p => (p.fst, ρ p.snd)) ps.toList) = some arr := by
            rw [hb.1] at harr; exact harr
          simp only [Instr.buildSlice, Sem.run_bind, run_und hu, Result.andThen_ok, run_siz hn1]
          rw [if_neg (by omega)]
          simp only [Sem.run_bind, Sem.run_pure, Result.andThen_ok]
          by_cases h0 : len * n = 0
          · simp only [h0, if_true, Sem.run_bind, Sem.run_pure, Result.andThen_ok]
            have harr0 : arr = #[] := by
              apply Array.ext'
              have := hrel.1; rw [hlen, h0] at this
              simpa using this
            rw [h0] at hfill
            have e1 : (Array.map (fun x => zv.cells[x % zv.cells.size]!) (Array.range 0)) = #[] := by apply Array.ext'; simp
            have e2 : (Array.map (fun x => (#[] : Array Value)[x % (#[] : Array Value).size]!) (Array.range 0)) = #[] := by apply Array.ext'; simp
            rw [e1] at hfill
            simp only [Array.toList_map]
            rw [e2, hfill]
            simp [newRow]
          · rw [if_neg h0]
            simp only [Sem.run_bind, hzv, Result.andThen_ok, Sem.run_pure, Array.toList_map]
            rw [hfill]
            simp [newRow]
        · have : len * 1 ≤ len * n := Nat.mul_le_mul_left _ hb.2.1
          unfold maxLen; omega
        · intro j y hy
          obtain ⟨v, hv, hvr⟩ := hrel.2 j y hy
          exact ⟨v, by rwa [Array.getElem?_toList] at hv, hvr⟩
      · cases h2
    · cases h
  · rename_i t lo co
    split at h
    · rename_i e hu
      obtain ⟨i, hi, h1⟩ := Option.bind_eq_some_iff.mp h
      obtain ⟨z, hz1, h2⟩ := Option.bind_eq_some_iff.mp h1
      split at h2
      · rename_i hb
        obtain ⟨k, l, hl, h3⟩ := asN_some h2
        obtain ⟨k', c, hc, h4⟩ := asN_some h3
        have hlv : ρ lo = .int k l := by have := hr lo; rw [hl] at this; exact this
        have hcv : ρ co = .int k' c := by have := hr co; rw [hc] at this; exact this
        unfold makeV at h4
        split at h4
        · rename_i hh
          obtain ⟨h0, hlc, hc63, hbytes⟩ := hh
          obtain ⟨zv, hzv, hzr, _⟩ := zeroA_rel (ι := ι) (μ := μ) hz1
          have hz0 : 0 < z.length := by omega
          have hsize : sizeA P e = some i.size := by simp [sizeA, hi]
          have hw : ∀ n : Int, 0 ≤ n → n ≤ 9223372036854775807 → IntKind.i64.wrap n = n := by
            intro n a b
            exact i64_in' n ⟨by omega, b⟩
          refine ⟨_, _, .slice (some ⟨w.heap.size, 0, none⟩) l.toNat c.toNat, _, w.alloc (.cells ((Array.range (c.toNat * i.size)).map (zv.cells[· % zv.cells.size]!)) e), h4, ?_,
            Tr.alloc hs hn hf (rowObj (zerosA z c.toNat) i.size e (some c.toNat)) rfl _ c.toNat (by simp [rowObj]) (by unfold maxLen; omega) ?_ (fun c hc => by simpa [rowObj] using hc) (Sp.full (by have := zeros_rel hzr hz0 c.toNat; rw [hb.1] at this; exact this)) rfl rfl rfl rfl, new_slice nid _ rfl _ _ _ (by omega)⟩
          · unfold execOp; rw [hop]
            simp only [Instr.makeSlice, Sem.run_bind, run_und hu, Result.andThen_ok, hlv, hcv, asInt, asIntOf, Sem.run_pure, run_inf hi, hw l h0 (by omega), hw c (by omega) hc63]
            have hbn : ¬ (281474976710656 < (i.bytes : Int) * c) := by omega
            rw [if_neg (by simp; omega)]
            simp only [Sem.run_bind, run_askRoom, Result.andThen_ok, run_siz hsize, Sem.run_pure]
            by_cases hz : c.toNat * i.size = 0
            · simp only [hz, if_true, Sem.run_bind, Sem.run_pure, Result.andThen_ok]
              have e1 : (Array.map (fun x => zv.cells[x % zv.cells.size]!) (Array.range 0)) = #[] := by apply Array.ext'; simp
              have e2 : (Array.map (fun x => (#[] : Array Value)[x % (#[] : Array Value).size]!) (Array.range 0)) = #[] := by apply Array.ext'; simp
              rw [e1, e2]
              simp [newRow]
            · rw [if_neg hz]
              simp only [Sem.run_bind, hzv, Result.andThen_ok, Sem.run_pure]
              simp [newRow]
          · have := zeros_rel hzr hz0 c.toNat
            rw [hb.1] at this
            intro j y hy
            obtain ⟨v, hv, hvr⟩ := this.2 j y hy
            exact ⟨v, by rwa [Array.getElem?_toList] at hv, hvr⟩
        · cases h4
      · cases h2
    · cases h
  · cases h

theorem store_rel (hs : Sim P ι μ w) {id ver off : Nat} {l : List SV} {μ' : AMem} (h : μ.store id ver off l = some μ') {vs : List Value} (hv : All2 (SVR ι μ) l vs) (h1 : ∀ v ∈ vs, v.oneCell' = true) :
    ∃ o arr, μ.obj id = some o ∧ o.ver = ver ∧ (storeCells ⟨(ι id).b, (ι id).o + off, none⟩ vs).run P w = .ok () (w.setRow (ι id).b arr) ∧ Tr P ι μ w ι μ' (w.setRow (ι id).b arr) := by
  unfold AMem.store at h
  obtain ⟨o, ho, h⟩ := Option.bind_eq_some_iff.mp h
  split at h
  · rename_i hh
    obtain ⟨hown, hver, hlen⟩ := hh
    obtain rfl := Option.some.inj h
    obtain ⟨g1, ⟨arr0, e0, fr0, hb, hcs, hown0⟩, g3, g4⟩ := hs.live id o ho
    obtain ⟨q1, q2, q3, q4, q5⟩ := hown0 hown
    obtain ⟨s1, s2⟩ := g4 hown _ _ _ hb
    subst q2 q3
    have hfit : off + l.length ≤ arr0.size := by
      by_cases hc0 : o.cells.length = 0
      · rcases Nat.eq_zero_or_pos (off + l.length) with h0 | h0 <;> omega
      · obtain ⟨v, hv1, _⟩ := hcs (o.cells.length - 1) _ (List.getElem?_eq_getElem (by omega))
        rw [q1, Nat.zero_add] at hv1
        have := (Array.getElem?_eq_some_iff.mp hv1).1
        omega
    have hl : vs.length = l.length := hv.1
    have hst := run_storeCells_at P (ι id).b off o.elem vs 0 arr0 w hb (by omega) h1
    rw [Nat.add_zero] at hst
    refine ⟨o, _, ho, hver, by rw [q1, Nat.zero_add]; exact hst, ?_⟩
    refine Tr.change hs ho hown (o' := { o with cells := overA o.cells off l }) hown rfl rfl (Nat.le_refl _) (.inl rfl) (arr0.toList.take off ++ vs ++ arr0.toList.drop (off + vs.length)).toArray (by simp; omega) ?_ ⟨fun j v hj => ?_, fun h0 h1 j hj hj2 => ?_⟩
    rotate_left
    · rw [List.getElem?_toArray, over_get _ _ _ (by simp; omega)] at hj
      split at hj
      · exact h1 v (List.mem_of_getElem? hj)
      · rw [Array.getElem?_toList] at hj; exact s1 j v hj
    · simp only [overA_length _ _ _ hlen] at hj
      simp only [List.size_toArray, List.length_append, List.length_take, List.length_drop, Array.length_toList] at hj2
      obtain ⟨i, z, z1, z2, z3⟩ := s2 h0 h1 j hj (by omega)
      refine ⟨i, z, z1, z2, ?_⟩
      rw [List.getElem?_toArray, over_get _ _ _ (by simp; omega), if_neg (by omega), Array.getElem?_toList]
      exact z3
    intro j x hj
    simp only at hj
    rw [overA_get _ _ _ hlen] at hj
    rw [List.getElem?_toArray, over_get _ _ _ (by simp; omega), hl]
    split at hj
    · rename_i hr
      rw [if_pos hr]
      exact hv.2 _ x hj
    · rename_i hr
      rw [if_neg hr]
      obtain ⟨v, hv1, hv2⟩ := hcs j x hj
      rw [q1, Nat.zero_add] at hv1
      exact ⟨v, by rw [Array.getElem?_toList]; exact hv1, hv2⟩
  · cases h
theorem storeK_tells (hs : Sim P ι μ w) {t : TypeId} {p x : AV} {K : AMem → Option R} {r : R} (h : storeK P t μ p x K = some r) {a b : Value} (ha : AVR ι μ p a) (hb : AVR ι μ x b) :
    ∃ μ' w', K μ' = some r ∧ (Instr.storeAt t a b).run P w = .ok () w' ∧ Tr P ι μ w ι μ' w' := by
  unfold storeK at h
  split at h
  · rename_i n hn
    unfold storeAt at h
    split at h
    · rename_i id ver off
      split at h
      · rename_i l hl
        split at h
        · rename_i hlen
          obtain ⟨μ', hm, h1⟩ := Option.bind_eq_some_iff.mp h
          obtain ⟨o, arr, ho, hv, hst, htr⟩ := store_rel (P := P) hs hm (cells_rel hl hb) (cells_one hl hb)
          obtain rfl := ptr_here ha ho hv
          have hsz : b.cells.size = n := by rw [← Array.length_toList, (cells_rel hl hb).1, hlen]
          exact ⟨μ', _, h1, by simp [Instr.storeAt, Instr.sureAddr, storeVar, run_siz hn, hsz, hst], htr⟩
        · cases h
      · cases h
    · cases h
  · cases h
theorem row_rel (hs : Sim P ι μ w) {size n : Nat} {y : AV} {l : List SV} (h : μ.row size n y = some l) {b : Value} (hb : AVR ι μ y b) :
    (b = .slice none 0 0 ∧ l = []) ∨ ∃ a len c cs, b = .slice (some a) len c ∧ n ≤ len ∧ cs.length = n * size ∧ l.length = n * size ∧ All2 (SVR ι μ) l cs ∧ (∀ u ∈ cs, u.oneCell' = true) ∧ (∀ j u, cs[j]? = some u → w.cell? (a.add j) = some u) := by
  unfold AMem.row at h
  split at h
  · rename_i id ver off len
    obtain ⟨o, ho, h⟩ := Option.bind_eq_some_iff.mp h
    split at h
    · rename_i hh
      obtain ⟨hver, hnl, hlen⟩ := hh
      obtain rfl := Option.some.inj h
      obtain ⟨o', ho', hv, ad, c, rfl, hlc, he⟩ := hb
      rw [ho] at ho'
      obtain rfl := Option.some.inj ho'
      obtain ⟨_, hadr⟩ := he hver
      obtain ⟨g1, ⟨arr0, e0, fr0, hbk, hcs, hown0⟩, g3, _⟩ := hs.live id o ho
      right
      have hget : ∀ j, j < n * size → ∃ x v, o.cells[off + j]? = some x ∧ arr0[(ι id).o + (off + j)]? = some v ∧ SVR ι μ x v := by
        intro j hj
        obtain ⟨v, hv1, hv2⟩ := hcs (off + j) _ (List.getElem?_eq_getElem (by omega))
        exact ⟨_, v, List.getElem?_eq_getElem (by omega), hv1, hv2⟩
      refine ⟨ad, len, c, (List.range (n * size)).map fun j => arr0.getD ((ι id).o + (off + j)) undef, rfl, hnl, by simp, by simp; omega, ⟨by simp; omega, ?_⟩, ?_, ?_⟩
      · intro j x hj
        rw [List.getElem?_take] at hj
        split at hj
        · rename_i hjl
          rw [List.getElem?_drop] at hj
          obtain ⟨x', v, hx', hv1, hv2⟩ := hget j hjl
          rw [hj] at hx'
          obtain rfl := Option.some.inj hx'
          refine ⟨v, ?_, hv2⟩
          rw [List.getElem?_map, List.getElem?_range hjl]
          simp [Array.getD_eq_getD_getElem?, hv1]
        · cases hj
      · intro u hu
        obtain ⟨j, hj, rfl⟩ := List.mem_map.mp hu
        obtain ⟨x', v, hx', hv1, hv2⟩ := hget j (by simpa using hj)
        simp only [Array.getD_eq_getD_getElem?, hv1, Option.getD_some]
        exact hv2.one
      · intro j u hj
        by_cases hjl : j < n * size
        · rw [List.getElem?_map, List.getElem?_range hjl] at hj
          obtain ⟨x', v, hx', hv1, hv2⟩ := hget j hjl
          simp only [Option.map_some, Array.getD_eq_getD_getElem?, hv1, Option.getD_some, Option.some.injEq] at hj
          subst hj
          rcases hadr with hadr | hadr
          · rw [hadr, add_none]
            simp only [World.cell?, hbk]
            rw [Nat.add_assoc, hv1]
            rfl
          · have : n = 0 := by omega
            subst this; simp at hjl
        · rw [List.getElem?_eq_none (by simp; omega)] at hj; cases hj
    · cases h
  · obtain rfl := Option.some.inj h
    left
    exact ⟨hb, rfl⟩
  · cases h

theorem bytesA_rel {ι : Nat → Loc} {μ : AMem} : ∀ {l : List SV} {b : List Int} {m : List Value}, bytesA l = some b → All2 (SVR ι μ) l m → m = b.map (Value.int .u8) ∧ ∀ x ∈ b, 0 ≤ x ∧ x < 256
  | [], b, m, h, hm => by
    obtain rfl := hm.nil_inv
    cases h
    exact ⟨rfl, fun x hx => by cases hx⟩
  | x :: l, b, m, h, hm => by
    obtain ⟨y, m', rfl, h1, h2⟩ := hm.cons_inv
    obtain ⟨n, hn, h3⟩ := Option.bind_eq_some_iff.mp h
    obtain ⟨b', hb', rfl⟩ := Option.map_eq_some_iff.mp h3
    obtain ⟨rfl, h5⟩ := bytesA_rel hb' h2
    unfold byteA at hn
    split at hn
    · rename_i n'
      split at hn
      · rename_i hr
        obtain rfl := Option.some.inj hn
        have hy : y = .int .u8 n' := h1
        subst hy
        refine ⟨rfl, fun x hx => ?_⟩
        rcases List.mem_cons.mp hx with rfl | hx
        · exact hr
        · exact h5 x hx
      · cases hn
    · cases hn
theorem strK_tells (hs : Sim P ι μ w) {s d : TypeId} {x : AV} {K : AV → Option R} {r : R} (h : strK P s d μ x K = some r) {a : Value} (ha : AVR ι μ x a) :
    ∃ y v, K y = some r ∧ AVR ι μ y v ∧ (convert s d a).run P w = .ok v w := by
  unfold strK at h
  split at h
  · rename_i e hu hd
    split at h
    · rename_i he
      unfold strA at h
      obtain ⟨n, hn, h1⟩ := Option.bind_eq_some_iff.mp h
      obtain ⟨l, hl, h2⟩ := Option.bind_eq_some_iff.mp h1
      obtain ⟨b, hb, h3⟩ := Option.bind_eq_some_iff.mp h2
      rcases row_rel hs hl ha with ⟨rfl, rfl⟩ | ⟨ad, len, c, cs, rfl, hnl, hcl, _, hrel, _, hcell⟩
      · cases hb
        refine ⟨_, .string (bytesOf []), h3, ⟨rfl, fun x hx => by cases hx⟩, ?_⟩
        rw [run_convert_bytes_string w s d e none 0 0 hu he hd]
        rfl
      · obtain ⟨hcs, hrange⟩ := bytesA_rel hb hrel
        refine ⟨_, .string (bytesOf b), h3, ⟨rfl, hrange⟩, ?_⟩
        obtain ⟨ad', c', hlen⟩ := lenS_rel hn ha
        cases hlen
        rw [run_convert_bytes_string w s d e _ _ _ hu he hd]
        have hlc := run_loadCells_list (P := P) w ad cs hcell
        rw [hcl, Nat.mul_one] at hlc
        exact run_bytesToString w ad n c b (by rw [hlc, hcs])
    · cases h
  · cases h

theorem zero_len {e : TypeId} {i : TypeInfo} {z : List SV} (hi : P.info? e = some i) (hz : zeroA P e = some z) (hl : z.length = i.size) : ∃ zv, i.zero = some zv ∧ zv.cells.size = i.size := by
  obtain ⟨zv, _, hr, hzi⟩ := zeroA_rel (ι := fun _ => ⟨0, 0, 0⟩) (μ := ⟨0, fun _ => none⟩) hz
  exact ⟨zv, hzi i hi, by rw [← Array.length_toList, hr.1, hl]⟩
theorem lenS_nat {y : AV} {m : Nat} (h : lenS y = some m) {b : Value} (hb : AVR ι μ y b) : (b = .slice none 0 0 ∧ m = 0) ∨ ∃ a c, b = .slice (some a) m c := by
  unfold lenS at h
  split at h
  · obtain rfl := Option.some.inj h
    obtain ⟨o, _, _, a, c, rfl, _⟩ := hb
    exact .inr ⟨a, c, rfl⟩
  · obtain rfl := Option.some.inj h
    exact .inl ⟨hb, rfl⟩
  · cases h
theorem newCap_zero (w : World) (need old : Nat) (e : TypeId) (z : Array Value) (n : Nat) : (Builtin.zeroCells z n).size = n * z.size := by simp [Builtin.zeroCells]
theorem zero_all {e : TypeId} {i : TypeInfo} {z : List SV} {zv : Value} (hz : zeroA P e = some z) (hi : P.info? e = some i) (hzv : i.zero = some zv) : All2 (SVR ι μ) z zv.cells.toList := by
  obtain ⟨zv', _, hr, hzi⟩ := zeroA_rel (ι := ι) (μ := μ) hz
  have := hzi i hi
  rw [hzv] at this
  obtain rfl := Option.some.inj this
  exact hr
theorem all_one {l : List SV} {m : List Value} (h : All2 (SVR ι μ) l m) : ∀ u ∈ m, u.oneCell' = true := by
  intro u hu
  obtain ⟨i, hi⟩ := List.mem_iff_getElem?.mp hu
  have hlt : i < l.length := by rw [← h.1]; exact (List.getElem?_eq_some_iff.mp hi).1
  obtain ⟨u', hu', hr⟩ := h.2 i l[i] (List.getElem?_eq_getElem hlt)
  rw [hi] at hu'
  obtain rfl := Option.some.inj hu'
  exact hr.one
theorem appendG_tells (hs : Sim P ι μ w) {nid : Nat} (hn : nid < μ.next) (hf : μ.obj nid = none) {t e ty : TypeId} {i : TypeInfo} {z : List SV} (hu : P.underlying t = some (.slice e)) (hi : P.info? e = some i)
    (hz : zeroA P e = some z) (hzl : z.length = i.size) (hsz : 0 < i.size) {x : AV} {m : Nat} {new : List SV} {K : AV → AMem → Option R} {r : R} (h : appendS e i.size i.bytes nid μ x m new K = some r)
    {a b : Value} {u : TypeId} (ha : AVR ι μ x a) {news : List Value} (hnl : news.length = m * i.size) (hrel : All2 (SVR ι μ) new news) (h1 : ∀ u ∈ news, u.oneCell' = true)
    (r0 : m = 0 → ∀ (s : Option Addr) (sLen sCap : Nat), sLen ≤ sCap → (Builtin.append_ #[t, u] ty #[.slice s sLen sCap, b]).run P w = .ok (.slice s sLen sCap) w)
    (rn : ∀ zv, i.zero = some zv → 0 < m → m * i.bytes ≤ 140737488355328 → m ≤ 9223372036854775807 → (Builtin.append_ #[t, u] ty #[.slice none 0 0, b]).run P w =
      .ok (.slice (some ⟨w.heap.size, 0, none⟩) m (grownCap w m 0 e)) (w.drew.alloc (.cells (news.toArray ++ Builtin.zeroCells zv.cells (grownCap w m 0 e - m)) e)))
    (rr : ∀ (g sLen sCap : Nat) (cur : Array Value), w.heap[g]? = some (.cells cur e (0, 0)) → 0 < m → (sLen + m) * i.bytes ≤ 140737488355328 → sLen + m ≤ 9223372036854775807 → sLen + m ≤ sCap → sLen * i.size + news.length ≤ cur.size →
      (Builtin.append_ #[t, u] ty #[.slice (some ⟨g, 0, none⟩) sLen sCap, b]).run P w = .ok (.slice (some ⟨g, 0, none⟩) (sLen + m) sCap) (w.setRow g (cur.toList.take (sLen * i.size) ++ news ++ cur.toList.drop (sLen * i.size + news.length)).toArray))
    (rg : ∀ zv, i.zero = some zv → ∀ (b0 : Addr) (sLen sCap : Nat) (olds : List Value), olds.length = sLen * i.size → (∀ j v, olds[j]? = some v → w.cell? (b0.add j) = some v) → 0 < m → (sLen + m) * i.bytes ≤ 140737488355328 → sLen + m ≤ 9223372036854775807 → sCap < sLen + m → Builtin.nextslicecap (sLen + m) sCap * i.bytes ≤ 281474976710656 →
      (Builtin.append_ #[t, u] ty #[.slice (some b0) sLen sCap, b]).run P w = .ok (.slice (some ⟨w.heap.size, 0, none⟩) (sLen + m) (grownCap w (sLen + m) sCap e))
        (w.drew.alloc (.cells (olds.toArray ++ news.toArray ++ Builtin.zeroCells zv.cells (grownCap w (sLen + m) sCap e - (sLen + m))) e))) :
    ∃ y μ' v ι' w', K y μ' = some r ∧ (Builtin.append_ #[t, u] ty #[a, b]).run P w = .ok v w' ∧ Tr P ι μ w ι' μ' w' ∧ AVR ι' μ' y v := by
  obtain ⟨zv, hzv, hzvs⟩ := zero_len hi hz hzl
  unfold appendS at h
  split at h
  · have ha' : a = .slice none 0 0 := ha
    subst ha'
    split at h
    · rename_i hb
      split at h
      · rename_i hm0
        subst hm0
        refine ⟨_, _, .slice none 0 0, ι, w, h, ?_, Tr.refl hs, rfl⟩
        exact r0 rfl none 0 0 (Nat.le_refl _)
      · rename_i hm0
        have hr := rn zv hzv (by omega) (by omega) (by omega)
        have hge := grownCap_ge w m 0 e
        have hcm := grownCap_le_maxLen w m 0 e (by unfold maxLen; omega)
        refine ⟨_, _, _, _, _, h, hr, Tr.alloc hs hn hf (rowObj new i.size e none) rfl _ (grownCap w m 0 e) ?_ hcm ?_ (fun c hc => by simp [rowObj] at hc) ?_ (w0 := w.drew) rfl rfl rfl rfl, new_slice nid _ rfl _ _ _ hge⟩
        · simp only [rowObj, Array.size_append, List.size_toArray, size_zeroCells, hzvs, hnl, ← Nat.add_mul]
          congr 1; omega
        · intro j y hy
          obtain ⟨v, hv, hvr⟩ := hrel.2 j y hy
          refine ⟨v, ?_, hvr⟩
          have hlt : j < news.length := (List.getElem?_eq_some_iff.mp hv).1
          rw [Array.getElem?_append_left (by simpa using hlt)]
          simpa using hv
        · have hzs := zeroCells_rel (zero_all (ι := ι) (μ := μ) hz hi hzv) (by rw [hzl]; exact hsz) (grownCap w m 0 e - m)
          refine ⟨fun j v hj => ?_, fun _ h1' j hj hj2 => ⟨i, zv, hi, hzv, ?_⟩⟩
          · rw [Array.getElem?_append] at hj
            split at hj
            · exact h1 v (List.mem_of_getElem? (by simpa using hj))
            · rw [← Array.getElem?_toList] at hj
              exact all_one hzs v (List.mem_of_getElem? hj)
          · have hsz1 : i.size = 1 := h1'
            have hnl1 : news.length = m := by rw [hnl, hsz1, Nat.mul_one]
            have hcl : new.length = news.length := hrel.1.symm
            simp only [rowObj, hcl] at hj
            simp only [Array.size_append, List.size_toArray, size_zeroCells, hzvs, hsz1, Nat.mul_one] at hj2
            rw [Array.getElem?_append_right (by simpa using hj)]
            simp only [List.size_toArray, Builtin.zeroCells, hzvs, hsz1, Nat.mul_one]
            rw [Array.getElem?_map, Array.getElem?_range, if_pos (by omega)]
            simp only [Option.map_some, Nat.mod_one]
            rw [getElem!_pos zv.cells 0 (by omega), Array.getElem?_eq_getElem (by omega)]
    · cases h
  · rename_i id ver len
    obtain ⟨o, ho, h2⟩ := Option.bind_eq_some_iff.mp h
    split at h2
    · rename_i hb
      obtain ⟨hown, hver, hosz, hoe, hlen, hby, h63⟩ := hb
      obtain ⟨o', ho', hv', a0, cap, rfl, hlc, hh⟩ := ha
      rw [ho] at ho'
      obtain rfl := Option.some.inj ho'
      obtain ⟨hcap, hadr⟩ := hh hver
      have hcap := hcap rfl
      obtain ⟨g1, ⟨arr0, e0, fr0, hbk, hcs, hown0⟩, g3, g4⟩ := hs.live id o ho
      obtain ⟨q1, q2, q3, q4, q5⟩ := hown0 hown
      obtain ⟨s1, _⟩ := g4 hown _ _ _ hbk
      have s1' : ∀ u ∈ arr0.toList, u.oneCell' = true := fun u hu => by
        obtain ⟨j, hj⟩ := List.mem_iff_getElem?.mp hu
        exact s1 j u (by rw [← Array.getElem?_toList]; exact hj)
      subst q2 q3
      rw [hosz, ← hcap] at q4
      rw [← hcap] at q5
      split at h2
      · rename_i hm0
        subst hm0
        have : news = [] := List.eq_nil_of_length_eq_zero (by simpa using hnl)
        subst this
        refine ⟨_, _, .slice (some a0) len cap, ι, w, h2, ?_, Tr.refl hs, ⟨o, ho, hv', a0, cap, rfl, hlc, hh⟩⟩
        exact r0 rfl (some a0) len cap hlc
      · rename_i hm0
        have hold : All2 (SVR ι μ) (o.cells.take (len * i.size)) (arr0.toList.take (len * i.size)) := by
          refine ⟨?_, ?_⟩
          · have : len * i.size ≤ cap * i.size := Nat.mul_le_mul_right _ hlc
            simp; omega
          · intro j y hy
            rw [List.getElem?_take] at hy ⊢
            split at hy
            · rename_i hj
              rw [if_pos hj]
              obtain ⟨v, hv1, hv2⟩ := hcs j y hy
              rw [q1, Nat.zero_add] at hv1
              exact ⟨v, by rw [Array.getElem?_toList]; exact hv1, hv2⟩
            · cases hy
        have hcap0 : len * i.size ≤ arr0.size := by rw [q4]; exact Nat.mul_le_mul_right _ hlc
        by_cases hroom : len + m ≤ cap
        · have ha0 : a0 = ⟨(ι id).b, 0, none⟩ := by
            rcases hadr with hadr | hadr
            · rw [hadr, q1]
            · omega
          subst ha0
          have hfit : len * i.size + news.length ≤ arr0.size := by rw [hnl, q4, ← Nat.add_mul]; exact Nat.mul_le_mul_right _ hroom
          have hr := rr (ι id).b len cap arr0 (by rw [← hoe]; exact hbk) (by omega) hby h63 hroom hfit
          have htr := Tr.change hs ho hown (o' := newVer o (o.cells.take (len * i.size) ++ new)) hown rfl rfl (Nat.le_succ _) (.inr rfl)
            (arr0.toList.take (len * i.size) ++ news ++ arr0.toList.drop (len * i.size + news.length)).toArray (by simp [hosz]; rw [← hcap]; omega) (by
              intro j y hy
              obtain ⟨v, hv, hvr⟩ := (hold.append hrel).2 j y hy
              refine ⟨v, ?_, hvr⟩
              have hlt := (List.getElem?_eq_some_iff.mp hv).1
              rw [List.getElem?_toArray, List.getElem?_append_left hlt]
              exact hv) (Sp.later (by simp [newVer]) (by
                intro u hu
                simp only [List.mem_append] at hu
                rcases hu with (hu | hu) | hu
                · exact s1' u (List.mem_of_mem_take hu)
                · exact h1 u hu
                · exact s1' u (List.mem_of_mem_drop hu)))
          refine ⟨_, _, _, _, _, h2, hr, htr, ?_⟩
          refine ⟨newVer o (o.cells.take (len * i.size) ++ new), by simp [AMem.set], by simp [newVer, hver], _, _, rfl, hroom, fun _ => ⟨fun _ => hcap, .inl (by simp [q1])⟩⟩
        · have holds : ∀ j u, (arr0.toList.take (len * i.size))[j]? = some u → w.cell? (a0.add j) = some u := by
            intro j u hj
            rw [List.getElem?_take] at hj
            split at hj
            · rename_i hjl
              rcases hadr with hadr | hadr
              · rw [hadr, add_none, q1]
                simp only [World.cell?, hbk]
                rw [Array.getElem?_toList] at hj
                simpa using hj
              · have : len = 0 := by omega
                subst this; simp at hjl
            · cases hj
          have hr := rg zv hzv a0 len cap (arr0.toList.take (len * i.size)) (by simp; omega) holds (by omega) hby h63 (by omega) (growslice_fits (by omega) hby)
          have hge := grownCap_ge w (len + m) cap e
          have hcm := grownCap_le_maxLen w (len + m) cap e (by unfold maxLen; omega)
          have htr := Tr.moved hs ho (o' := newVer o (o.cells.take (len * i.size) ++ new)) rfl (Nat.lt_succ_self _) rfl
            ((arr0.toList.take (len * i.size)).toArray ++ news.toArray ++ Builtin.zeroCells zv.cells (grownCap w (len + m) cap e - (len + m))) (grownCap w (len + m) cap e)
            (by
              simp only [Array.size_append, List.size_toArray, size_zeroCells, hzvs, hnl, hosz, List.length_take, Array.length_toList, Nat.min_eq_left hcap0, ← Nat.add_mul]
              congr 1; omega) hcm (by
              intro j y hy
              obtain ⟨v, hv, hvr⟩ := (hold.append hrel).2 j y hy
              refine ⟨v, ?_, hvr⟩
              have hlt := (List.getElem?_eq_some_iff.mp hv).1
              rw [Array.getElem?_append_left (by simpa using hlt)]
              rw [show ((arr0.toList.take (len * i.size)).toArray ++ news.toArray) = (arr0.toList.take (len * i.size) ++ news).toArray from by apply Array.ext'; simp]
              rw [List.getElem?_toArray]
              exact hv) (Sp.later (by simp [newVer]) (by
                intro u hu
                simp only [Array.toList_append, List.mem_append] at hu
                rcases hu with (hu | hu) | hu
                · exact s1' u (List.mem_of_mem_take hu)
                · exact h1 u hu
                · exact all_one (zeroCells_rel (zero_all (ι := ι) (μ := μ) hz hi hzv) (by rw [hzl]; exact hsz) _) u hu)) (w0 := w.drew) rfl rfl rfl rfl
          refine ⟨_, _, _, (fun j => if j = id then ⟨w.heap.size, 0, grownCap w (len + m) cap e⟩ else ι j), _, h2, hr, ?_, ?_⟩
          · have : (newVer o (o.cells.take (len * i.size) ++ new)).elem = e := hoe
            rw [this] at htr
            exact htr
          · exact ⟨newVer o (o.cells.take (len * i.size) ++ new), by simp [AMem.set], by simp [newVer, hver], _, _, rfl, hge, fun _ => ⟨fun _ => by simp, .inl (by simp)⟩⟩
    · cases h2
  · cases h

theorem appendS_tells (hs : Sim P ι μ w) {nid : Nat} (hn : nid < μ.next) (hf : μ.obj nid = none) {t e ty : TypeId} {i : TypeInfo} {z : List SV} (hu : P.underlying t = some (.slice e)) (hi : P.info? e = some i)
    (hz : zeroA P e = some z) (hzl : z.length = i.size) (hsz : 0 < i.size) {x : AV} {m : Nat} {new : List SV} {K : AV → AMem → Option R} {r : R} (h : appendS e i.size i.bytes nid μ x m new K = some r)
    {a : Value} (ha : AVR ι μ x a) {ad : Addr} {c : Nat} {news : List Value} (hnl : news.length = m * i.size) (hrel : All2 (SVR ι μ) new news) (h1 : ∀ u ∈ news, u.oneCell' = true) (hc : ∀ j u, news[j]? = some u → w.cell? (ad.add j) = some u) :
    ∃ y μ' v ι' w', K y μ' = some r ∧ (Builtin.append_ #[t, t] ty #[a, .slice (some ad) m c]).run P w = .ok v w' ∧ Tr P ι μ w ι' μ' w' ∧ AVR ι' μ' y v := by
  refine appendG_tells (P := P) (b := .slice (some ad) m c) (u := t) hs hn hf hu hi hz hzl hsz h ha hnl hrel h1 ?_ ?_ ?_ ?_
  · intro hm0 s sLen sCap hle
    subst hm0
    have : news = [] := List.eq_nil_of_length_eq_zero (by simpa using hnl)
    subst this
    cases s with
    | none => simp [Builtin.append_, run_und hu, sizeOf, typeInfo, hi, Builtin.lenOf, Builtin.firstCells, loadCells, loadCellsFrom, hle]
    | some a0 =>
      have hst : storeCells (a0.add (sLen * i.size)) [] = (pure () : Sem Unit) := rfl
      simp [Builtin.append_, run_und hu, sizeOf, typeInfo, hi, Builtin.lenOf, Builtin.firstCells, loadCells, loadCellsFrom, hle, hst]
  · intro zv hzv h0 hb h63
    exact run_append_nil (P := P) w t ty e i zv hu hi hzv ad m c news hnl hc h0 (by omega) (by omega)
  · intro g sLen sCap cur hg _ _ _ hroom hfit
    exact run_append_room (P := P) w t ty e i hu hi g sLen sCap cur hg ad m c news hnl hc h1 hroom hfit
  · intro zv hzv b0 sLen sCap olds hol holds _ _ h63 hg hfit
    exact run_append_grow (P := P) w t ty e i zv hu hi hzv b0 sLen sCap olds hol holds ad m c news hnl hc hg (by omega) hfit
theorem appendZ_tells (hs : Sim P ι μ w) {nid : Nat} (hn : nid < μ.next) (hf : μ.obj nid = none) {t u e ty : TypeId} {i : TypeInfo} {z : List SV} (hu : P.underlying t = some (.slice e)) (hu' : P.underlying u = some (.int .i64)) (hi : P.info? e = some i)
    (hz : zeroA P e = some z) (hzl : z.length = i.size) (hsz : 0 < i.size) {x : AV} {n : Int} {K : AV → AMem → Option R} {r : R} (h : appendZ e i.size i.bytes z nid μ x n K = some r)
    {a : Value} (ha : AVR ι μ x a) :
    ∃ y μ' v ι' w', K y μ' = some r ∧ (Builtin.append_ #[t, u] ty #[a, .int .i64 n]).run P w = .ok v w' ∧ Tr P ι μ w ι' μ' w' ∧ AVR ι' μ' y v := by
  unfold appendZ at h
  split at h
  · rename_i hnn
    obtain ⟨m, rfl⟩ : ∃ m : Nat, n = m := ⟨n.toNat, by omega⟩
    rw [show ((m : Nat) : Int).toNat = m from rfl] at h
    obtain ⟨zv, hzv, hzvs⟩ := zero_len hi hz hzl
    have hwr : IntKind.wrap .i64 (m : Int) = m := i64_in' _ (by omega)
    have hl0 : ¬ ((m : Int) < 0) := by omega
    have hzr := zeroCells_rel (zero_all (ι := ι) (μ := μ) hz hi hzv) (by rw [hzl]; exact hsz) m
    have hnl : (Builtin.zeroCells zv.cells m).toList.length = m * i.size := by rw [Array.length_toList, size_zeroCells, hzvs]
    refine appendG_tells (P := P) (b := .int .i64 m) (u := u) hs hn hf hu hi hz hzl hsz h ha hnl hzr (all_one hzr) ?_ ?_ ?_ ?_
    · intro hm0 s sLen sCap hle
      subst hm0
      have hw0 : IntKind.wrap .i64 0 = 0 := by rw [IntKind.wrap_i64]; omega
      cases s with
      | none => simp [Builtin.append_, run_und hu, run_und hu', sizeOf, typeInfo, hi, asInt, asIntOf, hw0, hle]
      | some a0 =>
        have hst : storeCells (a0.add (sLen * i.size)) [] = (pure () : Sem Unit) := rfl
        simp [Builtin.append_, run_und hu, run_und hu', sizeOf, typeInfo, hi, asInt, asIntOf, hw0, hle, hst]
    · intro zv' hzv' h0 hb h63
      rw [hzv] at hzv'
      obtain rfl := Option.some.inj hzv'
      have hn0 : m ≠ 0 := by omega
      have hs0 : i.size ≠ 0 := by omega
      have hms : ¬ (m * i.size = 0) := Nat.mul_ne_zero hn0 hs0
      have h63' : ¬ (9223372036854775807 < (m : Int)) := by omega
      have h48' : ¬ (281474976710656 < Builtin.nextslicecap m 0 * i.bytes) := by rw [nextslicecap_zero h0]; omega
      have hb48 : ¬ (281474976710656 < (m : Int) * (i.bytes : Int)) := by
        have : ((m * i.bytes : Nat) : Int) = (m : Int) * (i.bytes : Int) := Int.natCast_mul m i.bytes
        omega
      simp [Builtin.append_, run_und hu, run_und hu', sizeOf, typeInfo, zeroValue, hi, hzv, asInt, asIntOf, hwr, hl0, hb48, hn0, hs0, hms, h63', h48', Question.forced, run_firstCells_none, newRow, grownCap]
    · intro g sLen sCap cur hg h0 hb h63 hroom hfit
      have hn0 : m ≠ 0 := by omega
      have hs0 : i.size ≠ 0 := by omega
      have hms : ¬ (m * i.size = 0) := Nat.mul_ne_zero hn0 hs0
      have hb48 : ¬ (281474976710656 < (m : Int) * (i.bytes : Int)) := by
        have h1 : ((m * i.bytes : Nat) : Int) = (m : Int) * (i.bytes : Int) := Int.natCast_mul m i.bytes
        have h2 : m * i.bytes ≤ (sLen + m) * i.bytes := Nat.mul_le_mul_right _ (by omega)
        omega
      have hst := run_storeCells_at P g (sLen * i.size) e (Builtin.zeroCells zv.cells m).toList 0 cur w hg (by simpa using hfit) (all_one hzr)
      simp only [Nat.add_zero] at hst
      simp [Builtin.append_, run_und hu, run_und hu', sizeOf, typeInfo, zeroValue, hi, hzv, asInt, asIntOf, hwr, hl0, hb48, hn0, hs0, hms, hroom, Addr.add_lit]
      simp at hst ⊢
      rw [hst]
      rfl
    · intro zv' hzv' b0 sLen sCap olds hol holds h0 hb h63 hg hfit
      rw [hzv] at hzv'
      obtain rfl := Option.some.inj hzv'
      have hn0 : m ≠ 0 := by omega
      have hs0 : i.size ≠ 0 := by omega
      have hms : ¬ (m * i.size = 0) := Nat.mul_ne_zero hn0 hs0
      have hn' : ¬ (sLen + m ≤ sCap) := by omega
      have h63' : ¬ (9223372036854775807 < ((sLen : Int) + (m : Int))) := by omega
      have h48' : ¬ (281474976710656 < Builtin.nextslicecap (sLen + m) sCap * i.bytes) := by omega
      have hb48 : ¬ (281474976710656 < (m : Int) * (i.bytes : Int)) := by
        have h1 : ((m * i.bytes : Nat) : Int) = (m : Int) * (i.bytes : Int) := Int.natCast_mul m i.bytes
        have h2 : m * i.bytes ≤ (sLen + m) * i.bytes := Nat.mul_le_mul_right _ (by omega)
        omega
      have hfo := run_firstCells_some (P := P) w.drew i.size sLen b0 sLen sCap olds hol (by simpa using holds)
      simp [Builtin.append_, run_und hu, run_und hu', sizeOf, typeInfo, zeroValue, hi, hzv, asInt, asIntOf, hwr, hl0, hb48, hn0, hs0, hms, hn', h63', h48', Question.forced, hfo, newRow, grownCap]
  · cases h

theorem appendS_nil (hs : Sim P ι μ w) {nid : Nat} {t e ty : TypeId} {i : TypeInfo} (hu : P.underlying t = some (.slice e)) (hi : P.info? e = some i)
    {x : AV} {new : List SV} {K : AV → AMem → Option R} {r : R} (h : appendS e i.size i.bytes nid μ x 0 new K = some r)
    {a : Value} (ha : AVR ι μ x a) : ∃ y v, K y μ = some r ∧ (Builtin.append_ #[t, t] ty #[a, .slice none 0 0]).run P w = .ok v w ∧ AVR ι μ y v := by
  unfold appendS at h
  split at h
  · have ha' : a = .slice none 0 0 := ha
    subst ha'
    split at h
    · rw [if_pos rfl] at h
      exact ⟨_, .slice none 0 0, h, by simp [Builtin.append_, run_und hu, sizeOf, typeInfo, hi, Builtin.lenOf, Builtin.firstCells], rfl⟩
    · cases h
  · rename_i id ver len
    obtain ⟨o, ho, h2⟩ := Option.bind_eq_some_iff.mp h
    split at h2
    · rw [if_pos rfl] at h2
      obtain ⟨o', ho', hv', a0, cap, rfl, hlc, hh⟩ := ha
      refine ⟨_, .slice (some a0) len cap, h2, ?_, ⟨o', ho', hv', a0, cap, rfl, hlc, hh⟩⟩
      have hst : storeCells (a0.add (len * i.size)) [] = (pure () : Sem Unit) := rfl
      simp [Builtin.append_, run_und hu, sizeOf, typeInfo, hi, Builtin.lenOf, Builtin.firstCells, hlc, hst]
    · cases h2
  · cases h
theorem args2 {α : Type} (x y : α) : (#[x, y] : Array α).toList = [x, y] := rfl
theorem append_types {t u e e' ty : TypeId} {x y : Value} (hu : P.underlying t = some (.slice e)) (hu' : P.underlying u = some (.slice e')) (w : World) :
    (Builtin.append_ #[t, u] ty #[x, y]).run P w = (Builtin.append_ #[t, t] ty #[x, y]).run P w := by
  unfold Builtin.append_
  simp only [List.getElem?_toArray, List.getElem?_cons_zero, List.getElem?_cons_succ, Sem.run_bind, run_und hu, Result.andThen_ok]
  cases x <;> simp [run_und hu, run_und hu']
theorem appendA_tells (hs : Sim P ι μ w) {nid : Nat} (hn : nid < μ.next) (hf : μ.obj nid = none) {t u e e' ty : TypeId} {i : TypeInfo} {z : List SV} (hu : P.underlying t = some (.slice e)) (hu' : P.underlying u = some (.slice e')) (hi : P.info? e = some i)
    (hz : zeroA P e = some z) (hzl : z.length = i.size) (hsz : 0 < i.size) {x y : AV} {K : AV → AMem → Option R} {r : R} (h : appendA e i.size i.bytes nid μ x y K = some r)
    {a b : Value} (ha : AVR ι μ x a) (hb : AVR ι μ y b) :
    ∃ y μ' v ι' w', K y μ' = some r ∧ (Builtin.append_ #[t, u] ty #[a, b]).run P w = .ok v w' ∧ Tr P ι μ w ι' μ' w' ∧ AVR ι' μ' y v := by
  unfold appendA at h
  obtain ⟨m, hm, h1⟩ := Option.bind_eq_some_iff.mp h
  obtain ⟨new, hnew, h2⟩ := Option.bind_eq_some_iff.mp h1
  rw [append_types hu hu']
  rcases lenS_nat hm hb with ⟨rfl, rfl⟩ | ⟨ad, c, rfl⟩
  · obtain ⟨y', v, g1, g2, g3⟩ := appendS_nil (P := P) (ty := ty) hs hu hi h2 ha
    exact ⟨y', μ, v, ι, w, g1, g2, Tr.refl hs, g3⟩
  · rcases row_rel hs hnew hb with ⟨hbad, _⟩ | ⟨a', len, c', cs, he, hml, hcl, _, hrel, hone, hcell⟩
    · cases hbad
    · cases he
      exact appendS_tells hs hn hf hu hi hz hzl hsz h2 ha hcl hrel hone hcell

theorem copyA_tells (hs : Sim P ι μ w) {t t' e ty : TypeId} {n : Nat} (hu : P.underlying t = some (.slice e)) (hn : sizeA P e = some n) (hn0 : 0 < n) {x y : AV} {K : AV → AMem → Option R} {r : R} (h : copyA n μ x y K = some r)
    {a b : Value} (ha : AVR ι μ x a) (hb : AVR ι μ y b) :
    ∃ y μ' v w', K y μ' = some r ∧ (Builtin.copy_ #[t, t'] ty #[a, b]).run P w = .ok v w' ∧ Tr P ι μ w ι μ' w' ∧ AVR ι μ' y v := by
  unfold copyA at h
  obtain ⟨dl, hdl, h1⟩ := Option.bind_eq_some_iff.mp h
  obtain ⟨sl, hsl, h2⟩ := Option.bind_eq_some_iff.mp h1
  split at h2
  · rename_i h0
    refine ⟨_, μ, .int .i64 0, w, h2, ?_, Tr.refl hs, rfl⟩
    have hm : Nat.min sl dl = 0 := h0
    rcases lenS_nat hdl ha with ⟨rfl, rfl⟩ | ⟨ad, c, rfl⟩ <;> rcases lenS_nat hsl hb with ⟨rfl, rfl⟩ | ⟨ad', c', rfl⟩ <;>
      simp [Builtin.copy_, run_und hu, run_siz hn, Builtin.lenOf, Builtin.firstCells, goInt, loadCells, loadCellsFrom, storeCells, hm]
  · rename_i h0
    obtain ⟨new, hnew, h3⟩ := Option.bind_eq_some_iff.mp h2
    split at h3
    · rename_i id ver off ln
      obtain ⟨μ', hm, h4⟩ := Option.bind_eq_some_iff.mp h3
      rcases row_rel hs hnew hb with ⟨rfl, _⟩ | ⟨a', len, c', cs, rfl, hml, hcl, hnl, hrel, hone, hcell⟩
      · rcases lenS_nat hsl hb with ⟨_, rfl⟩ | ⟨_, _, hbad⟩
        · simp at h0
        · cases hbad
      · obtain ⟨o, arr, ho, hv, hst, htr⟩ := store_rel (P := P) hs hm hrel hone
        obtain ⟨o', ho', hv', ad, cap, rfl, hlc, hh⟩ := ha
        rw [ho] at ho'
        obtain rfl := Option.some.inj ho'
        obtain ⟨_, hadr⟩ := hh hv
        obtain rfl : ln = dl := by simpa [lenS] using hdl
        rcases lenS_nat hsl hb with ⟨hbad, _⟩ | ⟨q1, q2, hq⟩
        · cases hbad
        cases hq
        have hadr : ad = ⟨(ι id).b, (ι id).o + off, none⟩ := by
          rcases hadr with hadr | hadr
          · exact hadr
          · have : min sl ln ≤ ln := Nat.min_le_right _ _
            omega
        subst hadr
        refine ⟨_, μ', .int .i64 (min sl ln : Nat), _, h4, ?_, htr, rfl⟩
        have hlc' := run_loadCells_list (P := P) w a' cs hcell
        rw [hcl] at hlc'
        have hmin : Nat.min sl ln = min sl ln := rfl
        simp only [Builtin.copy_, List.getElem?_toArray, List.getElem?_cons_zero, List.getElem?_cons_succ, Sem.run_bind, run_und hu, Result.andThen_ok, Builtin.lenOf, Sem.run_pure, run_siz hn, Builtin.firstCells, hmin, hlc', hst, goInt]
    · cases h3
theorem capA_tells {t ty e : TypeId} (hs : Sim P ι μ w) (hu : P.underlying t = some (.slice e)) {x : AV} {K : AV → Option R} {r : R} (h : capA μ x K = some r) {a : Value} (ha : AVR ι μ x a) :
    ∃ y v, K y = some r ∧ AVR ι μ y v ∧ ∀ w, (Builtin.cap_ #[t] ty #[a]).run P w = .ok v w := by
  unfold capA at h
  split at h
  · have ha' : a = .slice none 0 0 := ha
    subst ha'
    exact ⟨_, .int .i64 0, h, rfl, fun w => by simp [Builtin.cap_, run_und hu, goInt]⟩
  · rename_i id ver ln
    obtain ⟨o, ho, h1⟩ := Option.bind_eq_some_iff.mp h
    split at h1
    · rename_i hv
      obtain ⟨c, hc, h2⟩ := Option.bind_eq_some_iff.mp h1
      obtain ⟨o', ho', hv', ad, cap, rfl, hlc, hh⟩ := ha
      rw [ho] at ho'
      obtain rfl := Option.some.inj ho'
      have := (hs.live id o ho).2.cap c hc
      have hcap := (hh hv).1 rfl
      refine ⟨_, .int .i64 c, h2, rfl, fun w => ?_⟩
      simp [Builtin.cap_, run_und hu, goInt, hcap, this]
    · cases h1
  · cases h
def Does (P : Program) (ι : Nat → Loc) (μ : AMem) (w : World) (K : AV → AMem → Option R) (r : R) (s : Sem Next) : Prop :=
  ∃ y μ' ι' w', K y μ' = some r ∧ ((∃ v, s.run P w = .ok (.value v) w' ∧ AVR ι' μ' y v) ∨ (s.run P w = .ok .skip w' ∧ y = .tuple [])) ∧ Tr P ι μ w ι' μ' w'
theorem effK_does (hs : Sim P ι μ w) {nid : Nat} {ev : Operand → AV} {ρ : Operand → Value} {o : Oper} (hnf : newA o.op = true → nid < μ.next ∧ μ.obj nid = none) {K : AV → AMem → Option R} {r : R}
    (h : effK P ev nid μ o.op K = some r) (hr : ∀ x, AVR ι μ (ev x) (ρ x)) : Does P ι μ w K r (execOp ρ o) := by
  unfold effK at h
  split at h <;> rename_i hop
  · rename_i t p x
    obtain ⟨μ', w', h1, h2, h3⟩ := storeK_tells (P := P) hs h (hr p) (hr x)
    exact ⟨_, μ', ι, w', h1, .inr ⟨by unfold execOp; rw [hop]; simp [h2], rfl⟩, h3⟩
  · rename_i as ts
    split at h
    · rename_i x y t u ha ht
      obtain rfl := list2 ha
      obtain rfl := tys2 ht
      obtain ⟨hn, hf⟩ := hnf (by rw [hop]; rfl)
      unfold appendK at h
      split at h
      · rename_i e hu
        obtain ⟨i, hi, h1⟩ := Option.bind_eq_some_iff.mp h
        obtain ⟨z, hz, h2⟩ := Option.bind_eq_some_iff.mp h1
        split at h2
        · rename_i hb
          split at h2
          · rename_i e' hu'
            obtain ⟨y', μ', v, ι', w', g1, g2, g3, g4⟩ := appendA_tells (P := P) (ty := o.type) hs hn hf hu hu' hi hz hb.1 hb.2 h2 (hr x) (hr y)
            refine ⟨y', μ', ι', w', g1, .inl ⟨v, ?_, g4⟩, g3⟩
            unfold execOp; rw [hop]
            simp [resolve, invoke, builtin, g2]
          · rename_i hu'
            obtain ⟨n, hy, h3⟩ := asI_some h2
            have hyv : ρ y = .int .i64 n := by have := hr y; rw [hy] at this; exact this
            obtain ⟨y', μ', v, ι', w', g1, g2, g3, g4⟩ := appendZ_tells (P := P) (ty := o.type) hs hn hf hu hu' hi hz hb.1 hb.2 h3 (hr x)
            refine ⟨y', μ', ι', w', g1, .inl ⟨v, ?_, g4⟩, g3⟩
            unfold execOp; rw [hop]
            simp [resolve, invoke, builtin, hyv, g2]
          · cases h2
        · cases h2
      · cases h
    · cases h
  · rename_i as ts
    split at h
    · rename_i x y t t' ha ht
      obtain rfl := list2 ha
      obtain rfl := tys2 ht
      split at h
      · rename_i e hu
        split at h
        · rename_i n hn1
          obtain ⟨y', μ', v, w', g1, g2, g3, g4⟩ := copyA_tells (P := P) (ty := o.type) (t' := t') hs hu hn1 (Nat.succ_pos _) h (hr x) (hr y)
          refine ⟨y', μ', ι, w', g1, .inl ⟨v, ?_, g4⟩, g3⟩
          unfold execOp; rw [hop]
          simp [resolve, invoke, builtin, g2]
        · cases h
      · cases h
    · cases h
  · rename_i as ts
    split at h
    · rename_i x t ha ht
      obtain rfl := list1 ha
      obtain rfl := tys1 ht
      split at h
      · rename_i e hu
        obtain ⟨y', v, g1, g2, g3⟩ := capA_tells (P := P) (ty := o.type) hs hu h (hr x)
        refine ⟨y', μ, ι, w, g1, .inl ⟨v, ?_, g2⟩, Tr.refl hs⟩
        unfold execOp; rw [hop]
        simp [resolve, invoke, builtin, g3]
      · cases h
    · cases h
  · cases h
end
end Go.Proofs.YtnjenjbodcihmaaGreat.E
namespace Go.Proofs.YtnjenjbodcihmaaGreat.E
open Go
set_option linter.unusedVariables false
set_option linter.unusedSimpArgs false

def Dead1 (nid : Nat) (μ μ' : AMem) : Prop := ∀ j, j ≠ nid → μ.obj j = none → μ'.obj j = none
def Dead (μ μ' : AMem) : Prop := ∀ j, j < μ.next → μ.obj j = none → μ'.obj j = none
theorem Dead.refl (μ : AMem) : Dead μ μ := fun _ _ h => h
theorem Dead.trans {μ μ1 μ2 : AMem} (h : Dead μ μ1) (k : Dead μ1 μ2) (hn : μ.next ≤ μ1.next) : Dead μ μ2 := fun j hj hd => k j (Nat.lt_of_lt_of_le hj hn) (h j hj hd)
theorem Dead1.set {nid : Nat} {μ : AMem} {o : AObj} : Dead1 nid μ (μ.set nid o) := fun j hj hd => by simp [AMem.set, hj, hd]
theorem Dead1.old {nid id : Nat} {μ : AMem} {o o' : AObj} (h : μ.obj id = some o) : Dead1 nid μ (μ.set id o') := fun j hj hd => by
  have : j ≠ id := fun e => by subst e; rw [h] at hd; cases hd
  simp [AMem.set, this, hd]

section
variable {R : Type} {P : Program}
theorem store_dead {μ μ' : AMem} {id ver off : Nat} {l : List SV} (h : μ.store id ver off l = some μ') (nid : Nat) : Dead1 nid μ μ' := by
  unfold AMem.store at h
  obtain ⟨o, ho, h⟩ := Option.bind_eq_some_iff.mp h
  split at h
  · obtain rfl := Option.some.inj h; exact Dead1.old ho
  · cases h
def pairK : AV → AMem → Option (AV × AMem) := fun v μ => some (v, μ)
theorem storeK_nat {t : TypeId} {μ : AMem} {p x : AV} {K : AMem → Option R} : storeK P t μ p x K = (storeK P t μ p x some).bind K := by
  unfold storeK storeAt
  cases sizeA P t with
  | none => rfl
  | some n =>
    dsimp only
    cases p with
    | s v =>
      cases v with
      | ptr id ver off =>
        dsimp only
        cases x.cells with
        | none => rfl
        | some l =>
          by_cases hl : l.length = n
          · simp only [hl, if_true]; cases μ.store id ver off l <;> rfl
          · simp only [hl, if_false]; rfl
      | _ => rfl
    | _ => rfl
theorem storeK_dead {t : TypeId} {μ μ' : AMem} {p x : AV} (nid : Nat) (h : storeK P t μ p x some = some μ') : Dead1 nid μ μ' := by
  unfold storeK at h
  split at h
  · unfold storeAt at h
    split at h
    · split at h
      · split at h
        · obtain ⟨μ1, h1, h2⟩ := Option.bind_eq_some_iff.mp h
          obtain rfl := Option.some.inj h2
          exact store_dead h1 nid
        · cases h
      · cases h
    · cases h
  · cases h
theorem ite_nat {α β : Type} {c : Prop} [Decidable c] {a b : Option α} {f : α → Option β} : (if c then a else b).bind f = if c then a.bind f else b.bind f := by split <;> rfl
theorem appendS_nat {e size bytes nid : Nat} {μ : AMem} {x : AV} {m : Nat} {new : List SV} {K : AV → AMem → Option R} :
    appendS e size bytes nid μ x m new K = (appendS e size bytes nid μ x m new pairK).bind fun p => K p.1 p.2 := by
  unfold appendS
  cases x with
  | s v =>
    cases v with
    | nilSlice => simp only [ite_nat]; rfl
    | slice id ver off len =>
      cases off with
      | zero =>
        show (μ.obj id).bind _ = ((μ.obj id).bind _).bind _
        cases μ.obj id with
        | none => rfl
        | some o => simp only [Option.bind_some, ite_nat]; rfl
      | succ _ => rfl
    | _ => rfl
  | _ => rfl
theorem appendS_dead {e size bytes nid : Nat} {μ μ' : AMem} {x v : AV} {m : Nat} {new : List SV}
    (h : appendS e size bytes nid μ x m new pairK = some (v, μ')) : Dead1 nid μ μ' := by
  unfold appendS at h
  split at h
  · split at h
    · split at h
      · cases h; exact fun _ _ h => h
      · cases h; exact Dead1.set
    · cases h
  · obtain ⟨o, ho, h2⟩ := Option.bind_eq_some_iff.mp h
    split at h2
    · split at h2
      · cases h2; exact fun _ _ h => h
      · cases h2; exact Dead1.old ho
    · cases h2
  · cases h
theorem appendA_nat {e size bytes nid : Nat} {μ : AMem} {x y : AV} {K : AV → AMem → Option R} :
    appendA e size bytes nid μ x y K = (appendA e size bytes nid μ x y pairK).bind fun p => K p.1 p.2 := by
  unfold appendA
  cases lenS y with
  | none => rfl
  | some m =>
    simp only [Option.bind_some]
    cases μ.row size m y with
    | none => rfl
    | some new => simp only [Option.bind_some]; exact appendS_nat
theorem appendZ_nat {e size bytes nid : Nat} {z : List SV} {μ : AMem} {x : AV} {n : Int} {K : AV → AMem → Option R} :
    appendZ e size bytes z nid μ x n K = (appendZ e size bytes z nid μ x n pairK).bind fun p => K p.1 p.2 := by
  unfold appendZ
  split
  · exact appendS_nat
  · rfl
theorem appendZI_nat {e size bytes nid : Nat} {z : List SV} {μ : AMem} {x y : AV} {K : AV → AMem → Option R} :
    (asI .i64 y fun n => appendZ e size bytes z nid μ x n K) = (asI .i64 y fun n => appendZ e size bytes z nid μ x n pairK).bind fun p => K p.1 p.2 := by
  unfold asI
  split
  · split
    · exact appendZ_nat
    · rfl
  · rfl
theorem appendZ_dead {e size bytes nid : Nat} {z : List SV} {μ μ' : AMem} {x y v : AV} (h : (asI .i64 y fun n => appendZ e size bytes z nid μ x n pairK) = some (v, μ')) : Dead1 nid μ μ' := by
  obtain ⟨n, _, h1⟩ := asI_some h
  unfold appendZ at h1
  split at h1
  · exact appendS_dead h1
  · cases h1
theorem appendK_nat {t u nid : Nat} {μ : AMem} {x y : AV} {K : AV → AMem → Option R} :
    appendK P t u nid μ x y K = (appendK P t u nid μ x y pairK).bind fun p => K p.1 p.2 := by
  unfold appendK
  cases P.underlying t with
  | none => rfl
  | some d =>
    cases d with
    | slice e =>
      dsimp only
      cases P.info? e with
      | none => rfl
      | some i =>
        simp only [Option.bind_some]
        cases zeroA P e with
        | none => rfl
        | some z =>
          simp only [Option.bind_some, ite_nat]
          cases P.underlying u with
          | none => rfl
          | some d' =>
            cases d' with
            | slice e' => simp only []; rw [appendA_nat]; rfl
            | int k => cases k <;> first | (simp only []; rw [appendZI_nat]; rfl) | rfl
            | _ => rfl
    | _ => rfl
theorem appendK_dead {t u nid : Nat} {μ μ' : AMem} {x y v : AV} (h : appendK P t u nid μ x y pairK = some (v, μ')) : Dead1 nid μ μ' := by
  unfold appendK at h
  split at h
  · obtain ⟨i, hi, h1⟩ := Option.bind_eq_some_iff.mp h
    obtain ⟨z, hz, h2⟩ := Option.bind_eq_some_iff.mp h1
    split at h2
    · split at h2
      · unfold appendA at h2
        obtain ⟨m, hm, h3⟩ := Option.bind_eq_some_iff.mp h2
        obtain ⟨new, hw, h4⟩ := Option.bind_eq_some_iff.mp h3
        exact appendS_dead h4
      · exact appendZ_dead h2
      · cases h2
    · cases h2
  · cases h
theorem copyA_nat {size : Nat} {μ : AMem} {x y : AV} {K : AV → AMem → Option R} :
    copyA size μ x y K = (copyA size μ x y pairK).bind fun p => K p.1 p.2 := by
  unfold copyA
  cases lenS x with
  | none => rfl
  | some n =>
    simp only [Option.bind_some]
    cases lenS y with
    | none => rfl
    | some m =>
      simp only [Option.bind_some, ite_nat]
      by_cases h0 : min m n = 0
      · simp only [h0, if_true]; rfl
      · simp only [h0, if_false]
        cases μ.row size (min m n) y with
        | none => rfl
        | some new =>
          simp only [Option.bind_some]
          cases x with
          | s v =>
            cases v with
            | slice id ver off len => simp only []; cases μ.store id ver off new <;> rfl
            | _ => rfl
          | _ => rfl
theorem copyA_dead {size : Nat} {μ μ' : AMem} {x y v : AV} (nid : Nat) (h : copyA size μ x y pairK = some (v, μ')) : Dead1 nid μ μ' := by
  unfold copyA at h
  obtain ⟨n, hn, h1⟩ := Option.bind_eq_some_iff.mp h
  obtain ⟨m, hm, h2⟩ := Option.bind_eq_some_iff.mp h1
  split at h2
  · cases h2; exact fun _ _ h => h
  · obtain ⟨new, hw, h3⟩ := Option.bind_eq_some_iff.mp h2
    split at h3
    · obtain ⟨μ1, h4, h5⟩ := Option.bind_eq_some_iff.mp h3
      cases h5
      exact store_dead h4 nid
    · cases h3
theorem capA_nat {μ : AMem} {x : AV} {K : AV → AMem → Option R} :
    capA μ x (fun v => K v μ) = (capA μ x (fun v => pairK v μ)).bind fun p => K p.1 p.2 := by
  unfold capA
  cases x with
  | s v =>
    cases v with
    | slice id ver off len =>
      cases off with
      | zero =>
        show (μ.obj id).bind _ = ((μ.obj id).bind _).bind _
        cases μ.obj id with
        | none => rfl
        | some o =>
          simp only [Option.bind_some, ite_nat]
          cases o.cap <;> rfl
      | succ _ => rfl
    | _ => rfl
  | _ => rfl
theorem capA_dead {μ μ' : AMem} {x v : AV} (nid : Nat) (h : capA μ x (fun v => pairK v μ) = some (v, μ')) : Dead1 nid μ μ' := by
  unfold capA at h
  split at h
  · cases h; exact fun _ _ h => h
  · obtain ⟨o, ho, h1⟩ := Option.bind_eq_some_iff.mp h
    split at h1
    · obtain ⟨c, hc, h2⟩ := Option.bind_eq_some_iff.mp h1
      cases h2; exact fun _ _ h => h
    · cases h1
  · cases h
theorem effK_nat {ev : Operand → AV} {nid : Nat} {μ : AMem} {op : Op} {K : AV → AMem → Option R} :
    effK P ev nid μ op K = (effK P ev nid μ op pairK).bind fun p => K p.1 p.2 := by
  cases op with
  | store t p x =>
    simp only [effK]
    rw [storeK_nat, storeK_nat (K := fun μ' => pairK (.tuple []) μ')]
    cases storeK P t μ (ev p) (ev x) some <;> rfl
  | call c =>
    obtain ⟨callee, args, argTypes⟩ := c
    cases callee with
    | builtin b =>
      cases b with
      | append =>
        simp only [effK]
        rcases args.toList with _ | ⟨x, _ | ⟨y, _ | ⟨z, l⟩⟩⟩ <;> try rfl
        rcases argTypes.toList with _ | ⟨t, _ | ⟨u, _ | ⟨z, l⟩⟩⟩ <;> try rfl
        exact appendK_nat
      | copy =>
        simp only [effK]
        rcases args.toList with _ | ⟨x, _ | ⟨y, _ | ⟨z, l⟩⟩⟩ <;> try rfl
        rcases argTypes.toList with _ | ⟨t, _ | ⟨u, _ | ⟨z, l⟩⟩⟩ <;> try rfl
        simp only []
        cases P.underlying t with
        | none => rfl
        | some d =>
          cases d with
          | slice e =>
            simp only []
            cases sizeA P e with
            | none => rfl
            | some n => cases n with
              | zero => rfl
              | succ n => exact copyA_nat
          | _ => rfl
      | cap =>
        simp only [effK]
        rcases args.toList with _ | ⟨x, _ | ⟨y, l⟩⟩ <;> try rfl
        rcases argTypes.toList with _ | ⟨t, _ | ⟨u, l⟩⟩ <;> try rfl
        simp only []
        cases P.underlying t with
        | none => rfl
        | some d =>
          cases d with
          | slice e => exact capA_nat
          | _ => rfl
      | _ => rfl
    | _ => rfl
  | _ => rfl
theorem effK_dead {ev : Operand → AV} {nid : Nat} {μ μ' : AMem} {op : Op} {v : AV} (h : effK P ev nid μ op pairK = some (v, μ')) : Dead1 nid μ μ' := by
  unfold effK at h
  split at h
  · rw [storeK_nat] at h
    obtain ⟨μ1, h1, h2⟩ := Option.bind_eq_some_iff.mp h
    cases h2
    exact storeK_dead nid h1
  · split at h
    · exact appendK_dead h
    · cases h
  · split at h
    · split at h
      · split at h
        · exact copyA_dead nid h
        · cases h
      · cases h
    · cases h
  · split at h
    · split at h
      · exact capA_dead nid h
      · cases h
    · cases h
  · cases h

end
end Go.Proofs.YtnjenjbodcihmaaGreat.E
namespace Go.Proofs.YtnjenjbodcihmaaGreat.E
open Go
set_option linter.unusedVariables false
set_option linter.unusedSimpArgs false
section
variable {R : Type} {P : Program}
def Post (P : Program) (ι : Nat → Loc) (μ : AMem) (w : World) (r : AV) (μ' : AMem) : Ending → World → Prop :=
  fun e w' => ∃ ι' v, e = .returned v ∧ Tr P ι μ w ι' μ' w' ∧ Dead μ μ' ∧ AVR ι' μ' r v
def Sound (P : Program) (f : FuncId) (F : FunA) : Prop := ∀ as μ r μ', F as μ = some (r, μ') →
  (∃ fn, P.funcs[f]? = some fn ∧ (fn.name == "runtime.NumGoroutine") = false ∧ fn.body.isNone = false) ∧
  ∀ ι w (vs : List Value), Sim P ι μ w → All2 (AVR ι μ) as vs → Calls P f vs.toArray w (Post P ι μ w r μ')
theorem Sound.none (f : FuncId) : Sound P f (fun _ _ => none) := fun _ _ _ _ h => by cases h

def EnvR (ι : Nat → Loc) (μ : AMem) (e : Env) (a : Act) : Prop := ∀ s, AVR ι μ (e s) (a.tmps.getD s undef)
theorem EnvR.mono {ι ι' : Nat → Loc} {μ μ' : AMem} (hx : Ext ι μ ι' μ') {e : Env} {a : Act} (h : EnvR ι μ e a) : EnvR ι' μ' e a := fun s => (h s).mono hx
theorem undef_rel (ι : Nat → Loc) (μ : AMem) : AVR ι μ (.tuple []) undef := ⟨#[], rfl, rfl⟩
theorem put_getD {a : Act} {d : Nat} {u : Value} (hd : d < a.tmps.size) (s : Nat) : (a.put (some d) u).tmps.getD s undef = if s = d then u else a.tmps.getD s undef := by
  simp only [Act.put, Array.getD_eq_getD_getElem?, Array.getElem?_setIfInBounds]
  by_cases h : d = s
  · subst h; simp [hd]
  · have : ¬ s = d := fun e => h e.symm
    simp [h, this]
theorem beq_no {s d : Nat} (h : ¬ s = d) : Nat.beq s d = false := by
  cases hb : Nat.beq s d with
  | false => rfl
  | true => exact absurd (Nat.eq_of_beq_eq_true hb) h
theorem EnvR.put {ι : Nat → Loc} {μ : AMem} {e : Env} {a : Act} (h : EnvR ι μ e a) {d : Option Nat} {v : AV} {u : Value} (hd : ∀ x, d = some x → x < a.tmps.size) (hv : AVR ι μ v u) : EnvR ι μ (e.put d v) (a.put d u) := by
  cases d with
  | none => exact h
  | some d =>
    intro s
    rw [put_getD (hd d rfl)]
    simp only [Env.put]
    by_cases hs : s = d
    · subst hs; simpa using hv
    · have : Nat.beq s d = false := beq_no hs
      simp only [this, cond_false, if_neg hs]; exact h s
theorem put_size (a : Act) (d : Option Nat) (u : Value) : (a.put d u).tmps.size = a.tmps.size := by cases d <;> simp [Act.put]
theorem put_defers' (a : Act) (d : Option Nat) (u : Value) : (a.put d u).defers = a.defers := by cases d <;> rfl
theorem put_other (a : Act) (d : Option Nat) (u : Value) (s : Nat) (h : d ≠ some s) : (a.put d u).tmps.getD s undef = a.tmps.getD s undef := by
  cases d with
  | none => rfl
  | some d =>
    have : d ≠ s := fun e => h (by rw [e])
    simp [Act.put, Array.getElem?_setIfInBounds_ne this]

theorem kd_alc {op : Op} (h : kdOf op = .alc) : newA op = true := by
  cases op with
  | call c => obtain ⟨ce, as, ts⟩ := c; cases ce with
    | builtin b => cases b <;> cases h
    | _ => cases h
  | box _ _ => rfl
  | alloc _ => rfl
  | buildSlice _ _ _ => rfl
  | makeSlice _ _ _ => rfl
  | convert s d x => simp only [kdOf] at h; split at h <;> cases h
  | _ => cases h
theorem stepK_wp {Γ : FuncId → FunA} (hΓ : ∀ f, Sound P f (Γ f)) {ι : Nat → Loc} {μ : AMem} {w : World} (hs : Sim P ι μ w) {e : Env} {a : Act} (he : EnvR ι μ e a)
    {nid : Nat} {o : Oper} (hnf : newA o.op = true → nid < μ.next ∧ μ.obj nid = none) {K : AV → AMem → Option R} {r : R} (h : stepK P Γ e nid μ o K = some r) :
    ∃ v μ', K v μ' = some r ∧
      ∀ (next : Act → World → Prop) (Q : Exit → Act → World → Prop), (∀ ι' w' u, Tr P ι μ w ι' μ' w' → (∀ j, j < μ.next → j ≠ nid → μ.obj j = none → μ'.obj j = none) → AVR ι' μ' v u → next (a.put o.dst u) w') → o.wp P a w next Q := by
  have hr := evalA_rel he
  unfold stepK at h
  split at h
  · obtain ⟨y, v, h1, h2, h3⟩ := pureK_tells (P := P) h hr
    refine ⟨y, μ, h1, fun next Q hN => ?_⟩
    unfold Oper.wp
    rw [h3, Oper.upon_value]
    exact hN ι w v (Tr.refl hs) (fun _ _ _ h => h) h2
  · split at h
    · rename_i t x hop
      obtain ⟨y, v, h1, h2, h3⟩ := loadK_tells (P := P) hs h (hr x)
      refine ⟨y, μ, viewK_some h1, fun next Q hN => ?_⟩
      unfold Oper.wp execOp
      rw [hop]
      simp only [Sem.run_bind, h3, Result.andThen_ok, Sem.run_pure, Oper.upon_value]
      exact hN ι w v (Tr.refl hs) (fun _ _ _ h => h) h2
    · rename_i s d x hop
      obtain ⟨y, v, h1, h2, h3⟩ := strK_tells (P := P) hs h (hr x)
      refine ⟨y, μ, viewK_some h1, fun next Q hN => ?_⟩
      unfold Oper.wp execOp
      rw [hop]
      simp only [Sem.run_bind, h3, Result.andThen_ok, Sem.run_pure, Oper.upon_value]
      exact hN ι w v (Tr.refl hs) (fun _ _ _ h => h) h2
    · cases h
  · rename_i hkd
    obtain ⟨hn, hf⟩ := hnf (kd_alc hkd)
    obtain ⟨ob, y, v, ι', w', h1, h2, h3, h4⟩ := allocK_tells (P := P) hs hn hf (ρ := a.eval) (o := o) h hr
    refine ⟨y, μ.set nid ob, h1, fun next Q hN => ?_⟩
    unfold Oper.wp
    rw [h2, Oper.upon_value]
    exact hN ι' w' v h3 (fun j _ hj hd => Dead1.set j hj hd) h4
  · rw [effK_nat] at h
    obtain ⟨⟨y0, μ0⟩, h0, h⟩ := Option.bind_eq_some_iff.mp h
    have hd := effK_dead h0
    obtain ⟨y, μ', ι', w', h1, h2, h3⟩ := effK_does (P := P) hs (ρ := a.eval) (o := o) hnf h0 hr
    cases h1
    refine ⟨_, _, viewK_some h, fun next Q hN => ?_⟩
    unfold Oper.wp
    rcases h2 with ⟨v, h2, h4⟩ | ⟨h2, rfl⟩
    · rw [h2, Oper.upon_value]; exact hN ι' w' v h3 (fun j _ hj => hd j hj) h4
    · rw [h2, Oper.upon_skip]; exact hN ι' w' undef h3 (fun j _ hj => hd j hj) (undef_rel _ _)
  · unfold callK at h
    split at h
    · rename_i f as ts hop
      unfold callV at h
      split at h
      · rename_i g caps hfe
        obtain ⟨⟨y, μ'⟩, hy, h1⟩ := Option.bind_eq_some_iff.mp h
        obtain ⟨⟨fn, hfn, hname, hbody⟩, hcalls⟩ := hΓ g _ _ _ _ hy
        have hfv := hr f
        rw [hfe] at hfv
        obtain ⟨cvs, hfv, hcs, hcr⟩ := hfv
        refine ⟨y, μ', viewK_some h1, fun next Q hN => ?_⟩
        have hargs : All2 (AVR ι μ) (as.toList.map (evalA e) ++ caps.map fun c => .s (.ptr c.1 c.2.1 c.2.2)) (as.toList.map a.eval ++ cvs.toList) := by
          refine (map_rel hr as.toList).append ⟨by simp [hcs], fun i x hi => ?_⟩
          rw [List.getElem?_map] at hi
          obtain ⟨c, hc, rfl⟩ := Option.map_eq_some_iff.mp hi
          obtain ⟨u, hu, hp⟩ := hcr i c hc
          exact ⟨u, by rw [Array.getElem?_toList]; exact hu, hp⟩
        have hc := hcalls ι w _ hs hargs
        unfold Oper.wp execOp
        rw [hop]
        have harr : (as.toList.map a.eval ++ cvs.toList).toArray = as.map a.eval ++ cvs := by apply Array.ext'; simp
        rw [harr] at hc
        have hres : (resolve a.eval { callee := .value f, args := as, argTypes := ts } o.type).run P w = .ok { target := .fn (.func g) cvs, args := as.map a.eval } w := by
          simp only [resolve, hfv, Deferred.ofValue, Sem.run_pure]
          simp
        have hinv : (callFunc g (as.map a.eval ++ cvs)).run P w = .ok (.enter g (as.map a.eval ++ cvs)) w := by
          unfold callFunc
          rw [Sem.run_bind, run_program]
          simp only [Result.andThen_ok, hfn, hname, hbody, Bool.false_eq_true, if_false, Sem.run_pure]
        rw [Sem.run_bind, hres]
        simp only [Result.andThen_ok, invoke]
        rw [hinv, Oper.upon_enter]
        refine hc.mono fun en w' hp => ?_
        obtain ⟨ι', v, rfl, ht, hdead, hv⟩ := hp
        exact hN ι' w' v ht (fun j hj _ hd => hdead j hj hd) hv
      · rename_i g id ver off hfe
        obtain ⟨⟨y, μ'⟩, hy, h1⟩ := Option.bind_eq_some_iff.mp h
        obtain ⟨⟨fn, hfn, hname, hbody⟩, hcalls⟩ := hΓ g _ _ _ _ hy
        have hfv := hr f
        rw [hfe] at hfv
        obtain ⟨u, hfv, hu⟩ := hfv
        refine ⟨y, μ', viewK_some h1, fun next Q hN => ?_⟩
        have hargs : All2 (AVR ι μ) (AV.s (.ptr id ver off) :: as.toList.map (evalA e)) (u :: as.toList.map a.eval) := All2.cons hu (map_rel hr as.toList)
        have hc := hcalls ι w _ hs hargs
        unfold Oper.wp execOp
        rw [hop]
        have harr : (u :: as.toList.map a.eval).toArray = #[u] ++ as.map a.eval := by apply Array.ext'; simp
        rw [harr] at hc
        have hres : (resolve a.eval { callee := .value f, args := as, argTypes := ts } o.type).run P w = .ok { target := .fn (.func g) #[], args := #[u] ++ as.map a.eval } w := by
          simp only [resolve, hfv, Deferred.ofValue, Sem.run_pure]
        have hinv : (callFunc g (#[u] ++ as.map a.eval)).run P w = .ok (.enter g (#[u] ++ as.map a.eval)) w := by
          unfold callFunc
          rw [Sem.run_bind, run_program]
          simp only [Result.andThen_ok, hfn, hname, hbody, Bool.false_eq_true, if_false, Sem.run_pure]
        rw [Sem.run_bind, hres]
        simp only [Result.andThen_ok, invoke, Array.append_empty]
        rw [hinv, Oper.upon_enter]
        refine hc.mono fun en w' hp => ?_
        obtain ⟨ι', v, rfl, ht, hdead, hv⟩ := hp
        exact hN ι' w' v ht (fun j hj _ hd => hdead j hj hd) hv
      · cases h
    · cases h

theorem cutM_tells {ι : Nat → Loc} {μ : AMem} {w : World} (hs : Sim P ι μ w) {t e : TypeId} {n : Nat} {x : AV} {l h : Int} {K : AV → Option R} {r : R} (hk : cutM (n + 1) μ x l h K = some r) {a : Value} (ha : AVR ι μ x a)
    (hu : P.underlying t = some (.slice e)) (hn : sizeA P e = some (n + 1)) (lo : Option Value) (k : IntKind)
    (hlo : ∀ w (y : Nat), 0 ≤ l → l ≤ y → (match lo with | some v => Instr.sliceBound v y .sliceB | none => pure 0 : Sem Nat).run P w = .ok l.toNat w) :
    ∃ y v, K y = some r ∧ AVR ι μ y v ∧ (Instr.sliceAt t a lo (some (.int k h)) none).run P w = .ok v w := by
  unfold cutM at hk
  split at hk
  · split at hk
    · rename_i hb
      obtain ⟨rfl, rfl⟩ := hb
      simp only [AVR, SVR] at ha
      subst ha
      have h1 : (match (some (.int k 0) : Option Value) with | some v => Instr.sliceBound v 0 .sliceAcap | none => pure 0 : Sem Nat).run P w = .ok 0 w := bound_run _ (by omega) (by omega) w
      have hbs := bounds_run (P := P) (lo := lo) (hi := some (.int k 0)) (len := 0) (cap := 0) (l := 0) (h := 0) (w := w) h1 (hlo w 0 (by omega) (by omega))
      refine ⟨_, .slice none 0 0, hk, rfl, ?_⟩
      simp only [Instr.sliceAt, Sem.run_bind, run_und hu, Result.andThen_ok, Instr.slice, hbs, run_siz hn, Sem.run_pure, Option.map_none]
      rfl
    · cases hk
  · rename_i id ver len
    obtain ⟨o, ho, hk1⟩ := Option.bind_eq_some_iff.mp hk
    split at hk1
    · rename_i hver
      obtain ⟨c, hc, hk2⟩ := Option.bind_eq_some_iff.mp hk1
      split at hk2
      · rename_i hb
        obtain ⟨o', ho', hv, ad, cap, rfl, hlc, hh⟩ := ha
        rw [ho] at ho'
        obtain rfl := Option.some.inj ho'
        obtain ⟨g1, g2⟩ := hh hver
        have hcap : cap = c := (g1 rfl).trans ((hs.live id o ho).2.cap c hc)
        subst hcap
        have h1 : (match (some (.int k h) : Option Value) with | some v => Instr.sliceBound v cap .sliceAcap | none => pure len : Sem Nat).run P w = .ok h.toNat w := bound_run _ (by omega) (by omega) w
        have hbs := bounds_run (P := P) (lo := lo) (hi := some (.int k h)) (len := len) (cap := cap) (l := l.toNat) (h := h.toNat) (w := w) h1 (hlo w h.toNat hb.1 (by omega))
        refine ⟨_, .slice (some (if cap = l.toNat then ad else ad.add (l.toNat * (n + 1)))) (h.toNat - l.toNat) (cap - l.toNat), hk2, ?_, ?_⟩
        · refine ⟨o, ho, hv, _, _, rfl, by omega, fun hov => ?_⟩
          refine ⟨fun h0 => ?_, ?_⟩
          · have : l.toNat = 0 := by
              have h0' : l.toNat * (n + 1) = 0 := by omega
              rcases Nat.mul_eq_zero.mp h0' with h0' | h0'
              · exact h0'
              · omega
            rw [this, Nat.sub_zero]; exact g1 (by omega)
          · by_cases hc' : cap = l.toNat
            · right; omega
            · rw [if_neg hc']
              rcases g2 with g2 | g2
              · left
                rw [g2]
                unfold Addr.add
                split
                · rename_i e0; simp [e0]
                · simp [Nat.add_assoc]
              · right; omega
        · simp only [Instr.sliceAt, Sem.run_bind, run_und hu, Result.andThen_ok, Instr.slice, hbs, run_siz hn, Sem.run_pure, Option.map_some]
          congr 2
          split <;> rfl
      · cases hk2
    · cases hk1
  · cases hk
theorem stepW_wp {Γ : FuncId → FunA} (hΓ : ∀ f, Sound P f (Γ f)) {ι : Nat → Loc} {μ : AMem} {w : World} (hs : Sim P ι μ w) {e : Env} {a : Act} (he : EnvR ι μ e a)
    {nid : Nat} {o : Oper} (hnf : newA o.op = true → nid < μ.next ∧ μ.obj nid = none) {K : AV → AMem → Option R} {r : R} (h : stepW P Γ e nid μ o K = some r) :
    ∃ v μ', K v μ' = some r ∧
      ∀ (next : Act → World → Prop) (Q : Exit → Act → World → Prop), (∀ ι' w' u, Tr P ι μ w ι' μ' w' → (∀ j, j < μ.next → j ≠ nid → μ.obj j = none → μ'.obj j = none) → AVR ι' μ' v u → next (a.put o.dst u) w') → o.wp P a w next Q := by
  have hr := evalA_rel he
  unfold stepW at h
  split at h
  · rename_i t x lo hi hop
    have fin : ∀ {y v} {lv hv : Option Value}, (Instr.sliceAt t (a.eval x) (lo.map a.eval) (hi.map a.eval) none).run P w = .ok v w → K y μ = some r → AVR ι μ y v → ∃ v μ', K v μ' = some r ∧
        ∀ (next : Act → World → Prop) (Q : Exit → Act → World → Prop), (∀ ι' w' u, Tr P ι μ w ι' μ' w' → (∀ j, j < μ.next → j ≠ nid → μ.obj j = none → μ'.obj j = none) → AVR ι' μ' v u → next (a.put o.dst u) w') → o.wp P a w next Q := by
      intro y v lv hv h1 h2 h3
      refine ⟨y, μ, h2, fun next Q hN => ?_⟩
      have : (execOp a.eval o).run P w = .ok (.value v) w := by
        unfold execOp; rw [hop]
        simp only [Sem.run_bind, Option.map_none, h1, Result.andThen_ok, Sem.run_pure]
      unfold Oper.wp
      rw [this, Oper.upon_value]
      exact hN ι w v (Tr.refl hs) (fun _ _ _ h => h) h3
    unfold sliceW at h
    split at h
    · rename_i e1 hu
      split at h
      · rename_i n hn
        split at h
        · rename_i hl hh
          obtain ⟨b, hb⟩ : ∃ b, hi = some b := by cases hi with | none => cases hh | some b => exact ⟨b, rfl⟩
          obtain rfl : lo = none := by cases lo with | none => rfl | some _ => cases hl
          subst hb
          simp only [Option.map_some, Option.some.injEq] at hh
          obtain ⟨k, m, hm, h1⟩ := asN_some h
          have hbv : a.eval b = .int k m := by have := hr b; rw [hh, hm] at this; exact this
          obtain ⟨y, v, g1, g2, g3⟩ := cutM_tells (P := P) hs h1 (hr x) hu hn none k (fun w y _ _ => by simp_all)
          exact fin (lv := none) (hv := none) (by simpa only [Option.map_none, Option.map_some, hbv] using g3) g1 g2
        · rename_i hl hh
          obtain ⟨b, hb⟩ : ∃ b, hi = some b := by cases hi with | none => cases hh | some b => exact ⟨b, rfl⟩
          obtain ⟨b', hb'⟩ : ∃ b, lo = some b := by cases lo with | none => cases hl | some b => exact ⟨b, rfl⟩
          subst hb hb'
          simp only [Option.map_some, Option.some.injEq] at hh hl
          obtain ⟨k', m', hm', h1⟩ := asN_some h
          obtain ⟨k, m, hm, h2⟩ := asN_some h1
          have hbv : a.eval b = .int k m := by have := hr b; rw [hh, hm] at this; exact this
          have hbv' : a.eval b' = .int k' m' := by have := hr b'; rw [hl, hm'] at this; exact this
          obtain ⟨y, v, g1, g2, g3⟩ := cutM_tells (P := P) hs h2 (hr x) hu hn (some (.int k' m')) k (fun w y h0 h1 => bound_run _ h0 h1 w)
          exact fin (lv := none) (hv := none) (by simpa only [Option.map_some, hbv, hbv'] using g3) g1 g2
        · cases h
      · cases h
    · cases h
  · exact stepK_wp hΓ hs he hnf h

theorem guardedK_wanted {ι : Nat → Loc} {μ : AMem} {ops : Array Oper} {e : Env} {a : Act} (he : EnvR ι μ e a) {o : Oper} {X Y : Env → Option R} {r : R} (h : guardedK ops e o X Y = some r) :
    ∃ e', EnvR ι μ e' a ∧ ((X e' = some r ∧ Region.wanted o (yielded ops a.tmps) = true) ∨ (Y e' = some r ∧ Region.wanted o (yielded ops a.tmps) = false)) := by
  unfold guardedK at h
  unfold Region.wanted
  split at h
  · rename_i hg
    exact ⟨e, he, .inl ⟨h, by rw [hg]⟩⟩
  · rename_i j want hg
    rw [hg]
    split at h
    · cases h
    · rename_i d hd
      have hsame : ∀ b, e d = .s (.bool b) → EnvR ι μ (e.put (some d) (.s (.bool b))) a := by
        intro b hb s
        simp only [Env.put]
        by_cases hs : s = d
        · subst hs; simp only [Nat.beq_refl, cond_true]; rw [← hb]; exact he s
        · have : Nat.beq s d = false := beq_no hs
          simp only [this, cond_false]; exact he s
      have hed := he d
      unfold guardK at h
      split at h
      · rename_i b hb
        rw [hb] at hed
        have hv : a.tmps.getD d undef = .bool b := hed
        have hy : yielded ops a.tmps j = some b := by
          unfold yielded
          rw [hd]
          simp only [Option.bind_some]
          rw [Array.getD_eq_getD_getElem?] at hv
          cases ht : a.tmps[d]? with
          | none => rw [ht] at hv; cases hv
          | some x => rw [ht] at hv; simp at hv; subst hv; rfl
        cases want <;> cases b <;> simp only [cond_true, cond_false, Bool.not_true, Bool.not_false] at h
        · exact ⟨_, hsame false hb, .inl ⟨h, by simp [hy]⟩⟩
        · exact ⟨_, hsame true hb, .inr ⟨h, by simp [hy]⟩⟩
        · exact ⟨_, hsame false hb, .inr ⟨h, by simp [hy]⟩⟩
        · exact ⟨_, hsame true hb, .inl ⟨h, by simp [hy]⟩⟩
      · rename_i hb
        rw [hb] at hed
        obtain ⟨vs, hv, hall⟩ := hed
        obtain rfl : vs = #[] := by apply Array.ext'; exact hall
        have hy : yielded ops a.tmps j = none := by
          unfold yielded
          rw [hd]
          simp only [Option.bind_some]
          rw [Array.getD_eq_getD_getElem?] at hv
          cases ht : a.tmps[d]? with
          | none => rfl
          | some x => rw [ht] at hv; simp at hv; subst hv; rfl
        exact ⟨e, he, .inr ⟨h, by simp [hy]⟩⟩
      · cases h

structure In (P : Program) (ι : Nat → Loc) (μ : AMem) (w : World) (nt : Nat) (e : Env) (a : Act) : Prop where
  sim : Sim P ι μ w
  env : EnvR ι μ e a
  size : a.tmps.size = nt
  defers : a.defers = []
structure On (P : Program) (n : Nat) (ι : Nat → Loc) (μ : AMem) (w : World) (a : Act) (W : List Nat) (ι' : Nat → Loc) (μ' : AMem) (w' : World) (a' : Act) : Prop where
  tr : Tr P ι μ w ι' μ' w'
  dead : ∀ j, j < n → μ.obj j = none → μ'.obj j = none
  keeps : ∀ s, s ∉ W → a'.tmps.getD s undef = a.tmps.getD s undef
theorem On.trans {ι ι1 ι2 : Nat → Loc} {μ μ1 μ2 : AMem} {w w1 w2 : World} {a a1 a2 : Act} {V W X : List Nat} {n m : Nat} (h : On P n ι μ w a V ι1 μ1 w1 a1) (k : On P m ι1 μ1 w1 a1 W ι2 μ2 w2 a2) (hnm : n ≤ m)
    (hV : ∀ s, s ∈ V → s ∈ X) (hW : ∀ s, s ∈ W → s ∈ X) : On P n ι μ w a X ι2 μ2 w2 a2 :=
  ⟨h.tr.trans k.tr, fun j hj hd => k.dead j (Nat.lt_of_lt_of_le hj hnm) (h.dead j hj hd), fun s hs => (k.keeps s fun x => hs (hW s x)).trans (h.keeps s fun x => hs (hV s x))⟩

def Free (ops : Array Oper) (N : Nat) (l : List Nat) (μ : AMem) : Prop := newsA ops = true → ∀ i ∈ l, N + i < μ.next ∧ μ.obj (N + i) = none
theorem newsA_of {ops : Array Oper} {i : Nat} {o : Oper} (ho : ops[i]? = some o) (h : newA o.op = true) : newsA ops = true := by
  rw [newsA, Array.any_eq_true']
  exact ⟨o, Array.mem_of_getElem? ho, h⟩
theorem oneK_wp {Γ : FuncId → FunA} (hΓ : ∀ f, Sound P f (Γ f)) {ops : Array Oper} {N i nt : Nat} {ι : Nat → Loc} {μ : AMem} {w : World} {e : Env} {a : Act} (hi : In P ι μ w nt e a)
    {o : Oper} (hnf : newA o.op = true → N + i < μ.next ∧ μ.obj (N + i) = none) (ho : ops[i]? = some o) (hd : ∀ d, o.dst = some d → d < nt) {W : List Nat} (hW : ∀ d, o.dst = some d → d ∈ W)
    {K : Env → AV → AMem → Option R} {K' : Env → Option R} {r : R}
    (h : guardedK ops e o (fun e => stepK P Γ e (N + i) μ o (K e)) K' = some r) :
    ∃ e' v μ',
      ((K e' v μ' = some r) ∨ (K' e' = some r ∧ v = .tuple [] ∧ μ' = μ)) ∧
      ∀ (next : Act → World → Prop) (Q : Exit → Act → World → Prop), (∀ ι' w' a', Tr P ι μ w ι' μ' w' → (∀ j, j < μ.next → j ≠ N + i → μ.obj j = none → μ'.obj j = none) → In P ι' μ' w' nt (e'.put o.dst v) a' → (∀ s, s ∉ W → a'.tmps.getD s undef = a.tmps.getD s undef) → next a' w') → wpOp P ops Q i next a w := by
  obtain ⟨e', he', h1⟩ := guardedK_wanted hi.env h
  have fin : ∀ ι' μ' w' v u, Tr P ι μ w ι' μ' w' → AVR ι' μ' v u → In P ι' μ' w' nt (e'.put o.dst v) (a.put o.dst u) ∧ (∀ s, s ∉ W → (a.put o.dst u).tmps.getD s undef = a.tmps.getD s undef) := by
    intro ι' μ' w' v u ht hv
    refine ⟨⟨ht.sim, (he'.mono ht.ext).put (fun x hx => by rw [hi.size]; exact hd x hx) hv, by rw [put_size]; exact hi.size, by rw [put_defers']; exact hi.defers⟩, fun s hs => put_other _ _ _ _ fun e => hs (hW s e)⟩
  rcases h1 with ⟨h1, hw⟩ | ⟨h1, hw⟩
  · obtain ⟨v, μ', h2, h4⟩ := stepK_wp (P := P) hΓ hi.sim he' hnf h1
    refine ⟨e', v, μ', .inl h2, fun next Q hN => ?_⟩
    unfold wpOp
    rw [ho]
    simp only [hw, if_true]
    exact .inl (h4 _ Q fun ι' w' u ht hdd hv => hN ι' w' _ ht hdd (fin _ _ _ _ _ ht hv).1 (fin _ _ _ _ _ ht hv).2)
  · refine ⟨e', .tuple [], μ, .inr ⟨h1, rfl, rfl⟩, fun next Q hN => ?_⟩
    unfold wpOp
    rw [ho]
    simp only [hw, Bool.false_eq_true, if_false]
    have ht := Tr.refl hi.sim
    exact hN ι w _ ht (fun _ _ _ h => h) (fin _ _ _ _ _ ht (undef_rel _ _)).1 (fin _ _ _ _ _ ht (undef_rel _ _)).2

theorem oneW_wp {Γ : FuncId → FunA} (hΓ : ∀ f, Sound P f (Γ f)) {ops : Array Oper} {N i nt : Nat} {ι : Nat → Loc} {μ : AMem} {w : World} {e : Env} {a : Act} (hi : In P ι μ w nt e a)
    {o : Oper} (hnf : newA o.op = true → N + i < μ.next ∧ μ.obj (N + i) = none) (ho : ops[i]? = some o) (hd : ∀ d, o.dst = some d → d < nt) {W : List Nat} (hW : ∀ d, o.dst = some d → d ∈ W)
    {K : Env → AV → AMem → Option R} {K' : Env → Option R} {r : R}
    (h : guardedK ops e o (fun e => stepW P Γ e (N + i) μ o (K e)) K' = some r) :
    ∃ e' v μ',
      ((K e' v μ' = some r) ∨ (K' e' = some r ∧ v = .tuple [] ∧ μ' = μ)) ∧
      ∀ (next : Act → World → Prop) (Q : Exit → Act → World → Prop), (∀ ι' w' a', Tr P ι μ w ι' μ' w' → (∀ j, j < μ.next → j ≠ N + i → μ.obj j = none → μ'.obj j = none) → In P ι' μ' w' nt (e'.put o.dst v) a' → (∀ s, s ∉ W → a'.tmps.getD s undef = a.tmps.getD s undef) → next a' w') → wpOp P ops Q i next a w := by
  obtain ⟨e', he', h1⟩ := guardedK_wanted hi.env h
  have fin : ∀ ι' μ' w' v u, Tr P ι μ w ι' μ' w' → AVR ι' μ' v u → In P ι' μ' w' nt (e'.put o.dst v) (a.put o.dst u) ∧ (∀ s, s ∉ W → (a.put o.dst u).tmps.getD s undef = a.tmps.getD s undef) := by
    intro ι' μ' w' v u ht hv
    refine ⟨⟨ht.sim, (he'.mono ht.ext).put (fun x hx => by rw [hi.size]; exact hd x hx) hv, by rw [put_size]; exact hi.size, by rw [put_defers']; exact hi.defers⟩, fun s hs => put_other _ _ _ _ fun e => hs (hW s e)⟩
  rcases h1 with ⟨h1, hw⟩ | ⟨h1, hw⟩
  · obtain ⟨v, μ', h2, h4⟩ := stepW_wp (P := P) hΓ hi.sim he' hnf h1
    refine ⟨e', v, μ', .inl h2, fun next Q hN => ?_⟩
    unfold wpOp
    rw [ho]
    simp only [hw, if_true]
    exact .inl (h4 _ Q fun ι' w' u ht hdd hv => hN ι' w' _ ht hdd (fin _ _ _ _ _ ht hv).1 (fin _ _ _ _ _ ht hv).2)
  · refine ⟨e', .tuple [], μ, .inr ⟨h1, rfl, rfl⟩, fun next Q hN => ?_⟩
    unfold wpOp
    rw [ho]
    simp only [hw, Bool.false_eq_true, if_false]
    have ht := Tr.refl hi.sim
    exact hN ι w _ ht (fun _ _ _ h => h) (fin _ _ _ _ _ ht (undef_rel _ _)).1 (fin _ _ _ _ _ ht (undef_rel _ _)).2

theorem dstsA_spec {nt : Nat} {ops : Array Oper} (h : dstsA nt ops = true) {i : Nat} {o : Oper} (ho : ops[i]? = some o) : ∀ d, o.dst = some d → d < nt := by
  intro d hd
  have := Array.all_eq_true_iff_forall_mem.1 h o (Array.mem_of_getElem? ho)
  rw [hd] at this
  simpa using this
theorem dst_mem {ops : Array Oper} {i : Nat} {o : Oper} (ho : ops[i]? = some o) : ∀ d, o.dst = some d → d ∈ ops.toList.filterMap (·.dst) :=
  fun d hd => List.mem_filterMap.2 ⟨o, by simpa using Array.mem_of_getElem? ho, hd⟩

theorem runA_wp {Γ : FuncId → FunA} (hΓ : ∀ f, Sound P f (Γ f)) {ops : Array Oper} {N nt : Nat} (hd : dstsA nt ops = true) {K : Env → AMem → Option R} {r : R} {Q : Exit → Act → World → Prop} :
    ∀ (l : List Nat) (ι : Nat → Loc) (μ : AMem) (w : World) (e : Env) (a : Act), l.Nodup → N ≤ μ.next → In P ι μ w nt e a → Free ops N l μ → runA P Γ ops N K l e μ = some r →
      (∀ ι' μ' w' e' a', K e' μ' = some r → On P N ι μ w a (ops.toList.filterMap (·.dst)) ι' μ' w' a' → In P ι' μ' w' nt e' a' → Q .normal a' w') → wpOps P ops Q l a w
  | [], ι, μ, w, e, a, _, _, hi, _, h, hQ => hQ ι μ w e a h ⟨Tr.refl hi.sim, fun _ _ h => h, fun _ _ => rfl⟩ hi
  | i :: l, ι, μ, w, e, a, hnd, hN, hi, hfree, h, hQ => by
    unfold runA at h
    split at h
    · cases h
    · rename_i o ho
      have hil := (List.nodup_cons.1 hnd).1
      obtain ⟨e', v, μ', h2, h3⟩ := oneK_wp (K := fun e v μ' => runA P Γ ops N K l (e.put o.dst v) μ') (K' := fun e => runA P Γ ops N K l (e.put o.dst (.tuple [])) μ) hΓ hi
        (fun hnew => hfree (newsA_of ho hnew) i (List.mem_cons_self ..)) ho (dstsA_spec hd ho) (dst_mem ho) h
      rw [wpOps_cons]
      refine h3 _ Q fun ι' w' a' ht h1 hi' hk => ?_
      have h2' : runA P Γ ops N K l (e'.put o.dst v) μ' = some r := by
        rcases h2 with h2 | ⟨h2, rfl, rfl⟩ <;> exact h2
      have hdead : ∀ j, j < N → μ.obj j = none → μ'.obj j = none := fun j hj hdj => h1 j (by omega) (by omega) hdj
      refine runA_wp hΓ hd l ι' μ' w' _ a' (List.nodup_cons.1 hnd).2 (Nat.le_trans hN ht.next) hi' (fun hnew j hj => ?_) h2'
        (fun ι2 μ2 w2 e2 a2 hK hon hin => hQ ι2 μ2 w2 e2 a2 hK (On.trans ⟨ht, hdead, hk⟩ hon (Nat.le_refl _) (fun _ h => h) (fun _ h => h)) hin)
      obtain ⟨hnj, hfj⟩ := hfree hnew j (List.mem_cons_of_mem _ hj)
      have hji : N + j ≠ N + i := fun e => hil (by
        have : j = i := by omega
        rw [← this]; exact hj)
      exact ⟨Nat.lt_of_lt_of_le hnj ht.next, h1 _ hnj hji hfj⟩
theorem runW_wp {Γ : FuncId → FunA} (hΓ : ∀ f, Sound P f (Γ f)) {ops : Array Oper} {N nt : Nat} (hd : dstsA nt ops = true) {K : Env → AMem → Option R} {r : R} {Q : Exit → Act → World → Prop} :
    ∀ (l : List Nat) (ι : Nat → Loc) (μ : AMem) (w : World) (e : Env) (a : Act), l.Nodup → N ≤ μ.next → In P ι μ w nt e a → Free ops N l μ → runW P Γ ops N K l e μ = some r →
      (∀ ι' μ' w' e' a', K e' μ' = some r → On P N ι μ w a (ops.toList.filterMap (·.dst)) ι' μ' w' a' → In P ι' μ' w' nt e' a' → Q .normal a' w') → wpOps P ops Q l a w
  | [], ι, μ, w, e, a, _, _, hi, _, h, hQ => hQ ι μ w e a h ⟨Tr.refl hi.sim, fun _ _ h => h, fun _ _ => rfl⟩ hi
  | i :: l, ι, μ, w, e, a, hnd, hN, hi, hfree, h, hQ => by
    unfold runW at h
    split at h
    · cases h
    · rename_i o ho
      have hil := (List.nodup_cons.1 hnd).1
      obtain ⟨e', v, μ', h2, h3⟩ := oneW_wp (K := fun e v μ' => runW P Γ ops N K l (e.put o.dst v) μ') (K' := fun e => runW P Γ ops N K l (e.put o.dst (.tuple [])) μ) hΓ hi
        (fun hnew => hfree (newsA_of ho hnew) i (List.mem_cons_self ..)) ho (dstsA_spec hd ho) (dst_mem ho) h
      rw [wpOps_cons]
      refine h3 _ Q fun ι' w' a' ht h1 hi' hk => ?_
      have h2' : runW P Γ ops N K l (e'.put o.dst v) μ' = some r := by
        rcases h2 with h2 | ⟨h2, rfl, rfl⟩ <;> exact h2
      have hdead : ∀ j, j < N → μ.obj j = none → μ'.obj j = none := fun j hj hdj => h1 j (by omega) (by omega) hdj
      refine runW_wp hΓ hd l ι' μ' w' _ a' (List.nodup_cons.1 hnd).2 (Nat.le_trans hN ht.next) hi' (fun hnew j hj => ?_) h2'
        (fun ι2 μ2 w2 e2 a2 hK hon hin => hQ ι2 μ2 w2 e2 a2 hK (On.trans ⟨ht, hdead, hk⟩ hon (Nat.le_refl _) (fun _ h => h) (fun _ h => h)) hin)
      obtain ⟨hnj, hfj⟩ := hfree hnew j (List.mem_cons_of_mem _ hj)
      have hji : N + j ≠ N + i := fun e => hil (by
        have : j = i := by omega
        rw [← this]; exact hj)
      exact ⟨Nat.lt_of_lt_of_le hnj ht.next, h1 _ hnj hji hfj⟩
end
end Go.Proofs.YtnjenjbodcihmaaGreat.E
namespace Go.Proofs.YtnjenjbodcihmaaGreat.E
open Go
set_option linter.unusedVariables false
set_option linter.unusedSimpArgs false
section
variable {P : Program}

def AExit.to : AExit → Exit
  | .normal => .normal
  | .exit id => .exit id
  | .ret => .ret
theorem headK_some {R : Type} {vs : List AV} {K : AV → List AV → Option R} {r : R} (h : headK vs K = some r) : ∃ v l, vs = v :: l ∧ K v l = some r := by
  unfold headK at h
  split at h
  · exact ⟨_, _, rfl, h⟩
  · cases h
theorem joinK_rel {R : Type} {ι : Nat → Loc} {μ : AMem} {e : Env} {a : Act} (he : EnvR ι μ e a) {K : Env → Option R} {r : R} :
    ∀ (L : Slots) (e0 : Env), EnvR ι μ e0 a → joinK L (valsOf L e) e0 K = some r → ∃ e', EnvR ι μ e' a ∧ K e' = some r
  | [], e0, h0, h => ⟨e0, h0, h⟩
  | (s, t) :: L, e0, h0, h => by
    have hput : ∀ v, e s = v → EnvR ι μ (e0.put (some s) v) a := by
      intro v hv x
      simp only [Env.put]
      by_cases hx : x = s
      · subst hx; simp only [Nat.beq_refl, cond_true]; rw [← hv]; exact he x
      · rw [beq_no hx]; exact h0 x
    unfold joinK valsOf at h
    obtain ⟨v, l, hvl, h⟩ := headK_some h
    simp only [List.map_cons, List.cons.injEq] at hvl
    obtain ⟨hv, rfl⟩ := hvl
    cases t <;> dsimp only at h
    case i k => obtain ⟨n, hn, h2⟩ := asI_some h; exact joinK_rel he L _ (hput _ (hv.trans hn)) h2
    case b => obtain ⟨n, hn, h2⟩ := asB_some h; exact joinK_rel he L _ (hput _ (hv.trans hn)) h2
    case s => obtain ⟨n, hn, h2⟩ := asS_some h; exact joinK_rel he L _ (hput _ (hv.trans hn)) h2
    case v => exact joinK_rel he L _ (hput _ hv) h
theorem noEnv_rel (ι : Nat → Loc) (μ : AMem) (a : Act) : EnvR ι μ noEnv a := fun _ => by unfold noEnv AVR; trivial
theorem envO_rel {ι ι' : Nat → Loc} {μ μ' : AMem} {e : Env} {a a' : Act} (he : EnvR ι μ e a) (hx : Ext ι μ ι' μ') : ∀ (O : List Nat), (∀ s ∈ O, a'.tmps.getD s undef = a.tmps.getD s undef) → EnvR ι' μ' (envO O (O.map e)) a'
  | [], _ => noEnv_rel ι' μ' a'
  | d :: O, h => by
    intro s
    simp only [List.map_cons, envO]
    by_cases hs : s = d
    · subst hs
      simp only [Nat.beq_refl, cond_true]
      rw [h s (List.mem_cons_self ..)]
      exact (he s).mono hx
    · rw [beq_no hs]
      exact envO_rel he hx O (fun x hx' => h x (List.mem_cons_of_mem _ hx')) s
theorem exitsK_some {R : Type} {id : Nat} {f : Nat → Option R} {r : R} : ∀ {xs : List Nat}, exitsK xs id f = some r → f id = some r
  | [], h => by cases h
  | j :: xs, h => by
    unfold exitsK at h
    cases hb : Nat.beq j id with
    | true => rw [hb] at h; rw [← Nat.eq_of_beq_eq_true hb]; exact h
    | false => rw [hb] at h; exact exitsK_some h
theorem keepsA_spec {O : List Nat} {c : Code} (h : keepsA O c = true) : ∀ s ∈ O, s ∉ writesA c := by
  intro s hs
  have := List.all_eq_true.mp h s hs
  simpa using this
theorem Tr.lift {ι ι' : Nat → Loc} {μ μ0 μ' : AMem} {w w' : World} (h : Tr P ι μ0 w ι' μ' w') (ho : μ0.obj = μ.obj) (hn : μ.next ≤ μ0.next) : Tr P ι μ w ι' μ' w' := by
  obtain ⟨a1, a2, a3, a4, a5, a6, a7, a8, a9⟩ := h
  refine ⟨a1, ?_, Nat.le_trans hn a3, a4, a5, a6, a7, ?_, ?_⟩
  · intro id o h; exact a2 id o (by rw [ho]; exact h)
  · rw [ho] at a8; exact a8
  · rw [ho] at a9; exact a9
theorem resvA_obj (ops : Array Oper) (μ : AMem) : (resvA ops μ).obj = μ.obj := by unfold resvA; cases newsA ops <;> rfl
theorem resvA_next (ops : Array Oper) (μ : AMem) : μ.next ≤ (resvA ops μ).next := by unfold resvA; cases newsA ops <;> simp [AMem.bump]
theorem resvA_in {ι : Nat → Loc} {μ : AMem} {w : World} {nt : Nat} {e : Env} {a : Act} (ops : Array Oper) (h : In P ι μ w nt e a) : In P ι (resvA ops μ) w nt e a := by
  unfold resvA
  cases newsA ops
  · exact h
  · refine ⟨h.sim.bump _, h.env.mono (Tr.bump h.sim _).ext, h.size, h.defers⟩
theorem resvA_free {ι : Nat → Loc} {μ : AMem} {w : World} (h : Sim P ι μ w) (ops : Array Oper) (l : List Nat) (hl : ∀ i ∈ l, i < ops.size) : Free ops μ.next l (resvA ops μ) := by
  intro hn i hi
  have := hl i hi
  unfold resvA
  rw [hn]
  refine ⟨by simp [AMem.bump]; exact this, ?_⟩
  show μ.obj (μ.next + i) = none
  cases ho : μ.obj (μ.next + i) with
  | none => rfl
  | some o => have := (h.live _ _ ho).1; omega
theorem wp_loop_down {c : Code} {Q : Exit → Act → World → Prop} (I : Nat → Act → World → Prop)
    (round : ∀ n a w, I n a w → c.wp P (Exit.then (fun a' w' => ∃ m, m < n ∧ I m a' w') Q) a w) {n : Nat} {a : Act} {w : World} (h : I n a w) : (Code.loop c).wp P Q a w := by
  intro b k cs
  have key : ∀ n a w, I n a w → ∃ e a' w', Q e a' w' ∧ Arrives P (lone (b.at a (.code c :: .inLoop c :: k)) cs w) b k cs e a' w' := by
    intro n
    induction n using Nat.strongRecOn with
    | _ n ih =>
      intro a w hI
      obtain ⟨e, a₁, w₁, hq, harr⟩ := round n a w hI b (.inLoop c :: k) cs
      cases e with
      | normal =>
        obtain ⟨m, hlt, hI₁⟩ := hq
        obtain ⟨e₂, a₂, w₂, hq₂, harr₂⟩ := ih m hlt a₁ w₁ hI₁
        exact ⟨e₂, a₂, w₂, hq₂, .of_steps (Steps.trans harr (.one step_inLoop)) harr₂⟩
      | exit id => exact ⟨_, a₁, w₁, hq, .pass (x := .inLoop c) rfl (fun _ _ => .inl (by simp)) harr⟩
      | goto l => exact ⟨_, a₁, w₁, hq, .pass (x := .inLoop c) rfl (fun _ _ => .inl (by simp)) harr⟩
      | ret => exact ⟨_, a₁, w₁, hq, .pass (x := .inLoop c) rfl (fun _ _ => .inl (by simp)) harr⟩
      | panic ch => exact ⟨_, a₁, w₁, hq, .pass (x := .inLoop c) rfl (fun _ _ => .inl (by simp)) harr⟩
      | outgrown => exact ⟨_, a₁, w₁, hq, .pass (x := .inLoop c) rfl (fun _ _ => .inl (by simp)) harr⟩
  obtain ⟨e, a', w', hq, harr⟩ := key n a w h
  exact ⟨e, a', w', hq, .of_steps (.one step_loop) harr⟩

def DrawsSound (P : Program) (Γ : FuncId → FunA) : Prop := ∀ {R : Type} {id : Nat} {ops : Array Oper} {nt : Nat} {l : List Nat} {K : Env → AMem → Option R} {r : R} {Q : Exit → Act → World → Prop}
  {ι : Nat → Loc} {μ : AMem} {w : World} {e : Env} {a : Act}, dstsA nt ops = true → orderA ops (ancs ops) l = true → In P ι μ w nt e a →
  runD P Γ ops (ancs ops) μ.next K l e (resvA ops μ) [] = some r →
  (∀ ι' μ' w' e' a', K e' μ' = some r → On P μ.next ι (resvA ops μ) w a (ops.toList.filterMap (·.dst)) ι' μ' w' a' → In P ι' μ' w' nt e' a' → Q .normal a' w') → (Code.region id ops true).wp P Q a w

theorem den_wp {Γ : FuncId → FunA} {nt : Nat} (hΓ : ∀ f, Sound P f (Γ f)) (hD : DrawsSound P Γ) : ∀ (c : Code) (an : Ann) (lv : Lv) {R : Type} (K : AExit → Env → AMem → Option R) (r : R)
    (ι : Nat → Loc) (μ : AMem) (w : World) (e : Env) (a : Act) (Q : Exit → Act → World → Prop), den P Γ nt c an lv R e μ K = some r → In P ι μ w nt e a →
    (∀ ex ι' μ' w' e' a', K ex e' μ' = some r → On P μ.next ι μ w a (writesA c) ι' μ' w' a' → In P ι' μ' w' nt e' a' → Q ex.to a' w') → c.wp P Q a w := by
  intro c
  have refl : ∀ (ι : Nat → Loc) (μ : AMem) (w : World) (e : Env) (a : Act) (W : List Nat), In P ι μ w nt e a → On P μ.next ι μ w a W ι μ w a := fun ι μ w e a W hi => ⟨Tr.refl hi.sim, fun _ _ h => h, fun _ _ => rfl⟩
  induction c with
  | skip => intro an lv R K r ι μ w e a Q h hi hQ; unfold den at h; exact wp_skip (hQ .normal _ _ _ _ _ h (refl _ _ _ _ _ _ hi) hi)
  | ret => intro an lv R K r ι μ w e a Q h hi hQ; unfold den at h; exact wp_ret (hQ .ret _ _ _ _ _ h (refl _ _ _ _ _ _ hi) hi)
  | exit id => intro an lv R K r ι μ w e a Q h hi hQ; unfold den at h; exact wp_exit (hQ (.exit id) _ _ _ _ _ h (refl _ _ _ _ _ _ hi) hi)
  | region id ops draw =>
    intro an lv R K r ι μ w e a Q h hi hQ
    have up : ∀ {ι' μ' w' a'}, On P μ.next ι (resvA ops μ) w a (ops.toList.filterMap (·.dst)) ι' μ' w' a' → On P μ.next ι μ w a (ops.toList.filterMap (·.dst)) ι' μ' w' a' := fun hon =>
      ⟨hon.tr.lift (resvA_obj ops μ) (resvA_next ops μ), fun j hj hd => hon.dead j hj (by rw [resvA_obj]; exact hd), hon.keeps⟩
    cases draw with
    | false =>
      by_cases hw : an = .wide
      · subst hw
        unfold den at h
        cases hd : dstsA nt ops with
        | false => rw [hd] at h; cases h
        | true =>
          rw [hd] at h
          refine wp_region (runW_wp hΓ hd (List.range ops.size) ι (resvA ops μ) w e a List.nodup_range (resvA_next ops μ) (resvA_in ops hi) (resvA_free hi.sim ops _ (fun i hi => List.mem_range.mp hi)) h ?_)
          exact fun ι' μ' w' e' a' hK hon hin => hQ .normal ι' μ' w' e' a' hK (up hon) hin
      · have h' : (bif dstsA nt ops then runA P Γ ops μ.next (K .normal) (List.range ops.size) e (resvA ops μ) else none) = some r := by
          cases an <;> first | exact absurd rfl hw | (unfold den at h; exact h)
        cases hd : dstsA nt ops with
        | false => rw [hd] at h'; cases h'
        | true =>
          rw [hd] at h'
          refine wp_region (runA_wp hΓ hd (List.range ops.size) ι (resvA ops μ) w e a List.nodup_range (resvA_next ops μ) (resvA_in ops hi) (resvA_free hi.sim ops _ (fun i hi => List.mem_range.mp hi)) h' ?_)
          exact fun ι' μ' w' e' a' hK hon hin => hQ .normal ι' μ' w' e' a' hK (up hon) hin
    | true =>
      cases an with
      | ord l =>
        unfold den at h
        cases hd : (dstsA nt ops && orderA ops (ancs ops) l) with
        | false => rw [hd] at h; cases h
        | true =>
          rw [hd] at h
          rw [Bool.and_eq_true] at hd
          exact hD hd.1 hd.2 hi h fun ι' μ' w' e' a' hK hon hin => hQ .normal ι' μ' w' e' a' hK (up hon) hin
      | _ => unfold den at h; cases h
  | seq x y ihx ihy =>
    intro an lv R K r ι μ w e a Q h hi hQ
    have hwl : ∀ s, s ∈ writesA x → s ∈ writesA (.seq x y) := fun s hs => List.mem_append_left _ hs
    have hwr : ∀ s, s ∈ writesA y → s ∈ writesA (.seq x y) := fun s hs => List.mem_append_right _ hs
    cases an with
    | two p q =>
      unfold den at h
      refine wp_seq (ihx p lv _ r ι μ w e a _ h hi ?_)
      intro ex ι' μ' w' e' a' hK hon hin
      cases ex with
      | normal =>
        refine ihy q lv _ r ι' μ' w' e' a' _ hK hin ?_
        exact fun ex ι2 μ2 w2 e2 a2 hK2 hon2 hin2 => hQ ex ι2 μ2 w2 e2 a2 hK2 (On.trans hon hon2 hon.tr.next hwl hwr) hin2
      | exit id => exact hQ (.exit id) _ _ _ _ _ hK ⟨hon.tr, hon.dead, fun s hs => hon.keeps s fun h => hs (hwl s h)⟩ hin
      | ret => exact hQ .ret _ _ _ _ _ hK ⟨hon.tr, hon.dead, fun s hs => hon.keeps s fun h => hs (hwl s h)⟩ hin
    | join L O xs p q =>
      unfold den at h
      cases hk : keepsA O x with
      | false => rw [hk] at h; cases h
      | true =>
        rw [hk] at h
        simp only [cond_true] at h
        unfold seqJ at h
        obtain ⟨⟨ex, vs, μ1⟩, h1, h2⟩ := Option.bind_eq_some_iff.mp h
        refine wp_seq (ihx p lv _ (ex, vs, μ1) ι μ w e a _ h1 hi ?_)
        intro ex' ι' μ' w' e' a' hK hon hin
        obtain ⟨rfl, rfl, rfl⟩ : ex' = ex ∧ valsOf (lv.at L ex') e' = vs ∧ μ' = μ1 := by cases hK; exact ⟨rfl, rfl, rfl⟩
        have hon' : On P μ.next ι μ w a (writesA (.seq x y)) ι' μ' w' a' := ⟨hon.tr, hon.dead, fun s hs => hon.keeps s fun h => hs (hwl s h)⟩
        cases ex' with
        | normal =>
          obtain ⟨e2, he2, h3⟩ := joinK_rel hin.env L _ (envO_rel hi.env hon.tr.ext O fun s hs => hon.keeps s (keepsA_spec hk s hs)) h2
          refine ihy q lv _ r ι' μ' w' e2 a' _ h3 ⟨hin.sim, he2, hin.size, hin.defers⟩ ?_
          exact fun ex ι2 μ2 w2 e2 a2 hK2 hon2 hin2 => hQ ex ι2 μ2 w2 e2 a2 hK2 (On.trans hon hon2 hon.tr.next hwl hwr) hin2
        | exit id =>
          have h3 := exitsK_some h2
          obtain ⟨e2, he2, h4⟩ := joinK_rel hin.env _ _ (noEnv_rel _ _ _) h3
          exact hQ (.exit id) _ _ _ _ _ h4 hon' ⟨hin.sim, he2, hin.size, hin.defers⟩
        | ret =>
          obtain ⟨e2, he2, h4⟩ := joinK_rel hin.env _ _ (noEnv_rel _ _ _) h2
          exact hQ .ret _ _ _ _ _ h4 hon' ⟨hin.sim, he2, hin.size, hin.defers⟩
    | _ => unfold den at h; cases h
  | cond c x y ihx ihy =>
    intro an lv R K r ι μ w e a Q h hi hQ
    cases an with
    | two p q =>
      unfold den at h
      unfold condK at h
      split at h
      · rename_i t ht
        have hc : a.eval c = .bool t := by
          have := evalA_rel hi.env c
          rw [ht] at this
          exact this
        refine wp_cond_split hc (fun ht => ?_) (fun ht => ?_)
        · subst ht
          exact ihx p lv _ r ι μ w e a _ h hi fun ex ι2 μ2 w2 e2 a2 hK hon hin => hQ ex ι2 μ2 w2 e2 a2 hK ⟨hon.tr, hon.dead, fun s hs => hon.keeps s fun h => hs (List.mem_append_left _ h)⟩ hin
        · subst ht
          exact ihy q lv _ r ι μ w e a _ h hi fun ex ι2 μ2 w2 e2 a2 hK hon hin => hQ ex ι2 μ2 w2 e2 a2 hK ⟨hon.tr, hon.dead, fun s hs => hon.keeps s fun h => hs (List.mem_append_right _ h)⟩ hin
      · cases h
    | _ => unfold den at h; cases h
  | block id x ihx =>
    intro an lv R K r ι μ w e a Q h hi hQ
    cases an with
    | join L O xs p q =>
      unfold den at h
      refine wp_block (ihx p _ _ r ι μ w e a _ h hi ?_)
      intro ex ι' μ' w' e' a' hK hon hin
      cases ex with
      | normal => exact hQ .normal _ _ _ _ _ hK hon hin
      | ret => exact hQ .ret _ _ _ _ _ hK hon hin
      | exit j =>
        simp only [AExit.to, Exit.inBlock]
        dsimp only at hK
        by_cases hj : j = id
        · rw [if_pos hj]
          subst hj
          simp only [Nat.beq_refl, cond_true] at hK
          exact hQ .normal _ _ _ _ _ hK hon hin
        · rw [if_neg hj]
          rw [beq_no hj] at hK
          exact hQ (.exit j) _ _ _ _ _ hK hon hin
    | _ => unfold den at h; cases h
  | loop x ihx =>
    intro an lv R K r ι μ w e a Q h hi hQ
    cases an with
    | loop L O xs p =>
      unfold den at h
      cases hk : keepsA O x with
      | false => rw [hk] at h; cases h
      | true =>
        rw [hk] at h
        simp only [cond_true] at h
        unfold seqJ at h
        obtain ⟨⟨ex, vs, μ1⟩, h1, h2⟩ := Option.bind_eq_some_iff.mp h
        obtain ⟨k, h1⟩ := loopA_some.mp h1
        refine wp_loop_down (fun n a1 w1 => ∃ ι1 μ1' e1, roundsA (fun vs μ => joinK L vs (envO O (O.map e)) fun e => den P Γ nt x p lv Res e μ fun ex e μ => some (ex, valsOf (lv.at L ex) e, μ)) n (valsOf L e1) μ1' = some (ex, vs, μ1) ∧
          On P μ.next ι μ w a (writesA x) ι1 μ1' w1 a1 ∧ In P ι1 μ1' w1 nt e1 a1) ?_ (n := k) ⟨ι, μ, e, h1, refl _ _ _ _ _ _ hi, hi⟩
        rintro n a1 w1 ⟨ι1, μ1', e1, hr, hon, hin⟩
        cases n with
        | zero => cases hr
        | succ n =>
          unfold roundsA at hr
          obtain ⟨⟨ex2, vs2, μ2⟩, hb, hrest⟩ := Option.bind_eq_some_iff.mp hr
          obtain ⟨e2, he2, hb2⟩ := joinK_rel hin.env L _ (envO_rel hi.env hon.tr.ext O fun s hs => hon.keeps s (keepsA_spec hk s hs)) hb
          refine ihx p lv _ (ex2, vs2, μ2) ι1 μ1' w1 e2 a1 _ hb2 ⟨hin.sim, he2, hin.size, hin.defers⟩ ?_
          intro ex3 ι3 μ3 w3 e3 a3 hK hon3 hin3
          obtain ⟨rfl, rfl, rfl⟩ : ex3 = ex2 ∧ valsOf (lv.at L ex3) e3 = vs2 ∧ μ3 = μ2 := by cases hK; exact ⟨rfl, rfl, rfl⟩
          have hon4 : On P μ.next ι μ w a (writesA x) ι3 μ3 w3 a3 := On.trans hon hon3 hon.tr.next (fun _ h => h) (fun _ h => h)
          cases ex3 with
          | normal => exact ⟨n, Nat.lt_succ_self n, ι3, μ3, e3, hrest, hon4, hin3⟩
          | exit id =>
            cases hrest
            have h3 := exitsK_some h2
            obtain ⟨e5, he5, h4⟩ := joinK_rel hin3.env _ _ (noEnv_rel _ _ _) h3
            exact hQ (.exit id) _ _ _ _ _ h4 hon4 ⟨hin3.sim, he5, hin3.size, hin3.defers⟩
          | ret =>
            cases hrest
            obtain ⟨e5, he5, h4⟩ := joinK_rel hin3.env _ _ (noEnv_rel _ _ _) h2
            exact hQ .ret _ _ _ _ _ h4 hon4 ⟨hin3.sim, he5, hin3.size, hin3.defers⟩
    | _ => unfold den at h; cases h
  | _ => intro an lv R K r ι μ w e a Q h hi hQ; unfold den at h; cases h

theorem resL_spec : ∀ {l : List ResultVar} {m : List Nat}, resL l = some m → l = m.map ResultVar.tmp
  | [], m, h => by obtain rfl := Option.some.inj h; rfl
  | .tmp t :: r, m, h => by
    simp only [resL] at h
    obtain ⟨m', h1, rfl⟩ := Option.map_eq_some_iff.mp h
    rw [resL_spec h1]; rfl
  | .cell _ _ :: r, m, h => by cases h
theorem mapM_tmps (tmps : Array Value) (g : ResultVar → Sem Value) (hg : ∀ t, g (.tmp t) = pure (tmps.getD t undef)) : ∀ (l : List Nat) (w : World), ((l.map ResultVar.tmp).mapM g).run P w = .ok (l.map (tmps.getD · undef)) w
  | [], w => rfl
  | t :: l, w => by simp only [List.map_cons, List.mapM_cons, hg, Sem.run_bind, Sem.run_pure, Result.andThen_ok, mapM_tmps tmps g hg l]
theorem results_run {fn : Func} {l : List Nat} (h : resL fn.results.toList = some l) (tmps : Array Value) (w : World) :
    ∃ v, (results fn tmps).run P w = .ok v w ∧ ((∃ t, l = [t] ∧ v = tmps.getD t undef) ∨ (l.length ≠ 1 ∧ v = .tuple (l.map (tmps.getD · undef)).toArray)) := by
  have hr := resL_spec h
  have hm : ∀ (g : ResultVar → Sem Value) (hg : ∀ t, g (.tmp t) = pure (tmps.getD t undef)), (fn.results.mapM g).run P w = .ok (l.map (tmps.getD · undef)).toArray w := by
    intro g hg
    rw [Array.mapM_eq_mapM_toList, hr, map_eq_pure_bind, Sem.run_bind, mapM_tmps tmps g hg]
    rfl
  by_cases h1 : l.length = 1
  · obtain ⟨t, rfl⟩ := List.length_eq_one_iff.mp h1
    exact ⟨tmps.getD t undef, by unfold results; rw [Sem.run_bind, hm _ (fun _ => rfl)]; simp, .inl ⟨t, rfl, rfl⟩⟩
  · exact ⟨.tuple (l.map (tmps.getD · undef)).toArray, by unfold results; rw [Sem.run_bind, hm _ (fun _ => rfl)]; simp [h1], .inr ⟨h1, rfl⟩⟩
theorem packV_rel {ι : Nat → Loc} {μ : AMem} {e : Env} {a : Act} (he : EnvR ι μ e a) {l : List Nat} {v : Value}
    (h : (∃ t, l = [t] ∧ v = a.tmps.getD t undef) ∨ (l.length ≠ 1 ∧ v = .tuple (l.map (a.tmps.getD · undef)).toArray)) : AVR ι μ (packV (l.map e)) v := by
  rcases h with ⟨t, rfl, rfl⟩ | ⟨h1, rfl⟩
  · exact he t
  · have : packV (l.map e) = .tuple (l.map e) := by
      match l, h1 with
      | [], _ => rfl
      | [t], h1 => exact absurd rfl h1
      | t :: u :: r, _ => rfl
    rw [this]
    unfold AVR
    refine ⟨_, rfl, AVRs_iff.mpr ⟨by simp, fun i x hi => ?_⟩⟩
    rw [List.getElem?_map] at hi
    obtain ⟨t, ht, rfl⟩ := Option.map_eq_some_iff.mp hi
    exact ⟨a.tmps.getD t undef, by simp [ht], he t⟩
theorem denF_sound {Γ : FuncId → FunA} (hΓ : ∀ f, Sound P f (Γ f)) (hD : DrawsSound P Γ) {f : FuncId} {fn : Func} {an : Ann} {rs : Slots} (hf : P.funcs[f]? = some fn) (hname : (fn.name == "runtime.NumGoroutine") = false) :
    Sound P f (denF P Γ fn an rs) := by
  intro as μ r μ' h
  unfold denF at h
  split at h
  · rename_i c l hb hl
    cases hle : Nat.ble as.length fn.ntmps with
    | false => rw [hle] at h; cases h
    | true =>
      rw [hle] at h
      simp only [cond_true] at h
      have hlen := Nat.le_of_ble_eq_true hle
      refine ⟨⟨fn, hf, hname, by rw [hb]; rfl⟩, fun ι w vs hs hvs => ?_⟩
      have hvl : vs.length = as.length := hvs.1
      refine calls_of_wp hf hb (den_wp hΓ hD c an _ _ (r, μ') ι μ w _ _ _ h ⟨hs, ?_, ?_, rfl⟩ ?_)
      · intro s
        have htm : (vs.toArray ++ Array.replicate (fn.ntmps - vs.toArray.size) undef).getD s undef = vs.getD s undef := by
          simp only [Array.getD_eq_getD_getElem?, List.getD_eq_getElem?_getD, Array.getElem?_append, List.size_toArray]
          by_cases hlt : s < vs.length
          · simp [hlt]
          · rw [if_neg hlt, List.getElem?_eq_none (by omega), Array.getElem?_replicate]
            split <;> rfl
        show AVR ι μ (as.getD s (.tuple [])) ((vs.toArray ++ Array.replicate (fn.ntmps - vs.toArray.size) undef).getD s undef)
        rw [htm, List.getD_eq_getElem?_getD, List.getD_eq_getElem?_getD]
        cases hx : as[s]? with
        | none =>
          have : vs[s]? = none := by rw [List.getElem?_eq_none_iff] at hx ⊢; omega
          rw [this]
          exact undef_rel _ _
        | some x =>
          obtain ⟨y, hy, hr⟩ := hvs.2 s x hx
          rw [hy]
          exact hr
      · simp; omega
      · intro ex ι' μ1 w' e' a' hK hon hin
        have fin : (some (packV (l.map e'), μ1) : Option (AV × AMem)) = some (r, μ') → a'.defers = [] ∧ ∃ v, (results fn a'.tmps).run P w' = .ok v w' ∧ Post P ι μ w r μ' (.returned v) w' := by
          intro hK
          cases hK
          obtain ⟨v, h1, h2⟩ := results_run (P := P) hl a'.tmps w'
          exact ⟨hin.defers, v, h1, ι', v, rfl, hon.tr, hon.dead, packV_rel hin.env h2⟩
        cases ex with
        | exit id => cases hK
        | normal => exact fin hK
        | ret => exact fin hK
  · cases h
end
end Go.Proofs.YtnjenjbodcihmaaGreat.E
namespace Go.Proofs.YtnjenjbodcihmaaGreat.E
open Go
set_option linter.unusedVariables false
set_option linter.unusedSimpArgs false
section
variable {R : Type} {P : Program}
theorem asI_nat {k : IntKind} {v : AV} {T : Type} {f : Int → Option T} {K : T → Option R} : (asI k v f).bind K = asI k v fun n => (f n).bind K := by
  unfold asI; split
  · exact ite_nat
  · rfl
theorem asN_nat {v : AV} {T : Type} {f : Int → Option T} {K : T → Option R} : (asN v f).bind K = asN v fun n => (f n).bind K := by unfold asN; split <;> rfl
theorem asB_nat {v : AV} {T : Type} {f : Bool → Option T} {K : T → Option R} : (asB v f).bind K = asB v fun n => (f n).bind K := by unfold asB; split <;> rfl
theorem asS_nat {v : AV} {T : Type} {f : SV → Option T} {K : T → Option R} : (asS v f).bind K = asS v fun n => (f n).bind K := by unfold asS; split <;> rfl
theorem asT_nat {v : AV} {T : Type} {f : List Int → Option T} {K : T → Option R} : (asT v f).bind K = asT v fun n => (f n).bind K := by unfold asT; split <;> rfl
theorem boundK_nat {g : FuncId} {v : AV} {T : Type} {f : AV → Option T} {K : T → Option R} : (boundK g v f).bind K = boundK g v fun n => (f n).bind K := by unfold boundK; split <;> rfl
theorem intK_nat {op : BinOp} {k : IntKind} {a b : Int} {T : Type} {f : SV → Option T} {K : T → Option R} : (intK op k a b f).bind K = intK op k a b fun n => (f n).bind K := by
  unfold intK; cases op <;> first | rfl | exact ite_nat
theorem shiftK_nat {op : BinOp} {k : IntKind} {a b : Int} {T : Type} {f : SV → Option T} {K : T → Option R} : (shiftK op k a b f).bind K = shiftK op k a b fun n => (f n).bind K := by
  unfold shiftK; cases op <;> first | rfl | exact ite_nat
theorem binK_nat {op : BinOp} {t : TypeId} {x y : AV} {T : Type} {f : AV → Option T} {K : T → Option R} : (binK P op t x y f).bind K = binK P op t x y fun n => (f n).bind K := by
  unfold binK
  cases P.underlying t with
  | none => rfl
  | some d =>
    cases d with
    | int k => dsimp only; cases isShift op <;> simp only [cond_true, cond_false, asI_nat, asN_nat, intK_nat, shiftK_nat]
    | bool => dsimp only; cases op <;> first | rfl | simp only [asB_nat]
    | pointer e =>
      dsimp only
      cases y with
      | s v => cases v with
        | nilPtr => cases op <;> first | rfl | (dsimp only; cases isNil x <;> rfl)
        | _ => cases op <;> rfl
      | _ => cases op <;> rfl
    | string => dsimp only; cases op <;> first | rfl | simp only [asT_nat]
    | _ => rfl
theorem unK_nat {op : UnOp} {v : AV} {T : Type} {f : AV → Option T} {K : T → Option R} : (unK op v f).bind K = unK op v fun n => (f n).bind K := by
  unfold unK
  cases op with
  | not => simp only [asB_nat]
  | neg => dsimp only; split <;> rfl
  | xor => dsimp only; split <;> rfl
  | _ => rfl
theorem convK_nat {s d : TypeId} {v : AV} {T : Type} {f : AV → Option T} {K : T → Option R} : (convK P s d v f).bind K = convK P s d v fun n => (f n).bind K := by
  unfold convK; split
  · simp only [asN_nat]
  · rfl
theorem nonNil_nat {v : AV} {T : Type} {f : Option T} {K : T → Option R} : (nonNil v f).bind K = nonNil v (f.bind K) := by unfold nonNil; split <;> rfl
theorem ptrAdd_nat {n : Nat} {v : AV} {T : Type} {f : AV → Option T} {K : T → Option R} : (ptrAdd n v f).bind K = ptrAdd n v fun n => (f n).bind K := by unfold ptrAdd; split <;> rfl
theorem fieldK_nat {st : TypeId} {i : Nat} {v : AV} {T : Type} {f : AV → Option T} {K : T → Option R} : (fieldK P st i v f).bind K = fieldK P st i v fun n => (f n).bind K := by
  unfold fieldK; split
  · split
    · split
      · exact ptrAdd_nat
      · rfl
    · rfl
  · rfl
theorem aggAt_nat {n : Nat} {v : AV} {T : Type} {f : AV → Option T} {K : T → Option R} : (aggAt n v f).bind K = aggAt n v fun n => (f n).bind K := by
  unfold aggAt; split
  · split <;> rfl
  · rfl
theorem aggCut_nat {m n : Nat} {v : AV} {T : Type} {f : AV → Option T} {K : T → Option R} : (aggCut m n v f).bind K = aggCut m n v fun n => (f n).bind K := by unfold aggCut; split <;> rfl
theorem partK_nat {st : TypeId} {i : Nat} {v : AV} {T : Type} {f : AV → Option T} {K : T → Option R} : (partK P st i v f).bind K = partK P st i v fun n => (f n).bind K := by
  unfold partK; split
  · split
    · split
      · exact aggCut_nat
      · exact aggAt_nat
      · rfl
    · rfl
  · rfl
theorem indS_nat {n : Nat} {v : AV} {i : Int} {T : Type} {f : AV → Option T} {K : T → Option R} : (indS n v i f).bind K = indS n v i fun n => (f n).bind K := by
  unfold indS; split
  · exact ite_nat
  · rfl
theorem indP_nat {m n : Nat} {v : AV} {i : Int} {T : Type} {f : AV → Option T} {K : T → Option R} : (indP m n v i f).bind K = indP m n v i fun n => (f n).bind K := by
  unfold indP; split
  · exact ite_nat
  · rfl
theorem indexK_nat {t : TypeId} {v i : AV} {T : Type} {f : AV → Option T} {K : T → Option R} : (indexK P t v i f).bind K = indexK P t v i fun n => (f n).bind K := by
  unfold indexK; split
  · split
    · simp only [asN_nat, indS_nat]
    · rfl
  · split
    · simp only [asN_nat, indP_nat]
    · rfl
  · rfl
theorem cutS_nat {n : Nat} {v : AV} {l h : Int} {T : Type} {f : AV → Option T} {K : T → Option R} : (cutS n v l h f).bind K = cutS n v l h fun n => (f n).bind K := by
  unfold cutS; split
  · exact ite_nat
  · exact ite_nat
  · rfl
theorem obind_nat {A T : Type} {a : Option A} {f : A → Option T} {K : T → Option R} : (a.bind f).bind K = a.bind fun x => (f x).bind K := by cases a <;> rfl
theorem sliceK_nat {t : TypeId} {lo hi : Option AV} {v : AV} {T : Type} {f : AV → Option T} {K : T → Option R} : (sliceK P t lo hi v f).bind K = sliceK P t lo hi v fun n => (f n).bind K := by
  unfold sliceK; split
  · split
    · cases lo <;> cases hi <;> simp only [asN_nat, obind_nat, cutS_nat]
    · rfl
  · rfl
theorem lenK_nat {t : TypeId} {v : AV} {T : Type} {f : AV → Option T} {K : T → Option R} : (lenK P t v f).bind K = lenK P t v fun n => (f n).bind K := by
  unfold lenK; split
  · exact obind_nat
  · rfl
theorem extrK_nat {i : Nat} {v : AV} {T : Type} {f : AV → Option T} {K : T → Option R} : (extrK i v f).bind K = extrK i v fun n => (f n).bind K := by
  unfold extrK; split
  · split <;> rfl
  · rfl
theorem pickK_nat {c a b : AV} {T : Type} {f : AV → Option T} {K : T → Option R} : (pickK c a b f).bind K = pickK c a b fun n => (f n).bind K := by
  unfold pickK; rw [asB_nat]; congr 1; funext t; cases t <;> rfl
theorem minK_nat {a b : AV} {T : Type} {f : AV → Option T} {K : T → Option R} : (minK a b f).bind K = minK a b fun n => (f n).bind K := by
  unfold minK; split
  · exact ite_nat
  · rfl
theorem maxK_nat {a b : AV} {T : Type} {f : AV → Option T} {K : T → Option R} : (maxK a b f).bind K = maxK a b fun n => (f n).bind K := by
  unfold maxK; split
  · exact ite_nat
  · rfl
theorem foldMin_nat {T : Type} {f : AV → Option T} {K : T → Option R} : ∀ (l : List AV) (a : AV), (foldMin f a l).bind K = foldMin (fun n => (f n).bind K) a l
  | [], a => rfl
  | b :: l, a => by unfold foldMin; rw [minK_nat]; congr 1; funext c; exact foldMin_nat l c
theorem foldMax_nat {T : Type} {f : AV → Option T} {K : T → Option R} : ∀ (l : List AV) (a : AV), (foldMax f a l).bind K = foldMax (fun n => (f n).bind K) a l
  | [], a => rfl
  | b :: l, a => by unfold foldMax; rw [maxK_nat]; congr 1; funext c; exact foldMax_nat l c
theorem viewK_nat {t : TypeId} {v : AV} {T : Type} {f : AV → Option T} {K : T → Option R} : (viewK P t v f).bind K = viewK P t v fun n => (f n).bind K := by
  unfold viewK; split <;> first | exact asI_nat | exact asB_nat | exact asS_nat | rfl
theorem pureK_nat {ev : Operand → AV} {op : Op} {ty : TypeId} {T : Type} {f : AV → Option T} {K : T → Option R} : (pureK P ev op ty f).bind K = pureK P ev op ty fun n => (f n).bind K := by
  cases op with
  | move x => rfl
  | assign x => rfl
  | pick c a b => exact pickK_nat
  | nilCheck x => exact nonNil_nat
  | binOp op t x y b => exact binK_nat
  | unOp op t x => exact unK_nat
  | convert s d x => exact convK_nat
  | fieldAddr st x i => exact fieldK_nat
  | field st x i => simp only [pureK, partK_nat, viewK_nat]
  | indexAddr t x i => exact indexK_nat
  | slice t x lo hi mx => cases mx with
    | none => exact sliceK_nat
    | some m => rfl
  | extract x i => simp only [pureK, extrK_nat, viewK_nat]
  | build t ps => exact obind_nat
  | makeFunc fn first caps => cases fn with
    | func g =>
      simp only [pureK]
      cases first.isEmpty
      · cases caps.isEmpty
        · rfl
        · rcases first.toList with _ | ⟨x, _ | ⟨y, l⟩⟩ <;> first | rfl | exact boundK_nat
      · exact obind_nat
    | _ => rfl
  | call c =>
    obtain ⟨ce, as, ts⟩ := c
    cases ce with
    | builtin b =>
      cases b with
      | len =>
        simp only [pureK]
        rcases as.toList with _ | ⟨x, _ | ⟨y, l⟩⟩ <;> try rfl
        rcases ts.toList with _ | ⟨t, _ | ⟨u, l⟩⟩ <;> try rfl
        exact lenK_nat
      | min =>
        simp only [pureK]
        rcases as.toList with _ | ⟨x, l⟩
        · rfl
        · exact foldMin_nat _ _
      | max =>
        simp only [pureK]
        rcases as.toList with _ | ⟨x, l⟩
        · rfl
        · exact foldMax_nat _ _
      | _ => rfl
    | _ => rfl
  | _ => rfl
theorem loadK_nat {t : TypeId} {μ : AMem} {v : AV} {T : Type} {f : AV → Option T} {K : T → Option R} : (loadK P t μ v f).bind K = loadK P t μ v fun n => (f n).bind K := by
  unfold loadK; split
  · unfold loadsAt; split
    · exact obind_nat
    · rfl
  · unfold loadAt; split
    · exact obind_nat
    · rfl
  · rfl
theorem boxV_nat {t : TypeId} {nid : Nat} {v : AV} {T : Type} {f : AObj → AV → Option T} {K : T → Option R} : (boxV t nid v f).bind K = boxV t nid v fun a b => (f a b).bind K := by
  unfold boxV; split <;> rfl
theorem makeV_nat {e n bytes : Nat} {z : List SV} {nid : Nat} {l c : Int} {T : Type} {f : AObj → AV → Option T} {K : T → Option R} : (makeV e n bytes z nid l c f).bind K = makeV e n bytes z nid l c fun a b => (f a b).bind K := by
  unfold makeV; exact ite_nat
theorem allocK_nat {ev : Operand → AV} {nid : Nat} {op : Op} {T : Type} {f : AObj → AV → Option T} {K : T → Option R} : (allocK P ev nid op f).bind K = allocK P ev nid op fun a b => (f a b).bind K := by
  unfold allocK; split
  · exact boxV_nat
  · exact obind_nat
  · split
    · simp only [obind_nat, ite_nat]; rfl
    · rfl
  · split
    · simp only [obind_nat, ite_nat, asN_nat, makeV_nat]; rfl
    · rfl
  · rfl
theorem callV_nat {Γ : FuncId → FunA} {v : AV} {as : List AV} {μ : AMem} {T : Type} {f : AV → AMem → Option T} {K : T → Option R} : (callV Γ v as μ f).bind K = callV Γ v as μ fun a b => (f a b).bind K := by
  unfold callV; split
  · exact obind_nat
  · exact obind_nat
  · rfl
theorem callK_nat {Γ : FuncId → FunA} {ev : Operand → AV} {μ : AMem} {op : Op} {ty : TypeId} {T : Type} {f : AV → AMem → Option T} {K : T → Option R} : (callK P Γ ev μ op ty f).bind K = callK P Γ ev μ op ty fun a b => (f a b).bind K := by
  unfold callK; split
  · simp only [callV_nat, viewK_nat]
  · rfl
theorem strK_nat {s d : TypeId} {μ : AMem} {v : AV} {T : Type} {f : AV → Option T} {K : T → Option R} : (strK P s d μ v f).bind K = strK P s d μ v fun n => (f n).bind K := by
  unfold strK; split
  · split
    · unfold strA; rw [obind_nat]; congr 1; funext n; rw [obind_nat]; congr 1; funext l; rw [obind_nat]
    · rfl
  · rfl
theorem stepK_nat {Γ : FuncId → FunA} {e : Env} {nid : Nat} {μ : AMem} {o : Oper} {K : AV → AMem → Option R} :
    stepK P Γ e nid μ o K = (stepK P Γ e nid μ o pairK).bind fun p => K p.1 p.2 := by
  unfold stepK; split
  · rw [pureK_nat]; rfl
  · split
    · rw [loadK_nat]; congr 1; funext v; rw [viewK_nat]; rfl
    · rw [strK_nat]; congr 1; funext v; rw [viewK_nat]; rfl
    · rfl
  · rw [allocK_nat]; rfl
  · rw [effK_nat, effK_nat (K := fun v μ' => viewK P o.type v fun v => pairK v μ')]
    rw [obind_nat]; congr 1; funext p; rw [viewK_nat]; rfl
  · rw [callK_nat]; rfl

theorem pureK_congr {ev ev' : Operand → AV} {op : Op} (h : ∀ x ∈ op.operands, ev x = ev' x) {ty : TypeId} {K : AV → Option R} : pureK P ev op ty K = pureK P ev' op ty K := by
  have args : ∀ {ce : Callee} {as : Array Operand} {ts : Array TypeId}, (∀ x ∈ (Op.call { callee := ce, args := as, argTypes := ts }).operands, ev x = ev' x) → ∀ x ∈ as.toList, ev x = ev' x :=
    fun h x hx => h x (by simp only [Op.operands, Call.operands]; exact Array.mem_append.2 (.inr (Array.mem_toList_iff.1 hx)))
  cases op with
  | call c =>
    obtain ⟨ce, as, ts⟩ := c
    have ha := args h
    cases ce with
    | builtin b =>
      cases b with
      | len =>
        simp only [pureK]
        rcases hl : as.toList with _ | ⟨x, _ | ⟨y, l⟩⟩ <;> try rfl
        rcases ts.toList with _ | ⟨t, _ | ⟨u, l⟩⟩ <;> try rfl
        simp only []
        rw [ha x (by rw [hl]; exact List.mem_cons_self ..)]
      | min =>
        simp only [pureK]
        rcases hl : as.toList with _ | ⟨x, l⟩
        · rfl
        · simp only []
          rw [ha x (by rw [hl]; exact List.mem_cons_self ..), List.map_congr_left fun y hy => ha y (by rw [hl]; exact List.mem_cons_of_mem _ hy)]
      | max =>
        simp only [pureK]
        rcases hl : as.toList with _ | ⟨x, l⟩
        · rfl
        · simp only []
          rw [ha x (by rw [hl]; exact List.mem_cons_self ..), List.map_congr_left fun y hy => ha y (by rw [hl]; exact List.mem_cons_of_mem _ hy)]
      | _ => rfl
    | _ => rfl
  | build t ps =>
    simp only [pureK]
    rw [List.map_congr_left (l := ps.toList) (g := fun p => (p.1, ev' p.2)) fun p hp => by rw [h p.2 (by simp only [Op.operands]; simp; exact ⟨p.1, by simpa using hp⟩)]]
  | makeFunc fn first caps =>
    cases fn with
    | func g =>
      simp only [pureK]
      rw [List.map_congr_left (l := caps.toList) fun x hx => h x (by simp only [Op.operands]; exact Array.mem_append.2 (.inr (Array.mem_toList_iff.1 hx)))]
      rcases hl : first.toList with _ | ⟨x, _ | ⟨y, l⟩⟩ <;> try rfl
      simp only []
      rw [h x (by simp only [Op.operands]; exact Array.mem_append.2 (.inl (Array.mem_toList_iff.1 (by rw [hl]; exact List.mem_cons_self ..))))]
    | _ => rfl
  | slice t x lo hi mx =>
    cases mx with
    | some m => rfl
    | none =>
      simp only [pureK]
      simp only [Op.operands] at h
      have e1 : lo.map ev = lo.map ev' := by cases lo with | none => rfl | some y => exact congrArg some (h y (by simp))
      have e2 : hi.map ev = hi.map ev' := by cases hi with | none => rfl | some y => exact congrArg some (h y (by simp))
      rw [e1, e2, h x (by simp)]
  | pick c a b => simp only [Op.operands] at h; simp only [pureK]; rw [h c (by simp), h a (by simp), h b (by simp)]
  | binOp bo t a b g => simp only [Op.operands] at h; simp only [pureK]; rw [h a (by simp), h b (by simp)]
  | indexAddr t a b => simp only [Op.operands] at h; simp only [pureK]; rw [h a (by simp), h b (by simp)]
  | move x => simp only [Op.operands] at h; simp only [pureK]; rw [h x (by simp)]
  | assign x => simp only [Op.operands] at h; simp only [pureK]; rw [h x (by simp)]
  | nilCheck x => simp only [Op.operands] at h; simp only [pureK]; rw [h x (by simp)]
  | unOp o t x => simp only [Op.operands] at h; simp only [pureK]; rw [h x (by simp)]
  | convert s d x => simp only [Op.operands] at h; simp only [pureK]; rw [h x (by simp)]
  | fieldAddr st x i => simp only [Op.operands] at h; simp only [pureK]; rw [h x (by simp)]
  | field st x i => simp only [Op.operands] at h; simp only [pureK]; rw [h x (by simp)]
  | extract x i => simp only [Op.operands] at h; simp only [pureK]; rw [h x (by simp)]
  | _ => rfl
theorem allocK_congr {ev ev' : Operand → AV} {op : Op} (h : ∀ x ∈ op.operands, ev x = ev' x) {nid : Nat} {K : AObj → AV → Option R} : allocK P ev nid op K = allocK P ev' nid op K := by
  cases op with
  | box t x => simp only [Op.operands] at h; simp only [allocK]; rw [h x (by simp)]
  | buildSlice t n ps =>
    simp only [allocK]
    rw [List.map_congr_left (l := ps.toList) (g := fun p => (p.1, ev' p.2)) fun p hp => by rw [h p.2 (by simp only [Op.operands]; simp; exact ⟨p.1, by simpa using hp⟩)]]
  | makeSlice t l c => simp only [Op.operands] at h; simp only [allocK]; rw [h l (by simp), h c (by simp)]
  | _ => rfl
theorem effK_congr {ev ev' : Operand → AV} {op : Op} (h : ∀ x ∈ op.operands, ev x = ev' x) {nid : Nat} {μ : AMem} {K : AV → AMem → Option R} : effK P ev nid μ op K = effK P ev' nid μ op K := by
  cases op with
  | store t a b => simp only [Op.operands] at h; simp only [effK]; rw [h a (by simp), h b (by simp)]
  | call c =>
    obtain ⟨ce, as, ts⟩ := c
    have ha : ∀ x ∈ as.toList, ev x = ev' x := fun x hx => h x (by simp only [Op.operands, Call.operands]; exact Array.mem_append.2 (.inr (Array.mem_toList_iff.1 hx)))
    cases ce with
    | builtin b =>
      cases b with
      | append =>
        simp only [effK]
        rcases hl : as.toList with _ | ⟨x, _ | ⟨y, _ | ⟨z, l⟩⟩⟩ <;> try rfl
        rcases ts.toList with _ | ⟨t, _ | ⟨u, _ | ⟨z, l⟩⟩⟩ <;> try rfl
        simp only []
        rw [ha x (by rw [hl]; simp), ha y (by rw [hl]; simp)]
      | copy =>
        simp only [effK]
        rcases hl : as.toList with _ | ⟨x, _ | ⟨y, _ | ⟨z, l⟩⟩⟩ <;> try rfl
        rcases ts.toList with _ | ⟨t, _ | ⟨u, _ | ⟨z, l⟩⟩⟩ <;> try rfl
        simp only []
        rw [ha x (by rw [hl]; simp), ha y (by rw [hl]; simp)]
      | cap =>
        simp only [effK]
        rcases hl : as.toList with _ | ⟨x, _ | ⟨y, l⟩⟩ <;> try rfl
        rcases ts.toList with _ | ⟨t, _ | ⟨u, l⟩⟩ <;> try rfl
        simp only []
        rw [ha x (by rw [hl]; simp)]
      | _ => rfl
    | _ => rfl
  | _ => rfl
theorem callK_congr {Γ : FuncId → FunA} {ev ev' : Operand → AV} {op : Op} (h : ∀ x ∈ op.operands, ev x = ev' x) {μ : AMem} {ty : TypeId} {K : AV → AMem → Option R} : callK P Γ ev μ op ty K = callK P Γ ev' μ op ty K := by
  cases op with
  | call c =>
    obtain ⟨ce, as, ts⟩ := c
    cases ce with
    | value f =>
      simp only [callK]
      simp only [Op.operands, Call.operands] at h
      rw [h f (by simp), List.map_congr_left (l := as.toList) fun x hx => h x (Array.mem_append.2 (.inr (Array.mem_toList_iff.1 hx)))]
    | _ => rfl
  | _ => rfl
theorem stepK_congr {Γ : FuncId → FunA} {e e' : Env} {nid : Nat} {μ : AMem} {o : Oper} (h : ∀ x ∈ o.op.operands, evalA e x = evalA e' x) {K : AV → AMem → Option R} :
    stepK P Γ e nid μ o K = stepK P Γ e' nid μ o K := by
  unfold stepK; split
  · exact pureK_congr h
  · split
    · rename_i t x hop
      rw [hop] at h
      simp only [Op.operands] at h
      rw [h x (by simp)]
    · rename_i s d x hop
      rw [hop] at h
      simp only [Op.operands] at h
      rw [h x (by simp)]
    · rfl
  · exact allocK_congr h
  · exact effK_congr h
  · exact callK_congr h
end
end Go.Proofs.YtnjenjbodcihmaaGreat.E
