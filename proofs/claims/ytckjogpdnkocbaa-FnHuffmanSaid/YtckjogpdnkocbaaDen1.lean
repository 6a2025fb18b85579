/- A part of the proof: The law FnHuffman is proved for every input: it returns true and its arguments read as before. No condition. How: an abstract run of the program (told in Lean, proved sound against the model) is computed for every drawn list of weights; that no code costs less than Huffman's, and that his fills all room, is proved in plain Lean on lists of trees. -/
import Derived.WalkKit
import Derived.Orders
set_option linter.unusedSimpArgs false
set_option linter.unusedVariables false
namespace Go.Proofs.Ytckjogpdnkocbaa.Den

/-- What a slot or a cell holds, told without memory. -/
inductive A where
  | undef
  | bool (b : Bool)
  | int (k : IntKind) (n : Int)
  | str (s : List UInt8)
  | sl (rows : List (List A))
  | own (b ver off n : Nat)
  | agg (cs : List A)
  | tup (vs : List A)
  | ptr (b j : Nat)
  | vptr (b ver i j : Nat)
  | eptr (row : List A) (j : Nat)
  | fn (f : FuncId) (caps : List A)
  | nilp | nilif | errv
  deriving Inhabited

inductive Blk where
  | dead
  | var (cells : List A)
  | vec (ver sz : Nat) (rows : List (List A))
  deriving Inhabited

abbrev Env := List (Nat × A)
abbrev Heap := List Blk

structure St where
  env : Env
  heap : Heap

structure Cfg where
  own : FuncId → Bool
  byRef : FuncId → Bool
  orc : FuncId → Option (List A → Option A)

structure TI where
  size : Nat
  bytes : Nat
  agg : Bool
  elem : Option TypeId
  ik : Option IntKind
  isStr : Bool
  fields : List (Nat × TypeId)
  zero : Option (List Value)

def tiOf (i : TypeInfo) (d : TypeDesc) : TI where
  size := i.size
  bytes := i.bytes
  agg := match d with | .struct _ | .array _ _ => true | _ => false
  elem := match d with | .slice e => some e | _ => none
  ik := match d with | .int k => some k | _ => none
  isStr := match d with | .string => true | _ => false
  fields := match d with | .struct fs => fs.toList.map fun f => (f.offset, f.type) | _ => []
  zero := i.zero.map fun v => v.cells.toList

def tab (P : Program) (t : TypeId) : Option TI :=
  match P.info? t, P.underlying t with
  | some i, some d => some (tiOf i d)
  | _, _ => none

def get : Env → Nat → A
  | [], _ => .undef
  | (k, v) :: r, t => if k = t then v else get r t

def put (env : Env) (d : Option Tmp) (v : A) : Env :=
  match d with
  | some d => (d, v) :: env
  | none => env

def absV : Value → A
  | .bool b => .bool b
  | .int k n => .int k n
  | .string s => .str s.data.toList
  | .slice none 0 0 => .sl []
  | .nilIface => .nilif
  | .pointer none => .nilp
  | _ => .undef

def absC : Value → A
  | .agg cs => .agg (cs.toList.map absV)
  | v => absV v

def ev (env : Env) : Operand → A
  | .tmp t => get env t
  | .const v => absC v
  | .func f => .fn f []
  | .global _ => .undef

/-- A constant, a nil slice in it being a row of the call's own, to which may be appended. -/
def virt1 (v : Value) (h : Heap) : A × Heap :=
  match v with
  | .slice none 0 0 => (.own h.length 0 0 0, h ++ [.vec 0 0 []])
  | v => (absV v, h)

def virtL : List Value → Heap → List A × Heap
  | [], h => ([], h)
  | v :: vs, h => ((virt1 v h).1 :: (virtL vs (virt1 v h).2).1, (virtL vs (virt1 v h).2).2)

def virt (v : Value) (h : Heap) : A × Heap :=
  match v with
  | .agg cs => (.agg (virtL cs.toList h).1, (virtL cs.toList h).2)
  | v => virt1 v h

def evN (env : Env) (x : Operand) (h : Heap) : A × Heap :=
  match x with
  | .const v => virt v h
  | x => (ev env x, h)

def evNs (env : Env) : List Operand → Heap → List A × Heap
  | [], h => ([], h)
  | x :: xs, h => ((evN env x h).1 :: (evNs env xs (evN env x h).2).1, (evNs env xs (evN env x h).2).2)

def A.cells : A → List A
  | .agg cs => cs
  | v => [v]

/-- No reference to a block from 'base' on. -/
def low1 (base : Nat) : A → Bool
  | .own b _ _ _ => decide (b < base)
  | .ptr b _ => decide (b < base)
  | .vptr b _ _ _ => decide (b < base)
  | .fn _ [] => true
  | .fn _ _ => false
  | .eptr _ _ => false
  | .agg _ => false
  | .tup _ => false
  | _ => true

def frz1 (h : Heap) : A → Option (A × Heap)
  | .own b ver off n => match h[b]? with
    | some (.vec ver' _ rows) => if ver = ver' then some (.sl ((rows.drop off).take n), h.set b .dead) else none
    | _ => none
  | .bool b => some (.bool b, h)
  | .int k n => some (.int k n, h)
  | .str s => some (.str s, h)
  | .sl rows => some (.sl rows, h)
  | .nilp => some (.nilp, h)
  | .nilif => some (.nilif, h)
  | .errv => some (.errv, h)
  | _ => none

def frzL : List A → Heap → Option (List A × Heap)
  | [], h => some ([], h)
  | a :: as, h => match frz1 h a with
    | some (a', h1) => match frzL as h1 with
      | some (as', h2) => some (a' :: as', h2)
      | none => none
    | none => none

/-- What a store puts into a cell of a block that was there when the call began: what the call's own rows hold is kept as it is. -/
def escL (base b : Nat) (cs : List A) (h : Heap) : Option (List A × Heap) :=
  if b < base then (if cs.all (low1 (b + 1)) = true then some (cs, h) else frzL cs h) else some (cs, h)

def setCells (cells : List A) (j : Nat) : List A → List A
  | [] => cells
  | c :: cs => setCells (cells.set j c) (j + 1) cs

def loadA (agg : Bool) (size : Nat) (cells : List A) (j : Nat) : Option A :=
  if agg = true then (if j + size ≤ cells.length then some (.agg ((cells.drop j).take size)) else none) else cells[j]?

def loadAt (agg : Bool) (size : Nat) (h : Heap) : A → Option A
  | .ptr b j => match h[b]? with
    | some (.var cs) => loadA agg size cs j
    | _ => none
  | .vptr b ver i j => match h[b]? with
    | some (.vec ver' _ rows) => if ver = ver' then (match rows[i]? with
      | some row => loadA agg size row j
      | none => none) else none
    | _ => none
  | .eptr row j => loadA agg size row j
  | _ => none

def stor1 : A → Bool
  | .undef | .agg _ | .tup _ => false
  | _ => true

def storeAt (base size : Nat) (h : Heap) (p v : A) : Option Heap :=
  if v.cells.length = size then
    match p with
    | .ptr b j => match escL base b v.cells h with
      | some (cs', h') => match h'[b]? with
        | some (.var cs) => if j + size ≤ cs.length ∧ cs'.all stor1 = true then some (h'.set b (.var (setCells cs j cs'))) else none
        | _ => none
      | none => none
    | .vptr b ver i j => match frzL v.cells h with
      | some (cs', h') => match h'[b]? with
        | some (.vec ver' sz rows) => if ver = ver' then (match rows[i]? with
          | some row => if j + size ≤ row.length then some (h'.set b (.vec ver sz (rows.set i (setCells row j cs')))) else none
          | none => none) else none
        | _ => none
      | none => none
    | _ => none
  else none

def binI (op : BinOp) (k : IntKind) (x y : Int) : Option A :=
  match op with
  | .add => some (.int k (k.wrap (x + y)))
  | .sub => some (.int k (k.wrap (x - y)))
  | .mul => some (.int k (k.wrap (x * y)))
  | .quo => if y = 0 then none else some (.int k (k.wrap (x.tdiv y)))
  | .rem => if y = 0 then none else some (.int k (x.tmod y))
  | .and => some (.int k (k.wrap (BitVec.ofInt k.bits x &&& BitVec.ofInt k.bits y).toNat))
  | .or => some (.int k (k.wrap (BitVec.ofInt k.bits x ||| BitVec.ofInt k.bits y).toNat))
  | .xor => some (.int k (k.wrap (BitVec.ofInt k.bits x ^^^ BitVec.ofInt k.bits y).toNat))
  | .eql => some (.bool (decide (x = y)))
  | .neq => some (.bool (!decide (x = y)))
  | .lss => some (.bool (decide (x < y)))
  | .leq => some (.bool (decide (x ≤ y)))
  | .gtr => some (.bool (decide (y < x)))
  | .geq => some (.bool (decide (y ≤ x)))
  | _ => none

def binSh (op : BinOp) (k : IntKind) (x y : Int) : Option A :=
  match op with
  | .shl => if y < 0 then none else some (.int k (k.wrap (x * 2 ^ (min y.toNat k.bits))))
  | .shr => if y < 0 then none else some (.int k (x.fdiv (2 ^ (min y.toNat k.bits))))
  | _ => none

def binS (op : BinOp) (x y : List UInt8) : Option A :=
  match op with
  | .add => if x.length + y.length ≤ 9223372036854775807 then some (.str (x ++ y)) else none
  | .eql => some (.bool (decide (x = y)))
  | .neq => some (.bool (!decide (x = y)))
  | .lss => some (.bool (Op.bytesLess x y))
  | .gtr => some (.bool (!(Op.bytesLess x y || decide (x = y))))
  | .leq => some (.bool (Op.bytesLess x y || decide (x = y)))
  | .geq => some (.bool (!Op.bytesLess x y))
  | _ => none

def binA (op : BinOp) (x y : A) : Option A :=
  match x, y with
  | .int k a, .int k' b => match op with
    | .shl => binSh .shl k a b
    | .shr => binSh .shr k a b
    | op => if k = k' then binI op k a b else none
  | .str a, .str b => binS op a b
  | _, _ => none

def isNilC : Operand → Bool
  | .const .nilIface => true
  | _ => false

/-- '==' and '!=' of bools, and of an interface against nil. -/
def eqA (P : Program) (op : BinOp) (t : TypeId) (x y : Operand) (a b : A) : Option A :=
  match op with
  | .eql => match a, b, P.underlying t with
    | .bool a, .bool b, some .bool => some (.bool (a == b))
    | .nilif, .nilif, some (.interface _) => if (isNilC x || isNilC y) = true then some (.bool true) else none
    | .errv, .nilif, some (.interface _) => some (.bool false)
    | .nilif, .errv, some (.interface _) => some (.bool false)
    | _, _, _ => none
  | .neq => match a, b, P.underlying t with
    | .bool a, .bool b, some .bool => some (.bool (!(a == b)))
    | .nilif, .nilif, some (.interface _) => if (isNilC x || isNilC y) = true then some (.bool false) else none
    | .errv, .nilif, some (.interface _) => some (.bool true)
    | .nilif, .errv, some (.interface _) => some (.bool true)
    | _, _, _ => none
  | _ => none

def unA (op : UnOp) (x : A) : Option A :=
  match op, x with
  | .not, .bool b => some (.bool (!b))
  | .neg, .int k n => some (.int k (k.wrap (0 - n)))
  | _, _ => none

def lenA : A → Option Nat
  | .sl rows => some rows.length
  | .own _ _ _ n => some n
  | .str s => some s.length
  | _ => none

/-- The rows of a slice that are to be read now. -/
def rowsOf (h : Heap) : A → Option (List (List A))
  | .sl rows => some rows
  | .own b ver off n => match h[b]? with
    | some (.vec ver' _ rows) => if ver = ver' then some ((rows.drop off).take n) else none
    | _ => none
  | .str s => some (s.map fun c => [.int .u8 c.toNat])
  | _ => none

def u8 : A → Option UInt8
  | .int .u8 n => some (UInt8.ofNat n.toNat)
  | _ => none

def u8s : List (List A) → Option (List UInt8)
  | [] => some []
  | [a] :: r => match u8 a, u8s r with
    | some c, some cs => some (c :: cs)
    | _, _ => none
  | _ => none

def zeroRows (ti : TI) (n : Nat) : Option (List (List A)) := ti.zero.map fun z => List.replicate n (z.map absV)

def szOk (size : Nat) (rows : List (List A)) : Bool := rows.all fun r => r.length == size && r.all stor1

/-- What is appended: a slice's rows, or so many zero ones. -/
def srcRows (te : TI) (zeros : Bool) (h : Heap) (y : A) : Option (List (List A)) :=
  if zeros = true then match y with
    | .int .i64 n => if 0 ≤ n ∧ n ≤ 9223372036854775807 ∧ n * te.bytes ≤ 281474976710656 then zeroRows te n.toNat else none
    | _ => none
  else rowsOf h y

/-- append: to a row of the call's own. -/
def appendA (te : TI) (zeros : Bool) (h : Heap) (x y : A) : Option (A × Heap) :=
  match x with
  | .own b ver off n => match h[b]? with
    | some (.vec ver' sz rows) => match srcRows te zeros h y with
      | some new =>
        if ver = ver' ∧ (sz = te.size ∨ sz = 0) ∧ 0 < te.size ∧ 0 < te.bytes ∧ te.zero.any (fun z => z.length == te.size) = true ∧ szOk te.size new = true then
          if new.length = 0 then some (.own b ver off n, h)
          else if off + n + new.length ≤ rows.length then
            some (.own b ver off (n + new.length), h.set b (.vec ver sz (rows.take (off + n) ++ new ++ rows.drop (off + n + new.length))))
          else if (n + new.length) * te.bytes ≤ 140737488355328 ∧ off = 0 then
            some (.own b (ver + 1) 0 (n + new.length), h.set b (.vec (ver + 1) te.size (rows.take n ++ new)))
          else none
        else none
      | none => none
    | _ => none
  | _ => none

def capA (h : Heap) : A → Option Int
  | .own b ver _ _ => match h[b]? with
    | some (.vec ver' sz _) => if ver = ver' ∧ sz = 0 then some 0 else none
    | _ => none
  | _ => none

def snap1 (h : Heap) : A → Option (A × List Nat)
  | .own b ver off n => match h[b]? with
    | some (.vec ver' _ rows) => if ver = ver' then some (.sl ((rows.drop off).take n), [b]) else none
    | _ => none
  | a => some (a, [])

def snapL (h : Heap) : List A → Option (List A × List Nat)
  | [] => some ([], [])
  | a :: as => match snap1 h a, snapL h as with
    | some (a', k), some (as', ks) => some (a' :: as', k ++ ks)
    | _, _ => none

def snap (h : Heap) : A → Option (A × List Nat)
  | .agg cs => match snapL h cs with
    | some (cs', k) => some (.agg cs', k)
    | none => none
  | a => snap1 h a

def snaps (h : Heap) : List A → Option (List A × List Nat)
  | [] => some ([], [])
  | a :: as => match snap h a, snaps h as with
    | some (a', k), some (as', ks) => some (a' :: as', k ++ ks)
    | _, _ => none

/-- It holds no row that may be another's. -/
def flat1 : A → Bool
  | .bool _ | .int _ _ | .str _ | .nilp | .nilif | .errv | .undef | .own _ _ _ _ | .fn _ [] => true
  | _ => false

def flatA : A → Bool
  | .agg cs => cs.all flat1
  | a => flat1 a

def flatR : A → Bool
  | .tup vs => vs.all flatA
  | a => flatA a

def flatB : Blk → Bool
  | .dead => true
  | .var cs => cs.all flat1
  | .vec _ _ rows => rows.all fun r => r.all flat1

def killAll (h : Heap) : List Nat → Heap
  | [] => h
  | b :: bs => killAll (h.set b .dead) bs

def pure1 : A → Bool
  | .bool _ | .int _ _ | .str _ | .sl _ | .nilp | .nilif | .errv | .fn _ [] => true
  | _ => false

def pureA : A → Bool
  | .agg cs => cs.all pure1
  | a => pure1 a

def shift1 (k : Nat) : A → A
  | .own b ver off n => .own (k + b) ver off n
  | a => a

def shiftA (k : Nat) : A → A
  | .agg cs => .agg (cs.map (shift1 k))
  | a => shift1 k a

def shift (k : Nat) : A → A
  | .tup vs => .tup (vs.map (shiftA k))
  | a => shiftA k a

abbrev CallFn := FuncId → List A → Heap → Option (A × Heap)

def callA (C : CallFn) (f : FuncId) (args : List A) (h : Heap) : Option (A × Heap) :=
  match snaps h args with
  | some (args', ks) =>
    if args'.all pureA = true then match C f args' [] with
      | some (r, hr) => some (shift h.length r, (if (flatR r && hr.all flatB) = true then h else killAll h ks) ++ hr)
      | none => none
    else C f args' (killAll h ks)
  | none => none

def isUndef : A → Bool
  | .undef => true
  | _ => false

def fldOff (P : Program) (t : TypeId) (i : Nat) : Option (Nat × TypeId) := (tab P t).bind fun ti => ti.fields[i]?

/-- The cells of a struct that is built: its zero cells, its parts written over. -/
def buildA (P : Program) (flds : List (Nat × TypeId)) (cells : List A) : List (Nat × A) → Option (List A)
  | [] => some cells
  | (i, v) :: rest => match flds[i]? with
    | some (off, t) => match tab P t with
      | some ti => if v.cells.length = ti.size ∧ off + ti.size ≤ cells.length ∧ isUndef v = false then buildA P flds (setCells cells off v.cells) rest else none
      | none => none
    | none => none

def rowsOfParts (size : Nat) : Nat → List (Nat × A) → Heap → Option (List (List A) × Heap)
  | _, [], h => some ([], h)
  | i, (j, v) :: rest, h =>
    if i = j ∧ v.cells.length = size then match frzL v.cells h with
      | some (r, h1) => match rowsOfParts size (i + 1) rest h1 with
        | some (rs, h2) => some (r :: rs, h2)
        | none => none
      | none => none
    else none

def evParts (env : Env) : List (Nat × Operand) → Heap → List (Nat × A) × Heap
  | [], h => ([], h)
  | (i, x) :: r, h => ((i, (evN env x h).1) :: (evParts env r (evN env x h).2).1, (evParts env r (evN env x h).2).2)

/-- The cells of a slice's elements. -/
def elemSz (P : Program) (t : TypeId) : Option Nat := match tab P t with
  | some ti => match ti.elem with
    | some e => match tab P e with
      | some te => some te.size
      | none => none
    | none => none
  | none => none

def sliceA (isStr : Bool) (size : Option Nat) (h : Heap) (x : A) (lo hi mx : Option Int) : Option A :=
  match x with
  | .str s =>
    let l := lo.getD 0
    let r := hi.getD s.length
    if 0 ≤ l ∧ l ≤ r ∧ r ≤ s.length ∧ mx = none ∧ isStr = true then some (.str ((s.drop l.toNat).take (r.toNat - l.toNat))) else none
  | .sl s =>
    let l := lo.getD 0
    let r := hi.getD s.length
    if 0 ≤ l ∧ l ≤ r ∧ r ≤ s.length ∧ mx = none ∧ size.any (szOk · s) = true then some (.sl ((s.drop l.toNat).take (r.toNat - l.toNat))) else none
  | .own b ver off n => match h[b]? with
    | some (.vec ver' sz rows) =>
      let l := lo.getD 0
      let r := hi.getD n
      if ver = ver' ∧ (size = some sz ∨ (sz = 0 ∧ size.isSome = true)) ∧ 0 ≤ l ∧ l ≤ r ∧ r + off ≤ rows.length ∧ (∀ m, mx = some m → r ≤ m ∧ m + off ≤ rows.length) ∧ (mx.isSome = true → hi.isSome = true) then some (if mx.all (fun (m : Int) => decide (m + (off : Int) = (rows.length : Int))) = true then .own b ver (off + l.toNat) (r.toNat - l.toNat) else .undef) else none
    | _ => none
  | _ => none

def intA : A → Option Int
  | .int _ n => some n
  | _ => none

/-- A bound of a slice expression, where there is one. -/
def bndA (env : Env) : Option Operand → Option (Option Int)
  | none => some none
  | some x => (intA (ev env x)).map some

def isU8 (P : Program) (t : TI) : Bool :=
  match t.elem with
  | some e => match tab P e with
    | some te => decide (te.ik = some .u8)
    | none => false
  | none => false

def byteRows (s : List UInt8) : List (List A) := s.map fun c => [.int .u8 c.toNat]

def convA (P : Program) (src dst : TI) (x : A) (h : Heap) : Option (A × Heap) :=
  match x with
  | .int _ n => match dst.ik with
    | some k => some (.int k (k.wrap n), h)
    | none => none
  | .str s => if src.isStr = true then
      (if dst.isStr = true then some (.str s, h)
      else if isU8 P dst = true then some (.own h.length 0 0 s.length, h ++ [.vec 0 1 (byteRows s)]) else none)
    else none
  | x => if dst.isStr = true ∧ isU8 P src = true ∧ (lenA x).isSome = true then match rowsOf h x with
      | some rows => match u8s rows with
        | some bs => some (.str bs, h)
        | none => none
      | none => none
    else none

def maxA : A → A → Option A
  | .int k x, .int _ y => some (.int k (if y > x then y else x))
  | _, _ => none

def minA : A → A → Option A
  | .int k x, .int _ y => some (.int k (if y < x then y else x))
  | _, _ => none

def foldA (f : A → A → Option A) : A → List A → Option A
  | a, [] => some a
  | a, b :: r => match f a b with
    | some c => foldA f c r
    | none => none

def withH (x : Option A) (h : Heap) : Option (A × Heap) :=
  match x with
  | some a => some (a, h)
  | none => none

def indexA (size : Nat) (h : Heap) (x : A) (i : Int) : Option A :=
  match x with
  | .sl rows => if 0 ≤ i then (match rows[i.toNat]? with
    | some row => if row.length = size then some (.eptr row 0) else none
    | none => none) else none
  | .own b ver off n => match h[b]? with
    | some (.vec ver' sz _) => if ver = ver' ∧ 0 ≤ i ∧ i < n ∧ sz = size then some (.vptr b ver (off + i.toNat) 0) else none
    | _ => none
  | _ => none

def fieldAddrA (x : A) (o : Nat) : Option A :=
  match x with
  | .ptr b j => some (.ptr b (j + o))
  | .vptr b ver i j => some (.vptr b ver i (j + o))
  | .eptr row j => some (.eptr row (j + o))
  | _ => none

def nilOk : A → Bool
  | .ptr _ _ | .vptr _ _ _ _ | .eptr _ _ => true
  | .fn _ _ => true
  | _ => false

/-- clear: of rows of the call's own. -/
def clearA (te : TI) (h : Heap) (x : A) : Option (A × Heap) :=
  match x with
  | .own b ver off n => match h[b]? with
    | some (.vec ver' sz rows) =>
      if ver = ver' then
        (if n = 0 then some (.tup [], h)
        else if sz = te.size ∧ te.zero.any (fun z => z.length == te.size) = true then (match zeroRows te n with
          | some zs => if szOk te.size zs = true then some (.tup [], h.set b (.vec ver sz (rows.take off ++ zs ++ rows.drop (off + n)))) else none
          | none => none)
        else none)
      else none
    | _ => none
  | _ => none

def lenTy (ti : TI) : A → Bool
  | .str _ => ti.isStr
  | _ => ti.elem.isSome

def builtinA (P : Program) (b : Builtin) (tys : List TypeId) (args : List A) (h : Heap) : Option (A × Heap) :=
  match b, tys, args with
  | .len, [t], [x] => match tab P t, lenA x with
    | some ti, some n => if lenTy ti x = true then some (.int .i64 n, h) else none
    | _, _ => none
  | .cap, [t], [x] => match tab P t, capA h x with
    | some ti, some n => if ti.elem.isSome = true then some (.int .i64 n, h) else none
    | _, _ => none
  | .append, [t, u], [x, y] => match tab P t, tab P u with
    | some ti, some tu => match ti.elem with
      | some e => match tab P e with
        | some te => appendA te tu.ik.isSome h x y
        | none => none
      | none => none
    | _, _ => none
  | .clear, [t], [x] => match tab P t with
    | some ti => match ti.elem with
      | some e => match tab P e with
        | some te => clearA te h x
        | none => none
      | none => none
    | none => none
  | .max, _, a :: r => withH (foldA maxA a r) h
  | .min, _, a :: r => withH (foldA minA a r) h
  | _, _, _ => none

def stepOp (P : Program) (cfg : Cfg) (C : CallFn) (base : Nat) (op : Op) (env : Env) (h : Heap) : Option (A × Heap) :=
  match op with
  | .move x | .assign x => some (evN env x h)
  | .pick c a b => match ev env c with
    | .bool t => some (if t = true then ev env a else ev env b, h)
    | _ => none
  | .alloc e => match tab P e with
    | some ti => match ti.zero with
      | some z => some (.ptr (virtL z h).2.length 0, (virtL z h).2 ++ [.var (virtL z h).1])
      | none => none
    | none => none
  | .box _ x => if isUndef (evN env x h).1 = true then none else some (.ptr (evN env x h).2.length 0, (evN env x h).2 ++ [.var (evN env x h).1.cells])
  | .build t parts => match tab P t with
    | some ti => match ti.zero with
      | some z => if (ti.fields.all fun f => (tab P f.2).isSome) = true ∧ ti.fields.isEmpty = false then (match buildA P ti.fields (virtL z h).1 (evParts env parts.toList (virtL z h).2).1 with
        | some cs => some (.agg cs, (evParts env parts.toList (virtL z h).2).2)
        | none => none) else none
      | none => none
    | none => none
  | .buildSlice t len parts => match tab P t with
    | some ti => match ti.elem with
      | some e => match tab P e with
        | some te => if len = parts.size ∧ len * te.size ≤ 16777216 ∧ 0 < te.size ∧ te.zero.isSome = true then
            match rowsOfParts te.size 0 (evParts env parts.toList h).1 (evParts env parts.toList h).2 with
            | some (rows, h') => some (.own h'.length 0 0 len, h' ++ [.vec 0 te.size rows])
            | none => none
          else none
        | none => none
      | none => none
    | none => none
  | .load t x => match tab P t with
    | some ti => withH (loadAt ti.agg ti.size h (ev env x)) h
    | none => none
  | .store t p x => match tab P t with
    | some ti => match storeAt base ti.size (evN env x h).2 (ev env p) (evN env x h).1 with
      | some h' => some (.undef, h')
      | none => none
    | none => none
  | .nilCheck x => if nilOk (ev env x) = true then some (ev env x, h) else none
  | .binOp op t x y _ => match binA op (ev env x) (ev env y) with
    | some a => some (a, h)
    | none => withH (eqA P op t x y (ev env x) (ev env y)) h
  | .unOp op _ x => withH (unA op (ev env x)) h
  | .convert s d x => match tab P s, tab P d with
    | some ts, some td => convA P ts td (ev env x) h
    | _, _ => none
  | .makeFunc (.func f) first caps => if first.size = 0 then some (.fn f (caps.toList.map (ev env)), h) else none
  | .makeSlice t l c => match tab P t with
    | some ti => match ti.elem with
      | some e => match tab P e with
        | some te => match ev env l, ev env c with
          | .int .i64 l, .int .i64 c =>
            if 0 ≤ l ∧ l ≤ c ∧ c * te.bytes ≤ 140737488355328 ∧ c ≤ 9223372036854775807 ∧ 0 < te.size ∧ te.zero.any (fun z => z.length == te.size) = true then
              (match zeroRows te l.toNat with
              | some rows => some (.own h.length 0 0 l.toNat, h ++ [.vec 0 te.size rows])
              | none => none)
            else none
          | _, _ => none
        | none => none
      | none => none
    | none => none
  | .slice t x lo hi mx => match bndA env lo, bndA env hi, bndA env mx with
    | some lo, some hi, some mx => withH (sliceA ((tab P t).any TI.isStr) (elemSz P t) h (ev env x) lo hi mx) h
    | _, _, _ => none
  | .fieldAddr t x i => match fldOff P t i with
    | some (o, ft) => if (tab P ft).any (fun ti => Nat.blt 0 ti.size) = true then withH (fieldAddrA (ev env x) o) h else none
    | none => none
  | .field t x i => match fldOff P t i with
    | some (o, ft) => match tab P ft, ev env x with
      | some ti, .agg cs => withH (loadA ti.agg ti.size cs o) h
      | _, _ => none
    | none => none
  | .indexAddr t x i => match elemSz P t, ev env i with
    | some size, .int _ i => withH (indexA size h (ev env x) i) h
    | _, _ => none
  | .index t x i => match ev env x, ev env i with
    | .str s, .int _ i => if 0 ≤ i ∧ (tab P t).any TI.isStr = true then (match s[i.toNat]? with
      | some c => some (.int .u8 c.toNat, h)
      | none => none) else none
    | _, _ => none
  | .extract x i => match ev env x with
    | .tup vs => withH vs[i]? h
    | _ => none
  | .call { callee := .builtin b, args, argTypes } => builtinA P b argTypes.toList (args.toList.map (ev env)) h
  | .call { callee := .value f, args, .. } => match ev env f with
    | .fn f caps => if cfg.byRef f = true then C f ((evNs env args.toList h).1 ++ caps) (evNs env args.toList h).2 else callA C f (args.toList.map (ev env) ++ caps) h
    | _ => none
  | _ => none

def bindS (x : Option (A × Heap)) (f : A → Heap → Option St) : Option St :=
  match x with
  | some (a, h) => f a h
  | none => none

def guardOk (ops : Array Oper) (env : Env) (g : Option (Nat × Bool)) : Option Bool :=
  match g with
  | none => some true
  | some (j, want) => match (ops[j]?).bind (·.dst) with
    | some d => match get env d with
      | .bool b => some (b == want)
      | .undef => none
      | _ => some false
    | none => none

def stepOps (P : Program) (cfg : Cfg) (C : CallFn) (base nt : Nat) (all : Array Oper) : List Oper → Env → Heap → Option St
  | [], env, h => some ⟨env, h⟩
  | o :: rest, env, h =>
    match guardOk all env o.guard with
    | some true => bindS (stepOp P cfg C base o.op env h) fun v h => stepOps P cfg C base nt all rest (put env o.dst v) h
    | some false => stepOps P cfg C base nt all rest (put env o.dst .undef) h
    | none => none

/-! Regions that draw their order. -/

inductive Knd where
  | q | e | f

/-- Taken ahead of its turn: it writes nothing. -/
def isQ : Op → Bool
  | .move _ | .pick _ _ _ | .load _ _ | .nilCheck _ | .binOp _ _ _ _ _ | .unOp _ _ _ | .convert _ _ _ | .slice _ _ _ _ _ | .fieldAddr _ _ _ | .field _ _ _ | .indexAddr _ _ _ | .index _ _ _ | .extract _ _ => true
  | .call { callee := .builtin .len, .. } => true
  | .call { callee := .builtin .cap, .. } => true
  | .call { callee := .builtin .max, .. } => true
  | .call { callee := .builtin .min, .. } => true
  | _ => false

/-- A new variable: it may come at any time. -/
def isF : Op → Bool
  | .alloc _ => true
  | _ => false

def isQat (ops : Array Oper) (i : Nat) : Bool := match ops[i]? with
  | some o => isQ o.op
  | none => false
def isFat (ops : Array Oper) (i : Nat) : Bool := match ops[i]? with
  | some o => isF o.op
  | none => false
def dstAt (ops : Array Oper) (i : Nat) : Option Tmp := (ops[i]?).bind (·.dst)

def afterB (ops : Array Oper) (i j : Nat) : Bool := match ops[i]? with
  | some o => o.after.any fun e => Region.binds .any e && Nat.beq e.on j
  | none => false

def looksB (ops : Array Oper) (i : Nat) (d : Option Tmp) : Bool := match ops[i]?, d with
  | some o, some d => (o.looksAt ops).contains d
  | _, _ => false

def withF (ops : Array Oper) (l : Array Bool) : Array Bool := ((List.range ops.size).map fun i => l.getD i true || isFat ops i).toArray

def drawOrd (ops : Array Oper) : Nat → Array Bool → List (Nat × Knd)
  | 0, _ => []
  | n + 1, l => match (Region.ready .any ops l).find? (isQat ops) with
    | some i => (i, .q) :: drawOrd ops n (l.setIfInBounds i true)
    | none => match (Region.ready .any ops l).find? (fun i => !isFat ops i) with
      | some i => (i, .e) :: drawOrd ops n (l.setIfInBounds i true)
      | none => match Region.ready .any ops l with
        | i :: _ => (i, .f) :: drawOrd ops n (l.setIfInBounds i true)
        | [] => []

def kndOk (ops : Array Oper) (l : Array Bool) (i : Nat) : Knd → Bool
  | .q => isQat ops i
  | .e => !isQat ops i && !isFat ops i && (Region.ready .any ops (withF ops l)).all fun j => Nat.beq j i
  | .f => isFat ops i && (match ops[i]? with
      | some o => o.guard.isNone
      | none => false) && (Region.ready .any ops ((withF ops l).setIfInBounds i false)).all fun j => Nat.beq j i

def ordOk (ops : Array Oper) : List (Nat × Knd) → Array Bool → Bool
  | [], l => (List.range ops.size).all fun i => l.getD i false
  | (i, k) :: r, l => (Region.ready .any ops l).contains i && kndOk ops l i k && ordOk ops r (l.setIfInBounds i true)

/-- 'i' is taken ahead: what 'j' must not touch. -/
def apartQ (ops : Array Oper) (i j : Nat) : Bool :=
  (!looksB ops j (dstAt ops i) || afterB ops j i) &&
  (!looksB ops i (dstAt ops j) || afterB ops i j || (afterB ops j i && !isQat ops j)) &&
  (!(dstAt ops j == dstAt ops i) || (!isQat ops j && (afterB ops i j || afterB ops j i)))

def apartOk (ops : Array Oper) : Bool := (List.range ops.size).all fun i =>
  (!isQat ops i || ((dstAt ops i).isSome && !looksB ops i (dstAt ops i) && (List.range ops.size).all fun j => Nat.beq j i || apartQ ops i j)) &&
  (!isFat ops i || ((dstAt ops i).isSome && (List.range ops.size).all fun j => Nat.beq j i || !(dstAt ops j == dstAt ops i))) &&
  (match ops[i]? with
    | some o => o.after.all fun e => !Region.binds .any e || Nat.blt e.on i
    | none => false)

def plan (ops : Array Oper) : Option (List (Nat × Knd)) :=
  if (ordOk ops (drawOrd ops ops.size (Array.replicate ops.size false)) (Array.replicate ops.size false) && apartOk ops) = true then some (drawOrd ops ops.size (Array.replicate ops.size false)) else none

/-- What an operation gives that changes nothing. -/
noncomputable def gq (P : Program) (cfg : Cfg) (base : Nat) (ops : Array Oper) (i : Nat) (env : Env) (h : Heap) : Option A :=
  match ops[i]? with
  | some o => match guardOk ops env o.guard with
    | some true => match stepOp P cfg (fun _ _ _ => none) base o.op env h with
      | some (v, h') => haveI := Classical.propDecidable (h' = h); if h' = h then some v else none
      | none => none
    | some false => some .undef
    | none => none
  | none => none

/-- What was taken ahead is as it would be now. -/
def prom (P : Program) (cfg : Cfg) (base : Nat) (ops : Array Oper) (i : Nat) (env : Env) (h : Heap) : List Nat → Prop
  | [] => True
  | j :: js => (afterB ops i j = true ∨ gq P cfg base ops j env h = (dstAt ops j).map (get env)) ∧ prom P cfg base ops i env h js

noncomputable def ifProm (p : Prop) (x : Option St) : Option St :=
  haveI := Classical.propDecidable p
  if p then x else none

noncomputable def stepDraw (P : Program) (cfg : Cfg) (C : CallFn) (base : Nat) (ops : Array Oper) : List (Nat × Knd) → List Nat → Env → Heap → Option St
  | [], _, env, h => some ⟨env, h⟩
  | (i, .q) :: r, js, env, h => match gq P cfg base ops i env h with
    | some v => stepDraw P cfg C base ops r (i :: js) (put env (dstAt ops i) v) h
    | none => none
  | (i, .e) :: r, js, env, h => match ops[i]? with
    | some o => match guardOk ops env o.guard with
      | some true => bindS (stepOp P cfg C base o.op env h) fun v h => ifProm (prom P cfg base ops i (put env o.dst v) h js) (stepDraw P cfg C base ops r js (put env o.dst v) h)
      | some false => ifProm (prom P cfg base ops i (put env o.dst .undef) h js) (stepDraw P cfg C base ops r js (put env o.dst .undef) h)
      | none => none
    | none => none
  | (i, .f) :: r, js, env, h => match ops[i]? with
    | some o => bindS (stepOp P cfg C base o.op env h) fun v h => ifProm (prom P cfg base ops i (put env o.dst v) h js) (stepDraw P cfg C base ops r js (put env o.dst v) h)
    | none => none

def hideF : List Oper → Env → Env
  | [], env => env
  | o :: r, env => hideF r (if isF o.op = true then put env o.dst .undef else env)

inductive X where
  | normal | exit (id : Nat) | ret

def bindX (x : Option (X × St)) (f : St → Option (X × St)) : Option (X × St) :=
  match x with
  | some (.normal, s) => f s
  | o => o

def outB (id : Nat) : Option (X × St) → Option (X × St)
  | some (.exit i, s) => if i = id then some (.normal, s) else some (.exit i, s)
  | o => o

def toX (x : Option St) : Option (X × St) :=
  match x with
  | some s => some (.normal, s)
  | none => none

def initEnv : Nat → List A → Env
  | _, [] => []
  | i, a :: as => (i, a) :: initEnv (i + 1) as

def ret1 (own : Bool) (base : Nat) (h new : Heap) : A → Option (A × Heap × Heap)
  | .own b ver off n =>
    if b < base then some (.own b ver off n, h, new)
    else match h[b]? with
      | some (.vec ver' sz rows) =>
        if ver = ver' then
          (if own = true then some (.own (base + new.length) 0 off n, h.set b .dead, new ++ [.vec 0 sz (rows.take (off + n))])
          else some (.sl ((rows.drop off).take n), h, new))
        else none
      | _ => none
  | .ptr b j => if b < base then some (.ptr b j, h, new) else none
  | a => if pure1 a = true then some (a, h, new) else none

def retL (own : Bool) (base : Nat) : Heap → Heap → List A → Option (List A × Heap × Heap)
  | h, new, [] => some ([], h, new)
  | h, new, a :: as => match ret1 own base h new a with
    | some (a', h1, new1) => match retL own base h1 new1 as with
      | some (as', h2, new2) => some (a' :: as', h2, new2)
      | none => none
    | none => none

def retA (own : Bool) (base : Nat) (h new : Heap) : A → Option (A × Heap × Heap)
  | .agg cs => match retL own base h new cs with
    | some (cs', h1, new1) => some (.agg cs', h1, new1)
    | none => none
  | a => ret1 own base h new a

def retAs (own : Bool) (base : Nat) : Heap → Heap → List A → Option (List A × Heap × Heap)
  | h, new, [] => some ([], h, new)
  | h, new, a :: as => match retA own base h new a with
    | some (a', h1, new1) => match retAs own base h1 new1 as with
      | some (as', h2, new2) => some (a' :: as', h2, new2)
      | none => none
    | none => none

def resVals (P : Program) (env : Env) (h : Heap) : List ResultVar → Option (List A)
  | [] => some []
  | .tmp t :: r => match resVals P env h r with
    | some vs => some (get env t :: vs)
    | none => none
  | .cell a t :: r => match tab P t with
    | some ti => match loadAt ti.agg ti.size h (get env a), resVals P env h r with
      | some v, some vs => some (v :: vs)
      | _, _ => none
    | none => none

def wrapRes : List A → A
  | [a] => a
  | vs => .tup vs

def retF (P : Program) (cfg : Cfg) (f : FuncId) (base : Nat) (res : List ResultVar) (s : St) : Option (A × Heap) :=
  match resVals P s.env s.heap res with
  | some vs => match retAs (cfg.own f) base s.heap [] vs with
    | some (vs', h', new) => some (wrapRes vs', h'.take base ++ new)
    | none => none
  | none => none

def finish (P : Program) (cfg : Cfg) (f : FuncId) (base : Nat) (res : List ResultVar) : Option (X × St) → Option (A × Heap)
  | some (.normal, s) | some (.ret, s) => retF P cfg f base res s
  | _ => none

/-- All slots that the code writes lie in the frame. -/
def okDst (nt : Nat) : Option Tmp → Bool
  | none => true
  | some d => Nat.blt d nt
def okCode (nt : Nat) : Code → Bool
  | .seq a b => okCode nt a && okCode nt b
  | .cond _ a b => okCode nt a && okCode nt b
  | .block _ c => okCode nt c
  | .loop c => okCode nt c
  | .region _ ops _ => ops.toList.all fun o => okDst nt o.dst
  | _ => true
def okFn (fn : Func) (n : Nat) : Bool := Nat.ble n fn.ntmps && (match fn.body with | some c => okCode fn.ntmps c | none => true)

/-- A call of the function itself, its body by 'E'. -/
def callBy (P : Program) (cfg : Cfg) (E : Nat → Nat → Code → Env → Heap → Option (X × St)) : CallFn := fun f args h =>
  match cfg.orc f with
  | some g => match g args with
    | some r => some (r, h)
    | none => none
  | none => match P.funcs[f]? with
    | some fn => match fn.body with
      | some c => if okFn fn args.length = true then finish P cfg f h.length fn.results.toList (E h.length fn.ntmps c (initEnv 0 args) h) else none
      | none => none
    | none => none

noncomputable def exec (P : Program) (cfg : Cfg) : Nat → Nat → Nat → Code → Env → Heap → Option (X × St)
  | 0, _, _, _, _, _ => none
  | k + 1, base, nt, c, env, h =>
    match c with
    | .skip => some (.normal, ⟨env, h⟩)
    | .seq a b => bindX (exec P cfg k base nt a env h) fun s => exec P cfg k base nt b s.env s.heap
    | .cond c a b => match ev env c with
      | .bool t => if t = true then exec P cfg k base nt a env h else exec P cfg k base nt b env h
      | _ => none
    | .block id c => outB id (exec P cfg k base nt c env h)
    | .loop c => bindX (exec P cfg k base nt c env h) fun s => exec P cfg k base nt (.loop c) s.env s.heap
    | .exit id => some (.exit id, ⟨env, h⟩)
    | .ret => some (.ret, ⟨env, h⟩)
    | .region _ ops false => toX (stepOps P cfg (callBy P cfg (exec P cfg k)) base nt ops ops.toList env h)
    | .region _ ops true => match plan ops with
      | some ord => toX (stepDraw P cfg (callBy P cfg (exec P cfg k)) base ops ord [] (hideF ops.toList env) h)
      | none => none
    | _ => none

end Go.Proofs.Ytckjogpdnkocbaa.Den
