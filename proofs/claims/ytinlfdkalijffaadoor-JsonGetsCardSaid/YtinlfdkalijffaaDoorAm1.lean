/-
  THE ABSTRACT MACHINE, 1: values, memory, operations, the big-step relation and its rules. Nothing of the model's world, tape, capacities or block numbers occurs here.
-/
import GoSem.Step
import Derived.Attr
set_option linter.unusedSimpArgs false
set_option linter.unusedVariables false
namespace Go.Proofs.YtinlfdkalijffaaDoor.Am
open Go

/-- What a slice's spare room is: none (full), unknown (no), or told by a token. -/
inductive Own where
  | full | no | tok (t : Nat)
  deriving DecidableEq

/-- Abstract values. A slice 'sl' is the list of its elements, never written again; 'osl' is one over a variable of memory. -/
inductive AV where
  | u | bool (b : Bool) | int (k : IntKind) (n : Int) | str (s : List UInt8)
  | agg (cs : List AV) | tup (vs : List AV)
  | nilSl | sl (o : Own) (sz : Nat) (xs : List AV) | osl (id off len cap sz : Nat)
  | nilPtr | ptr (id off : Nat) | sptr (cs : List AV) (off : Nat) | bptr (t : TypeId) (cs : List AV)
  | nilMap | map (id : Nat) | nilFn | fn (f : Fn) (first cap : List AV) | nilIface | iface (t : TypeId) (v : AV)

inductive AObj where
  | dead | cells (t : TypeId) (cs : List AV) | map (es : List (AV × AV)) | iter (s : List UInt8) (pos : Nat)

structure Mem where
  get : Nat → AObj
  next : Nat
  live : Nat → Bool
  ntok : Nat
  tty : Nat → TypeId

namespace Mem
def alloc (m : Mem) (o : AObj) : Mem := { m with get := fun i => if i = m.next then o else m.get i, next := m.next + 1 }
def set (m : Mem) (i : Nat) (o : AObj) : Mem := { m with get := fun j => if j = i then o else m.get j }
def newTok (m : Mem) (t : TypeId) : Mem := { m with live := fun i => if i = m.ntok then true else m.live i, ntok := m.ntok + 1, tty := fun i => if i = m.ntok then t else m.tty i }
def killTok (m : Mem) (t : Nat) : Mem := { m with live := fun i => if i = t then false else m.live i }
end Mem

def AV.cells : AV → List AV
  | .agg cs => cs
  | v => [v]

/-- A value that one cell can hold. -/
def scal : AV → Bool
  | .u | .agg _ | .tup _ => false
  | _ => true

def known : AV → Bool
  | .u => false
  | _ => true

def part (isAgg : Bool) (n : Nat) (cs : List AV) (off : Nat) : Option AV :=
  match isAgg with
  | true => if off + n ≤ cs.length then some (.agg ((cs.drop off).take n)) else none
  | false => cs[off]?

def setCells : List AV → Nat → List AV → List AV
  | cs, _, [] => cs
  | cs, off, y :: ys => setCells (cs.set off y) (off + 1) ys

namespace Mem
def load (m : Mem) (isAgg : Bool) (n : Nat) : AV → Option AV
  | .ptr id off => match m.get id with
    | .cells _ cs => part isAgg n cs off
    | _ => none
  | .sptr cs off => part isAgg n cs off
  | _ => none

def store (m : Mem) (n : Nat) (a x : AV) : Option Mem :=
  match a with
  | .ptr id off => match m.get id with
    | .cells t cs => if x.cells.length = n ∧ off + n ≤ cs.length ∧ x.cells.all scal = true then some (m.set id (.cells t (setCells cs off x.cells))) else none
    | _ => none
  | _ => none
end Mem

/-! ### operators -/
def intV (op : BinOp) (k : IntKind) (a : Int) (k' : IntKind) (b : Int) : Option AV :=
  match op with
  | .shl => if 0 ≤ b then some (.int k (k.wrap (a * 2 ^ (min b.toNat k.bits)))) else none
  | .shr => if 0 ≤ b then some (.int k (a.fdiv (2 ^ (min b.toNat k.bits)))) else none
  | .add => if k = k' then some (.int k (k.wrap (a + b))) else none
  | .sub => if k = k' then some (.int k (k.wrap (a - b))) else none
  | .mul => if k = k' then some (.int k (k.wrap (a * b))) else none
  | .quo => if k = k' then (if b = 0 then none else some (.int k (k.wrap (a.tdiv b)))) else none
  | .rem => if k = k' then (if b = 0 then none else some (.int k (a.tmod b))) else none
  | .and => if k = k' then some (.int k (k.wrap (BitVec.ofInt k.bits a &&& BitVec.ofInt k.bits b).toNat)) else none
  | .or => if k = k' then some (.int k (k.wrap (BitVec.ofInt k.bits a ||| BitVec.ofInt k.bits b).toNat)) else none
  | .xor => if k = k' then some (.int k (k.wrap (BitVec.ofInt k.bits a ^^^ BitVec.ofInt k.bits b).toNat)) else none
  | .andNot => if k = k' then some (.int k (k.wrap (BitVec.ofInt k.bits a &&& ~~~(BitVec.ofInt k.bits b)).toNat)) else none
  | .eql => if k = k' then some (.bool (a == b)) else none
  | .neq => if k = k' then some (.bool (a != b)) else none
  | .lss => if k = k' then some (.bool (decide (a < b))) else none
  | .leq => if k = k' then some (.bool (decide (a ≤ b))) else none
  | .gtr => if k = k' then some (.bool (decide (a > b))) else none
  | .geq => if k = k' then some (.bool (decide (a ≥ b))) else none

def strV (op : BinOp) (a b : List UInt8) : Option AV :=
  match op with
  | .add => if a.length + b.length ≤ 2 ^ 62 then some (.str (a ++ b)) else none
  | .eql => some (.bool (a == b))
  | .neq => some (.bool (!(a == b)))
  | .lss => some (.bool (Op.bytesLess a b))
  | .leq => some (.bool (Op.bytesLess a b || a == b))
  | .gtr => some (.bool (!(Op.bytesLess a b || a == b)))
  | .geq => some (.bool (!(Op.bytesLess a b)))
  | _ => none

def binV (op : BinOp) : AV → AV → Option AV
  | .int k a, .int k' b => intV op k a k' b
  | .str a, .str b => strV op a b
  | _, _ => none

/-- Types whose values are compared by '==' where the operands are no numbers and no strings themselves. -/
inductive EqL where
  | bool | int | str | ptr | sli | map | func | ifaceE | ifaceM
  deriving DecidableEq
inductive EqT where
  | leaf (l : EqL)
  | struct (fs : List (Nat × EqL))

def eqL : EqL → AV → AV → Option Bool
  | .bool, .bool a, .bool b => some (a == b)
  | .int, .int k a, .int k' b => if k = k' then some (a == b) else none
  | .str, .str a, .str b => some (a == b)
  | .ptr, .nilPtr, .nilPtr => some true
  | .ptr, .nilPtr, .ptr _ _ => some false
  | .ptr, .ptr _ _, .nilPtr => some false
  | .ptr, .nilPtr, .sptr _ _ => some false
  | .ptr, .sptr _ _, .nilPtr => some false
  | .ptr, .ptr i o, .ptr i' o' => some (decide (i = i' ∧ o = o'))
  | .sli, .nilSl, .nilSl => some true
  | .sli, .nilSl, .sl _ _ _ => some false
  | .sli, .sl _ _ _, .nilSl => some false
  | .sli, .nilSl, .osl _ _ _ _ _ => some false
  | .sli, .osl _ _ _ _ _, .nilSl => some false
  | .map, .nilMap, .nilMap => some true
  | .map, .nilMap, .map _ => some false
  | .map, .map _, .nilMap => some false
  | .func, .nilFn, .nilFn => some true
  | .func, .nilFn, .fn _ _ _ => some false
  | .func, .fn _ _ _, .nilFn => some false
  | .ifaceE, .nilIface, .nilIface => some true
  | .ifaceE, .nilIface, .iface _ _ => some false
  | .ifaceE, .iface _ _, .nilIface => some false
  | .ifaceM, .nilIface, .iface _ _ => some false
  | .ifaceM, .iface _ _, .nilIface => some false
  | _, _, _ => none

def eqFs : List (Nat × EqL) → List AV → List AV → Option Bool
  | [], _, _ => some true
  | (off, l) :: fs, xs, ys => match xs[off]?, ys[off]? with
    | some a, some b => match eqL l a b, eqFs fs xs ys with
      | some p, some q => some (p && q)
      | _, _ => none
    | _, _ => none

def eqV : EqT → AV → AV → Option Bool
  | .leaf l, a, b => eqL l a b
  | .struct fs, .agg xs, .agg ys => eqFs fs xs ys
  | _, _, _ => none

/-- Variables whose addresses are held against each other are there. -/
def isCells : AObj → Bool
  | .cells _ _ => true
  | _ => false
def eqSafeB (m : Mem) : AV → AV → Bool
  | .ptr i _, .ptr j _ => isCells (m.get i) && isCells (m.get j)
  | _, _ => true

/-- Keys of maps: numbers, strings, bools. -/
def keyEq : AV → AV → Option Bool
  | .int k a, .int k' b => if k = k' then some (a == b) else none
  | .str a, .str b => some (a == b)
  | .bool a, .bool b => some (a == b)
  | _, _ => none
inductive KK where
  | int | str | bool
  deriving DecidableEq
def isKK : KK → AV → Bool
  | .int, .int _ _ => true
  | .str, .str _ => true
  | .bool, .bool _ => true
  | _, _ => false
def isKey : AV → Bool
  | .int _ _ | .str _ | .bool _ => true
  | _ => false
/-- The value at a key (some (some v)), that there is none (some none). -/
def mapFind (k : AV) : List (AV × AV) → Option (Option AV)
  | [] => some none
  | (k', v) :: es => match keyEq k k' with
    | some true => some (some v)
    | some false => mapFind k es
    | none => none
def mapPut (k v : AV) : List (AV × AV) → List (AV × AV)
  | [] => [(k, v)]
  | (k', v') :: es => if keyEq k k' = some true then (k, v) :: es else (k', v') :: mapPut k v es
def mapDrop (k : AV) (es : List (AV × AV)) : List (AV × AV) := es.filter fun e => keyEq k e.1 != some true

/-! ### slices -/
def byteAV (b : UInt8) : AV := .int .u8 b.toNat
def bytesAV (l : List UInt8) : List AV := l.map byteAV
def unbyte : AV → Option UInt8
  | .int .u8 n => some (UInt8.ofNat n.toNat)
  | _ => none
def unbytes : List AV → Option (List UInt8)
  | [] => some []
  | v :: vs => match unbyte v, unbytes vs with
    | some b, some bs => some (b :: bs)
    | _, _ => none
/-- The elements of a slice that is a value, or of a string. -/
def elems : AV → Option (List AV)
  | .nilSl => some []
  | .sl _ _ xs => some xs
  | .str s => some (bytesAV s)
  | _ => none

/-- The greatest number of bytes that an append may come to here. -/
def roomMax : Nat := 2 ^ 46

def appendV (m : Mem) (e : TypeId) (sz bytes : Nat) (a : AV) (ys : List AV) : Option (AV × Mem) :=
  match a with
  | .nilSl => if ys = [] then some (.nilSl, m) else
      if ys.length * bytes ≤ roomMax ∧ ys.all (fun y => y.cells.length == sz && y.cells.all scal) = true then some (.sl (.tok m.ntok) sz ys, m.newTok e) else none
  | .sl o sz' xs => if sz' = sz then (if ys = [] then some (.sl o sz xs, m) else
      if (xs.length + ys.length) * bytes ≤ roomMax ∧ ys.all (fun y => y.cells.length == sz && y.cells.all scal) = true then
        match o with
        | .full => some (.sl (.tok m.ntok) sz (xs ++ ys), m.newTok e)
        | .tok t => if m.live t = true ∧ m.tty t = e then some (.sl (.tok m.ntok) sz (xs ++ ys), (m.killTok t).newTok e) else none
        | .no => none
      else none) else none
  | _ => none

/-- A bound of a slice expression. -/
def boundV (d : Nat) (max : Nat) : Option AV → Option Nat
  | none => some d
  | some (.int _ i) => if 0 ≤ i ∧ i ≤ max then some i.toNat else none
  | some _ => none

def sliceStr (x : AV) (lo hi : Option AV) : Option AV :=
  match x with
  | .str s => match boundV s.length s.length hi with
    | some h => match boundV 0 h lo with
      | some l => some (.str ((s.take h).drop l))
      | none => none
    | none => none
  | _ => none

def szOk (sz : Nat) : AV → Bool
  | .sl _ s _ => s == sz
  | .osl _ _ _ _ s => s == sz
  | _ => true
def ownOf (o : Own) (h len : Nat) : Own := if h = len then o else .no
def sliceSl (x : AV) (lo hi mx : Option AV) : Option AV :=
  match x with
  | .nilSl => if mx.isSome = true ∧ hi.isNone = true then none else match boundV 0 0 mx, boundV 0 0 hi, boundV 0 0 lo with
    | some _, some _, some _ => some .nilSl
    | _, _, _ => none
  | .sl o sz xs => match mx with
    | none => match boundV xs.length xs.length hi with
      | some h => match boundV 0 h lo with
        | some l => some (.sl (ownOf o h xs.length) sz ((xs.take h).drop l))
        | none => none
      | none => none
    | some _ => match boundV 0 xs.length mx with
      | some k => match hi with
        | none => none
        | some _ => match boundV 0 k hi with
          | some h => match boundV 0 h lo with
            | some l => some (.sl (if h = k then .full else .no) sz ((xs.take h).drop l))
            | none => none
          | none => none
      | none => none
  | .osl id off len cap sz => match mx with
    | none => match boundV len cap hi with
      | some h => match boundV 0 h lo with
        | some l => some (.osl id (if cap = l then off else off + l * sz) (h - l) (cap - l) sz)
        | none => none
      | none => none
    | some _ => none
  | _ => none

/-! ### operations -/
inductive Opd where
  | loc (i : Nat) | var (j : Nat) | cst (v : AV)
def Opd.ev (env fr : List AV) : Opd → AV
  | .loc i => env.getD i .u
  | .var j => fr.getD j .u
  | .cst v => v

inductive LK where
  | str | sli | map
def isLK : LK → AV → Bool
  | .str, .str _ => true
  | .sli, .nilSl => true
  | .sli, .sl _ _ _ => true
  | .sli, .osl _ _ _ _ _ => true
  | .map, .nilMap => true
  | .map, .map _ => true
  | _, _ => false

inductive AOp where
  | move (x : Opd) | pick (c a b : Opd)
  | alloc (t : TypeId) (z : List AV) | box (t : TypeId) (x : Opd)
  | build (z : List AV) (ps : List (Nat × Nat × Opd))
  | buildSl (sz : Nat) (z : AV) (n : Nat) (ps : List (Nat × Opd))
  | load (isAgg : Bool) (n : Nat) (a : Opd) | store (n : Nat) (a x : Opd)
  | nilck (x : Opd)
  | bin (op : BinOp) (x y : Opd) | eq (neg : Bool) (t : EqT) (x y : Opd)
  | not (x : Opd) | neg (x : Opd) | inv (x : Opd)
  | convI (k : IntKind) (x : Opd) | bytesOf (e : TypeId) (x : Opd) | strOf (x : Opd) | runeStr (x : Opd)
  | mkIface (t : TypeId) (x : Opd) | mkFn (f : Fn) (first cap : List Opd)
  | mkMap | mkSl (t : TypeId) (sz bytes : Nat) (z : AV) (l c : Opd)
  | sliceS (x : Opd) (lo hi : Option Opd) | sliceL (sz : Nat) (x : Opd) (lo hi mx : Option Opd)
  | fieldAddr (off : Nat) (x : Opd) | field (isAgg : Bool) (n off : Nat) (x : Opd)
  | idxAddr (sz : Nat) (x i : Opd) | idxAddrA (len sz : Nat) (x i : Opd) | idxS (x i : Opd) | idxA (isAgg : Bool) (len sz : Nat) (x i : Opd)
  | lookup (kd : KK) (z : AV) (ok : Bool) (m k : Opd) | mapUpd (kd : KK) (m k v : Opd) | del (kd : KK) (m k : Opd)
  | rangeS (x : Opd) | nextS (x : Opd)
  | tassert (t : TypeId) (z : AV) (ok : Bool) (x : Opd)
  | extract (i : Nat) (x : Opd)
  | len (k : LK) (x : Opd) | min (x y : Opd) | max (x y : Opd)
  | append (e : TypeId) (sz bytes : Nat) (a b : Opd)
  | convP (x : Opd) | convU (alts : List (TypeId × Nat × Nat)) (x : Opd)
  | sliceData (x : Opd) | unsafeStr (u : TypeId) (x n : Opd) | idxByte (x c : Opd)
  | panic (x : Opd)
  | call (f : FuncId) (args : List Opd) | callV (fv : Opd) (args : List Opd)

def buildV : List AV → List (Nat × Nat × AV) → Option AV
  | z, [] => some (.agg z)
  | z, (off, size, x) :: ps => if x.cells.length = size ∧ off + size ≤ z.length ∧ x.cells.all scal = true then buildV (setCells z off x.cells) ps else none

def buildSlV (sz n : Nat) : List AV → List (Nat × AV) → Option AV
  | xs, [] => some (.sl .full sz xs)
  | xs, (i, x) :: ps => if x.cells.length = sz ∧ i < n ∧ x.cells.all scal = true then buildSlV sz n (xs.set i x) ps else none

def idxAddrV (sz : Nat) : AV → AV → Option AV
  | .sl _ sz' xs, .int _ i => if sz' = sz ∧ 0 ≤ i then (match xs[i.toNat]? with | some x => some (.sptr x.cells 0) | none => none) else none
  | .osl id off len _ sz', .int _ i => if sz' = sz ∧ 0 ≤ i ∧ i < len then some (.ptr id (off + i.toNat * sz)) else none
  | _, _ => none
def idxAddrAV (len sz : Nat) : AV → AV → Option AV
  | .ptr id off, .int _ i => if 0 ≤ i ∧ i < len then some (.ptr id (off + i.toNat * sz)) else none
  | .sptr cs off, .int _ i => if 0 ≤ i ∧ i < len then some (.sptr cs (off + i.toNat * sz)) else none
  | _, _ => none
def idxSV : AV → AV → Option AV
  | .str s, .int _ i => if 0 ≤ i then (match s[i.toNat]? with | some b => some (byteAV b) | none => none) else none
  | _, _ => none
def idxAV (isAgg : Bool) (len sz : Nat) : AV → AV → Option AV
  | .agg cs, .int _ i => if 0 ≤ i ∧ i < len then part isAgg sz cs (i.toNat * sz) else none
  | _, _ => none
def fieldAddrV (off : Nat) : AV → Option AV
  | .ptr id o => some (.ptr id (o + off))
  | .sptr cs o => some (.sptr cs (o + off))
  | _ => none
def nilckV : AV → Option AV
  | .ptr id o => some (.ptr id o)
  | .sptr cs o => some (.sptr cs o)
  | .fn (.func f) a b => some (.fn (.func f) a b)
  | _ => none
def lookupV (m : Mem) (z : AV) (ok : Bool) : AV → AV → Option AV
  | .nilMap, _ => some (if ok then .tup [z, .bool false] else z)
  | .map id, k => match m.get id with
    | .map es => match mapFind k es with
      | some (some v) => some (if ok then .tup [v, .bool true] else v)
      | some none => some (if ok then .tup [z, .bool false] else z)
      | none => none
    | _ => none
  | _, _ => none
def mapUpdV (m : Mem) : AV → AV → AV → Option Mem
  | .map id, k, v => match m.get id with
    | .map es => if isKey k = true ∧ (mapFind k es).isSome = true ∧ known v = true then some (m.set id (.map (mapPut k v es))) else none
    | _ => none
  | _, _, _ => none
def delV (m : Mem) : AV → AV → Option Mem
  | .nilMap, _ => some m
  | .map id, k => match m.get id with
    | .map es => if isKey k = true ∧ (mapFind k es).isSome = true then some (m.set id (.map (mapDrop k es))) else none
    | _ => none
  | _, _ => none
def nextV (m : Mem) : AV → Option (AV × Mem)
  | .ptr id 0 => match m.get id with
    | .iter s pos => if pos < s.length then
        some (.tup [.bool true, .int .i64 pos, .int .i32 (Utf8.decode ⟨s.toArray⟩ pos).1], m.set id (.iter s (pos + (Utf8.decode ⟨s.toArray⟩ pos).2)))
      else some (.tup [.bool false], m)
    | _ => none
  | _ => none
def tassertV (t : TypeId) (z : AV) (ok : Bool) : AV → Option AV
  | .nilIface => if ok then some (.tup [z, .bool false]) else none
  | .iface t' v => if t' = t then some (if ok then .tup [v, .bool true] else v) else if ok then some (.tup [z, .bool false]) else none
  | _ => none
def lenV (m : Mem) : AV → Option AV
  | .str s => some (.int .i64 s.length)
  | .nilSl => some (.int .i64 0)
  | .sl _ _ xs => some (.int .i64 xs.length)
  | .osl _ _ len _ _ => some (.int .i64 len)
  | .nilMap => some (.int .i64 0)
  | .map id => match m.get id with
    | .map es => some (.int .i64 es.length)
    | _ => none
  | _ => none
def minV : AV → AV → Option AV
  | .int k x, .int _ y => some (.int k (if y < x then y else x))
  | _, _ => none
def maxV : AV → AV → Option AV
  | .int k x, .int _ y => some (.int k (if y > x then y else x))
  | _, _ => none
def indexB (c : UInt8) : List UInt8 → Int
  | [] => -1
  | b :: l => if b = c then 0 else (if indexB c l < 0 then -1 else indexB c l + 1)
def idxByteV : AV → AV → Option AV
  | .str s, .int .u8 c => some (.int .i64 (indexB (UInt8.ofNat c.toNat) s))
  | _, _ => none
def strOfV : AV → Option AV
  | .nilSl => some (.str [])
  | .sl _ sz xs => if sz = 1 then (match unbytes xs with
    | some l => some (.str l)
    | none => none) else none
  | _ => none
def sliceDataV (m : Mem) : AV → Option (AV × Mem)
  | .nilSl => some (.nilPtr, m)
  | .sl (.tok t) sz (x :: xs) => if sz = 1 ∧ m.live t = true ∧ (unbytes (x :: xs)).isSome = true then some (.bptr (m.tty t) (x :: xs), m.killTok t) else none
  | _ => none
def unsafeStrV (u : TypeId) : AV → AV → Option AV
  | .nilPtr, .int _ n => if n = 0 then some (.str []) else none
  | .bptr t cs, .int _ n => if t = u ∧ n = cs.length ∧ cs.length ≤ roomMax then (match unbytes cs with | some l => some (.str l) | none => none) else none
  | _, _ => none

/-- A variable's address as an unsafe pointer, and back (where the variable is one of those listed: its type, its cells, the place in it). -/
def convPV (m : Mem) : AV → Option AV
  | .nilPtr => some .nilPtr
  | .ptr id off => match m.get id with
    | .cells _ cs => if off < cs.length then some (.ptr id off) else none
    | _ => none
  | _ => none
def convUV (m : Mem) (alts : List (TypeId × Nat × Nat)) : AV → Option AV
  | .nilPtr => some .nilPtr
  | .ptr id off => match m.get id with
    | .cells t cs => if alts.any (fun p => decide (p.1 = t) && decide (p.2.1 = cs.length) && decide (p.2.2 = off)) = true then some (.ptr id off) else none
    | _ => none
  | _ => none

/-- An operation that is no call and no panic. -/
def evalP (ρ : Opd → AV) (m : Mem) : AOp → Option (AV × Mem)
  | .move x => some (ρ x, m)
  | .pick c a b => match ρ c with
    | .bool t => some (if t then ρ a else ρ b, m)
    | _ => none
  | .alloc t z => some (.ptr m.next 0, m.alloc (.cells t z))
  | .box t x => if (ρ x).cells.all scal = true then some (.ptr m.next 0, m.alloc (.cells t (ρ x).cells)) else none
  | .build z ps => match buildV z (ps.map fun p => (p.1, p.2.1, ρ p.2.2)) with
    | some v => some (v, m)
    | none => none
  | .buildSl sz z n ps => match buildSlV sz n (List.replicate n z) (ps.map fun p => (p.1, ρ p.2)) with
    | some v => some (v, m)
    | none => none
  | .load g n a => match m.load g n (ρ a) with
    | some v => some (v, m)
    | none => none
  | .store n a x => match m.store n (ρ a) (ρ x) with
    | some m' => some (.tup [], m')
    | none => none
  | .nilck x => match nilckV (ρ x) with
    | some v => some (v, m)
    | none => none
  | .bin op x y => match binV op (ρ x) (ρ y) with
    | some v => some (v, m)
    | none => none
  | .eq neg t x y => match eqSafeB m (ρ x) (ρ y), eqV t (ρ x) (ρ y) with
    | true, some b => some (.bool (b != neg), m)
    | _, _ => none
  | .not x => match ρ x with
    | .bool b => some (.bool (!b), m)
    | _ => none
  | .neg x => match ρ x with
    | .int k n => some (.int k (k.wrap (0 - n)), m)
    | _ => none
  | .inv x => match ρ x with
    | .int k n => some (.int k (k.wrap (BitVec.ofInt k.bits (if k.signed then -1 else k.max) ^^^ BitVec.ofInt k.bits n).toNat), m)
    | _ => none
  | .convI k x => match ρ x with
    | .int _ n => some (.int k (k.wrap n), m)
    | _ => none
  | .bytesOf e x => match ρ x with
    | .str s => some (.sl (.tok m.ntok) 1 (bytesAV s), m.newTok e)
    | _ => none
  | .strOf x => match strOfV (ρ x) with
    | some v => some (v, m)
    | none => none
  | .runeStr x => match ρ x with
    | .int _ n => some (.str (Utf8.encode n).toList, m)
    | _ => none
  | .mkIface t x => some (.iface t (ρ x), m)
  | .mkFn f first cap => some (.fn f (first.map ρ) (cap.map ρ), m)
  | .mkMap => some (.map m.next, m.alloc (.map []))
  | .mkSl t sz bytes z l c => match ρ l, ρ c with
    | .int .i64 a, .int .i64 b => if 0 ≤ a ∧ a ≤ b ∧ b.toNat * bytes ≤ roomMax ∧ b.toNat * sz ≤ roomMax then some (.osl m.next 0 a.toNat b.toNat sz, m.alloc (.cells t (List.replicate b.toNat z.cells).flatten)) else none
    | _, _ => none
  | .sliceS x lo hi => match sliceStr (ρ x) (lo.map ρ) (hi.map ρ) with
    | some v => some (v, m)
    | none => none
  | .sliceL sz x lo hi mx => match szOk sz (ρ x), sliceSl (ρ x) (lo.map ρ) (hi.map ρ) (mx.map ρ) with
    | true, some v => some (v, m)
    | _, _ => none
  | .fieldAddr off x => match fieldAddrV off (ρ x) with
    | some v => some (v, m)
    | none => none
  | .field g n off x => match ρ x with
    | .agg cs => match part g n cs off with
      | some v => some (v, m)
      | none => none
    | _ => none
  | .idxAddr sz x i => match idxAddrV sz (ρ x) (ρ i) with
    | some v => some (v, m)
    | none => none
  | .idxAddrA len sz x i => match idxAddrAV len sz (ρ x) (ρ i) with
    | some v => some (v, m)
    | none => none
  | .idxS x i => match idxSV (ρ x) (ρ i) with
    | some v => some (v, m)
    | none => none
  | .idxA g len sz x i => match idxAV g len sz (ρ x) (ρ i) with
    | some v => some (v, m)
    | none => none
  | .lookup kd z ok x k => match isKK kd (ρ k), lookupV m z ok (ρ x) (ρ k) with
    | true, some v => some (v, m)
    | _, _ => none
  | .mapUpd kd x k v => match isKK kd (ρ k), mapUpdV m (ρ x) (ρ k) (ρ v) with
    | true, some m' => some (.tup [], m')
    | _, _ => none
  | .del kd x k => match isKK kd (ρ k), delV m (ρ x) (ρ k) with
    | true, some m' => some (.tup [], m')
    | _, _ => none
  | .rangeS x => match ρ x with
    | .str s => some (.ptr m.next 0, m.alloc (.iter s 0))
    | _ => none
  | .nextS x => nextV m (ρ x)
  | .tassert t z ok x => match tassertV t z ok (ρ x) with
    | some v => some (v, m)
    | none => none
  | .extract i x => match ρ x with
    | .tup vs => match vs[i]? with
      | some v => some (v, m)
      | none => none
    | _ => none
  | .len k x => match isLK k (ρ x), lenV m (ρ x) with
    | true, some v => some (v, m)
    | _, _ => none
  | .min x y => match minV (ρ x) (ρ y) with
    | some v => some (v, m)
    | none => none
  | .max x y => match maxV (ρ x) (ρ y) with
    | some v => some (v, m)
    | none => none
  | .append e sz bytes a b => match elems (ρ b) with
    | some ys => appendV m e sz bytes (ρ a) ys
    | none => none
  | .convP x => match convPV m (ρ x) with
    | some v => some (v, m)
    | none => none
  | .convU alts x => match convUV m alts (ρ x) with
    | some v => some (v, m)
    | none => none
  | .sliceData x => sliceDataV m (ρ x)
  | .unsafeStr u x n => match unsafeStrV u (ρ x) (ρ n) with
    | some v => some (v, m)
    | none => none
  | .idxByte x c => match idxByteV (ρ x) (ρ c) with
    | some v => some (v, m)
    | none => none
  | .panic _ | .call _ _ | .callV _ _ => none

/-- A call of a Go function: which, and with what. -/
def callOf (ρ : Opd → AV) : AOp → Option (FuncId × List AV)
  | .call f args => some (f, args.map ρ)
  | .callV x args => match ρ x with
    | .fn (.func f) first cap => some (f, first ++ args.map ρ ++ cap)
    | _ => none
  | _ => none

/-- A guard's word: the operation is wanted, or not; none: that cannot be told. -/
def wants (ρ : Opd → AV) : Option (Opd × Bool) → Option Bool
  | none => some true
  | some (x, b) => match ρ x with
    | .bool c => some (c == b)
    | .tup _ => some false
    | _ => none

/-! ### code -/
structure ARegion where
  ops : List (AOp × Option (Opd × Bool))
  exp : List (Nat × Opd)
  draws : Bool := false
  pairs : List (Nat × Nat) := []
  okPan : List Nat := []
  preds : List (List Nat) := []

inductive ACode where
  | skip | region (r : ARegion) | seq (a b : ACode) | cond (c : Opd) (a b : ACode)
  | block (id : Nat) (a : ACode) | loop (kill : List Nat) (a : ACode) | exit (id : Nat) | ret
  /-- Code that is never come to. -/
  | stuck

inductive ARes where
  | var (j : Nat) | cell (j : Nat) (isAgg : Bool) (n : Nat)

structure AFn where
  nparams : Nat
  nslots : Nat
  slots : List Nat
  results : List ARes
  body : ACode

inductive AExit where
  | normal | exit (id : Nat) | ret | pan (v : AV)

def ARes.get (fr : List AV) (m : Mem) : ARes → Option AV
  | .var j => some (fr.getD j .u)
  | .cell j g n => m.load g n (fr.getD j .u)
def resultsOf (fr : List AV) (m : Mem) : List ARes → Option (List AV)
  | [] => some []
  | r :: rs => match r.get fr m, resultsOf fr m rs with
    | some v, some vs => some (v :: vs)
    | _, _ => none
def oneOr : List AV → AV
  | [v] => v
  | vs => .tup vs

def exports (env fr : List AV) : List (Nat × Opd) → List AV
  | [] => fr
  | (j, x) :: es => (exports env fr es).set j (x.ev env fr)
def kills : List Nat → List AV → List AV
  | [], fr => fr
  | j :: js, fr => (kills js fr).set j .u

inductive Tk where
  | code (c : ACode) (fr : List AV)
  | ops (os : List (AOp × Option (Opd × Bool))) (env fr : List AV) (d : Bool) (hist : List Mem)
inductive Rs where
  | exit (e : AExit) (fr : List AV)
  | env (env : List AV) (hist : List Mem)
  | pan (v : AV) (env : List AV) (hist : List Mem)
  | ret (v : AV) | raise (v : AV)

def pushH (d : Bool) (m : Mem) (hist : List Mem) : List Mem := if d then m :: hist else hist

/-- What an operation that only reads would read at another time. -/
def rereads (os : List (AOp × Option (Opd × Bool))) (env fr : List AV) (hist : List Mem) (i k : Nat) : Prop :=
  match os[i]? with
  | some (o, g) => wants (Opd.ev (env.drop (env.length - i)) fr) g = some true → ∀ m m' : Mem, (hist.reverse)[k]? = some m → (hist.reverse)[k + 1]? = some m' →
      (evalP (Opd.ev (env.drop (env.length - i)) fr) m o).map (·.1) = some (env.getD (env.length - 1 - i) .u) ∧
      (evalP (Opd.ev (env.drop (env.length - i)) fr) m' o).map (·.1) = some (env.getD (env.length - 1 - i) .u)
  | none => False
/-- The reads whose order towards a writing operation Go leaves open read the same on both sides of it. -/
def Stable (r : ARegion) (env fr : List AV) (hist : List Mem) : Prop :=
  ∀ p ∈ r.pairs, p.1 < env.length → p.2 < env.length → rereads r.ops env fr hist p.1 p.2

/-- What a task comes to, where K tells what calls come to. -/
inductive Big (K : FuncId → List AV → Mem → Rs → Mem → Prop) : Tk → Mem → Rs → Mem → Prop where
  | skip {fr m} : Big K (.code .skip fr) m (.exit .normal fr) m
  | exit {id fr m} : Big K (.code (.exit id) fr) m (.exit (.exit id) fr) m
  | ret {fr m} : Big K (.code .ret fr) m (.exit .ret fr) m
  | seqN {a b fr m fr' m' r m''} : Big K (.code a fr) m (.exit .normal fr') m' → Big K (.code b fr') m' r m'' → Big K (.code (.seq a b) fr) m r m''
  | seqX {a b fr m e fr' m'} : Big K (.code a fr) m (.exit e fr') m' → e ≠ .normal → Big K (.code (.seq a b) fr) m (.exit e fr') m'
  | cond {c a b fr m t r m'} : c.ev [] fr = .bool t → Big K (.code (if t then a else b) fr) m r m' → Big K (.code (.cond c a b) fr) m r m'
  | blockN {id a fr m fr' m'} : Big K (.code a fr) m (.exit (.exit id) fr') m' → Big K (.code (.block id a) fr) m (.exit .normal fr') m'
  | blockX {id a fr m e fr' m'} : Big K (.code a fr) m (.exit e fr') m' → e ≠ .exit id → Big K (.code (.block id a) fr) m (.exit e fr') m'
  | loopN {ks a fr m fr' m' r m''} : Big K (.code a fr) m (.exit .normal fr') m' → Big K (.code (.loop ks a) (kills ks fr')) m' r m'' → Big K (.code (.loop ks a) fr) m r m''
  | loopX {ks a fr m e fr' m'} : Big K (.code a fr) m (.exit e fr') m' → e ≠ .normal → Big K (.code (.loop ks a) fr) m (.exit e fr') m'
  | region {r : ARegion} {fr m env hist m'} : Big K (.ops r.ops [] fr (!r.pairs.isEmpty) []) m (.env env hist) m' → Stable r env fr (pushH (!r.pairs.isEmpty) m' hist) →
      Big K (.code (.region r) fr) m (.exit .normal (exports env fr r.exp)) m'
  | regionP {r : ARegion} {fr m v env hist m'} : Big K (.ops r.ops [] fr (!r.pairs.isEmpty) []) m (.pan v env hist) m' → (r.draws = true → env.length ∈ r.okPan) →
      Stable r env fr hist → Big K (.code (.region r) fr) m (.exit (.pan v) fr) m'
  | opsNil {env fr d h m} : Big K (.ops [] env fr d h) m (.env env h) m
  | opsSkip {o g os env fr d h m r m'} : wants (Opd.ev env fr) g = some false → Big K (.ops os (.tup [] :: env) fr d (pushH d m h)) m r m' → Big K (.ops ((o, g) :: os) env fr d h) m r m'
  | opsP {o g os env fr d h m v m1 r m'} : wants (Opd.ev env fr) g = some true → evalP (Opd.ev env fr) m o = some (v, m1) →
      Big K (.ops os (v :: env) fr d (pushH d m h)) m1 r m' → Big K (.ops ((o, g) :: os) env fr d h) m r m'
  | opsC {o g os env fr d h m f args v m1 r m'} : wants (Opd.ev env fr) g = some true → callOf (Opd.ev env fr) o = some (f, args) →
      K f args m (.ret v) m1 → Big K (.ops os (v :: env) fr d (pushH d m h)) m1 r m' → Big K (.ops ((o, g) :: os) env fr d h) m r m'
  | opsCP {o g os env fr d h m f args v m1} : wants (Opd.ev env fr) g = some true → callOf (Opd.ev env fr) o = some (f, args) →
      K f args m (.raise v) m1 → Big K (.ops ((o, g) :: os) env fr d h) m (.pan v env (pushH d m h)) m1
  | opsPan {x g os env fr d h m t v} : wants (Opd.ev env fr) g = some true → Opd.ev env fr x = .iface t v →
      Big K (.ops ((.panic x, g) :: os) env fr d h) m (.pan (.iface t v) env (pushH d m h)) m

end Go.Proofs.YtinlfdkalijffaaDoor.Am
