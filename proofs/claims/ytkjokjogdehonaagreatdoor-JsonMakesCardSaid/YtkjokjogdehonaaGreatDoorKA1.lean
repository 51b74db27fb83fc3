/- Part KA1 of a claim's texts, joined: what the claim needs of them. -/
import GoSem.Step
import Derived.Attr
import Derived.Below
import Derived.Laws.Rows
import Derived.Laws.Cells
import Derived.Laws.CopyRow
import Derived.Laws.Append
import Derived.Laws.AppendOwn
import Derived.Laws.Entries
import Derived.Laws.Strings
import Derived.Laws.Slices
import Derived.Laws.BytesString
import Derived.Laws.Externs
import Derived.Laws.StructEq
import Derived.Laws.Build
set_option linter.unusedSimpArgs false
set_option linter.unusedVariables false
namespace Go.Proofs.YtkjokjogdehonaaGreatDoor.Am
open Go
inductive Own where
  | full | no | tok (t : Nat)
  deriving DecidableEq
inductive AV where
  | u | bool (b : Bool) | int (k : IntKind) (n : Int) | str (s : List UInt8)
  | agg (cs : List AV) | tup (vs : List AV)
  | nilSl | sl (o : Own) (sz : Nat) (xs : List AV) | osl (id off len cap sz : Nat) | gsl (id n sz : Nat)
  | nilPtr | ptr (id off : Nat) | sptr (cs : List AV) (off : Nat) | bptr (t : TypeId) (cs : List AV)
  | nilMap | map (id : Nat) | nilFn | fn (f : Fn) (first cap : List AV) | nilIface | iface (t : TypeId) (v : AV)
inductive AObj where
  | dead | cells (t : TypeId) (cs : List AV) | grow (t : TypeId) (cs : List AV) | map (es : List (AV × AV)) | iter (s : List UInt8) (pos : Nat)
structure Mem where
  get : Nat → AObj
  next : Nat
  live : Nat → Bool
  ntok : Nat
  tty : Nat → TypeId
namespace Mem
def alloc (m : Mem) (o : AObj) : Mem := { m with get := fun i => if i = m.next then o else m.get i, next := m.next + 1 }
def set (m : Mem) (i : Nat) (o : AObj) : Mem := { m with get := fun j => if j = i then o else m.get j }
def newTok (m : Mem) (t : TypeId) : Mem := { m with live := fun i => if i = m.ntok then true else m.live i, ntok := m.ntok + 1, tty := fun i => if i = m.ntok then t else m.tty i }
def killTok (m : Mem) (t : Nat) : Mem := { m with live := fun i => if i = t then false else m.live i }
end Mem
def AV.cells : AV → List AV
  | .agg cs => cs
  | v => [v]
def scal : AV → Bool
  | .u | .agg _ | .tup _ => false
  | _ => true
def known : AV → Bool
  | .u => false
  | _ => true
def part (isAgg : Bool) (n : Nat) (cs : List AV) (off : Nat) : Option AV :=
  match isAgg with
  | true => if off + n ≤ cs.length then some (.agg ((cs.drop off).take n)) else none
  | false => cs[off]?
def setCells : List AV → Nat → List AV → List AV
  | cs, _, [] => cs
  | cs, off, y :: ys => setCells (cs.set off y) (off + 1) ys
namespace Mem
def load (m : Mem) (isAgg : Bool) (n : Nat) : AV → Option AV
  | .ptr id off => match m.get id with
    | .cells _ cs => part isAgg n cs off
    | .grow _ cs => part isAgg n cs off
    | _ => none
  | .sptr cs off => part isAgg n cs off
  | _ => none
def store (m : Mem) (n : Nat) (a x : AV) : Option Mem :=
  match a with
  | .ptr id off => match m.get id with
    | .cells t cs => if x.cells.length = n ∧ off + n ≤ cs.length ∧ x.cells.all scal = true then some (m.set id (.cells t (setCells cs off x.cells))) else none
    | .grow t cs => if x.cells.length = n ∧ off + n ≤ cs.length ∧ x.cells.all scal = true then some (m.set id (.grow t (setCells cs off x.cells))) else none
    | _ => none
  | _ => none
end Mem
def intV (op : BinOp) (k : IntKind) (a : Int) (k' : IntKind) (b : Int) : Option AV :=
  match op with
  | .shl => if 0 ≤ b then some (.int k (k.wrap (a * 2 ^ (min b.toNat k.bits)))) else none
  | .shr => if 0 ≤ b then some (.int k (a.fdiv (2 ^ (min b.toNat k.bits)))) else none
  | .add => if k = k' then some (.int k (k.wrap (a + b))) else none
  | .sub => if k = k' then some (.int k (k.wrap (a - b))) else none
  | .mul => if k = k' then some (.int k (k.wrap (a * b))) else none
  | .quo => if k = k' then (if b = 0 then none else some (.int k (k.wrap (a.tdiv b)))) else none
  | .rem => if k = k' then (if b = 0 then none else some (.int k (a.tmod b))) else none
  | .and => if k = k' then some (.int k (k.wrap (BitVec.ofInt k.bits a &&& BitVec.ofInt k.bits b).toNat)) else none
  | .or => if k = k' then some (.int k (k.wrap (BitVec.ofInt k.bits a ||| BitVec.ofInt k.bits b).toNat)) else none
  | .xor => if k = k' then some (.int k (k.wrap (BitVec.ofInt k.bits a ^^^ BitVec.ofInt k.bits b).toNat)) else none
  | .andNot => if k = k' then some (.int k (k.wrap (BitVec.ofInt k.bits a &&& ~~~(BitVec.ofInt k.bits b)).toNat)) else none
  | .eql => if k = k' then some (.bool (a == b)) else none
  | .neq => if k = k' then some (.bool (a != b)) else none
  | .lss => if k = k' then some (.bool (decide (a < b))) else none
  | .leq => if k = k' then some (.bool (decide (a ≤ b))) else none
  | .gtr => if k = k' then some (.bool (decide (a > b))) else none
  | .geq => if k = k' then some (.bool (decide (a ≥ b))) else none
def strV (op : BinOp) (a b : List UInt8) : Option AV :=
  match op with
  | .add => if a.length + b.length ≤ 2 ^ 62 then some (.str (a ++ b)) else none
  | .eql => some (.bool (a == b))
  | .neq => some (.bool (!(a == b)))
  | .lss => some (.bool (Op.bytesLess a b))
  | .leq => some (.bool (Op.bytesLess a b || a == b))
  | .gtr => some (.bool (!(Op.bytesLess a b || a == b)))
  | .geq => some (.bool (!(Op.bytesLess a b)))
  | _ => none
def binV (op : BinOp) : AV → AV → Option AV
  | .int k a, .int k' b => intV op k a k' b
  | .str a, .str b => strV op a b
  | _, _ => none
inductive EqL where
  | bool | int | str | ptr | sli | map | func | ifaceE | ifaceM
  deriving DecidableEq
inductive EqT where
  | leaf (l : EqL)
  | struct (fs : List (Nat × EqL))
def eqL : EqL → AV → AV → Option Bool
  | .bool, .bool a, .bool b => some (a == b)
  | .int, .int k a, .int k' b => if k = k' then some (a == b) else none
  | .str, .str a, .str b => some (a == b)
  | .ptr, .nilPtr, .nilPtr => some true
  | .ptr, .nilPtr, .ptr _ _ => some false
  | .ptr, .ptr _ _, .nilPtr => some false
  | .ptr, .nilPtr, .sptr _ _ => some false
  | .ptr, .sptr _ _, .nilPtr => some false
  | .ptr, .ptr i o, .ptr i' o' => some (decide (i = i' ∧ o = o'))
  | .sli, .nilSl, .nilSl => some true
  | .sli, .nilSl, .sl _ _ _ => some false
  | .sli, .sl _ _ _, .nilSl => some false
  | .sli, .nilSl, .osl _ _ _ _ _ => some false
  | .sli, .osl _ _ _ _ _, .nilSl => some false
  | .sli, .nilSl, .gsl _ _ _ => some false
  | .sli, .gsl _ _ _, .nilSl => some false
  | .map, .nilMap, .nilMap => some true
  | .map, .nilMap, .map _ => some false
  | .map, .map _, .nilMap => some false
  | .func, .nilFn, .nilFn => some true
  | .func, .nilFn, .fn _ _ _ => some false
  | .func, .fn _ _ _, .nilFn => some false
  | .ifaceE, .nilIface, .nilIface => some true
  | .ifaceE, .nilIface, .iface _ _ => some false
  | .ifaceE, .iface _ _, .nilIface => some false
  | .ifaceM, .nilIface, .iface _ _ => some false
  | .ifaceM, .iface _ _, .nilIface => some false
  | _, _, _ => none
def eqFs : List (Nat × EqL) → List AV → List AV → Option Bool
  | [], _, _ => some true
  | (off, l) :: fs, xs, ys => match xs[off]?, ys[off]? with
    | some a, some b => match eqL l a b, eqFs fs xs ys with
      | some p, some q => some (p && q)
      | _, _ => none
    | _, _ => none
def eqV : EqT → AV → AV → Option Bool
  | .leaf l, a, b => eqL l a b
  | .struct fs, .agg xs, .agg ys => eqFs fs xs ys
  | _, _, _ => none
def isCells : AObj → Bool
  | .cells _ _ => true
  | _ => false
def eqSafeB (m : Mem) : AV → AV → Bool
  | .ptr i _, .ptr j _ => isCells (m.get i) && isCells (m.get j)
  | _, _ => true
def keyEq : AV → AV → Option Bool
  | .int k a, .int k' b => if k = k' then some (a == b) else none
  | .str a, .str b => some (a == b)
  | .bool a, .bool b => some (a == b)
  | _, _ => none
inductive KK where
  | int | str | bool
  deriving DecidableEq
def isKK : KK → AV → Bool
  | .int, .int _ _ => true
  | .str, .str _ => true
  | .bool, .bool _ => true
  | _, _ => false
def isKey : AV → Bool
  | .int _ _ | .str _ | .bool _ => true
  | _ => false
def mapFind (k : AV) : List (AV × AV) → Option (Option AV)
  | [] => some none
  | (k', v) :: es => match keyEq k k' with
    | some true => some (some v)
    | some false => mapFind k es
    | none => none
def mapPut (k v : AV) : List (AV × AV) → List (AV × AV)
  | [] => [(k, v)]
  | (k', v') :: es => if keyEq k k' = some true then (k, v) :: es else (k', v') :: mapPut k v es
def mapDrop (k : AV) (es : List (AV × AV)) : List (AV × AV) := es.filter fun e => keyEq k e.1 != some true
def byteAV (b : UInt8) : AV := .int .u8 b.toNat
def bytesAV (l : List UInt8) : List AV := l.map byteAV
def unbyte : AV → Option UInt8
  | .int .u8 n => some (UInt8.ofNat n.toNat)
  | _ => none
def unbytes : List AV → Option (List UInt8)
  | [] => some []
  | v :: vs => match unbyte v, unbytes vs with
    | some b, some bs => some (b :: bs)
    | _, _ => none
def elems : AV → Option (List AV)
  | .nilSl => some []
  | .sl _ _ xs => some xs
  | .str s => some (bytesAV s)
  | _ => none
def roomMax : Nat := 2 ^ 46
def appendV (m : Mem) (e : TypeId) (sz bytes : Nat) (a : AV) (ys : List AV) : Option (AV × Mem) :=
  match a with
  | .nilSl => if ys = [] then some (.nilSl, m) else
      if ys.length * bytes ≤ roomMax ∧ ys.all (fun y => y.cells.length == sz && y.cells.all scal) = true then some (.sl (.tok m.ntok) sz ys, m.newTok e) else none
  | .sl o sz' xs => if sz' = sz then (if ys = [] then some (.sl o sz xs, m) else
      if (xs.length + ys.length) * bytes ≤ roomMax ∧ ys.all (fun y => y.cells.length == sz && y.cells.all scal) = true then
        match o with
        | .full => some (.sl (.tok m.ntok) sz (xs ++ ys), m.newTok e)
        | .tok t => if m.live t = true ∧ m.tty t = e then some (.sl (.tok m.ntok) sz (xs ++ ys), (m.killTok t).newTok e) else none
        | .no => none
      else none) else none
  | _ => none
def boundV (d : Nat) (max : Nat) : Option AV → Option Nat
  | none => some d
  | some (.int _ i) => if 0 ≤ i ∧ i ≤ max then some i.toNat else none
  | some _ => none
def sliceStr (x : AV) (lo hi : Option AV) : Option AV :=
  match x with
  | .str s => match boundV s.length s.length hi with
    | some h => match boundV 0 h lo with
      | some l => some (.str ((s.take h).drop l))
      | none => none
    | none => none
  | _ => none
def szOk (sz : Nat) : AV → Bool
  | .sl _ s _ => s == sz
  | .osl _ _ _ _ s => s == sz
  | _ => true
def ownOf (o : Own) (h len : Nat) : Own := if h = len then o else .no
def sliceSl (x : AV) (lo hi mx : Option AV) : Option AV :=
  match x with
  | .nilSl => if mx.isSome = true ∧ hi.isNone = true then none else match boundV 0 0 mx, boundV 0 0 hi, boundV 0 0 lo with
    | some _, some _, some _ => some .nilSl
    | _, _, _ => none
  | .sl o sz xs => match mx with
    | none => match boundV xs.length xs.length hi with
      | some h => match boundV 0 h lo with
        | some l => some (.sl (ownOf o h xs.length) sz ((xs.take h).drop l))
        | none => none
      | none => none
    | some _ => match boundV 0 xs.length mx with
      | some k => match hi with
        | none => none
        | some _ => match boundV 0 k hi with
          | some h => match boundV 0 h lo with
            | some l => some (.sl (if h = k then .full else .no) sz ((xs.take h).drop l))
            | none => none
          | none => none
      | none => none
  | .osl id off len cap sz => match mx with
    | none => match boundV len cap hi with
      | some h => match boundV 0 h lo with
        | some l => some (.osl id (if cap = l then off else off + l * sz) (h - l) (cap - l) sz)
        | none => none
      | none => none
    | some _ => none
  | _ => none
inductive Opd where
  | loc (i : Nat) | var (j : Nat) | cst (v : AV)
def Opd.ev (env fr : List AV) : Opd → AV
  | .loc i => env.getD i .u
  | .var j => fr.getD j .u
  | .cst v => v
inductive LK where
  | str | sli | map
def isLK : LK → AV → Bool
  | .str, .str _ => true
  | .sli, .nilSl => true
  | .sli, .sl _ _ _ => true
  | .sli, .osl _ _ _ _ _ => true
  | .sli, .gsl _ _ _ => true
  | .map, .nilMap => true
  | .map, .map _ => true
  | _, _ => false
inductive AOp where
  | move (x : Opd) | pick (c a b : Opd)
  | alloc (t : TypeId) (z : List AV) | box (t : TypeId) (x : Opd)
  | build (z : List AV) (ps : List (Nat × Nat × Opd))
  | buildSl (sz : Nat) (z : AV) (n : Nat) (ps : List (Nat × Opd))
  /-- A slice of parts with a token; bytes that are taken for a string's. -/
  | buildSlT (e : TypeId) (sz : Nat) (z : AV) (n : Nat) (ps : List (Nat × Opd)) | convB (x : Opd)
  | load (isAgg : Bool) (n : Nat) (a : Opd) | store (n : Nat) (a x : Opd)
  | nilck (x : Opd)
  | bin (op : BinOp) (x y : Opd) | eq (neg : Bool) (t : EqT) (x y : Opd)
  | not (x : Opd) | neg (x : Opd) | inv (x : Opd)
  | convI (k : IntKind) (x : Opd) | bytesOf (e : TypeId) (x : Opd) | strOf (x : Opd) | runeStr (x : Opd)
  | mkIface (t : TypeId) (x : Opd) | mkFn (f : Fn) (first cap : List Opd)
  | mkMap | mkSl (t : TypeId) (sz bytes : Nat) (z : AV) (l c : Opd)
  | sliceS (x : Opd) (lo hi : Option Opd) | sliceL (sz : Nat) (x : Opd) (lo hi mx : Option Opd)
  | fieldAddr (off : Nat) (x : Opd) | field (isAgg : Bool) (n off : Nat) (x : Opd)
  | idxAddr (sz : Nat) (x i : Opd) | idxAddrA (len sz : Nat) (x i : Opd) | idxS (x i : Opd) | idxA (isAgg : Bool) (len sz : Nat) (x i : Opd)
  | lookup (kd : KK) (z : AV) (ok : Bool) (m k : Opd) | mapUpd (kd : KK) (m k v : Opd) | del (kd : KK) (m k : Opd)
  | rangeS (x : Opd) | nextS (x : Opd)
  | tassert (t : TypeId) (z : AV) (ok : Bool) (x : Opd)
  | extract (i : Nat) (x : Opd)
  | len (k : LK) (x : Opd) | min (x y : Opd) | max (x y : Opd)
  | append (e : TypeId) (sz bytes : Nat) (a b : Opd)
  | appendO (e : TypeId) (sz bytes : Nat) (a b : Opd) | bytesO (e : TypeId) (x : Opd) | strO (x : Opd)
  | convP (x : Opd) | convU (alts : List (TypeId × Nat × Nat)) (x : Opd)
  | sliceData (x : Opd) | unsafeStr (u : TypeId) (x n : Opd) | idxByte (x c : Opd)
  | panic (x : Opd)
  | call (f : FuncId) (args : List Opd) | callV (fv : Opd) (args : List Opd)
def buildV : List AV → List (Nat × Nat × AV) → Option AV
  | z, [] => some (.agg z)
  | z, (off, size, x) :: ps => if x.cells.length = size ∧ off + size ≤ z.length ∧ x.cells.all scal = true then buildV (setCells z off x.cells) ps else none
def buildSlV (sz n : Nat) : List AV → List (Nat × AV) → Option AV
  | xs, [] => some (.sl .full sz xs)
  | xs, (i, x) :: ps => if x.cells.length = sz ∧ i < n ∧ x.cells.all scal = true then buildSlV sz n (xs.set i x) ps else none
def idxAddrV (sz : Nat) : AV → AV → Option AV
  | .sl _ sz' xs, .int _ i => if sz' = sz ∧ 0 ≤ i then (match xs[i.toNat]? with | some x => some (.sptr x.cells 0) | none => none) else none
  | .osl id off len _ sz', .int _ i => if sz' = sz ∧ 0 ≤ i ∧ i < len then some (.ptr id (off + i.toNat * sz)) else none
  | .gsl id n sz', .int _ i => if sz' = sz ∧ 0 ≤ i ∧ i < n then some (.ptr id (i.toNat * sz)) else none
  | _, _ => none
def idxAddrAV (len sz : Nat) : AV → AV → Option AV
  | .ptr id off, .int _ i => if 0 ≤ i ∧ i < len then some (.ptr id (off + i.toNat * sz)) else none
  | .sptr cs off, .int _ i => if 0 ≤ i ∧ i < len then some (.sptr cs (off + i.toNat * sz)) else none
  | _, _ => none
def idxSV : AV → AV → Option AV
  | .str s, .int _ i => if 0 ≤ i then (match s[i.toNat]? with | some b => some (byteAV b) | none => none) else none
  | _, _ => none
def idxAV (isAgg : Bool) (len sz : Nat) : AV → AV → Option AV
  | .agg cs, .int _ i => if 0 ≤ i ∧ i < len then part isAgg sz cs (i.toNat * sz) else none
  | _, _ => none
def fieldAddrV (off : Nat) : AV → Option AV
  | .ptr id o => some (.ptr id (o + off))
  | .sptr cs o => some (.sptr cs (o + off))
  | _ => none
def nilckV : AV → Option AV
  | .ptr id o => some (.ptr id o)
  | .sptr cs o => some (.sptr cs o)
  | .fn (.func f) a b => some (.fn (.func f) a b)
  | _ => none
def lookupV (m : Mem) (z : AV) (ok : Bool) : AV → AV → Option AV
  | .nilMap, _ => some (if ok then .tup [z, .bool false] else z)
  | .map id, k => match m.get id with
    | .map es => match mapFind k es with
      | some (some v) => some (if ok then .tup [v, .bool true] else v)
      | some none => some (if ok then .tup [z, .bool false] else z)
      | none => none
    | _ => none
  | _, _ => none
def mapUpdV (m : Mem) : AV → AV → AV → Option Mem
  | .map id, k, v => match m.get id with
    | .map es => if isKey k = true ∧ (mapFind k es).isSome = true ∧ known v = true then some (m.set id (.map (mapPut k v es))) else none
    | _ => none
  | _, _, _ => none
def delV (m : Mem) : AV → AV → Option Mem
  | .nilMap, _ => some m
  | .map id, k => match m.get id with
    | .map es => if isKey k = true ∧ (mapFind k es).isSome = true then some (m.set id (.map (mapDrop k es))) else none
    | _ => none
  | _, _ => none
def nextV (m : Mem) : AV → Option (AV × Mem)
  | .ptr id 0 => match m.get id with
    | .iter s pos => if pos < s.length then
        some (.tup [.bool true, .int .i64 pos, .int .i32 (Utf8.decode ⟨s.toArray⟩ pos).1], m.set id (.iter s (pos + (Utf8.decode ⟨s.toArray⟩ pos).2)))
      else some (.tup [.bool false], m)
    | _ => none
  | _ => none
def tassertV (t : TypeId) (z : AV) (ok : Bool) : AV → Option AV
  | .nilIface => if ok then some (.tup [z, .bool false]) else none
  | .iface t' v => if t' = t then some (if ok then .tup [v, .bool true] else v) else if ok then some (.tup [z, .bool false]) else none
  | _ => none
def lenV (m : Mem) : AV → Option AV
  | .str s => some (.int .i64 s.length)
  | .nilSl => some (.int .i64 0)
  | .sl _ _ xs => some (.int .i64 xs.length)
  | .osl _ _ len _ _ => some (.int .i64 len)
  | .gsl _ n _ => some (.int .i64 n)
  | .nilMap => some (.int .i64 0)
  | .map id => match m.get id with
    | .map es => some (.int .i64 es.length)
    | _ => none
  | _ => none
def minV : AV → AV → Option AV
  | .int k x, .int _ y => some (.int k (if y < x then y else x))
  | _, _ => none
def maxV : AV → AV → Option AV
  | .int k x, .int _ y => some (.int k (if y > x then y else x))
  | _, _ => none
def indexB (c : UInt8) : List UInt8 → Int
  | [] => -1
  | b :: l => if b = c then 0 else (if indexB c l < 0 then -1 else indexB c l + 1)
def idxByteV : AV → AV → Option AV
  | .str s, .int .u8 c => some (.int .i64 (indexB (UInt8.ofNat c.toNat) s))
  | _, _ => none
def strOfV : AV → Option AV
  | .nilSl => some (.str [])
  | .sl _ sz xs => if sz = 1 then (match unbytes xs with
    | some l => some (.str l)
    | none => none) else none
  | _ => none
def sliceDataV (m : Mem) : AV → Option (AV × Mem)
  | .nilSl => some (.nilPtr, m)
  | .sl (.tok t) sz (x :: xs) => if sz = 1 ∧ m.live t = true ∧ (unbytes (x :: xs)).isSome = true then some (.bptr (m.tty t) (x :: xs), m.killTok t) else none
  | _ => none
def unsafeStrV (u : TypeId) : AV → AV → Option AV
  | .nilPtr, .int _ n => if n = 0 then some (.str []) else none
  | .bptr t cs, .int _ n => if t = u ∧ n = cs.length ∧ cs.length ≤ roomMax then (match unbytes cs with | some l => some (.str l) | none => none) else none
  | _, _ => none
def convPV (m : Mem) : AV → Option AV
  | .nilPtr => some .nilPtr
  | .ptr id off => match m.get id with
    | .cells _ cs => if off < cs.length then some (.ptr id off) else none
    | _ => none
  | _ => none
def convUV (m : Mem) (alts : List (TypeId × Nat × Nat)) : AV → Option AV
  | .nilPtr => some .nilPtr
  | .ptr id off => match m.get id with
    | .cells t cs => if alts.any (fun p => decide (p.1 = t) && decide (p.2.1 = cs.length) && decide (p.2.2 = off)) = true then some (.ptr id off) else none
    | _ => none
  | _ => none
def ownSl (m : Mem) (e : TypeId) : Option AV → Option (AV × Mem)
  | some (.sl _ sz xs) => some (.sl (.tok m.ntok) sz xs, m.newTok e)
  | _ => none
def convBV (m : Mem) : AV → Option (AV × Mem)
  | .sl (.tok t) sz (x :: xs) => if m.live t = true then some (.sl .no sz (x :: xs), m.killTok t) else none
  | _ => none
def cellsOf : List AV → List AV
  | [] => []
  | y :: ys => y.cells ++ cellsOf ys
def appendOV (m : Mem) (e : TypeId) (sz bytes : Nat) (a : AV) (ys : List AV) : Option (AV × Mem) :=
  match a with
  | .nilSl => if ys = [] then some (.nilSl, m) else
      if ys.length * bytes ≤ roomMax ∧ 0 < sz ∧ ys.all (fun y => y.cells.length == sz && y.cells.all scal) = true then some (.gsl m.next ys.length sz, m.alloc (.grow e (cellsOf ys))) else none
  | .gsl id n sz' => match m.get id with
    | .grow t cs => if sz' = sz ∧ t = e ∧ 0 < sz ∧ ys ≠ [] ∧ cs.length = n * sz ∧ (n + ys.length) * bytes ≤ roomMax ∧ ys.all (fun y => y.cells.length == sz && y.cells.all scal) = true then
        some (.gsl m.next (n + ys.length) sz, (m.set id .dead).alloc (.grow e (cs ++ cellsOf ys))) else none
    | _ => none
  | _ => none
def strOV (m : Mem) : AV → Option AV
  | .nilSl => some (.str [])
  | .gsl id n sz => match m.get id with
    | .grow _ cs => if sz = 1 ∧ cs.length = n then (match unbytes cs with
      | some l => some (.str l)
      | none => none) else none
    | _ => none
  | _ => none
def evalP (ρ : Opd → AV) (m : Mem) : AOp → Option (AV × Mem)
  | .move x => some (ρ x, m)
  | .pick c a b => match ρ c with
    | .bool t => some (if t then ρ a else ρ b, m)
    | _ => none
  | .alloc t z => some (.ptr m.next 0, m.alloc (.cells t z))
  | .box t x => if (ρ x).cells.all scal = true then some (.ptr m.next 0, m.alloc (.cells t (ρ x).cells)) else none
  | .build z ps => match buildV z (ps.map fun p => (p.1, p.2.1, ρ p.2.2)) with
    | some v => some (v, m)
    | none => none
  | .buildSl sz z n ps => match buildSlV sz n (List.replicate n z) (ps.map fun p => (p.1, ρ p.2)) with
    | some v => some (v, m)
    | none => none
  | .buildSlT e sz z n ps => ownSl m e (buildSlV sz n (List.replicate n z) (ps.map fun p => (p.1, ρ p.2)))
  | .convB x => convBV m (ρ x)
  | .load g n a => match m.load g n (ρ a) with
    | some v => some (v, m)
    | none => none
  | .store n a x => match m.store n (ρ a) (ρ x) with
    | some m' => some (.tup [], m')
    | none => none
  | .nilck x => match nilckV (ρ x) with
    | some v => some (v, m)
    | none => none
  | .bin op x y => match binV op (ρ x) (ρ y) with
    | some v => some (v, m)
    | none => none
  | .eq neg t x y => match eqSafeB m (ρ x) (ρ y), eqV t (ρ x) (ρ y) with
    | true, some b => some (.bool (b != neg), m)
    | _, _ => none
  | .not x => match ρ x with
    | .bool b => some (.bool (!b), m)
    | _ => none
  | .neg x => match ρ x with
    | .int k n => some (.int k (k.wrap (0 - n)), m)
    | _ => none
  | .inv x => match ρ x with
    | .int k n => some (.int k (k.wrap (BitVec.ofInt k.bits (if k.signed then -1 else k.max) ^^^ BitVec.ofInt k.bits n).toNat), m)
    | _ => none
  | .convI k x => match ρ x with
    | .int _ n => some (.int k (k.wrap n), m)
    | _ => none
  | .bytesOf e x => match ρ x with
    | .str s => some (.sl (.tok m.ntok) 1 (bytesAV s), m.newTok e)
    | _ => none
  | .strOf x => match strOfV (ρ x) with
    | some v => some (v, m)
    | none => none
  | .runeStr x => match ρ x with
    | .int _ n => some (.str (Utf8.encode n).toList, m)
    | _ => none
  | .mkIface t x => some (.iface t (ρ x), m)
  | .mkFn f first cap => some (.fn f (first.map ρ) (cap.map ρ), m)
  | .mkMap => some (.map m.next, m.alloc (.map []))
  | .mkSl t sz bytes z l c => match ρ l, ρ c with
    | .int .i64 a, .int .i64 b => if 0 ≤ a ∧ a ≤ b ∧ b.toNat * bytes ≤ roomMax ∧ b.toNat * sz ≤ roomMax then some (.osl m.next 0 a.toNat b.toNat sz, m.alloc (.cells t (List.replicate b.toNat z.cells).flatten)) else none
    | _, _ => none
  | .sliceS x lo hi => match sliceStr (ρ x) (lo.map ρ) (hi.map ρ) with
    | some v => some (v, m)
    | none => none
  | .sliceL sz x lo hi mx => match szOk sz (ρ x), sliceSl (ρ x) (lo.map ρ) (hi.map ρ) (mx.map ρ) with
    | true, some v => some (v, m)
    | _, _ => none
  | .fieldAddr off x => match fieldAddrV off (ρ x) with
    | some v => some (v, m)
    | none => none
  | .field g n off x => match ρ x with
    | .agg cs => match part g n cs off with
      | some v => some (v, m)
      | none => none
    | _ => none
  | .idxAddr sz x i => match idxAddrV sz (ρ x) (ρ i) with
    | some v => some (v, m)
    | none => none
  | .idxAddrA len sz x i => match idxAddrAV len sz (ρ x) (ρ i) with
    | some v => some (v, m)
    | none => none
  | .idxS x i => match idxSV (ρ x) (ρ i) with
    | some v => some (v, m)
    | none => none
  | .idxA g len sz x i => match idxAV g len sz (ρ x) (ρ i) with
    | some v => some (v, m)
    | none => none
  | .lookup kd z ok x k => match isKK kd (ρ k), lookupV m z ok (ρ x) (ρ k) with
    | true, some v => some (v, m)
    | _, _ => none
  | .mapUpd kd x k v => match isKK kd (ρ k), mapUpdV m (ρ x) (ρ k) (ρ v) with
    | true, some m' => some (.tup [], m')
    | _, _ => none
  | .del kd x k => match isKK kd (ρ k), delV m (ρ x) (ρ k) with
    | true, some m' => some (.tup [], m')
    | _, _ => none
  | .rangeS x => match ρ x with
    | .str s => some (.ptr m.next 0, m.alloc (.iter s 0))
    | _ => none
  | .nextS x => nextV m (ρ x)
  | .tassert t z ok x => match tassertV t z ok (ρ x) with
    | some v => some (v, m)
    | none => none
  | .extract i x => match ρ x with
    | .tup vs => match vs[i]? with
      | some v => some (v, m)
      | none => none
    | _ => none
  | .len k x => match isLK k (ρ x), lenV m (ρ x) with
    | true, some v => some (v, m)
    | _, _ => none
  | .min x y => match minV (ρ x) (ρ y) with
    | some v => some (v, m)
    | none => none
  | .max x y => match maxV (ρ x) (ρ y) with
    | some v => some (v, m)
    | none => none
  | .append e sz bytes a b => match elems (ρ b) with
    | some ys => appendV m e sz bytes (ρ a) ys
    | none => none
  | .appendO e sz bytes a b => match elems (ρ b) with
    | some ys => appendOV m e sz bytes (ρ a) ys
    | none => none
  | .bytesO e x => match ρ x with
    | .str s => some (.gsl m.next s.length 1, m.alloc (.grow e (bytesAV s)))
    | _ => none
  | .strO x => match strOV m (ρ x) with
    | some v => some (v, m)
    | none => none
  | .convP x => match convPV m (ρ x) with
    | some v => some (v, m)
    | none => none
  | .convU alts x => match convUV m alts (ρ x) with
    | some v => some (v, m)
    | none => none
  | .sliceData x => sliceDataV m (ρ x)
  | .unsafeStr u x n => match unsafeStrV u (ρ x) (ρ n) with
    | some v => some (v, m)
    | none => none
  | .idxByte x c => match idxByteV (ρ x) (ρ c) with
    | some v => some (v, m)
    | none => none
  | .panic _ | .call _ _ | .callV _ _ => none
def callOf (ρ : Opd → AV) : AOp → Option (FuncId × List AV)
  | .call f args => some (f, args.map ρ)
  | .callV x args => match ρ x with
    | .fn (.func f) first cap => some (f, first ++ args.map ρ ++ cap)
    | _ => none
  | _ => none
def wants (ρ : Opd → AV) : Option (Opd × Bool) → Option Bool
  | none => some true
  | some (x, b) => match ρ x with
    | .bool c => some (c == b)
    | .tup _ => some false
    | _ => none
structure ARegion where
  ops : List (AOp × Option (Opd × Bool))
  exp : List (Nat × Opd)
  draws : Bool := false
  pairs : List (Nat × Nat) := []
  okPan : List Nat := []
  preds : List (List Nat) := []
inductive ACode where
  | skip | region (r : ARegion) | seq (a b : ACode) | cond (c : Opd) (a b : ACode)
  | block (id : Nat) (a : ACode) | loop (kill : List Nat) (a : ACode) | exit (id : Nat) | ret
  /-- Code that is never come to. -/
  | stuck
inductive ARes where
  | var (j : Nat) | cell (j : Nat) (isAgg : Bool) (n : Nat)
structure AFn where
  nparams : Nat
  nslots : Nat
  slots : List Nat
  results : List ARes
  body : ACode
inductive AExit where
  | normal | exit (id : Nat) | ret | pan (v : AV)
def ARes.get (fr : List AV) (m : Mem) : ARes → Option AV
  | .var j => some (fr.getD j .u)
  | .cell j g n => m.load g n (fr.getD j .u)
def resultsOf (fr : List AV) (m : Mem) : List ARes → Option (List AV)
  | [] => some []
  | r :: rs => match r.get fr m, resultsOf fr m rs with
    | some v, some vs => some (v :: vs)
    | _, _ => none
def oneOr : List AV → AV
  | [v] => v
  | vs => .tup vs
def exports (env fr : List AV) : List (Nat × Opd) → List AV
  | [] => fr
  | (j, x) :: es => (exports env fr es).set j (x.ev env fr)
def kills : List Nat → List AV → List AV
  | [], fr => fr
  | j :: js, fr => (kills js fr).set j .u
inductive Tk where
  | code (c : ACode) (fr : List AV)
  | ops (os : List (AOp × Option (Opd × Bool))) (env fr : List AV) (d : Bool) (hist : List Mem)
inductive Rs where
  | exit (e : AExit) (fr : List AV)
  | env (env : List AV) (hist : List Mem)
  | pan (v : AV) (env : List AV) (hist : List Mem)
  | ret (v : AV) | raise (v : AV)
def pushH (d : Bool) (m : Mem) (hist : List Mem) : List Mem := if d then m :: hist else hist
def rereads (os : List (AOp × Option (Opd × Bool))) (env fr : List AV) (hist : List Mem) (i k : Nat) : Prop :=
  match os[i]? with
  | some (o, g) => wants (Opd.ev (env.drop (env.length - i)) fr) g = some true → ∀ m m' : Mem, (hist.reverse)[k]? = some m → (hist.reverse)[k + 1]? = some m' →
      (evalP (Opd.ev (env.drop (env.length - i)) fr) m o).map (·.1) = some (env.getD (env.length - 1 - i) .u) ∧
      (evalP (Opd.ev (env.drop (env.length - i)) fr) m' o).map (·.1) = some (env.getD (env.length - 1 - i) .u)
  | none => False
def Stable (r : ARegion) (env fr : List AV) (hist : List Mem) : Prop :=
  ∀ p ∈ r.pairs, p.1 < env.length → p.2 < env.length → rereads r.ops env fr hist p.1 p.2
inductive Big (K : FuncId → List AV → Mem → Rs → Mem → Prop) : Tk → Mem → Rs → Mem → Prop where
  | skip {fr m} : Big K (.code .skip fr) m (.exit .normal fr) m
  | exit {id fr m} : Big K (.code (.exit id) fr) m (.exit (.exit id) fr) m
  | ret {fr m} : Big K (.code .ret fr) m (.exit .ret fr) m
  | seqN {a b fr m fr' m' r m''} : Big K (.code a fr) m (.exit .normal fr') m' → Big K (.code b fr') m' r m'' → Big K (.code (.seq a b) fr) m r m''
  | seqX {a b fr m e fr' m'} : Big K (.code a fr) m (.exit e fr') m' → e ≠ .normal → Big K (.code (.seq a b) fr) m (.exit e fr') m'
  | cond {c a b fr m t r m'} : c.ev [] fr = .bool t → Big K (.code (if t then a else b) fr) m r m' → Big K (.code (.cond c a b) fr) m r m'
  | blockN {id a fr m fr' m'} : Big K (.code a fr) m (.exit (.exit id) fr') m' → Big K (.code (.block id a) fr) m (.exit .normal fr') m'
  | blockX {id a fr m e fr' m'} : Big K (.code a fr) m (.exit e fr') m' → e ≠ .exit id → Big K (.code (.block id a) fr) m (.exit e fr') m'
  | loopN {ks a fr m fr' m' r m''} : Big K (.code a fr) m (.exit .normal fr') m' → Big K (.code (.loop ks a) (kills ks fr')) m' r m'' → Big K (.code (.loop ks a) fr) m r m''
  | loopX {ks a fr m e fr' m'} : Big K (.code a fr) m (.exit e fr') m' → e ≠ .normal → Big K (.code (.loop ks a) fr) m (.exit e fr') m'
  | region {r : ARegion} {fr m env hist m'} : Big K (.ops r.ops [] fr (!r.pairs.isEmpty) []) m (.env env hist) m' → Stable r env fr (pushH (!r.pairs.isEmpty) m' hist) →
      Big K (.code (.region r) fr) m (.exit .normal (exports env fr r.exp)) m'
  | regionP {r : ARegion} {fr m v env hist m'} : Big K (.ops r.ops [] fr (!r.pairs.isEmpty) []) m (.pan v env hist) m' → (r.draws = true → env.length ∈ r.okPan) →
      Stable r env fr hist → Big K (.code (.region r) fr) m (.exit (.pan v) fr) m'
  | opsNil {env fr d h m} : Big K (.ops [] env fr d h) m (.env env h) m
  | opsSkip {o g os env fr d h m r m'} : wants (Opd.ev env fr) g = some false → Big K (.ops os (.tup [] :: env) fr d (pushH d m h)) m r m' → Big K (.ops ((o, g) :: os) env fr d h) m r m'
  | opsP {o g os env fr d h m v m1 r m'} : wants (Opd.ev env fr) g = some true → evalP (Opd.ev env fr) m o = some (v, m1) →
      Big K (.ops os (v :: env) fr d (pushH d m h)) m1 r m' → Big K (.ops ((o, g) :: os) env fr d h) m r m'
  | opsC {o g os env fr d h m f args v m1 r m'} : wants (Opd.ev env fr) g = some true → callOf (Opd.ev env fr) o = some (f, args) →
      K f args m (.ret v) m1 → Big K (.ops os (v :: env) fr d (pushH d m h)) m1 r m' → Big K (.ops ((o, g) :: os) env fr d h) m r m'
  | opsCP {o g os env fr d h m f args v m1} : wants (Opd.ev env fr) g = some true → callOf (Opd.ev env fr) o = some (f, args) →
      K f args m (.raise v) m1 → Big K (.ops ((o, g) :: os) env fr d h) m (.pan v env (pushH d m h)) m1
  | opsPan {x g os env fr d h m t v} : wants (Opd.ev env fr) g = some true → Opd.ev env fr x = .iface t v →
      Big K (.ops ((.panic x, g) :: os) env fr d h) m (.pan (.iface t v) env (pushH d m h)) m
end Go.Proofs.YtkjokjogdehonaaGreatDoor.Am
namespace Go.Proofs.YtkjokjogdehonaaGreatDoor.Am
open Go Go.RowKit
structure Cx where
  St : Nat → Nat → Value → Prop
  I : Nat → Nat → Prop
  R : Nat → Nat → Nat → Nat → Prop
  T : Nat → TypeId → Prop
  Z : Nat → Prop
  /-- How many cells a block has at least. -/
  K : Nat → Nat → Prop
structure Cx.Le (C C' : Cx) : Prop where
  st : ∀ b o v, C.St b o v → C'.St b o v
  i : ∀ id b, C.I id b → C'.I id b
  r : ∀ t b s e, C.R t b s e → C'.R t b s e
  t : ∀ b t, C.T b t → C'.T b t
  z : ∀ b, C.Z b → C'.Z b
  k : ∀ b e, C.K b e → C'.K b e
theorem Cx.Le.refl (C : Cx) : Cx.Le C C := ⟨fun _ _ _ h => h, fun _ _ h => h, fun _ _ _ _ h => h, fun _ _ h => h, fun _ h => h, fun _ _ h => h⟩
theorem Cx.Le.trans {A B C : Cx} (h : Cx.Le A B) (k : Cx.Le B C) : Cx.Le A C :=
  ⟨fun _ _ _ x => k.st _ _ _ (h.st _ _ _ x), fun _ _ x => k.i _ _ (h.i _ _ x), fun _ _ _ _ x => k.r _ _ _ _ (h.r _ _ _ _ x), fun _ _ x => k.t _ _ (h.t _ _ x), fun _ x => k.z _ (h.z _ x), fun _ _ x => k.k _ _ (h.k _ _ x)⟩
inductive Rep (C : Cx) : AV → Value → Prop where
  | u (v : Value) : Rep C .u v
  | bool (b : Bool) : Rep C (.bool b) (.bool b)
  | int (k : IntKind) (n : Int) : Rep C (.int k n) (.int k n)
  | str (l : List UInt8) (s : ByteArray) : s.data.toList = l → Rep C (.str l) (.string s)
  | agg (cs : List AV) (vs : Array Value) : vs.size = cs.length → (∀ i, i < cs.length → Rep C (cs.getD i .u) (vs.getD i undef)) → Rep C (.agg cs) (.agg vs)
  | tup (cs : List AV) (vs : Array Value) : vs.size = cs.length → (∀ i, i < cs.length → Rep C (cs.getD i .u) (vs.getD i undef)) → Rep C (.tup cs) (.tuple vs)
  | nilSl : Rep C .nilSl (.slice none 0 0)
  | sl (o : Own) (sz : Nat) (xs : List AV) (b off n cap : Nat) (val : Nat → Nat → Value) : n = xs.length → n ≤ cap → 0 < sz → (o = .full → cap = n) →
      (∀ t, o = .tok t → (n = 0 ∧ cap = 0) ∨ C.R t b (off + n * sz) (off + cap * sz)) → (∀ i, i < n → (xs.getD i .u).cells.length = sz) →
      (∀ i j, i < n → j < sz → C.St b (off + i * sz + j) (val i j)) → (∀ i j, i < n → j < sz → Rep C ((xs.getD i .u).cells.getD j .u) (val i j)) →
      Rep C (.sl o sz xs) (.slice (some ⟨b, off, none⟩) n cap)
  /-- Empty, without spare room, and somewhere. -/
  | sl0 (o : Own) (sz : Nat) (a : Addr) : (∀ t, o ≠ .tok t) → 0 < sz → Rep C (.sl o sz []) (.slice (some a) 0 0)
  | osl (id off len cap sz b : Nat) : C.I id b → len ≤ cap → Rep C (.osl id off len cap sz) (.slice (some ⟨b, off, none⟩) len cap)
  | gsl (id n sz b cap : Nat) : C.I id b → n ≤ cap → C.K b (cap * sz) → Rep C (.gsl id n sz) (.slice (some ⟨b, 0, none⟩) n cap)
  | nilPtr : Rep C .nilPtr (.pointer none)
  | ptr (id off b : Nat) : C.I id b → Rep C (.ptr id off) (.pointer (some ⟨b, off, none⟩))
  | sptr (cs : List AV) (off b base : Nat) (val : Nat → Value) : (∀ j, j < cs.length → C.St b (base + j) (val j)) → (∀ j, j < cs.length → Rep C (cs.getD j .u) (val j)) →
      Rep C (.sptr cs off) (.pointer (some ⟨b, base + off, none⟩))
  | bptr (T : TypeId) (cs : List AV) (b off : Nat) (val : Nat → Value) : C.T b T → C.Z b → (∀ j, j < cs.length → C.St b (off + j) (val j)) → (∀ j, j < cs.length → Rep C (cs.getD j .u) (val j)) →
      Rep C (.bptr T cs) (.pointer (some ⟨b, off, none⟩))
  | nilMap : Rep C .nilMap (.map none)
  | map (id b : Nat) : C.I id b → Rep C (.map id) (.map (some b))
  | nilFn : Rep C .nilFn .nilFunc
  | fn (f : Fn) (first cap : List AV) (xs ys : Array Value) : xs.size = first.length → (∀ i, i < first.length → Rep C (first.getD i .u) (xs.getD i undef)) →
      ys.size = cap.length → (∀ i, i < cap.length → Rep C (cap.getD i .u) (ys.getD i undef)) → Rep C (.fn f first cap) (.func f xs ys)
  | nilIface : Rep C .nilIface .nilIface
  | iface (t : TypeId) (v : AV) (x : Value) : Rep C v x → Rep C (.iface t v) (.iface t x)
theorem Rep.mono {C C' : Cx} (h : Cx.Le C C') : ∀ {a : AV} {v : Value}, Rep C a v → Rep C' a v := by
  intro a v r
  induction r with
  | u v => exact .u v
  | bool b => exact .bool b
  | int k n => exact .int k n
  | str l s e => exact .str l s e
  | agg cs vs hl _ ih => exact .agg cs vs hl ih
  | tup cs vs hl _ ih => exact .tup cs vs hl ih
  | nilSl => exact .nilSl
  | sl o sz xs b off n cap val h1 h2 h3 h4 h5 h6 h7 _ ih => exact .sl o sz xs b off n cap val h1 h2 h3 h4 (fun t ht => (h5 t ht).imp id (h.r _ _ _ _)) h6 (fun i j hi hj => h.st _ _ _ (h7 i j hi hj)) ih
  | sl0 o sz a h1 h2 => exact .sl0 o sz a h1 h2
  | osl id off len cap sz b hi hc => exact .osl id off len cap sz b (h.i _ _ hi) hc
  | gsl id n sz b cap hi hc hk => exact .gsl id n sz b cap (h.i _ _ hi) hc (h.k _ _ hk)
  | nilPtr => exact .nilPtr
  | ptr id off b hi => exact .ptr id off b (h.i _ _ hi)
  | sptr cs off b base val h1 _ ih => exact .sptr cs off b base val (fun j hj => h.st _ _ _ (h1 j hj)) ih
  | bptr T cs b off val ht hz h1 _ ih => exact .bptr T cs b off val (h.t _ _ ht) (h.z _ hz) (fun j hj => h.st _ _ _ (h1 j hj)) ih
  | nilMap => exact .nilMap
  | map id b hi => exact .map id b (h.i _ _ hi)
  | nilFn => exact .nilFn
  | fn f first cap xs ys h1 _ h3 _ ih1 ih2 => exact .fn f first cap xs ys h1 ih1 h3 ih2
  | nilIface => exact .nilIface
  | iface t v x _ ih => exact .iface t v x ih
def ObjRep (C : Cx) (w : World) (b : Nat) : AObj → Prop
  | .dead => True
  | .cells T cs => ∃ vs, w.heap[b]? = some (.cells vs T (0, 0)) ∧ vs.size = cs.length ∧ ∀ j, j < cs.length → Rep C (cs.getD j .u) (vs.getD j undef)
  | .grow T cs => ∃ vs lo hi, w.heap[b]? = some (.cells vs T (lo, hi)) ∧ (∀ o, lo ≤ o → o < hi → vs.size ≤ o) ∧ cs.length ≤ vs.size ∧ ∀ j, j < cs.length → Rep C (cs.getD j .u) (vs.getD j undef)
  | .map es => ∃ ents clk, w.heap[b]? = some (.map ents clk) ∧ ents.size = es.length ∧ ∀ i, i < es.length → isKey (es.getD i (.u, .u)).1 = true ∧ Rep C (es.getD i (.u, .u)).1 (ents.getD i default).key ∧ Rep C (es.getD i (.u, .u)).2 (ents.getD i default).val
  | .iter s pos => ∃ bs : ByteArray, w.heap[b]? = some (.stringIter bs pos) ∧ bs.data.toList = s
theorem ObjRep.mono {C C' : Cx} (h : Cx.Le C C') {w : World} {b : Nat} : ∀ {o : AObj}, ObjRep C w b o → ObjRep C' w b o
  | .dead, _ => trivial
  | .cells _ _, ⟨vs, h1, h2, h3⟩ => ⟨vs, h1, h2, fun j hj => (h3 j hj).mono h⟩
  | .grow _ _, ⟨vs, lo, hi, h1, h2, h3, h4⟩ => ⟨vs, lo, hi, h1, h2, h3, fun j hj => (h4 j hj).mono h⟩
  | .map _, ⟨ents, clk, h1, h2, h3⟩ => ⟨ents, clk, h1, h2, fun i hi => ⟨(h3 i hi).1, (h3 i hi).2.1.mono h, (h3 i hi).2.2.mono h⟩⟩
  | .iter _ _, ⟨bs, h1, h2⟩ => ⟨bs, h1, h2⟩
theorem ObjRep.of_heap {C : Cx} {w w' : World} {b : Nat} (h : w'.heap[b]? = w.heap[b]?) : ∀ {o : AObj}, ObjRep C w b o → ObjRep C w' b o
  | .dead, _ => trivial
  | .cells _ _, ⟨vs, h1, h2, h3⟩ => ⟨vs, h.trans h1, h2, h3⟩
  | .grow _ _, ⟨vs, lo, hi, h1, h2⟩ => ⟨vs, lo, hi, h.trans h1, h2⟩
  | .map _, ⟨ents, clk, h1, h2, h3⟩ => ⟨ents, clk, h.trans h1, h2, h3⟩
  | .iter _ _, ⟨bs, h1, h2⟩ => ⟨bs, h.trans h1, h2⟩
def TokRep (w : World) (b s e : Nat) : Prop := ∃ vs T lo hi, w.heap[b]? = some (.cells vs T (lo, hi)) ∧ e ≤ vs.size ∧ ∀ o, s ≤ o → o < e → ¬ (lo ≤ o ∧ o < hi)
structure Inv (G : Nat → Option (List AV)) (w0 : World) (C : Cx) (m : Mem) (w : World) : Prop where
  below : Below w0.heap.size w0 w
  st : ∀ b o v, C.St b o v → w.cell? ⟨b, o, none⟩ = some v
  obj : ∀ id b, C.I id b → id < m.next ∧ w0.heap.size ≤ b ∧ b < w.heap.size ∧ ObjRep C w b (m.get id)
  inj : ∀ id id' b, C.I id b → C.I id' b → id = id' ∨ m.get id = .dead ∨ m.get id' = .dead
  func : ∀ id b b', C.I id b → C.I id b' → b = b'
  sti : ∀ b o v id, C.St b o v → C.I id b → m.get id = .dead
  tok : ∀ t b s e, C.R t b s e → t < m.ntok ∧ w0.heap.size ≤ b ∧ b < w.heap.size ∧ (∀ id, ¬ C.I id b) ∧ (m.live t = true → TokRep w b s e ∧ ∀ o v, C.St b o v → o < s)
  shp : ∀ b t, C.T b t → (∃ vs fr, w.heap[b]? = some (.cells vs t fr)) ∧ ∀ id, ¬ C.I id b
  tty : ∀ t b s e, C.R t b s e → C.T b (m.tty t)
  shut : ∀ b, C.Z b → w0.heap.size ≤ b ∧ b < w.heap.size ∧ (∀ id, ¬ C.I id b) ∧ ∀ t s e, C.R t b s e → m.live t = false
  tokf : ∀ t b s e b' s' e', C.R t b s e → C.R t b' s' e' → b = b' ∧ s = s' ∧ e = e'
  toku : ∀ t t' b s e s' e', C.R t b s e → C.R t' b s' e' → m.live t = true → m.live t' = true → t = t'
  kap : ∀ b e, C.K b e → (∃ id, C.I id b) ∧ ∃ vs T fr, w.heap[b]? = some (.cells vs T fr) ∧ e ≤ vs.size
  glob : ∀ g cs, G g = some cs → Rep C (.sptr cs 0) (.pointer (some ⟨g, 0, none⟩))
section
variable {G : Nat → Option (List AV)} {w0 : World} {C : Cx} {m : Mem} {w : World}
theorem Inv.drew (h : Inv G w0 C m w) : Inv G w0 C m w.drew :=
  { below := h.below.drew, st := h.st, obj := fun id b hb => (h.obj id b hb), inj := h.inj, func := h.func, sti := h.sti,
    tok := fun t b s e hr => h.tok t b s e hr, shp := h.shp, tty := h.tty, shut := h.shut, tokf := h.tokf, toku := h.toku, kap := h.kap, glob := h.glob }
theorem TokRep.of_heap {w w' : World} {b s e : Nat} (h : w'.heap[b]? = w.heap[b]?) : TokRep w b s e → TokRep w' b s e
  | ⟨vs, T, lo, hi, h1, h2, h3⟩ => ⟨vs, T, lo, hi, h.trans h1, h2, h3⟩
theorem Inv.alloc_any (h : Inv G w0 C m w) (o : Obj) : Inv G w0 C m (w.alloc o) :=
  { below := h.below.alloc h.below.size o
    st := fun b o' v hs => by
      have hc := h.st b o' v hs
      rw [World.cell?_alloc_lt]
      · exact hc
      · exact block_lt_of_cell hc
    obj := fun id b hb => let ⟨h1, h2, h3, h4⟩ := h.obj id b hb
      ⟨h1, h2, by simp; omega, h4.of_heap (heap_alloc_old _ _ _ h3)⟩
    inj := h.inj, func := h.func, sti := h.sti
    tok := fun t b s e hr => let ⟨h1, h2, h3, h3', h4⟩ := h.tok t b s e hr
      ⟨h1, h2, by simp; omega, h3', fun hl => let ⟨k1, k2⟩ := h4 hl; ⟨k1.of_heap (heap_alloc_old _ _ _ h3), k2⟩⟩
    shp := fun b t ht => let ⟨⟨vs, fr, h1⟩, h2⟩ := h.shp b t ht
      ⟨⟨vs, fr, (heap_alloc_old _ _ _ (Array.getElem?_eq_some_iff.1 h1).1).trans h1⟩, h2⟩
    tty := h.tty
    shut := fun b hz => let ⟨h1, h2, h3, h4⟩ := h.shut b hz; ⟨h1, by simp; omega, h3, h4⟩
    tokf := h.tokf, toku := h.toku, kap := fun b e hk => let ⟨h1, vs, T, fr, h2, h3⟩ := h.kap b e hk; ⟨h1, vs, T, fr, (heap_alloc_old _ _ _ (Array.getElem?_eq_some_iff.1 h2).1).trans h2, h3⟩, glob := h.glob }
def Cx.addI (C : Cx) (id b : Nat) : Cx := { C with I := fun i c => C.I i c ∨ (i = id ∧ c = b) }
theorem Cx.le_addI (C : Cx) (id b : Nat) : Cx.Le C (C.addI id b) := ⟨fun _ _ _ h => h, fun _ _ h => .inl h, fun _ _ _ _ h => h, fun _ _ h => h, fun _ h => h, fun _ _ h => h⟩
theorem Mem.get_alloc_lt {m : Mem} {o : AObj} {i : Nat} (h : i < m.next) : (m.alloc o).get i = m.get i := by
  simp only [Mem.alloc]; rw [if_neg (by omega)]
theorem Mem.get_alloc_new {m : Mem} {o : AObj} : (m.alloc o).get m.next = o := by simp [Mem.alloc]
theorem Inv.alloc_obj (h : Inv G w0 C m w) {o : Obj} {a : AObj} (ho : ∀ C', Cx.Le C C' → ObjRep C' (w.alloc o) w.heap.size a) :
    Inv G w0 (C.addI m.next w.heap.size) (m.alloc a) (w.alloc o) := by
  have hle := C.le_addI m.next w.heap.size
  have h' := h.alloc_any o
  have hns : ∀ b s v, C.St b s v → b < w.heap.size := fun b s v hs => block_lt_of_cell (a := ⟨b, s, none⟩) (h.st b s v hs)
  exact
  { below := h'.below, st := h'.st
    obj := fun id b hb => by
      rcases hb with hb | ⟨rfl, rfl⟩
      · obtain ⟨h1, h2, h3, h4⟩ := h'.obj id b hb
        exact ⟨by simp only [Mem.alloc]; omega, h2, h3, by rw [Mem.get_alloc_lt h1]; exact h4.mono hle⟩
      · exact ⟨by simp [Mem.alloc], h.below.size, by simp, by rw [Mem.get_alloc_new]; exact ho _ hle⟩
    inj := fun id id' b hb hb' => by
      rcases hb with hb | ⟨rfl, rfl⟩ <;> rcases hb' with hb' | ⟨e1, e2⟩
      · rw [Mem.get_alloc_lt (h.obj _ _ hb).1, Mem.get_alloc_lt (h.obj _ _ hb').1]; exact h.inj _ _ _ hb hb'
      · have := (h.obj _ _ hb).2.2.1; omega
      · have := (h.obj _ _ hb').2.2.1; omega
      · exact .inl e1.symm
    func := fun id b b' hb hb' => by
      rcases hb with hb | ⟨rfl, rfl⟩ <;> rcases hb' with hb' | ⟨e1, e2⟩
      · exact h.func _ _ _ hb hb'
      · have := (h.obj _ _ hb).1; omega
      · have := (h.obj _ _ hb').1; omega
      · exact e2.symm
    sti := fun b o' v id hs hb => by
      rcases hb with hb | ⟨rfl, rfl⟩
      · rw [Mem.get_alloc_lt (h.obj _ _ hb).1]; exact h.sti _ _ _ _ hs hb
      · exact absurd (hns _ _ _ hs) (by omega)
    tok := fun t b s e hr => by
      obtain ⟨h1, h2, h3, h3', h4⟩ := h'.tok t b s e hr
      refine ⟨h1, h2, h3, fun id hb => ?_, h4⟩
      rcases hb with hb | ⟨rfl, rfl⟩
      · exact h3' _ hb
      · exact absurd (h.tok t _ s e hr).2.2.1 (by omega)
    shp := fun b t ht => by
      obtain ⟨h1, h2⟩ := h'.shp b t ht
      refine ⟨h1, fun id hb => ?_⟩
      rcases hb with hb | ⟨rfl, rfl⟩
      · exact h2 _ hb
      · obtain ⟨⟨vs, fr, k⟩, _⟩ := h.shp _ t ht
        exact absurd (Array.getElem?_eq_some_iff.1 k).1 (by omega)
    tty := h.tty
    shut := fun b hz => by
      obtain ⟨h1, h2, h3, h4⟩ := h'.shut b hz
      refine ⟨h1, h2, fun id hb => ?_, h4⟩
      rcases hb with hb | ⟨rfl, rfl⟩
      · exact h3 _ hb
      · exact absurd (h.shut _ hz).2.1 (by omega)
    tokf := h.tokf, toku := h.toku, kap := fun b e hk => let ⟨⟨id, h1⟩, h2⟩ := h'.kap b e hk; ⟨⟨id, .inl h1⟩, h2⟩, glob := fun g cs hg => (h.glob g cs hg).mono hle }
theorem Inv.kmap (h : Inv G w0 C m w) {id b : Nat} (hb : C.I id b) {es : List (AV × AV)} (hm : m.get id = .map es) (e : Nat) : ¬ C.K b e := by
  intro hk
  obtain ⟨_, vs, T, fr, h1, _⟩ := h.kap b e hk
  have ho := (h.obj id b hb).2.2.2
  rw [hm] at ho
  obtain ⟨ents, clk, k1, _⟩ := ho
  rw [h1] at k1; cases k1
theorem Inv.kiter (h : Inv G w0 C m w) {id b : Nat} (hb : C.I id b) {s : List UInt8} {pos : Nat} (hm : m.get id = .iter s pos) (e : Nat) : ¬ C.K b e := by
  intro hk
  obtain ⟨_, vs, T, fr, h1, _⟩ := h.kap b e hk
  have ho := (h.obj id b hb).2.2.2
  rw [hm] at ho
  obtain ⟨bs, k1, _⟩ := ho
  rw [h1] at k1; cases k1
theorem Inv.write_obj (h : Inv G w0 C m w) {id b : Nat} (hb : C.I id b) (hd : m.get id ≠ .dead) {w' : World} {a : AObj} (hbelow : Below w0.heap.size w0 w') (hsize : w'.heap.size = w.heap.size)
    (hother : ∀ k, k ≠ b → w'.heap[k]? = w.heap[k]?) (ho : ObjRep C w' b a) (hk : ∀ e, C.K b e → ∃ vs T fr, w'.heap[b]? = some (.cells vs T fr) ∧ e ≤ vs.size) : Inv G w0 C (m.set id a) w' :=
  { below := hbelow
    st := fun b' o v hs => by
      have hne : b' ≠ b := fun e => hd (h.sti _ _ _ _ hs (e ▸ hb))
      rw [World.cell?_of_block (w := w) (hother b' hne)]; exact h.st _ _ _ hs
    obj := fun id' b' hb' => by
      obtain ⟨h1, h2, h3, h4⟩ := h.obj id' b' hb'
      by_cases e : id' = id
      · subst e
        obtain rfl := h.func _ _ _ hb hb'
        exact ⟨h1, h2, by omega, by simpa [Mem.set] using ho⟩
      · refine ⟨h1, h2, by omega, ?_⟩
        simp only [Mem.set]; rw [if_neg e]
        by_cases e' : b' = b
        · rcases h.inj _ _ _ hb' (e' ▸ hb) with q | q | q
          · exact absurd q e
          · rw [q]; trivial
          · exact absurd q hd
        · exact h4.of_heap (hother _ e')
    inj := fun i j b' hi hj => by
      have k : ∀ i, m.get i = .dead → (m.set id a).get i = .dead := fun i hq => by
        simp only [Mem.set]; rw [if_neg (fun e : i = id => hd (e ▸ hq))]; exact hq
      exact (h.inj i j b' hi hj).imp (fun q => q) fun q => q.imp (k i) (k j)
    func := h.func
    sti := fun b' o v id' hs hb' => by
      have := h.sti _ _ _ _ hs hb'
      by_cases e : id' = id
      · subst e; exact absurd this hd
      · simp only [Mem.set]; rw [if_neg e]; exact this
    tok := fun t b' s e hr => by
      obtain ⟨h1, h2, h3, h3', h4⟩ := h.tok t b' s e hr
      refine ⟨h1, h2, by omega, h3', fun hl => ?_⟩
      obtain ⟨k1, k2⟩ := h4 hl
      exact ⟨k1.of_heap (hother _ fun e' => h3' id (e' ▸ hb)), k2⟩
    shp := fun b' t ht => by
      obtain ⟨⟨vs, fr, h1⟩, h2⟩ := h.shp b' t ht
      exact ⟨⟨vs, fr, (hother b' (fun e' => h2 id (e' ▸ hb))).trans h1⟩, h2⟩
    tty := h.tty
    shut := fun b' hz => by obtain ⟨h1, h2, h3, h4⟩ := h.shut b' hz; exact ⟨h1, by omega, h3, h4⟩
    tokf := h.tokf, toku := h.toku, kap := fun b' e hk' => by
      obtain ⟨h1, vs, T, fr, h2, h3⟩ := h.kap b' e hk'
      by_cases e' : b' = b
      · subst e'; exact ⟨h1, hk e hk'⟩
      · exact ⟨h1, vs, T, fr, (hother _ e').trans h2, h3⟩
   , glob := h.glob }
theorem Inv.kill (h : Inv G w0 C m w) (t : Nat) : Inv G w0 C (m.killTok t) w :=
  { below := h.below, st := h.st, obj := h.obj, inj := h.inj, func := h.func, sti := h.sti
    tok := fun t' b s e hr => by
      obtain ⟨h1, h2, h3, h3', h4⟩ := h.tok t' b s e hr
      refine ⟨h1, h2, h3, h3', fun hl => h4 ?_⟩
      simp only [Mem.killTok] at hl
      split at hl
      · cases hl
      · exact hl
    shp := h.shp, tty := h.tty
    shut := fun b hz => by
      obtain ⟨h1, h2, h3, h4⟩ := h.shut b hz
      refine ⟨h1, h2, h3, fun t' s e hr => ?_⟩
      simp only [Mem.killTok]
      split
      · rfl
      · exact h4 t' s e hr
    tokf := h.tokf
    toku := fun t1 t2 b s e s' e' r1 r2 l1 l2 => by
      refine h.toku t1 t2 b s e s' e' r1 r2 ?_ ?_
      · simp only [Mem.killTok] at l1; split at l1 <;> simp_all
      · simp only [Mem.killTok] at l2; split at l2 <;> simp_all
    kap := h.kap, glob := h.glob }
def Cx.addS (C : Cx) (b : Nat) (P : Nat → Value → Prop) (t s e : Nat) (ty : TypeId) : Cx :=
  { St := fun b' o v => C.St b' o v ∨ (b' = b ∧ P o v), I := C.I, R := fun t' b' s' e' => C.R t' b' s' e' ∨ (t' = t ∧ b' = b ∧ s' = s ∧ e' = e)
    T := fun b' t' => C.T b' t' ∨ (b' = b ∧ t' = ty), Z := C.Z, K := C.K }
theorem Cx.le_addS (C : Cx) (b : Nat) (P : Nat → Value → Prop) (t s e : Nat) (ty : TypeId) : Cx.Le C (C.addS b P t s e ty) :=
  ⟨fun _ _ _ h => .inl h, fun _ _ h => h, fun _ _ _ _ h => .inl h, fun _ _ h => .inl h, fun _ h => h, fun _ _ h => h⟩
theorem Inv.newTok (h : Inv G w0 C m w) {w' : World} {b s e : Nat} {ty : TypeId} {P : Nat → Value → Prop} (hbelow : Below w0.heap.size w0 w') (hb0 : w0.heap.size ≤ b) (hsize : w.heap.size ≤ w'.heap.size) (hb : b < w'.heap.size)
    (hother : ∀ k, k < w.heap.size → k ≠ b → w'.heap[k]? = w.heap[k]?) (hold : ∀ o v, C.St b o v → w'.cell? ⟨b, o, none⟩ = some v)
    (hI : ∀ id, ¬ C.I id b) (hP : ∀ o v, P o v → w'.cell? ⟨b, o, none⟩ = some v ∧ o < s) (hS : ∀ o v, C.St b o v → o < s)
    (htok : TokRep w' b s e) (hdead : ∀ t s' e', C.R t b s' e' → m.live t = false) (hT : ∃ vs fr, w'.heap[b]? = some (.cells vs ty fr)) (hTo : ∀ t, C.T b t → t = ty) (hZ : ¬ C.Z b) : Inv G w0 (C.addS b P m.ntok s e ty) (m.newTok ty) w' := by
  have hle := C.le_addS b P m.ntok s e ty
  have live_old : ∀ t, t < m.ntok → (m.newTok ty).live t = m.live t := fun t ht => by simp only [Mem.newTok]; rw [if_neg (by omega)]
  exact
  { below := hbelow
    st := fun b' o v hs => by
      rcases hs with hs | ⟨rfl, hp⟩
      · by_cases e' : b' = b
        · subst e'; exact hold _ _ hs
        · rw [World.cell?_of_block (w := w) (hother b' (block_lt_of_cell (a := ⟨b', o, none⟩) (h.st _ _ _ hs)) e')]; exact h.st _ _ _ hs
      · exact (hP _ _ hp).1
    obj := fun id b' hb' => by
      obtain ⟨h1, h2, h3, h4⟩ := h.obj id b' hb'
      have hne : b' ≠ b := fun e' => hI id (e' ▸ hb')
      exact ⟨h1, h2, by omega, (h4.of_heap (hother _ h3 hne)).mono hle⟩
    inj := h.inj, func := h.func
    sti := fun b' o v id hs hb' => by
      rcases hs with hs | ⟨rfl, _⟩
      · exact h.sti _ _ _ _ hs hb'
      · exact absurd hb' (hI _)
    tok := fun t b' s' e' hr => by
      rcases hr with hr | ⟨rfl, rfl, rfl, rfl⟩
      · obtain ⟨h1, h2, h3, h3', h4⟩ := h.tok t b' s' e' hr
        refine ⟨by simp only [Mem.newTok]; omega, h2, by omega, h3', fun hl => ?_⟩
        rw [live_old t h1] at hl
        have hne : b' ≠ b := fun e'' => by subst e''; rw [hdead _ _ _ hr] at hl; cases hl
        obtain ⟨k1, k2⟩ := h4 hl
        refine ⟨k1.of_heap (hother _ h3 hne), fun o v hs => ?_⟩
        rcases hs with hs | ⟨e1, _⟩
        · exact k2 _ _ hs
        · exact absurd e1 hne
      · refine ⟨by simp [Mem.newTok], hb0, hb, hI, fun _ => ⟨htok, fun o v hs => ?_⟩⟩
        rcases hs with hs | ⟨_, hp⟩
        · exact hS _ _ hs
        · exact (hP _ _ hp).2
    shp := fun b' t ht => by
      by_cases e' : b' = b
      · subst e'
        have : t = ty := by
          rcases ht with ht | ⟨_, rfl⟩
          · exact hTo _ ht
          · rfl
        subst this
        exact ⟨hT, hI⟩
      · rcases ht with ht | ⟨e1, _⟩
        · obtain ⟨⟨vs, fr, h1⟩, h2⟩ := h.shp b' t ht
          exact ⟨⟨vs, fr, (hother _ (Array.getElem?_eq_some_iff.1 h1).1 e').trans h1⟩, h2⟩
        · exact absurd e1 e'
    tty := fun t b' s' e' hr => by
      rcases hr with hr | ⟨rfl, rfl, rfl, rfl⟩
      · have := (h.tok _ _ _ _ hr).1
        left
        simp only [Mem.newTok]; rw [if_neg (by omega)]
        exact h.tty _ _ _ _ hr
      · right; exact ⟨rfl, by simp [Mem.newTok]⟩
    shut := fun b' hz => by
      obtain ⟨h1, h2, h3, h4⟩ := h.shut b' hz
      refine ⟨h1, by omega, h3, fun t s' e' hr => ?_⟩
      rcases hr with hr | ⟨rfl, rfl, _⟩
      · rw [live_old _ (h.tok _ _ _ _ hr).1]; exact h4 _ _ _ hr
      · exact absurd hz hZ
    tokf := fun t b1 s1 e1 b2 s2 e2 r1 r2 => by
      rcases r1 with r1 | ⟨rfl, rfl, rfl, rfl⟩ <;> rcases r2 with r2 | ⟨f1, rfl, rfl, rfl⟩
      · exact h.tokf _ _ _ _ _ _ _ r1 r2
      · have := (h.tok _ _ _ _ r1).1; omega
      · have := (h.tok _ _ _ _ r2).1; omega
      · exact ⟨rfl, rfl, rfl⟩
    toku := fun t1 t2 b' s1 e1 s2 e2 r1 r2 l1 l2 => by
      rcases r1 with r1 | ⟨rfl, rfl, rfl, rfl⟩ <;> rcases r2 with r2 | ⟨f1, f2, f3, f4⟩
      · rw [live_old _ (h.tok _ _ _ _ r1).1] at l1; rw [live_old _ (h.tok _ _ _ _ r2).1] at l2
        exact h.toku _ _ _ _ _ _ _ r1 r2 l1 l2
      · subst f2; rw [live_old _ (h.tok _ _ _ _ r1).1, hdead _ _ _ r1] at l1; cases l1
      · rw [live_old _ (h.tok _ _ _ _ r2).1, hdead _ _ _ r2] at l2; cases l2
      · exact f1.symm
    kap := fun b' e' hk => by
      obtain ⟨⟨id, h1⟩, vs, T, fr, h2, h3⟩ := h.kap b' e' hk
      have hne : b' ≠ b := fun e'' => hI id (e'' ▸ h1)
      exact ⟨⟨id, h1⟩, vs, T, fr, (hother _ (Array.getElem?_eq_some_iff.1 h2).1 hne).trans h2, h3⟩
   , glob := fun g cs hg => (h.glob g cs hg).mono hle }
end
end Go.Proofs.YtkjokjogdehonaaGreatDoor.Am
namespace Go.Proofs.YtkjokjogdehonaaGreatDoor.Am
open Go Go.RowKit
def NextRep (C : Cx) (v : AV) : Next → Prop
  | .value cv => Rep C v cv
  | .skip => v = .tup []
  | _ => False
def Res (G : Nat → Option (List AV)) (w0 : World) (C : Cx) (m1 : Mem) (v : AV) (r : Result Next) : Prop :=
  ∃ nx w' C', r = .ok nx w' ∧ Cx.Le C C' ∧ Inv G w0 C' m1 w' ∧ NextRep C' v nx
section
variable {G : Nat → Option (List AV)} {w0 : World} {C : Cx} {m : Mem} {w : World} {P : Program}
theorem Res.quiet (hI : Inv G w0 C m w) {s : Sem Value} {cv : Value} {v : AV} (h : s.run P w = .ok cv w) (hr : Rep C v cv) :
    Res G w0 C m v ((do pure (.value (← s)) : Sem Next).run P w) :=
  ⟨.value cv, w, C, by simp [h], .refl C, hI, hr⟩
theorem Res.made {w' : World} {C' : Cx} {m1 : Mem} {s : Sem Value} {cv : Value} {v : AV} (h : s.run P w = .ok cv w') (hle : Cx.Le C C') (hI : Inv G w0 C' m1 w') (hr : Rep C' v cv) :
    Res G w0 C m1 v ((do pure (.value (← s)) : Sem Next).run P w) :=
  ⟨.value cv, w', C', by simp [h], hle, hI, hr⟩
theorem Res.done {w' : World} {C' : Cx} {m1 : Mem} {s : Sem Unit} (h : s.run P w = .ok () w') (hle : Cx.Le C C') (hI : Inv G w0 C' m1 w') :
    Res G w0 C m1 (.tup []) ((do s; pure .skip : Sem Next).run P w) :=
  ⟨.skip, w', C', by simp [h], hle, hI, rfl⟩
theorem getD_eq {α : Type} {l : List α} {i : Nat} {x d : α} (h : l[i]? = some x) : l.getD i d = x := by simp [List.getD, h]
theorem agetD_eq {α : Type} {l : Array α} {i : Nat} {x d : α} (h : l[i]? = some x) : l.getD i d = x := by
  rw [Array.getD_eq_getD_getElem?]; simp [h]
theorem agetD_lt {l : Array Value} {i : Nat} (h : i < l.size) : l[i]? = some (l.getD i undef) := by
  rw [Array.getD_eq_getD_getElem?, Array.getElem?_eq_getElem h]; rfl
theorem rep_cells {a : AV} {v : Value} (h : Rep C a v) (hu : a ≠ .u) : v.cells.size = a.cells.length ∧ ∀ i, i < a.cells.length → Rep C (a.cells.getD i .u) (v.cells.getD i undef) := by
  have one : ∀ (a : AV) (v : Value), Rep C a v → (∀ i, i < [a].length → Rep C ([a].getD i .u) ((#[v] : Array Value).getD i undef)) := by
    intro a v h i hi
    obtain rfl : i = 0 := by simpa using hi
    exact h
  cases h with
  | u v => exact absurd rfl hu
  | agg cs vs hl hr => exact ⟨hl, hr⟩
  | bool b => exact ⟨rfl, one _ _ (.bool b)⟩
  | int k n => exact ⟨rfl, one _ _ (.int k n)⟩
  | str l s e => exact ⟨rfl, one _ _ (.str l s e)⟩
  | tup cs vs hl hr => exact ⟨rfl, one _ _ (.tup cs vs hl hr)⟩
  | nilSl => exact ⟨rfl, one _ _ .nilSl⟩
  | sl o sz xs b off n cap val h1 h2 h3 h4 h5 h6 h7 h8 => exact ⟨rfl, one _ _ (.sl o sz xs b off n cap val h1 h2 h3 h4 h5 h6 h7 h8)⟩
  | sl0 o sz a h1 h2 => exact ⟨rfl, one _ _ (.sl0 o sz a h1 h2)⟩
  | osl id off len cap sz b hi hc => exact ⟨rfl, one _ _ (.osl id off len cap sz b hi hc)⟩
  | gsl id n sz b cap hi hc hk => exact ⟨rfl, one _ _ (.gsl id n sz b cap hi hc hk)⟩
  | nilPtr => exact ⟨rfl, one _ _ .nilPtr⟩
  | ptr id off b hi => exact ⟨rfl, one _ _ (.ptr id off b hi)⟩
  | sptr cs off b base val h1 h2 => exact ⟨rfl, one _ _ (.sptr cs off b base val h1 h2)⟩
  | bptr T cs b off val ht hz h1 h2 => exact ⟨rfl, one _ _ (.bptr T cs b off val ht hz h1 h2)⟩
  | nilMap => exact ⟨rfl, one _ _ .nilMap⟩
  | map id b hi => exact ⟨rfl, one _ _ (.map id b hi)⟩
  | nilFn => exact ⟨rfl, one _ _ .nilFn⟩
  | fn f first cap xs ys h1 h2 h3 h4 => exact ⟨rfl, one _ _ (.fn f first cap xs ys h1 h2 h3 h4)⟩
  | nilIface => exact ⟨rfl, one _ _ .nilIface⟩
  | iface t v x h => exact ⟨rfl, one _ _ (.iface t v x h)⟩
theorem scal_one {a : AV} {v : Value} (h : Rep C a v) (hs : scal a = true) : v.oneCell' = true := by
  cases h <;> first | rfl | (simp [scal] at hs)
theorem ne_u {a : AV} (h : a.cells.all scal = true) : a ≠ .u := by
  rintro rfl; simp [AV.cells, scal] at h
theorem cells_one {a : AV} {v : Value} (h : Rep C a v) (hs : a.cells.all scal = true) : ∀ x ∈ v.cells.toList, x.oneCell' = true := by
  obtain ⟨hl, hr⟩ := rep_cells h (ne_u hs)
  intro x hx
  obtain ⟨i, hi, rfl⟩ := List.mem_iff_getElem.1 hx
  simp only [Array.length_toList] at hi
  have h2 := hr i (by omega)
  rw [agetD_eq (Array.getElem?_eq_getElem hi)] at h2
  refine scal_one h2 ?_
  have hlt : i < a.cells.length := by omega
  rw [getD_eq (List.getElem?_eq_getElem hlt)]
  exact (List.all_eq_true.1 hs) _ (List.getElem_mem hlt)
def CellsAt (C : Cx) (w : World) (b base : Nat) (cs : List AV) : Prop := ∀ j, j < cs.length → ∃ v, w.cell? ⟨b, base + j, none⟩ = some v ∧ Rep C (cs.getD j .u) v
def aggB (P : Program) (t : TypeId) : Option Bool :=
  match P.underlying t with
  | some (.struct _) | some (.array _ _) => some true
  | some _ => some false
  | none => none
def cellsB (P : Program) (t : TypeId) : Option Nat := (P.info? t).map (·.size)
def shapeOk (P : Program) (t : TypeId) (g : Bool) (n : Nat) : Bool := aggB P t == some g && cellsB P t == some n
theorem run_isAgg {t : TypeId} {g : Bool} (h : aggB P t = some g) : (isAgg t).run P w = .ok g w := by
  unfold aggB at h
  unfold isAgg
  cases hu : P.underlying t with
  | none => simp [hu] at h
  | some d =>
    simp only [hu] at h
    simp only [Sem.run_bind, run_underlying hu, Result.andThen]
    cases d <;> simp at h <;> subst h <;> rfl
theorem run_sizeOf {t : TypeId} {n : Nat} (h : cellsB P t = some n) : (sizeOf t).run P w = .ok n w := by
  unfold cellsB at h
  cases hi : P.info? t with
  | none => simp [hi] at h
  | some i => simp [hi] at h; simp [sizeOf, typeInfo, hi, h]
theorem shapeOk_iff {t : TypeId} {g : Bool} {n : Nat} (h : shapeOk P t g n = true) : aggB P t = some g ∧ cellsB P t = some n := by
  simpa [shapeOk] using h
theorem part_rep {g : Bool} {n off : Nat} {cs : List AV} {vs : Array Value} {x : AV} (hl : vs.size = cs.length) (hr : ∀ j, j < cs.length → Rep C (cs.getD j .u) (vs.getD j undef)) (h : Am.part g n cs off = some x) {t : TypeId} (hs : shapeOk P t g n = true) :
    ∃ cv, (Go.part t vs off).run P w = .ok cv w ∧ Rep C x cv := by
  obtain ⟨h1, h2⟩ := shapeOk_iff hs
  unfold Go.part
  cases g with
  | true =>
    simp only [Am.part] at h
    split at h
    · rename_i hle
      injection h with h; subst h
      refine ⟨.agg (vs.extract off (off + n)), by simp [run_isAgg h1, run_sizeOf h2], .agg _ _ (by simp; omega) fun i hi => ?_⟩
      have hi' : i < n := by simp at hi; omega
      have e1 : (List.take n (List.drop off cs)).getD i .u = cs.getD (off + i) .u := by
        simp [List.getD, hi', List.getElem?_drop]
      have e2 : (vs.extract off (off + n)).getD i undef = vs.getD (off + i) undef := by
        rw [Array.getD_eq_getD_getElem?, Array.getD_eq_getD_getElem?, Array.getElem?_extract, if_pos (by omega)]
      rw [e1, e2]
      exact hr _ (by omega)
    · cases h
  | false =>
    simp only [Am.part] at h
    have hlt : off < cs.length := (List.getElem?_eq_some_iff.1 h).1
    have e := agetD_lt (l := vs) (i := off) (by omega)
    refine ⟨vs.getD off undef, by simp only [Sem.run_bind, run_isAgg h1, Result.andThen, Bool.false_eq_true, if_false]; rw [e]; rfl, ?_⟩
    have := hr off hlt
    rwa [getD_eq h] at this
theorem run_loadVar_at {b base off : Nat} {cs : List AV} (hc : CellsAt C w b base cs) {g : Bool} {n : Nat} {x : AV} (h : Am.part g n cs off = some x) {t : TypeId} (hs : shapeOk P t g n = true) :
    ∃ cv, (loadVar t ⟨b, base + off, none⟩).run P w = .ok cv w ∧ Rep C x cv := by
  obtain ⟨h1, h2⟩ := shapeOk_iff hs
  unfold loadVar
  cases g with
  | true =>
    simp only [Am.part] at h
    split at h
    · rename_i hle
      injection h with h; subst h
      have hcell : ∀ j, j < n → ∃ v, w.cell? ((⟨b, base + off, none⟩ : Addr).add j) = some v ∧ Rep C (cs.getD (off + j) .u) v := by
        intro j hj
        obtain ⟨v, k1, k2⟩ := hc (off + j) (by omega)
        exact ⟨v, by rw [Addr.add_lit, Nat.add_assoc]; exact k1, k2⟩
      have hl := run_loadCells (P := P) w ⟨b, base + off, none⟩ n (fun j => (w.cell? ((⟨b, base + off, none⟩ : Addr).add j)).getD undef)
        (fun j hj => by obtain ⟨v, k1, _⟩ := hcell j hj; simp [k1])
      refine ⟨_, by simp only [Sem.run_bind, run_isAgg h1, Result.andThen, if_true, run_sizeOf h2, hl, Sem.run_pure]; rfl, .agg _ _ (by simp; omega) fun i hi => ?_⟩
      have hi' : i < n := by simp at hi; omega
      obtain ⟨v, k1, k2⟩ := hcell i hi'
      have e1 : (List.take n (List.drop off cs)).getD i .u = cs.getD (off + i) .u := by
        simp [List.getD, hi', List.getElem?_drop]
      rw [e1, agetD_eq (x := v) (by simp [hi', k1])]
      exact k2
    · cases h
  | false =>
    simp only [Am.part] at h
    have hlt : off < cs.length := (List.getElem?_eq_some_iff.1 h).1
    obtain ⟨v, k1, k2⟩ := hc off hlt
    refine ⟨v, by simp [run_isAgg h1, k1], ?_⟩
    rwa [getD_eq h] at k2
theorem cellsAt_obj (hI : Inv G w0 C m w) {id b : Nat} (hb : C.I id b) {T : TypeId} {cs : List AV} (h : m.get id = .cells T cs) : CellsAt C w b 0 cs := by
  obtain ⟨_, _, _, ho⟩ := hI.obj id b hb
  rw [h] at ho
  obtain ⟨vs, h1, h2, h3⟩ := ho
  intro j hj
  refine ⟨vs.getD j undef, ?_, h3 j hj⟩
  rw [Nat.zero_add, cell_of_row _ _ _ _ _ _ h1]
  exact agetD_lt (by omega)
theorem cellsAt_grow (hI : Inv G w0 C m w) {id b : Nat} (hb : C.I id b) {T : TypeId} {cs : List AV} (h : m.get id = .grow T cs) : CellsAt C w b 0 cs := by
  obtain ⟨_, _, _, ho⟩ := hI.obj id b hb
  rw [h] at ho
  obtain ⟨vs, lo, hi, h1, h2, h3, h4⟩ := ho
  intro j hj
  refine ⟨vs.getD j undef, ?_, h4 j hj⟩
  rw [Nat.zero_add, cell_of_row _ _ _ _ _ _ h1]
  exact agetD_lt (by omega)
theorem load_at (hI : Inv G w0 C m w) {a : AV} {v : Value} (hr : Rep C a v) {g : Bool} {n : Nat} {x : AV} (h : m.load g n a = some x) :
    ∃ b base off cs, v = .pointer (some ⟨b, base + off, none⟩) ∧ CellsAt C w b base cs ∧ Am.part g n cs off = some x := by
  cases hr with
  | ptr id off b hi =>
    simp only [Mem.load] at h
    split at h
    · rename_i T cs hc
      exact ⟨b, 0, off, cs, by simp, cellsAt_obj hI hi hc, h⟩
    · rename_i T cs hc
      exact ⟨b, 0, off, cs, by simp, cellsAt_grow hI hi hc, h⟩
    · cases h
  | sptr cs off b base val h1 h2 =>
    simp only [Mem.load] at h
    exact ⟨b, base, off, cs, rfl, fun j hj => ⟨val j, hI.st _ _ _ (h1 j hj), h2 j hj⟩, h⟩
  | _ => simp [Mem.load] at h
theorem load_ok (hI : Inv G w0 C m w) {a x : AV} {v : Value} (hr : Rep C a v) {t : TypeId} {g : Bool} {n : Nat} (hs : shapeOk P t g n = true) (h : m.load g n a = some x) :
    Res G w0 C m x ((do pure (.value (← Instr.loadAt t v)) : Sem Next).run P w) := by
  obtain ⟨b, base, off, cs, rfl, hc, hp⟩ := load_at hI hr h
  obtain ⟨cv, k1, k2⟩ := run_loadVar_at (P := P) hc hp hs
  exact Res.quiet hI (by simpa [Instr.loadAt, Instr.sureAddr] using k1) k2
theorem setCells_length : ∀ (ys cs : List AV) (off : Nat), (setCells cs off ys).length = cs.length
  | [], _, _ => rfl
  | _ :: ys, cs, off => by simp [setCells, setCells_length ys]
theorem setCells_getD : ∀ (ys cs : List AV) (off j : Nat), off + ys.length ≤ cs.length → (setCells cs off ys).getD j .u = if off ≤ j ∧ j < off + ys.length then ys.getD (j - off) .u else cs.getD j .u
  | [], cs, off, j, _ => by simp [setCells]; intro h1 h2; omega
  | y :: ys, cs, off, j, h => by
    simp only [List.length_cons] at h
    rw [setCells, setCells_getD ys _ _ _ (by simp; omega)]
    by_cases e : j = off
    · subst e
      rw [if_neg (by omega), if_pos (by simp)]
      simp [List.getD, List.getElem?_set_self (show j < cs.length by omega)]
    · by_cases h1 : off + 1 ≤ j ∧ j < off + 1 + ys.length
      · rw [if_pos h1, if_pos (by simp; omega)]
        obtain ⟨d, rfl⟩ : ∃ d, j = off + 1 + d := ⟨j - (off + 1), by omega⟩
        have e1 : off + 1 + d - (off + 1) = d := by omega
        have e2 : off + 1 + d - off = d + 1 := by omega
        rw [e1, e2]; simp [List.getD]
      · rw [if_neg h1, if_neg (by simp; omega)]
        simp [List.getD, List.getElem?_set_ne (show off ≠ j by omega)]
theorem heap_setRow_same {w : World} {g : Nat} {cs : Array Value} {cur : Array Value} {t : TypeId} {fr : Nat × Nat} (h : w.heap[g]? = some (.cells cur t fr)) : (w.setRow g cs).heap[g]? = some (.cells cs t fr) := by
  simp [World.setRow, Array.getElem?_modify, h]
theorem heap_setRow_other {w : World} {g k : Nat} {cs : Array Value} (h : k ≠ g) : (w.setRow g cs).heap[k]? = w.heap[k]? := by
  simp [World.setRow, Array.getElem?_modify]; intro e; exact absurd e.symm h
theorem Below.setRow {B : Nat} {a w : World} (h : Below B a w) {g : Nat} (hg : B ≤ g) (cs : Array Value) : Below B a (w.setRow g cs) :=
  h.trans ⟨rfl, rfl, rfl, by simp, fun k hk => heap_setRow_other (by omega)⟩
theorem splice_getD {cur new : List Value} {off j : Nat} (h : off + new.length ≤ cur.length) : ((cur.take off ++ new ++ cur.drop (off + new.length)).toArray).getD j undef = if off ≤ j ∧ j < off + new.length then new.getD (j - off) undef else cur.getD j undef := by
  rw [Array.getD_eq_getD_getElem?, List.getElem?_toArray, List.append_assoc]
  have ht : (cur.take off).length = off := by rw [List.length_take]; omega
  by_cases h1 : j < off
  · rw [List.getElem?_append_left (by omega), if_neg (by omega), List.getElem?_take, if_pos h1]; simp [List.getD]
  · rw [List.getElem?_append_right (by omega), ht]
    by_cases h2 : j - off < new.length
    · rw [List.getElem?_append_left h2, if_pos (by omega)]; simp [List.getD]
    · rw [List.getElem?_append_right (by omega), if_neg (by omega), List.getElem?_drop]
      have e : off + new.length + (j - off - new.length) = j := by omega
      simp [e, List.getD]
theorem run_storeCells_fr (P : Program) (g o : Nat) (t : TypeId) (lo hi : Nat) : ∀ (vs : List Value) (i : Nat) (cur : Array Value) (w : World), w.heap[g]? = some (.cells cur t (lo, hi)) → o + i + vs.length ≤ cur.size →
    (∀ q, o + i ≤ q → q < o + i + vs.length → ¬ (lo ≤ q ∧ q < hi)) → (∀ v ∈ vs, v.oneCell' = true) →
    (storeCells ⟨g, o, none⟩ vs i).run P w = .ok () (w.setRow g (cur.toList.take (o + i) ++ vs ++ cur.toList.drop (o + i + vs.length)).toArray)
  | [], i, cur, w, hg, _, _, _ => by
    simp only [storeCells, List.append_nil, List.length_nil, Nat.add_zero, List.take_append_drop, Array.toArray_toList]
    rw [setRow_self w g cur t (lo, hi) hg]
    rfl
  | v :: rest, i, cur, w, hg, hl, hf, h1 => by
    have hi' : o + i < cur.size := by simp at hl; omega
    have hadd : (⟨g, o, none⟩ : Addr).add i = ⟨g, o + i, none⟩ := Addr.add_lit _ _ _
    have hcell : w.cell? ⟨g, o + i, none⟩ = some cur[o + i] := by simp [World.cell?, hg, hi']
    have hfro : w.frozen? ⟨g, o + i, none⟩ = false := by
      have := hf (o + i) (Nat.le_refl _) (by simp)
      simp only [World.frozen?, hg]
      simpa using this
    have hst : (store ((⟨g, o, none⟩ : Addr).add i) v).run P w = .ok () (w.setRow g (cur.setIfInBounds (o + i) v)) := by
      rw [hadd, run_store P w _ v _ (h1 v (by simp)), hcell]
      simp [hfro, setCell_eq_setRow w g (o + i) cur t (lo, hi) v hg]
    have ih := run_storeCells_fr P g o t lo hi rest (i + 1) (cur.setIfInBounds (o + i) v) (w.setRow g (cur.setIfInBounds (o + i) v)) (setRow_heap w g cur _ t _ hg) (by simp at hl ⊢; omega)
      (fun q h1 h2 => hf q (by omega) (by simp at h2 ⊢; omega)) (fun x hx => h1 x (by simp [hx]))
    simp only [storeCells, Sem.run_bind, hst, Result.andThen_ok, ih, setRow_setRow]
    congr 3
    have e := list_seg_step cur.toList (o + i) v rest (by simp at hl ⊢; omega)
    simpa [Array.toList_setIfInBounds, Nat.add_assoc] using e
theorem store_ok (hI : Inv G w0 C m w) {a x : AV} {v y : Value} (hr : Rep C a v) (hx : Rep C x y) {t : TypeId} {n : Nat} (hs : cellsB P t = some n) {m1 : Mem} (h : m.store n a x = some m1) :
    Res G w0 C m1 (.tup []) ((do Instr.storeAt t v y; pure .skip : Sem Next).run P w) := by
  cases hr with
  | ptr id off b hi =>
    simp only [Mem.store] at h
    split at h
    · rename_i T cs hc
      split at h
      · rename_i hcond
        obtain ⟨hn, hlen, hsc⟩ := hcond
        injection h with h; subst h
        obtain ⟨q1, q2, q3, ho⟩ := hI.obj id b hi
        rw [hc] at ho
        obtain ⟨vs, h1, h2, h3⟩ := ho
        obtain ⟨l1, l2⟩ := rep_cells hx (ne_u hsc)
        have hst := run_storeCells_at P b off T y.cells.toList 0 vs w h1 (by simp; omega) (cells_one hx hsc)
        simp only [Nat.add_zero] at hst
        have hsz : y.cells.size = n := by omega
        have hrun : (Instr.storeAt t (.pointer (some ⟨b, off, none⟩)) y).run P w = .ok () (w.setRow b (vs.toList.take off ++ y.cells.toList ++ vs.toList.drop (off + y.cells.toList.length)).toArray) := by
          simp [Instr.storeAt, Instr.sureAddr, storeVar, run_sizeOf hs, hsz] at hst ⊢
          exact hst
        refine Res.done hrun (.refl C) (hI.write_obj hi (by rw [hc]; simp) (Below.setRow hI.below q2 _) (by simp) (fun k hk => heap_setRow_other hk) ?_ ?_)
        rotate_left
        · intro e he
          obtain ⟨_, vs', T', fr', g1, g2⟩ := hI.kap b e he
          rw [h1] at g1; injection g1 with g1; injection g1 with g1; subst g1
          exact ⟨_, _, _, heap_setRow_same h1, by simp; omega⟩
        refine ⟨_, heap_setRow_same h1, by simp [setCells_length]; omega, fun j hj => ?_⟩
        rw [setCells_length] at hj
        rw [setCells_getD _ _ _ _ (by omega), splice_getD (by simp; omega)]
        simp only [Array.length_toList, l1]
        by_cases hin : off ≤ j ∧ j < off + x.cells.length
        · rw [if_pos hin, if_pos hin]
          have := l2 (j - off) (by omega)
          rwa [Array.getD_eq_getD_getElem?, ← Array.getElem?_toList] at this
        · rw [if_neg hin, if_neg hin]
          have := h3 j hj
          rwa [Array.getD_eq_getD_getElem?, ← Array.getElem?_toList] at this
      · cases h
    · rename_i T cs hc
      split at h
      · rename_i hcond
        obtain ⟨hn, hlen, hsc⟩ := hcond
        injection h with h; subst h
        obtain ⟨q1, q2, q3, ho⟩ := hI.obj id b hi
        rw [hc] at ho
        obtain ⟨vs, lo, hi', h1, hf, h2, h3⟩ := ho
        obtain ⟨l1, l2⟩ := rep_cells hx (ne_u hsc)
        have hst := run_storeCells_fr P b off T lo hi' y.cells.toList 0 vs w h1 (by simp; omega) (fun q a1 a2 a3 => by have := hf q a3.1 a3.2; simp at a2; omega) (cells_one hx hsc)
        simp only [Nat.add_zero] at hst
        have hsz : y.cells.size = n := by omega
        have hrun : (Instr.storeAt t (.pointer (some ⟨b, off, none⟩)) y).run P w = .ok () (w.setRow b (vs.toList.take off ++ y.cells.toList ++ vs.toList.drop (off + y.cells.toList.length)).toArray) := by
          simp [Instr.storeAt, Instr.sureAddr, storeVar, run_sizeOf hs, hsz] at hst ⊢
          exact hst
        refine Res.done hrun (.refl C) (hI.write_obj hi (by rw [hc]; simp) (Below.setRow hI.below q2 _) (by simp) (fun k hk => heap_setRow_other hk) ?_ ?_)
        rotate_left
        · intro e he
          obtain ⟨_, vs', T', fr', g1, g2⟩ := hI.kap b e he
          rw [h1] at g1; injection g1 with g1; injection g1 with g1; subst g1
          exact ⟨_, _, _, heap_setRow_same h1, by simp; omega⟩
        refine ⟨_, lo, hi', heap_setRow_same h1, fun o a1 a2 => by have := hf o a1 a2; simp; omega, by simp [setCells_length]; omega, fun j hj => ?_⟩
        rw [setCells_length] at hj
        rw [setCells_getD _ _ _ _ (by omega), splice_getD (by simp; omega)]
        simp only [Array.length_toList, l1]
        by_cases hin : off ≤ j ∧ j < off + x.cells.length
        · rw [if_pos hin, if_pos hin]
          have := l2 (j - off) (by omega)
          rwa [Array.getD_eq_getD_getElem?, ← Array.getElem?_toList] at this
        · rw [if_neg hin, if_neg hin]
          have := h3 j hj
          rwa [Array.getD_eq_getD_getElem?, ← Array.getElem?_toList] at this
      · cases h
    · cases h
  | _ => simp [Mem.store] at h
theorem alloc_row (hI : Inv G w0 C m w) {cs : List AV} {vs : Array Value} {T : TypeId} (hl : vs.size = cs.length) (hr : ∀ j, j < cs.length → Rep C (cs.getD j .u) (vs.getD j undef)) :
    Inv G w0 (C.addI m.next w.heap.size) (m.alloc (.cells T cs)) (w.alloc (.cells vs T)) :=
  hI.alloc_obj fun _ hle => ⟨vs, heap_alloc_new _ _, hl, fun j hj => (hr j hj).mono hle⟩
theorem rep_new (C : Cx) (id b : Nat) : Rep (C.addI id b) (.ptr id 0) (.pointer (some ⟨b, 0, none⟩)) := .ptr _ _ _ (.inr ⟨rfl, rfl⟩)
theorem box_ok (hI : Inv G w0 C m w) {x : AV} {y : Value} (hx : Rep C x y) (t : TypeId) (hs : x.cells.all scal = true) :
    Res G w0 C (m.alloc (.cells t x.cells)) (.ptr m.next 0) ((do pure (.value (← Instr.box t y)) : Sem Next).run P w) := by
  obtain ⟨l1, l2⟩ := rep_cells hx (ne_u hs)
  exact Res.made (by simp [Instr.box, newVar, newRow]) (C.le_addI _ _) (alloc_row (T := t) hI l1 l2) (rep_new _ _ _)
end
end Go.Proofs.YtkjokjogdehonaaGreatDoor.Am
namespace Go.Proofs.YtkjokjogdehonaaGreatDoor.Am
open Go Go.RowKit
def cst1 : AV → Value → Bool
  | .bool a, .bool b => a == b
  | .int k n, .int k' n' => decide (k = k') && decide (n = n')
  | .str l, .string s => decide (s.data.toList = l)
  | .nilSl, .slice none 0 0 => true
  | .nilPtr, .pointer none => true
  | .nilMap, .map none => true
  | .nilFn, .nilFunc => true
  | .nilIface, .nilIface => true
  | _, _ => false
def csts : List AV → List Value → Bool
  | [], [] => true
  | a :: as, v :: vs => cst1 a v && csts as vs
  | _, _ => false
def cstOk : AV → Value → Bool
  | .agg cs, .agg vs => csts cs vs.toList
  | .tup [], .tuple vs => vs.isEmpty
  | .fn (.func f) [] [], .func (.func g) a b => decide (f = g) && a.isEmpty && b.isEmpty
  | a, v => cst1 a v
theorem cst1_rep (C : Cx) {a : AV} {v : Value} (h : cst1 a v = true) : Rep C a v := by
  unfold cst1 at h
  split at h
  · obtain rfl := eq_of_beq h; exact .bool _
  · simp at h; obtain ⟨rfl, rfl⟩ := h; exact .int _ _
  · exact .str _ _ (of_decide_eq_true h)
  · exact .nilSl
  · exact .nilPtr
  · exact .nilMap
  · exact .nilFn
  · exact .nilIface
  · cases h
theorem csts_rep (C : Cx) : ∀ {as : List AV} {vs : List Value}, csts as vs = true → vs.length = as.length ∧ ∀ i, i < as.length → Rep C (as.getD i .u) (vs.getD i undef)
  | [], [], _ => ⟨rfl, fun _ h => absurd h (by simp)⟩
  | a :: as, v :: vs, h => by
    simp only [csts, Bool.and_eq_true] at h
    obtain ⟨h1, h2⟩ := csts_rep C h.2
    refine ⟨by simp [h1], fun i hi => ?_⟩
    cases i with
    | zero => exact cst1_rep C h.1
    | succ i => simpa [List.getD] using h2 i (by simpa using hi)
  | [], _ :: _, h => by simp [csts] at h
  | _ :: _, [], h => by simp [csts] at h
theorem csts_arr (C : Cx) {as : List AV} {vs : Array Value} (h : csts as vs.toList = true) : vs.size = as.length ∧ ∀ i, i < as.length → Rep C (as.getD i .u) (vs.getD i undef) := by
  obtain ⟨h1, h2⟩ := csts_rep C h
  refine ⟨by simpa using h1, fun i hi => ?_⟩
  have := h2 i hi
  rwa [Array.getD_eq_getD_getElem?, ← Array.getElem?_toList]
theorem cstOk_rep (C : Cx) {a : AV} {v : Value} (h : cstOk a v = true) : Rep C a v := by
  unfold cstOk at h
  split at h
  · obtain ⟨h1, h2⟩ := csts_arr C h; exact .agg _ _ h1 h2
  · simp at h; subst h; exact .tup _ _ rfl (fun i hi => absurd hi (by simp))
  · simp at h; obtain ⟨⟨rfl, rfl⟩, rfl⟩ := h; exact .fn _ _ _ _ _ rfl (fun i hi => absurd hi (by simp)) rfl (fun i hi => absurd hi (by simp))
  · exact cst1_rep C h
def zeroOk (P : Program) (t : TypeId) (z : AV) : Bool :=
  match (P.info? t).bind (·.zero) with
  | some v => cstOk z v
  | none => false
theorem zeroOk_run {P : Program} {w : World} {t : TypeId} {z : AV} (h : zeroOk P t z = true) : ∃ v, (zeroValue t).run P w = .ok v w ∧ cstOk z v = true := by
  unfold zeroOk at h
  split at h
  · rename_i v hv
    obtain ⟨i, hi, hz⟩ := Option.bind_eq_some_iff.1 hv
    exact ⟨v, by simp [zeroValue, typeInfo, hi, hz], h⟩
  · cases h
section
variable {G : Nat → Option (List AV)} {w0 : World} {C : Cx} {m : Mem} {w : World} {P : Program}
theorem alloc_ok (hI : Inv G w0 C m w) {t : TypeId} {z : List AV} (h : ∃ a, zeroOk P t a = true ∧ a.cells = z ∧ a ≠ .u) :
    Res G w0 C (m.alloc (.cells t z)) (.ptr m.next 0) ((do pure (.value (← Instr.alloc t true (.tuple #[]))) : Sem Next).run P w) := by
  obtain ⟨a, h, rfl, hu⟩ := h
  obtain ⟨v, h1, h2⟩ := zeroOk_run (w := w) h
  obtain ⟨l1, l2⟩ := rep_cells (cstOk_rep C h2) hu
  exact Res.made (by simp [Instr.alloc, h1, newVar, newRow]) (C.le_addI _ _) (alloc_row (T := t) hI l1 l2) (rep_new _ _ _)
theorem fill_one_size (off : Nat) : ∀ (l : List (Value × Nat)) (cs : Array Value), (l.foldl (fun (cs : Array Value) (p : Value × Nat) => cs.setIfInBounds (off + p.2) p.1) cs).size = cs.size
  | [], _ => rfl
  | p :: l, cs => by simp [fill_one_size off l]
theorem fill_one (off : Nat) : ∀ (l : List Value) (k j : Nat) (cs : Array Value), off + k + l.length ≤ cs.size →
    ((l.zipIdx k).foldl (fun (cs : Array Value) (p : Value × Nat) => cs.setIfInBounds (off + p.2) p.1) cs).getD j undef = if off + k ≤ j ∧ j < off + k + l.length then l.getD (j - (off + k)) undef else cs.getD j undef
  | [], k, j, cs, _ => by simp; intro h1 h2; omega
  | v :: l, k, j, cs, h => by
    simp only [List.length_cons] at h
    simp only [List.zipIdx_cons, List.foldl_cons]
    rw [fill_one off l (k + 1) j _ (by simp; omega)]
    by_cases e : j = off + k
    · subst e
      rw [if_neg (by omega), if_pos (by simp)]
      simp [Array.getD_eq_getD_getElem?, Array.getElem?_setIfInBounds, show off + k < cs.size by omega]
    · by_cases h1 : off + (k + 1) ≤ j ∧ j < off + (k + 1) + l.length
      · rw [if_pos h1, if_pos (by simp; omega)]
        obtain ⟨d, rfl⟩ : ∃ d, j = off + (k + 1) + d := ⟨j - (off + (k + 1)), by omega⟩
        have e1 : off + (k + 1) + d - (off + (k + 1)) = d := by omega
        have e2 : off + (k + 1) + d - (off + k) = d + 1 := by omega
        rw [e1, e2]; simp [List.getD]
      · rw [if_neg h1, if_neg (by simp; omega)]
        simp [Array.getD_eq_getD_getElem?, Array.getElem?_setIfInBounds, show ¬ off + k = j by omega]
theorem fill_ok {place : Nat → Option (Nat × Nat)} : ∀ {ps : List (Nat × Value)} {qs : List (Nat × Nat × AV)} {cells : Array Value} {z : List AV} {v : AV},
    cells.size = z.length → (∀ i, i < z.length → Rep C (z.getD i .u) (cells.getD i undef)) →
    ps.length = qs.length → (∀ (i : Nat) (p : Nat × Value) (q : Nat × Nat × AV), ps[i]? = some p → qs[i]? = some q → place p.1 = some (q.1, q.2.1) ∧ Rep C q.2.2 p.2) →
    buildV z qs = some v → ∃ cs', Instr.fill place cells ps = some cs' ∧ Rep C v (.agg cs')
  | [], [], cells, z, v, hl, hr, _, _, h => by
    simp only [buildV, Option.some.injEq] at h; subst h
    exact ⟨cells, rfl, .agg _ _ hl hr⟩
  | (i, x) :: ps, (off, size, a) :: qs, cells, z, v, hl, hr, hlen, hp, h => by
    simp only [buildV] at h
    split at h
    · rename_i hc
      obtain ⟨k1, k2⟩ := hp 0 _ _ rfl rfl
      have hlr := rep_cells k2 (ne_u hc.2.2)
      dsimp only at hlr
      obtain ⟨l1, l2⟩ := hlr
      have hz : (x.cells.zipIdx.foldl (fun (cs : Array Value) (p : Value × Nat) => cs.setIfInBounds (off + p.2) p.1) cells).size = cells.size := by
        rw [← Array.foldl_toList, Array.toList_zipIdx]; exact fill_one_size off _ _
      obtain ⟨cs', f1, f2⟩ := fill_ok (place := place) (ps := ps) (qs := qs) (cells := x.cells.zipIdx.foldl (fun (cs : Array Value) (p : Value × Nat) => cs.setIfInBounds (off + p.2) p.1) cells) (z := setCells z off a.cells)
        (by rw [hz, setCells_length]; exact hl)
        (fun j hj => by
          rw [setCells_length] at hj
          rw [setCells_getD _ _ _ _ (by omega), ← Array.foldl_toList, Array.toList_zipIdx, fill_one off _ 0 j _ (by simp; omega)]
          simp only [Nat.add_zero, Array.length_toList, l1]
          by_cases hin : off ≤ j ∧ j < off + a.cells.length
          · rw [if_pos hin, if_pos hin]
            have := l2 (j - off) (by omega)
            rwa [Array.getD_eq_getD_getElem?, ← Array.getElem?_toList] at this
          · rw [if_neg hin, if_neg hin]; exact hr j hj)
        (by simpa using hlen) (fun i p q e1 e2 => hp (i + 1) p q (by simpa using e1) (by simpa using e2)) h
      refine ⟨cs', ?_, f2⟩
      simp only [Instr.fill]
      have k1' : place i = some (off, size) := k1
      rw [k1']
      simp only []
      rw [if_neg (by simp; omega)]
      exact f1
    · cases h
  | [], _ :: _, _, _, _, _, _, hlen, _, _ => by simp at hlen
  | _ :: _, [], _, _, _, _, _, hlen, _, _ => by simp at hlen
theorem mapM_places {fs : Array Field} {places : Array (Nat × Nat)} (hsz : places.size = fs.size) (h : ∀ (i : Nat) (f : Field), fs[i]? = some f → ∃ n, cellsB P f.type = some n ∧ places[i]? = some (f.offset, n)) :
    ((fs.mapM fun f => do pure (f.offset, ← sizeOf f.type) : Sem (Array (Nat × Nat))).run P w) = .ok places w := by
  have key : ∀ (l : List Field) (r : List (Nat × Nat)), r.length = l.length → (∀ (i : Nat) (f : Field), l[i]? = some f → ∃ n, cellsB P f.type = some n ∧ r[i]? = some (f.offset, n)) →
      ((l.mapM fun f => do pure (f.offset, ← sizeOf f.type) : Sem (List (Nat × Nat))).run P w) = .ok r w := by
    intro l
    induction l with
    | nil => intro r hr _; simp at hr; subst hr; simp
    | cons f l ih =>
      intro r hr hh
      cases r with
      | nil => simp at hr
      | cons p r =>
        obtain ⟨n, k1, k2⟩ := hh 0 f rfl
        simp at k2; subst k2
        have := ih r (by simpa using hr) (fun i g hg => by simpa using hh (i + 1) g (by simpa using hg))
        simp only [List.mapM_cons, Sem.run_bind, run_sizeOf k1, Result.andThen, Sem.run_pure, this]
  have := key fs.toList places.toList (by simpa using hsz) (fun i f hf => by simpa using h i f (by simpa using hf))
  rw [Array.mapM_eq_mapM_toList]
  simp only [Sem.run_map, this, Result.andThen, Array.toArray_toList]
theorem build_ok (hI : Inv G w0 C m w) {t : TypeId} {z : List AV} {v : AV} {ps : List (Nat × Value)} {qs : List (Nat × Nat × AV)}
    (hz : ∃ a, zeroOk P t a = true ∧ a.cells = z ∧ a ≠ .u) (hlen : ps.length = qs.length)
    (hrep : ∀ (i : Nat) (p : Nat × Value) (q : Nat × Nat × AV), ps[i]? = some p → qs[i]? = some q → Rep C q.2.2 p.2)
    (hpl : (∃ fs, P.underlying t = some (.struct fs) ∧ (∀ f ∈ fs, (cellsB P f.type).isSome = true) ∧ ∀ (i : Nat) (p : Nat × Value) (q : Nat × Nat × AV), ps[i]? = some p → qs[i]? = some q → ∃ f, fs[p.1]? = some f ∧ f.offset = q.1 ∧ cellsB P f.type = some q.2.1) ∨
      (∃ n e sz, P.underlying t = some (.array n e) ∧ cellsB P e = some sz ∧ ∀ (i : Nat) (p : Nat × Value) (q : Nat × Nat × AV), ps[i]? = some p → qs[i]? = some q → q.1 = p.1 * sz ∧ q.2.1 = sz))
    (h : buildV z qs = some v) : Res G w0 C m v ((do pure (.value (← Instr.build t ps.toArray)) : Sem Next).run P w) := by
  obtain ⟨a, hz, rfl, hu⟩ := hz
  obtain ⟨zv, h1, h2⟩ := zeroOk_run (w := w) hz
  obtain ⟨l1, l2⟩ := rep_cells (cstOk_rep C h2) hu
  rcases hpl with ⟨fs, ht, hall, hp⟩ | ⟨n, e, sz, ht, hsz, hp⟩
  · have hm := mapM_places (P := P) (w := w) (fs := fs) (places := fs.map fun f => (f.offset, (cellsB P f.type).getD 0)) (by simp) (fun i f hf => by
      obtain ⟨c, hc⟩ := Option.isSome_iff_exists.1 (hall f (Array.mem_of_getElem? hf))
      exact ⟨c, hc, by simp [hf, hc]⟩)
    obtain ⟨cs', f1, f2⟩ := fill_ok (place := fun i => (fs.map fun f => (f.offset, (cellsB P f.type).getD 0))[i]?) (ps := ps) (qs := qs) l1 l2 hlen (fun i p q e1 e2 => by
      obtain ⟨f, k1, k2, k3⟩ := hp i p q e1 e2
      exact ⟨by simp [k1, k2, k3], hrep i p q e1 e2⟩) h
    refine Res.quiet hI (cv := .agg cs') ?_ f2
    simp only [Instr.build, Sem.run_bind, h1, Result.andThen, run_underlying ht, hm, f1, Sem.run_pure]
  · obtain ⟨cs', f1, f2⟩ := fill_ok (place := fun i => some (i * sz, sz)) (ps := ps) (qs := qs) l1 l2 hlen (fun i p q e1 e2 => by
      obtain ⟨k1, k2⟩ := hp i p q e1 e2
      exact ⟨by simp [k1, k2], hrep i p q e1 e2⟩) h
    refine Res.quiet hI (cv := .agg cs') ?_ f2
    simp only [Instr.build, Sem.run_bind, h1, Result.andThen, run_underlying ht, run_sizeOf hsz, f1, Sem.run_pure]
theorem field_ok (hI : Inv G w0 C m w) {x v : AV} {y : Value} (hx : Rep C x y) {t : TypeId} {fs : Array Field} {i off n : Nat} {g : Bool} {f : Field} (ht : P.underlying t = some (.struct fs)) (hf : fs[i]? = some f) (ho : f.offset = off)
    (hs : shapeOk P f.type g n = true) {cs : List AV} (hc : x = .agg cs) (h : Am.part g n cs off = some v) :
    Res G w0 C m v ((do pure (.value (← Instr.field t y i)) : Sem Next).run P w) := by
  subst hc
  cases hx with
  | agg cs vs h1 h2 =>
    obtain ⟨cv, k1, k2⟩ := part_rep (P := P) (w := w) h1 h2 h hs
    refine Res.quiet hI (cv := cv) ?_ k2
    simp only [Instr.field, Sem.run_bind, run_underlying ht, Result.andThen, hf, asAgg, Sem.run_pure, ho]
    exact k1
theorem fieldAddr_ok (hI : Inv G w0 C m w) {x v : AV} {y : Value} (hx : Rep C x y) {t : TypeId} {fs : Array Field} {i off n : Nat} {f : Field} (ht : P.underlying t = some (.struct fs)) (hf : fs[i]? = some f) (ho : f.offset = off)
    (hs : cellsB P f.type = some n) (hn : n ≠ 0) (h : fieldAddrV off x = some v) :
    Res G w0 C m v ((do pure (.value (← Instr.fieldAt t y i)) : Sem Next).run P w) := by
  have key : ∀ b o, (Instr.fieldAt t (.pointer (some ⟨b, o, none⟩)) i).run P w = .ok (.pointer (some ⟨b, o + off, none⟩)) w := by
    intro b o
    simp only [Instr.fieldAt, Sem.run_bind, run_underlying ht, Result.andThen, hf, Instr.sureAddr, Sem.run_pure, fieldPlace, run_sizeOf hs, Sem.run_ite, if_neg hn, ho, Addr.add_lit]
  cases hx with
  | ptr id o b hi =>
    simp only [fieldAddrV, Option.some.injEq] at h; subst h
    exact Res.quiet hI (key _ _) (.ptr _ _ _ hi)
  | sptr cs o b base val h1 h2 =>
    simp only [fieldAddrV, Option.some.injEq] at h; subst h
    refine Res.quiet hI (key _ _) ?_
    rw [Nat.add_assoc]
    exact .sptr _ _ _ _ val h1 h2
  | _ => simp [fieldAddrV] at h
theorem rep_int {x : AV} {k : IntKind} {n : Int} {y : Value} (h : Rep C x y) (e : x = .int k n) : y = .int k n := by
  subst e; cases h; rfl
theorem idxAddr_ok (hI : Inv G w0 C m w) {x i v : AV} {y j : Value} (hx : Rep C x y) (hi : Rep C i j) {t e : TypeId} {sz : Nat} (ht : P.underlying t = some (.slice e)) (hs : cellsB P e = some sz) (h : idxAddrV sz x i = some v) :
    Res G w0 C m v ((do pure (.value (← Instr.indexAt t y j)) : Sem Next).run P w) := by
  cases hi with
  | int k q =>
    cases hx with
    | sl o sz' xs b off n cap val h1 h2 h3 h4 h5 h6 h7 h8 =>
      simp only [idxAddrV] at h
      split at h
      · rename_i hc
        obtain ⟨rfl, hq⟩ := hc
        split at h
        · rename_i x hx'
          injection h with h; subst h
          have hlt : q.toNat < n := by rw [h1]; exact (List.getElem?_eq_some_iff.1 hx').1
          have hrun : (Instr.indexAt t (.slice (some ⟨b, off, none⟩) n cap) (.int k q)).run P w = .ok (.pointer (some ⟨b, off + q.toNat * sz', none⟩)) w := by
            simp only [Instr.indexAt, asIntOf, Sem.run_bind, Sem.run_pure, Result.andThen, run_underlying ht, run_sizeOf hs, Sem.run_ite]
            rw [if_pos (by omega)]
            simp [Addr.add_lit]
          refine Res.quiet hI hrun ?_
          have hxs : xs.getD q.toNat .u = x := getD_eq hx'
          have hl := h6 _ hlt
          rw [hxs] at hl
          have := Rep.sptr (C := C) x.cells 0 b (off + q.toNat * sz') (fun j => val q.toNat j) (fun j hj => h7 _ _ hlt (by omega)) (fun j hj => by have := h8 q.toNat j hlt (by omega); rwa [hxs] at this)
          simpa using this
        · cases h
      · cases h
    | sl0 o sz' a h1 h2 =>
      simp only [idxAddrV, List.getElem?_nil] at h
      split at h <;> cases h
    | osl id off len cap sz' b hb hc =>
      simp only [idxAddrV] at h
      split at h
      · rename_i hc
        obtain ⟨rfl, hq, hlt⟩ := hc
        injection h with h; subst h
        refine Res.quiet hI (cv := .pointer (some ⟨b, off + q.toNat * sz', none⟩)) ?_ (.ptr _ _ _ hb)
        simp only [Instr.indexAt, asIntOf, Sem.run_bind, Sem.run_pure, Result.andThen, run_underlying ht, run_sizeOf hs, Sem.run_ite]
        rw [if_pos ⟨hq, hlt⟩]
        simp [Addr.add_lit]
      · cases h
    | gsl id n sz' b cap hb hc hk =>
      simp only [idxAddrV] at h
      split at h
      · rename_i hc
        obtain ⟨rfl, hq, hlt⟩ := hc
        injection h with h; subst h
        refine Res.quiet hI (cv := .pointer (some ⟨b, q.toNat * sz', none⟩)) ?_ (.ptr _ _ _ hb)
        simp only [Instr.indexAt, asIntOf, Sem.run_bind, Sem.run_pure, Result.andThen, run_underlying ht, run_sizeOf hs, Sem.run_ite]
        rw [if_pos ⟨hq, hlt⟩]
        simp [Addr.add_lit]
      · cases h
    | _ => simp [idxAddrV] at h
  | _ => cases x <;> simp [idxAddrV] at h
theorem idxAddrA_ok (hI : Inv G w0 C m w) {x i v : AV} {y j : Value} (hx : Rep C x y) (hi : Rep C i j) {t e : TypeId} {len sz : Nat} (ht : P.underlying t = some (.array len e)) (hs : cellsB P e = some sz) (h : idxAddrAV len sz x i = some v) :
    Res G w0 C m v ((do pure (.value (← Instr.indexAt t y j)) : Sem Next).run P w) := by
  cases hi with
  | int k q =>
    have key : ∀ b o, 0 ≤ q ∧ q < len → (Instr.indexAt t (.pointer (some ⟨b, o, none⟩)) (.int k q)).run P w = .ok (.pointer (some ⟨b, o + q.toNat * sz, none⟩)) w := by
      intro b o hq
      simp only [Instr.indexAt, asIntOf, Sem.run_bind, Sem.run_pure, Result.andThen, run_underlying ht, run_sizeOf hs, Sem.run_ite, Instr.sureAddr]
      rw [if_pos hq]
      simp [Addr.add_lit]
    cases hx with
    | ptr id o b hb =>
      simp only [idxAddrAV] at h
      split at h
      · rename_i hq; injection h with h; subst h
        exact Res.quiet hI (key _ _ hq) (.ptr _ _ _ hb)
      · cases h
    | sptr cs o b base val h1 h2 =>
      simp only [idxAddrAV] at h
      split at h
      · rename_i hq; injection h with h; subst h
        refine Res.quiet hI (key _ _ hq) ?_
        rw [Nat.add_assoc]
        exact .sptr _ _ _ _ val h1 h2
      · cases h
    | _ => simp [idxAddrAV] at h
  | _ => cases x <;> simp [idxAddrAV] at h
theorem idxS_ok (hI : Inv G w0 C m w) {x i v : AV} {y j : Value} (hx : Rep C x y) (hi : Rep C i j) {t : TypeId} (ht : P.underlying t = some .string) (h : idxSV x i = some v) :
    Res G w0 C m v ((do pure (.value (← Instr.index t y j)) : Sem Next).run P w) := by
  cases hi with
  | int k q =>
    cases hx with
    | str l s hs =>
      simp only [idxSV] at h
      split at h
      · rename_i hq
        split at h
        · rename_i b hb
          injection h with h; subst h
          have e : s[q.toNat]? = some b := by
            subst hs
            obtain ⟨h1, h2⟩ := List.getElem?_eq_some_iff.1 hb
            have h1' : q.toNat < s.size := by simpa using h1
            rw [ByteArray.getElem?_lt' s _ h1']
            exact congrArg some (by simp only [Array.getElem_toList] at h2; exact h2)
          refine Res.quiet hI (cv := .int .u8 b.toNat) ?_ (.int _ _)
          simp only [Instr.index, asIntOf, Sem.run_bind, Sem.run_pure, Result.andThen, run_underlying ht, if_pos hq, e]
        · cases h
      · cases h
    | _ => simp [idxSV] at h
  | _ => cases x <;> simp [idxSV] at h
theorem idxA_ok (hI : Inv G w0 C m w) {x i v : AV} {y j : Value} (hx : Rep C x y) (hi : Rep C i j) {t e : TypeId} {g : Bool} {len sz : Nat} (ht : P.underlying t = some (.array len e)) (hs : shapeOk P e g sz = true) (h : idxAV g len sz x i = some v) :
    Res G w0 C m v ((do pure (.value (← Instr.index t y j)) : Sem Next).run P w) := by
  cases hi with
  | int k q =>
    cases hx with
    | agg cs vs h1 h2 =>
      simp only [idxAV] at h
      split at h
      · rename_i hq
        obtain ⟨cv, k1, k2⟩ := part_rep (P := P) (w := w) h1 h2 h hs
        refine Res.quiet hI (cv := cv) ?_ k2
        simp only [Instr.index, asIntOf, Sem.run_bind, Sem.run_pure, Result.andThen, run_underlying ht, Sem.run_ite, if_pos hq, run_sizeOf (shapeOk_iff hs).2]
        exact k1
      · cases h
    | _ => simp [idxAV] at h
  | _ => cases x <;> simp [idxAV] at h
theorem nilck_ok (hI : Inv G w0 C m w) {x v : AV} {y : Value} (hx : Rep C x y) (h : nilckV x = some v) {ρ : Operand → Value} {o : Operand} (hy : ρ o = y) {p : Oper} (hp : p.op = .nilCheck o) :
    Res G w0 C m v ((execOp ρ p).run P w) := by
  have key : (∃ b, y = .pointer (some b)) ∨ (∃ f a b, y = .func (.func f) a b) → (execOp ρ p).run P w = .ok (.value y) w := by
    rintro (⟨b, rfl⟩ | ⟨f, a, b, rfl⟩) <;> simp [execOp, hp, hy]
  cases hx with
  | ptr id o b hb =>
    simp only [nilckV, Option.some.injEq] at h; subst h
    exact ⟨_, w, C, key (.inl ⟨_, rfl⟩), .refl C, hI, .ptr _ _ _ hb⟩
  | sptr cs o b base val h1 h2 =>
    simp only [nilckV, Option.some.injEq] at h; subst h
    exact ⟨_, w, C, key (.inl ⟨_, rfl⟩), .refl C, hI, .sptr _ _ _ _ val h1 h2⟩
  | fn f first cap xs ys h1 h2 h3 h4 =>
    cases f with
    | func f =>
      simp only [nilckV, Option.some.injEq] at h; subst h
      exact ⟨_, w, C, key (.inr ⟨_, _, _, rfl⟩), .refl C, hI, .fn _ _ _ _ _ h1 h2 h3 h4⟩
    | _ => simp [nilckV] at h
  | _ => simp [nilckV] at h
end
end Go.Proofs.YtkjokjogdehonaaGreatDoor.Am
namespace Go.Proofs.YtkjokjogdehonaaGreatDoor.Am
open Go Go.RowKit
section
variable {G : Nat → Option (List AV)} {w0 : World} {C : Cx} {m : Mem} {w : World} {P : Program}
theorem run_eqGuard_int {op : BinOp} {t : TypeId} {x y : Operand} {k k' : IntKind} {a b : Int} : (eqGuard op t x y (.int k a) (.int k' b)).run P w = .ok () w := by
  unfold eqGuard; cases op <;> simp
theorem run_eqGuard_str {op : BinOp} {t : TypeId} {x y : Operand} {a b : ByteArray} : (eqGuard op t x y (.string a) (.string b)).run P w = .ok () w := by
  unfold eqGuard; cases op <;> simp
theorem intV_run {op : BinOp} {t : TypeId} {k k' : IntKind} {a b : Int} {v : AV} (h : intV op k a k' b = some v) : ∃ cv, (binOp op t (.int k a) (.int k' b)).run P w = .ok cv w ∧ Rep C v cv := by
  cases op <;> simp only [intV] at h <;> split at h <;> (try (cases h; done)) <;> (try (split at h)) <;> (try (cases h; done)) <;> (injection h with h; subst h) <;>
    first
      | (rename_i hk; subst hk; refine ⟨_, ?_, .int _ _⟩; simp [binOp, Op.intArith, Op.intBits, Op.intCmp]; done)
      | (rename_i hk; subst hk; refine ⟨_, ?_, .bool _⟩; simp [binOp, Op.intCmp]; done)
      | (rename_i hb; refine ⟨_, ?_, .int _ _⟩; simp [binOp, Op.shift, Int.not_lt.2 hb]; done)
      | (rename_i hk hb; subst hk; refine ⟨_, ?_, .int _ _⟩; simp [binOp, Op.intDiv, hb]; done)
theorem strV_run {op : BinOp} {t : TypeId} {a b : ByteArray} {v : AV} (h : strV op a.data.toList b.data.toList = some v) : ∃ cv, (binOp op t (.string a) (.string b)).run P w = .ok cv w ∧ Rep C v cv := by
  cases op <;> simp only [strV] at h <;> (try (cases h; done))
  case add =>
    split at h
    · rename_i hc
      injection h with h; subst h
      refine ⟨.string (a ++ b), ?_, .str _ _ (by simp)⟩
      have e1 : a.size = a.data.toList.length := by simp
      have e2 : b.size = b.data.toList.length := by simp
      have : ¬ (((a.size + b.size : Nat) : Int) > IntKind.i64.max) := by
        rw [IntKind.max_i64, e1, e2]; omega
      simp only [binOp, Op.stringOp, Sem.run_ite, if_neg this, Sem.run_pure]
    · cases h
  all_goals
    injection h with h; subst h
    refine ⟨_, ?_, .bool _⟩
    simp [binOp, Op.stringOp, ByteArray.toList_eq]
theorem bin_ok (hI : Inv G w0 C m w) {op : BinOp} {t : TypeId} {ox oy : Operand} {x y v : AV} {a b : Value} (hx : Rep C x a) (hy : Rep C y b) (h : binV op x y = some v) :
    Res G w0 C m v ((do pure (.value (← (do eqGuard op t ox oy a b; binOp op t a b : Sem Value))) : Sem Next).run P w) := by
  cases hx with
  | int k n =>
    cases hy with
    | int k' n' =>
      obtain ⟨cv, h1, h2⟩ := intV_run (P := P) (w := w) (t := t) (C := C) (show intV op k n k' n' = some v from h)
      exact Res.quiet hI (by simp only [Sem.run_bind, run_eqGuard_int, Result.andThen]; exact h1) h2
    | _ => simp [binV] at h
  | str l s e =>
    cases hy with
    | str l' s' e' =>
      subst e; subst e'
      obtain ⟨cv, h1, h2⟩ := strV_run (P := P) (w := w) (t := t) (C := C) (show strV op s.data.toList s'.data.toList = some v from h)
      exact Res.quiet hI (by simp only [Sem.run_bind, run_eqGuard_str, Result.andThen]; exact h1) h2
    | _ => simp [binV] at h
  | _ => cases y <;> simp [binV] at h
def eqLOk (P : Program) (t : TypeId) (l : EqL) : Bool :=
  match P.underlying t with
  | some .bool => decide (l = .bool)
  | some (.int _) => decide (l = .int)
  | some .string => decide (l = .str)
  | some (.pointer e) => decide (l = .ptr) && (match cellsB P e with
    | some n => n != 0
    | none => false)
  | some (.slice _) => decide (l = .sli)
  | some (.map _ _) => decide (l = .map)
  | some (.func _ _ _) => decide (l = .func)
  | some (.interface ms) => decide (l = .ifaceE) || decide (l = .ifaceM)
  | _ => false
theorem run_sameAddr (hI : Inv G w0 C m w) {id id' b b' o o' : Nat} (hb : C.I id b) (hb' : C.I id' b') (h : ∃ T cs, m.get id = .cells T cs) (h' : ∃ T cs, m.get id' = .cells T cs) :
    (sameAddr ⟨b, o, none⟩ ⟨b', o', none⟩).run P w = .ok (decide (id = id' ∧ o = o')) w := by
  obtain ⟨T, cs, hc⟩ := h
  obtain ⟨T', cs', hc'⟩ := h'
  obtain ⟨_, _, _, ho⟩ := hI.obj id b hb
  obtain ⟨_, _, _, ho'⟩ := hI.obj id' b' hb'
  rw [hc] at ho; rw [hc'] at ho'
  obtain ⟨vs, h1, h2, h3⟩ := ho
  obtain ⟨vs', h1', h2', h3'⟩ := ho'
  unfold sameAddr
  by_cases e : b = b'
  · subst e
    obtain rfl : id = id' := by
      rcases hI.inj _ _ _ hb hb' with q | q | q
      · exact q
      · rw [hc] at q; cases q
      · rw [hc'] at q; cases q
    simp only [beq_self_eq_true, if_true, Sem.run_pure, true_and]
    congr 1
    rw [Bool.eq_iff_iff]; simp
  · have hne : id ≠ id' := fun h => e (by subst h; exact hI.func _ _ _ hb hb')
    have f1 : ∀ o, w.frozen? ⟨b, o, none⟩ = false := fun o => by simp [World.frozen?, h1]
    have f2 : ∀ o, w.frozen? ⟨b', o, none⟩ = false := fun o => by simp [World.frozen?, h1']
    have s1 : w.shape? b = some (T, vs.size) := by simp [World.shape?, h1]
    have s2 : w.shape? b' = some (T', vs'.size) := by simp [World.shape?, h1']
    have eb : (b == b') = false := by simpa using e
    simp [eb, f1, f2, noView, viewAt, s1, s2, mayBeOne, stringish, hne]
def EqLIs (P : Program) (t : TypeId) : EqL → Prop
  | .bool => P.underlying t = some .bool
  | .int => ∃ k, P.underlying t = some (.int k)
  | .str => P.underlying t = some .string
  | .ptr => ∃ e n, P.underlying t = some (.pointer e) ∧ cellsB P e = some n ∧ n ≠ 0
  | .sli => ∃ e, P.underlying t = some (.slice e)
  | .map => ∃ k e, P.underlying t = some (.map k e)
  | .func => ∃ a b c, P.underlying t = some (.func a b c)
  | .ifaceE => ∃ ms, P.underlying t = some (.interface ms)
  | .ifaceM => ∃ ms, P.underlying t = some (.interface ms)
theorem eqLOk_iff {t : TypeId} {l : EqL} (h : eqLOk P t l = true) : EqLIs P t l := by
  unfold eqLOk at h
  split at h
  case h_4 hu =>
    simp only [Bool.and_eq_true, decide_eq_true_eq] at h
    obtain ⟨rfl, h2⟩ := h
    split at h2
    · rename_i n hn; exact ⟨_, n, hu, hn, by simpa using h2⟩
    · cases h2
  case h_8 hu =>
    simp only [Bool.or_eq_true, decide_eq_true_eq] at h
    rcases h with rfl | rfl <;> exact ⟨_, hu⟩
  case h_9 => cases h
  all_goals (rename_i hu; obtain rfl := of_decide_eq_true h; first | exact hu | exact ⟨_, hu⟩ | exact ⟨_, _, hu⟩ | exact ⟨_, _, _, hu⟩)
theorem beq_str {l1 l2 : List UInt8} {s1 s2 : ByteArray} (e1 : s1.data.toList = l1) (e2 : s2.data.toList = l2) : (s1 == s2) = (l1 == l2) := by
  subst e1; subst e2
  have e : (s1 == s2) = (s1.data == s2.data) := rfl
  rw [e, Bool.eq_iff_iff, beq_iff_eq, beq_iff_eq]
  exact Array.toList_inj.symm
set_option maxHeartbeats 2000000 in
theorem eqL_ok (hI : Inv G w0 C m w) {l : EqL} {t : TypeId} (ht : eqLOk P t l = true) {x y : AV} {a b : Value} (hx : Rep C x a) (hy : Rep C y b) {r : Bool} (h : eqL l x y = some r)
    (hp : ∀ i o i' o', x = .ptr i o → y = .ptr i' o' → (∃ T cs, m.get i = .cells T cs) ∧ ∃ T cs, m.get i' = .cells T cs) (d : Nat) :
    (Op.equalIn (d + 1) t a b).run P w = .ok r w := by
  have hi := eqLOk_iff ht
  clear ht
  unfold eqL at h
  split at h
  case h_1 =>
    have hu : P.underlying t = some .bool := hi
    injection h with h; subst h
    cases hx; cases hy
    simp [Op.equalIn, run_underlying hu]
  case h_2 =>
    obtain ⟨k, hu⟩ := hi
    split at h
    · rename_i hk; subst hk; injection h with h; subst h
      cases hx; cases hy
      simp [Op.equalIn, run_underlying hu]
    · cases h
  case h_3 =>
    have hu : P.underlying t = some .string := hi
    injection h with h; subst h
    cases hx with | str _ s1 e1 => cases hy with | str _ s2 e2 =>
    simp [Op.equalIn, run_underlying hu, beq_str e1 e2]
  case h_9 i o i' o' =>
    obtain ⟨e, n, hu, hn, hn0⟩ := hi
    injection h with h; subst h
    cases hx with | ptr _ _ b hb => cases hy with | ptr _ _ b' hb' =>
    obtain ⟨k1, k2⟩ := hp _ _ _ _ rfl rfl
    have hs := run_sameAddr (P := P) hI (o := o) (o' := o') hb hb' k1 k2
    simp only [Op.equalIn, Sem.run_bind, run_underlying hu, Result.andThen, run_sizeOf hn, Sem.run_ite]
    rw [if_pos hn0, hs]
  case h_4 | h_5 | h_6 | h_7 | h_8 =>
    obtain ⟨e, n, hu, hn, hn0⟩ := hi
    injection h with h; subst h
    cases hx; cases hy
    simp [Op.equalIn, run_underlying hu]
  case h_10 | h_11 | h_12 | h_13 | h_14 | h_15 | h_16 =>
    obtain ⟨e, hu⟩ := hi
    injection h with h; subst h
    cases hx <;> cases hy <;> simp [Op.equalIn, run_underlying hu]
  case h_17 | h_18 | h_19 =>
    obtain ⟨e, e', hu⟩ := hi
    injection h with h; subst h
    cases hx; cases hy
    simp [Op.equalIn, run_underlying hu]
  case h_20 | h_21 | h_22 =>
    obtain ⟨e, e', e'', hu⟩ := hi
    injection h with h; subst h
    cases hx; cases hy
    simp [Op.equalIn, run_underlying hu]
  case h_23 | h_24 | h_25 | h_26 | h_27 =>
    obtain ⟨e, hu⟩ := hi
    injection h with h; subst h
    cases hx <;> cases hy <;> simp [Op.equalIn, run_underlying hu]
  case h_28 => cases h
def eqFsOk (P : Program) : List Field → List (Nat × EqL) → Bool
  | [], [] => true
  | f :: fs, l => if f.name = "_" then eqFsOk P fs l else
    match l with
    | (off, e) :: l => decide (f.offset = off) && eqLOk P f.type e && (aggB P f.type == some false) && decide (e ≠ .ptr) && eqFsOk P fs l
    | [] => false
  | _, _ => false
end
end Go.Proofs.YtkjokjogdehonaaGreatDoor.Am
namespace Go.Proofs.YtkjokjogdehonaaGreatDoor.Am
open Go Go.RowKit
section
variable {G : Nat → Option (List AV)} {w0 : World} {C : Cx} {m : Mem} {w : World} {P : Program}
def isC : Operand → Bool
  | .const _ => true
  | _ => false
def eqOpOk (P : Program) (t : TypeId) (ox oy : Operand) : EqT → Bool
  | .leaf l => eqLOk P t l && decide (l ≠ .int) && decide (l ≠ .str) &&
      (decide (l ≠ .ifaceE) || isC ox || isC oy || (match P.underlying t with | some (.interface ms) => ms.isEmpty | _ => false))
  | .struct fs => match P.underlying t with
    | some (.struct gs) => !P.stoodInHeld t && !P.eqGuardType P.depth t && eqFsOk P gs.toList fs
    | _ => false
theorem run_eqFields (hI : Inv G w0 C m w) {xs ys : List AV} {as bs : Array Value} (ha : as.size = xs.length) (ra : ∀ i, i < xs.length → Rep C (xs.getD i .u) (as.getD i undef)) (hb : bs.size = ys.length)
    (rb : ∀ i, i < ys.length → Rep C (ys.getD i .u) (bs.getD i undef)) (d : Nat) : ∀ {gs : List Field} {fs : List (Nat × EqL)} {r : Bool}, eqFsOk P gs fs = true → eqFs fs xs ys = some r →
    (Op.eqFields (d + 1) as bs gs).run P w = .ok r w
  | [], fs, r, hk, h => by
    cases fs with
    | nil => simp only [eqFs, Option.some.injEq] at h; subst h; simp [Op.eqFields]
    | cons f fs => simp [eqFsOk] at hk
  | g :: gs, fs, r, hk, h => by
    simp only [eqFsOk] at hk
    simp only [Op.eqFields]
    by_cases hn : g.name = "_"
    · rw [if_pos hn] at hk
      simp only [ne_eq, hn, not_true_eq_false, if_false]
      exact run_eqFields hI ha ra hb rb d hk h
    · rw [if_neg hn] at hk
      simp only [ne_eq, hn, not_false_eq_true, if_true]
      cases fs with
      | nil => cases hk
      | cons p fs =>
        obtain ⟨off, e⟩ := p
        simp only [Bool.and_eq_true, decide_eq_true_eq, beq_iff_eq] at hk
        obtain ⟨⟨⟨⟨k1, k2⟩, k3⟩, k4⟩, k5⟩ := hk
        simp only [eqFs] at h
        split at h
        · rename_i x y hx hy
          split at h
          · rename_i p q hp hq
            injection h with h; subst h
            have lx : off < xs.length := (List.getElem?_eq_some_iff.1 hx).1
            have ly : off < ys.length := (List.getElem?_eq_some_iff.1 hy).1
            have rx := ra off lx; rw [getD_eq hx] at rx
            have ry := rb off ly; rw [getD_eq hy] at ry
            have px : (Go.part g.type as g.offset).run P w = .ok (as.getD off undef) w := by
              simp only [Go.part, Sem.run_bind, run_isAgg k3, Result.andThen, Bool.false_eq_true, if_false, k1]
              rw [agetD_lt (l := as) (by omega)]; rfl
            have py : (Go.part g.type bs g.offset).run P w = .ok (bs.getD off undef) w := by
              simp only [Go.part, Sem.run_bind, run_isAgg k3, Result.andThen, Bool.false_eq_true, if_false, k1]
              rw [agetD_lt (l := bs) (by omega)]; rfl
            have pe := eqL_ok (P := P) hI k2 rx ry hp (fun i o i' o' e1 e2 => by
              exfalso
              have := eqLOk_iff k2
              subst e1
              cases e <;> simp [eqL] at hp
              exact k4 rfl) d
            simp only [Sem.run_bind, px, py, pe, Result.andThen, Sem.run_ite, Sem.run_pure]
            cases p
            · simp
            · simp only [Bool.not_true, Bool.false_eq_true, if_false, Bool.true_and]
              exact run_eqFields hI ha ra hb rb d k5 hq
          · cases h
        · cases h
set_option maxHeartbeats 1000000 in
theorem eq_ok (hI : Inv G w0 C m w) {neg : Bool} {t : TypeId} {T : EqT} {ox oy : Operand} (ht : eqOpOk P t ox oy T = true) {x y : AV} {a b : Value} (hx : Rep C x a) (hy : Rep C y b) {r : Bool} (h : eqV T x y = some r)
    (hs : eqSafeB m x y = true) : Res G w0 C m (.bool (r != neg)) ((do pure (.value (← (do eqGuard (if neg then .neq else .eql) t ox oy a b; binOp (if neg then .neq else .eql) t a b : Sem Value))) : Sem Next).run P w) := by
  have fin : ∀ (hg : (eqGuard (if neg then .neq else .eql) t ox oy a b).run P w = .ok () w) (he : (Op.equal t a b).run P w = .ok r w)
      (hb : (binOp (if neg then .neq else .eql) t a b) = (if neg then (do pure (.bool (!(← Op.equal t a b))) : Sem Value) else do pure (.bool (← Op.equal t a b)))),
      Res G w0 C m (.bool (r != neg)) ((do pure (.value (← (do eqGuard (if neg then .neq else .eql) t ox oy a b; binOp (if neg then .neq else .eql) t a b : Sem Value))) : Sem Next).run P w) := by
    intro hg he hb
    refine Res.quiet hI (cv := .bool (r != neg)) ?_ (.bool _)
    rw [hb]
    simp only [Sem.run_bind, hg, Result.andThen_ok]
    cases neg
    · simp only [Bool.false_eq_true, if_false, Sem.run_bind, he, Result.andThen_ok, Sem.run_pure]; cases r <;> rfl
    · simp only [if_true, Sem.run_bind, he, Result.andThen_ok, Sem.run_pure]; cases r <;> rfl
  cases T with
  | struct fs =>
    simp only [eqOpOk] at ht
    split at ht
    · rename_i gs hu
      simp only [Bool.and_eq_true, Bool.not_eq_true'] at ht
      obtain ⟨⟨h1, h2⟩, h3⟩ := ht
      cases hx with
      | agg xs as ha ra =>
        cases hy with
        | agg ys bs hb rb =>
          have hf : P.fieldsOf t = gs := by simp [Program.fieldsOf, hu]
          refine fin (run_eqGuard_agg w _ _ _ _ _ _ h2) ?_ (by cases neg <;> rfl)
          rw [Op.equal, show Op.maxDepth = 9999 + 1 from rfl, run_equalIn_struct w 9999 t as bs (by rw [hf]; exact hu) h1, hf]
          exact run_eqFields hI ha ra hb rb 9998 h3 h
        | _ => simp [eqV] at h
      | _ => cases y <;> simp [eqV] at h
    · cases ht
  | leaf l =>
    simp only [eqOpOk, Bool.and_eq_true, decide_eq_true_eq] at ht
    obtain ⟨⟨⟨h1, h2⟩, h3⟩, h4⟩ := ht
    have he : (Op.equal t a b).run P w = .ok r w := by
      rw [Op.equal, show Op.maxDepth = 9999 + 1 from rfl]
      refine eqL_ok hI h1 hx hy h (fun i o i' o' e1 e2 => ?_) 9999
      subst e1; subst e2
      simp only [eqSafeB, Bool.and_eq_true] at hs
      refine ⟨?_, ?_⟩
      · cases hc : m.get i <;> first | exact ⟨_, _, rfl⟩ | (rw [hc] at hs; simp [isCells] at hs)
      · cases hc : m.get i' <;> first | exact ⟨_, _, rfl⟩ | (rw [hc] at hs; simp [isCells] at hs)
    have hi := eqLOk_iff h1
    simp only [eqV] at h
    unfold eqL at h
    split at h
    case h_28 => cases h
    case h_2 => exact absurd rfl h2
    case h_3 => exact absurd rfl h3
    case h_23 =>
      cases hx; cases hy
      refine fin ?_ he (by cases neg <;> rfl)
      obtain ⟨ms, hu⟩ := hi
      simp only [ne_eq, not_true_eq_false, decide_false, Bool.false_or, Bool.or_eq_true, hu] at h4
      unfold eqGuard
      cases hcx : isC ox with
      | true => cases ox <;> simp [isC] at hcx; cases neg <;> simp
      | false =>
        cases hcy : isC oy with
        | true => cases oy <;> simp [isC] at hcy; cases neg <;> simp
        | false =>
          rw [hcx, hcy] at h4
          simp only [Bool.false_eq_true, false_or] at h4
          have hm : ms = #[] := by simpa using h4
          subst hm
          have g1 : (Op.eqGuardIn Op.maxDepth t .nilIface .nilIface).run P w = .ok false w := by
            have key : ∀ d, (Op.eqGuardIn (d + 1) t .nilIface .nilIface).run P w = .ok false w := fun d => by simp [Op.eqGuardIn, run_underlying hu]
            exact key 9999
          cases neg <;> cases ox <;> cases oy <;> simp [isC] at hcx hcy <;> simp [g1]
    all_goals
      cases hx <;> cases hy <;> (refine fin ?_ he (by cases neg <;> rfl)) <;> (unfold eqGuard; cases neg <;> simp)
theorem not_ok (hI : Inv G w0 C m w) {x v : AV} {a : Value} (hx : Rep C x a) {b : Bool} (h : x = .bool b) (hv : v = .bool (!b)) :
    Res G w0 C m v ((do pure (.value (← Op.unary .not a)) : Sem Next).run P w) := by
  subst h; subst hv; cases hx
  exact Res.quiet hI (cv := .bool (!b)) (by simp [Op.unary]) (.bool _)
theorem neg_ok (hI : Inv G w0 C m w) {x : AV} {a : Value} (hx : Rep C x a) {k : IntKind} {n : Int} (h : x = .int k n) :
    Res G w0 C m (.int k (k.wrap (0 - n))) ((do pure (.value (← Op.unary .neg a)) : Sem Next).run P w) := by
  subst h; cases hx
  exact Res.quiet hI (cv := .int k (k.wrap (0 - n))) (by simp [Op.unary, Op.intArith]) (.int _ _)
theorem inv_ok (hI : Inv G w0 C m w) {x : AV} {a : Value} (hx : Rep C x a) {k : IntKind} {n : Int} (h : x = .int k n) :
    Res G w0 C m (.int k (k.wrap (BitVec.ofInt k.bits (if k.signed then -1 else k.max) ^^^ BitVec.ofInt k.bits n).toNat)) ((do pure (.value (← Op.unary .xor a)) : Sem Next).run P w) := by
  subst h; cases hx
  exact Res.quiet hI (cv := .int k _) (by simp [Op.unary, Op.intBits]) (.int _ _)
theorem convI_ok (hI : Inv G w0 C m w) {x : AV} {a : Value} (hx : Rep C x a) {src dst : TypeId} {d : TypeDesc} {k k' : IntKind} {n : Int} (hs : P.underlying src = some d) (hd : P.underlying dst = some (.int k)) (h : x = .int k' n) :
    Res G w0 C m (.int k (k.wrap n)) ((do pure (.value (← convert src dst a)) : Sem Next).run P w) := by
  subst h; cases hx
  refine Res.quiet hI (cv := .int k (k.wrap n)) ?_ (.int _ _)
  simp only [convert, Sem.run_bind, run_underlying hs, run_underlying hd, Result.andThen, Conv.intToInt, Sem.run_pure]
theorem runeStr_ok (hI : Inv G w0 C m w) {x : AV} {a : Value} (hx : Rep C x a) {src dst : TypeId} {d : TypeDesc} {k : IntKind} {n : Int} (hs : P.underlying src = some d) (hd : P.underlying dst = some .string) (h : x = .int k n) :
    Res G w0 C m (.str (Utf8.encode n).toList) ((do pure (.value (← convert src dst a)) : Sem Next).run P w) := by
  subst h; cases hx
  refine Res.quiet hI (cv := .string (Utf8.encode n)) ?_ (.str _ _ (ByteArray.toList_eq _).symm)
  simp only [convert, Sem.run_bind, run_underlying hs, run_underlying hd, Result.andThen]
  simp [Conv.intToString]
end
end Go.Proofs.YtkjokjogdehonaaGreatDoor.Am
namespace Go.Proofs.YtkjokjogdehonaaGreatDoor.Am
open Go Go.RowKit
def OptRep (C : Cx) : Option AV → Option Value → Prop
  | none, none => True
  | some a, some v => Rep C a v
  | _, _ => False
def BoundIs (P : Program) (w : World) (lv : Option Value) (d mx l : Nat) : Prop :=
  match lv with
  | some v => ∀ code, (Instr.sliceBound v mx code).run P w = .ok l w
  | none => l = d
section
variable {G : Nat → Option (List AV)} {w0 : World} {C : Cx} {m : Mem} {w : World} {P : Program}
theorem bound_run {lo : Option AV} {lv : Option Value} (h : OptRep C lo lv) {d mx l : Nat} (hb : boundV d mx lo = some l) :
    BoundIs P w lv d mx l ∧ (d ≤ mx → l ≤ mx) := by
  cases lo with
  | none =>
    cases lv with
    | none => simp only [boundV, Option.some.injEq] at hb; subst hb; exact ⟨rfl, id⟩
    | some v => exact h.elim
  | some a =>
    cases lv with
    | none => exact h.elim
    | some v =>
      have hr : Rep C a v := h
      cases hr with
      | int k n =>
        simp only [boundV] at hb
        split at hb
        · rename_i hc
          injection hb with hb; subst hb
          exact ⟨fun code => by simp only [Instr.sliceBound, asIntOf, Sem.run_bind, Sem.run_pure, Result.andThen, Sem.run_ite, if_pos hc], fun _ => by omega⟩
        · cases hb
      | _ => simp [boundV] at hb
theorem run_sliceBounds2 (isS : Bool) {len cap h l : Nat} {lv hv : Option Value} (hh : BoundIs P w hv len cap h) (hl : BoundIs P w lv 0 h l) :
    (Instr.sliceBounds isS len cap lv hv none).run P w = .ok (l, h, cap) w := by
  cases hv with
  | none =>
    obtain rfl : h = len := hh
    cases lv with
    | none => obtain rfl : l = 0 := hl; simp [Instr.sliceBounds]
    | some v =>
      have := hl .sliceB
      simp [Instr.sliceBounds, this]
  | some u =>
    have h1 := hh .sliceAcap
    have h2 := hh .sliceAlen
    cases lv with
    | none => obtain rfl : l = 0 := hl; cases isS <;> simp [Instr.sliceBounds, h1, h2]
    | some v =>
      have := hl .sliceB
      cases isS <;> simp [Instr.sliceBounds, this, h1, h2]
theorem run_sliceBounds3 (isS : Bool) {len cap mx h l : Nat} {lv : Option Value} {u mv : Value} (hm : BoundIs P w (some mv) 0 cap mx) (hh : BoundIs P w (some u) 0 mx h) (hl : BoundIs P w lv 0 h l) :
    (Instr.sliceBounds isS len cap lv (some u) (some mv)).run P w = .ok (l, h, mx) w := by
  have m1 := hm .slice3Acap
  have m2 := hm .slice3Alen
  have h1 := hh .slice3B
  cases lv with
  | none => obtain rfl : l = 0 := hl; cases isS <;> simp [Instr.sliceBounds, h1, m1, m2]
  | some v =>
    have := hl .slice3C
    cases isS <;> simp [Instr.sliceBounds, this, h1, m1, m2]
theorem sliceS_ok (hI : Inv G w0 C m w) {x v : AV} {a : Value} (hx : Rep C x a) {t : TypeId} (ht : P.underlying t = some .string) {lo hi : Option AV} {lv hv : Option Value} (hl : OptRep C lo lv) (hh : OptRep C hi hv)
    (h : sliceStr x lo hi = some v) : Res G w0 C m v ((do pure (.value (← Instr.sliceAt t a lv hv none)) : Sem Next).run P w) := by
  cases hx with
  | str s b e =>
    simp only [sliceStr] at h
    split at h
    · rename_i hb hhb
      split at h
      · rename_i lb hlb
        injection h with h; subst h
        have hsz : b.size = s.length := by subst e; simp
        obtain ⟨k1, k2⟩ := bound_run (P := P) (w := w) hh hhb
        obtain ⟨l1, l2⟩ := bound_run (P := P) (w := w) hl hlb
        have hr := run_sliceBounds2 (P := P) (w := w) false k1 l1
        have hrun : (Instr.sliceAt t (.string b) lv hv none).run P w = .ok (.string (b.extract lb hb)) w := by
          simp only [Instr.sliceAt, Instr.slice, Sem.run_bind, run_underlying ht, Result.andThen, Sem.run_pure, Option.isSome_none, Bool.false_eq_true, if_false, hsz, hr]
        refine Res.quiet hI hrun (.str _ _ ?_)
        subst e
        simp [ByteArray.data_extract, List.drop_take]
      · cases h
    · cases h
  | _ => simp [sliceStr] at h
theorem sl_cut {o o' : Own} {sz : Nat} {xs : List AV} {b off n cap l h c : Nat} {val : Nat → Nat → Value} (h1 : n = xs.length) (h2 : n ≤ cap) (h3 : 0 < sz) (h4 : o = .full → cap = n)
    (h5 : ∀ t, o = .tok t → (n = 0 ∧ cap = 0) ∨ C.R t b (off + n * sz) (off + cap * sz)) (h6 : ∀ i, i < n → (xs.getD i .u).cells.length = sz)
    (h7 : ∀ i j, i < n → j < sz → C.St b (off + i * sz + j) (val i j)) (h8 : ∀ i j, i < n → j < sz → Rep C ((xs.getD i .u).cells.getD j .u) (val i j))
    (hl : l ≤ h) (hn : h ≤ n) (hc : h ≤ c) (hc2 : c ≤ cap) (ho : (o' = .full ∧ c = h) ∨ o' = .no ∨ (o' = o ∧ h = n ∧ c = cap)) :
    Rep C (.sl o' sz ((xs.take h).drop l)) (.slice (if c = l then some ⟨b, off, none⟩ else some ⟨b, off + l * sz, none⟩) (h - l) (c - l)) := by
  have hlen : h - l = ((xs.take h).drop l).length := by simp; omega
  have hg : ∀ i, i < h - l → ((xs.take h).drop l).getD i .u = xs.getD (l + i) .u := by
    intro i hi
    simp only [List.getD, List.getElem?_drop, List.getElem?_take]
    rw [if_pos (by omega)]
  have ha : ∀ i, off + l * sz + i * sz = off + (l + i) * sz := fun i => by rw [Nat.add_mul]; omega
  by_cases e : c = l
  · subst e
    rw [if_pos rfl]
    refine .sl o' sz _ b off (h - c) (c - c) (fun i j => val (c + i) j) hlen (by omega) h3 (fun _ => by omega) (fun t _ => .inl ⟨by omega, by omega⟩) (fun i hi => by omega) (fun i j hi => by omega) (fun i j hi => by omega)
  · rw [if_neg e]
    refine .sl o' sz _ b (off + l * sz) (h - l) (c - l) (fun i j => val (l + i) j) hlen (by omega) h3 (fun hf => ?_) (fun t ht => ?_) (fun i hi => ?_) (fun i j hi hj => ?_) (fun i j hi hj => ?_)
    · rcases ho with ⟨_, rfl⟩ | h' | ⟨rfl, rfl, rfl⟩
      · rfl
      · rw [h'] at hf; cases hf
      · rw [h4 hf]
    · rcases ho with ⟨h', _⟩ | h' | ⟨rfl, rfl, rfl⟩
      · rw [h'] at ht; cases ht
      · rw [h'] at ht; cases ht
      · rcases h5 t ht with h' | h'
        · exact .inl ⟨by omega, by omega⟩
        · right
          rw [← Nat.add_sub_cancel' (show l ≤ h by omega), ← Nat.add_sub_cancel' (show l ≤ c by omega)] at h'
          rw [Nat.add_assoc off, ← Nat.add_mul, Nat.add_assoc off, ← Nat.add_mul]
          exact h'
    · rw [hg i hi]; exact h6 _ (by omega)
    · rw [ha]; exact h7 _ _ (by omega) hj
    · rw [hg i hi]; exact h8 _ _ (by omega) hj
theorem run_slice_sl {t e : TypeId} {sz : Nat} (ht : P.underlying t = some (.slice e)) (hs : cellsB P e = some sz) {a : Option Addr} {len cap l h c : Nat} {lv hv mv : Option Value}
    (hr : (Instr.sliceBounds true len cap lv hv mv).run P w = .ok (l, h, c) w) :
    (Instr.sliceAt t (.slice a len cap) lv hv mv).run P w = .ok (.slice (if c = l then a else a.map (·.add (l * sz))) (h - l) (c - l)) w := by
  simp only [Instr.sliceAt, Instr.slice, Sem.run_bind, run_underlying ht, Result.andThen, Sem.run_pure, hr, run_sizeOf hs]
theorem addr_if (b off l sz c : Nat) : (if c = l then some (⟨b, off, none⟩ : Addr) else (some (⟨b, off, none⟩ : Addr)).map (·.add (l * sz))) = if c = l then some ⟨b, off, none⟩ else some ⟨b, off + l * sz, none⟩ := by
  split <;> simp [Addr.add_lit]
theorem sliceL_ok (hI : Inv G w0 C m w) {x v : AV} {a : Value} (hx : Rep C x a) {t e : TypeId} {sz : Nat} (ht : P.underlying t = some (.slice e)) (hs : cellsB P e = some sz) {lo hi mx : Option AV} {lv hv mv : Option Value}
    (hl : OptRep C lo lv) (hh : OptRep C hi hv) (hm : OptRep C mx mv) (hszb : szOk sz x = true) (h : sliceSl x lo hi mx = some v) :
    Res G w0 C m v ((do pure (.value (← Instr.sliceAt t a lv hv mv)) : Sem Next).run P w) := by
  cases hx with
  | nilSl =>
    simp only [sliceSl] at h
    split at h
    · cases h
    rename_i hno
    split at h
    · rename_i c hb lb hc hhb hlb
      injection h with h; subst h
      obtain ⟨c1, c2⟩ := bound_run (P := P) (w := w) hm hc
      obtain ⟨k1, k2⟩ := bound_run (P := P) (w := w) hh hhb
      obtain ⟨l1, l2⟩ := bound_run (P := P) (w := w) hl hlb
      obtain rfl : c = 0 := by have := c2 (Nat.le_refl _); omega
      obtain rfl : hb = 0 := by have := k2 (Nat.le_refl _); omega
      obtain rfl : lb = 0 := by have := l2 (Nat.le_refl _); omega
      have hr : ∃ c, (Instr.sliceBounds true 0 0 lv hv mv).run P w = .ok (0, 0, c) w ∧ c = 0 := by
        cases mv with
        | none => exact ⟨0, run_sliceBounds2 true k1 l1, rfl⟩
        | some u =>
          cases hv with
          | none =>
            exfalso; apply hno
            cases mx with
            | none => exact hm.elim
            | some _ => cases hi with
              | none => exact ⟨rfl, rfl⟩
              | some _ => exact hh.elim
          | some u' => exact ⟨0, run_sliceBounds3 true c1 k1 l1, rfl⟩
      obtain ⟨c, hr, rfl⟩ := hr
      exact Res.quiet hI (by rw [run_slice_sl ht hs hr]; simp) .nilSl
    · cases h
  | sl o s xs b off n cap val h1 h2 h3 h4 h5 h6 h7 h8 =>
    obtain rfl : s = sz := by simpa [szOk] using hszb
    simp only [sliceSl] at h
    split at h
    · -- without a third bound
      cases mv with
      | some u => exact hm.elim
      | none =>
        split at h
        · rename_i hb hhb
          split at h
          · rename_i lb hlb
            injection h with h; subst h
            obtain ⟨k1, k2⟩ := bound_run (P := P) (w := w) hh hhb
            obtain ⟨l1, l2⟩ := bound_run (P := P) (w := w) hl hlb
            have k3 := k2 (Nat.le_refl _)
            have l3 := l2 (Nat.zero_le _)
            have k1' : BoundIs P w hv n cap hb := by
              cases hv with
              | none => rw [h1]; exact k1
              | some u =>
                intro code
                cases hi with
                | none => exact hh.elim
                | some x =>
                  have hr : Rep C x u := hh
                  cases hr with
                  | int k q =>
                    simp only [boundV] at hhb
                    split at hhb
                    · rename_i hc
                      injection hhb with hhb; subst hhb
                      simp only [Instr.sliceBound, asIntOf, Sem.run_bind, Sem.run_pure, Result.andThen, Sem.run_ite]
                      rw [if_pos (by omega)]
                    · cases hhb
                  | _ => simp [boundV] at hhb
            have hr := run_sliceBounds2 (P := P) (w := w) true k1' l1
            refine Res.quiet hI (by rw [run_slice_sl ht hs hr, addr_if]) ?_
            refine sl_cut h1 h2 h3 h4 h5 h6 h7 h8 l3 (by omega) (by omega) (Nat.le_refl _) ?_
            unfold ownOf
            split
            · right; right; exact ⟨rfl, by omega, rfl⟩
            · right; left; rfl
          · cases h
        · cases h
    · -- with one
      rename_i mval
      cases mv with
      | none => exact hm.elim
      | some mu =>
        split at h
        · rename_i k hk
          split at h
          · cases h
          · rename_i hval
            cases hv with
            | none => exact hh.elim
            | some hu =>
              split at h
              · rename_i hb hhb
                split at h
                · rename_i lb hlb
                  injection h with h; subst h
                  obtain ⟨c1, c2⟩ := bound_run (P := P) (w := w) hm hk
                  obtain ⟨k1, k2⟩ := bound_run (P := P) (w := w) hh hhb
                  obtain ⟨l1, l2⟩ := bound_run (P := P) (w := w) hl hlb
                  have c3 := c2 (Nat.zero_le _)
                  have k3 := k2 (Nat.zero_le _)
                  have l3 := l2 (Nat.zero_le _)
                  have c1' : BoundIs P w (some mu) 0 cap k := by
                    intro code
                    have hr : Rep C mval mu := hm
                    cases hr with
                    | int kk q =>
                      simp only [boundV] at hk
                      split at hk
                      · rename_i hc
                        injection hk with hk; subst hk
                        simp only [Instr.sliceBound, asIntOf, Sem.run_bind, Sem.run_pure, Result.andThen, Sem.run_ite]
                        rw [if_pos (by omega)]
                      · cases hk
                    | _ => simp [boundV] at hk
                  have hr := run_sliceBounds3 (P := P) (w := w) true (len := n) c1' k1 l1
                  refine Res.quiet hI (by rw [run_slice_sl ht hs hr, addr_if]) ?_
                  refine sl_cut h1 h2 h3 h4 h5 h6 h7 h8 l3 (by omega) (by omega) (by omega) ?_
                  split
                  · left; exact ⟨rfl, by omega⟩
                  · right; left; rfl
                · cases h
              · cases h
        · cases h
  | sl0 o s ad h1 h2 =>
    obtain rfl : s = sz := by simpa [szOk] using hszb
    simp only [sliceSl] at h
    have fin : ∀ (o' : Own) (l hh' : Nat), (∀ t, o' ≠ .tok t) → Rep C (.sl o' s (([] : List AV).take hh' |>.drop l)) (.slice (some ad) 0 0) := fun o' l hh' ho => by
      rw [List.take_nil, List.drop_nil]; exact .sl0 o' s ad ho h2
    split at h
    · cases mv with
      | some u => exact hm.elim
      | none =>
        split at h
        · rename_i hb hhb
          split at h
          · rename_i lb hlb
            injection h with h; subst h
            obtain ⟨k1, k2⟩ := bound_run (P := P) (w := w) hh hhb
            obtain ⟨l1, l2⟩ := bound_run (P := P) (w := w) hl hlb
            obtain rfl : hb = 0 := by have := k2 (Nat.le_refl _); simpa using this
            obtain rfl : lb = 0 := by have := l2 (Nat.le_refl _); simpa using this
            have hr := run_sliceBounds2 (P := P) (w := w) true (cap := 0) (len := 0) (by simpa using k1) l1
            refine Res.quiet hI (cv := .slice (some ad) 0 0) (by rw [run_slice_sl ht hs hr]; simp) (fin _ _ _ ?_)
            intro t; unfold ownOf; split
            · exact h1 t
            · intro h; cases h
          · cases h
        · cases h
    · rename_i mval
      cases mv with
      | none => exact hm.elim
      | some mu =>
        split at h
        · rename_i k hk
          split at h
          · cases h
          · rename_i hval
            cases hv with
            | none => exact hh.elim
            | some hu =>
              split at h
              · rename_i hb hhb
                split at h
                · rename_i lb hlb
                  injection h with h; subst h
                  obtain ⟨c1, c2⟩ := bound_run (P := P) (w := w) hm hk
                  obtain ⟨k1, k2⟩ := bound_run (P := P) (w := w) hh hhb
                  obtain ⟨l1, l2⟩ := bound_run (P := P) (w := w) hl hlb
                  obtain rfl : k = 0 := by have := c2 (Nat.zero_le _); simpa using this
                  obtain rfl : hb = 0 := by have := k2 (Nat.zero_le _); simpa using this
                  obtain rfl : lb = 0 := by have := l2 (Nat.zero_le _); simpa using this
                  have hr := run_sliceBounds3 (P := P) (w := w) true (len := 0) (cap := 0) (by simpa using c1) k1 l1
                  refine Res.quiet hI (cv := .slice (some ad) 0 0) (by rw [run_slice_sl ht hs hr]; simp) (fin _ _ _ ?_)
                  intro t; split <;> (intro h; cases h)
                · cases h
              · cases h
        · cases h
  | osl id off len cap s b hb hc =>
    obtain rfl : s = sz := by simpa [szOk] using hszb
    simp only [sliceSl] at h
    split at h
    · cases mv with
      | some u => exact hm.elim
      | none =>
        split at h
        · rename_i hb' hhb
          split at h
          · rename_i lb hlb
            injection h with h; subst h
            obtain ⟨k1, k2⟩ := bound_run (P := P) (w := w) hh hhb
            obtain ⟨l1, l2⟩ := bound_run (P := P) (w := w) hl hlb
            have k3 := k2 hc
            have l3 := l2 (Nat.zero_le _)
            have hr := run_sliceBounds2 (P := P) (w := w) true k1 l1
            refine Res.quiet hI (by rw [run_slice_sl ht hs hr, addr_if]) ?_
            by_cases e : cap = lb
            · rw [if_pos e, if_pos e]; exact .osl _ _ _ _ _ _ hb (by omega)
            · rw [if_neg e, if_neg e]; exact .osl _ _ _ _ _ _ hb (by omega)
          · cases h
        · cases h
    · cases h
  | _ => simp [sliceSl] at h
theorem len_ok (hI : Inv G w0 C m w) {x v : AV} {a : Value} (hx : Rep C x a) {t : TypeId} {ts : List TypeId} {ty : TypeId} {k : LK} (hk : isLK k x = true)
    (hu : match k with | .str => P.underlying t = some .string | .sli => ∃ e, P.underlying t = some (.slice e) | .map => ∃ e e', P.underlying t = some (.map e e')) (h : lenV m x = some v) :
    Res G w0 C m v ((do pure (.value (← Builtin.len_ (t :: ts).toArray ty #[a])) : Sem Next).run P w) := by
  cases k with
  | str =>
    cases hx with
    | str s b e =>
      simp only [lenV, Option.some.injEq] at h; subst h
      have hsz : b.size = s.length := by subst e; simp
      exact Res.quiet hI (cv := .int .i64 s.length) (by simp [Builtin.len_, run_underlying hu, goInt, hsz]) (.int _ _)
    | _ => simp [isLK] at hk
  | sli =>
    obtain ⟨e, hu⟩ := hu
    cases hx with
    | nilSl =>
      simp only [lenV, Option.some.injEq] at h; subst h
      exact Res.quiet hI (cv := .int .i64 0) (by simp [Builtin.len_, run_underlying hu, goInt]) (.int _ _)
    | sl o s l b off n cap val h1 =>
      simp only [lenV, Option.some.injEq] at h; subst h
      exact Res.quiet hI (cv := .int .i64 l.length) (by simp [Builtin.len_, run_underlying hu, goInt, h1]) (.int _ _)
    | sl0 o s ad h1 h2 =>
      simp only [lenV, Option.some.injEq] at h; subst h
      exact Res.quiet hI (cv := .int .i64 0) (by simp [Builtin.len_, run_underlying hu, goInt]) (.int _ _)
    | osl i o l c s b hb hc =>
      simp only [lenV, Option.some.injEq] at h; subst h
      exact Res.quiet hI (cv := .int .i64 l) (by simp [Builtin.len_, run_underlying hu, goInt]) (.int _ _)
    | gsl i n s b cap hb hc hq =>
      simp only [lenV, Option.some.injEq] at h; subst h
      exact Res.quiet hI (cv := .int .i64 n) (by simp [Builtin.len_, run_underlying hu, goInt]) (.int _ _)
    | _ => simp [isLK] at hk
  | map =>
    obtain ⟨e, e', hu⟩ := hu
    cases hx with
    | nilMap =>
      simp only [lenV, Option.some.injEq] at h; subst h
      exact Res.quiet hI (cv := .int .i64 0) (by simp [Builtin.len_, run_underlying hu, goInt]) (.int _ _)
    | map i b hb =>
      simp only [lenV] at h
      split at h
      · rename_i es hes
        injection h with h; subst h
        obtain ⟨_, _, _, ho⟩ := hI.obj i b hb
        rw [hes] at ho
        obtain ⟨ents, clk, h1, h2, h3⟩ := ho
        have hg : (getObj b).run P w = .ok (.map ents clk) w := by simp [getObj, Sem.run, h1]
        exact Res.quiet hI (cv := .int .i64 es.length) (by simp [Builtin.len_, run_underlying hu, goInt, hg, h2]) (.int _ _)
      · cases h
    | _ => simp [isLK] at hk
theorem min_ok (hI : Inv G w0 C m w) {x y v : AV} {a b : Value} (hx : Rep C x a) (hy : Rep C y b) {ts : Array TypeId} {ty : TypeId} (h : minV x y = some v) :
    Res G w0 C m v ((do pure (.value (← Builtin.min_ ts ty #[a, b])) : Sem Next).run P w) := by
  cases hx with
  | int k n => cases hy with
    | int k' n' =>
      simp only [minV, Option.some.injEq] at h; subst h
      exact Res.quiet hI (cv := .int k (if n' < n then n' else n)) (by simp [Builtin.min_, Builtin.min2]) (.int _ _)
    | _ => simp [minV] at h
  | _ => cases y <;> simp [minV] at h
theorem max_ok (hI : Inv G w0 C m w) {x y v : AV} {a b : Value} (hx : Rep C x a) (hy : Rep C y b) {ts : Array TypeId} {ty : TypeId} (h : maxV x y = some v) :
    Res G w0 C m v ((do pure (.value (← Builtin.max_ ts ty #[a, b])) : Sem Next).run P w) := by
  cases hx with
  | int k n => cases hy with
    | int k' n' =>
      simp only [maxV, Option.some.injEq] at h; subst h
      exact Res.quiet hI (cv := .int k (if n' > n then n' else n)) (by simp [Builtin.max_, Builtin.max2]) (.int _ _)
    | _ => simp [maxV] at h
  | _ => cases y <;> simp [maxV] at h
theorem mkIface_ok (hI : Inv G w0 C m w) {x : AV} {a : Value} (hx : Rep C x a) {t : TypeId} (ht : P.concrete t = true) :
    Res G w0 C m (.iface t x) ((do pure (.value (← Instr.makeInterface t a)) : Sem Next).run P w) :=
  Res.quiet hI (run_makeInterface _ t a ht) (.iface _ _ _ hx)
theorem extract_ok (hI : Inv G w0 C m w) {x v : AV} {a : Value} (hx : Rep C x a) {i : Nat} {vs : List AV} (h : x = .tup vs) (hv : vs[i]? = some v) :
    Res G w0 C m v ((do pure (.value (← Instr.extract a i)) : Sem Next).run P w) := by
  subst h
  cases hx with
  | tup _ as h1 h2 =>
    have hlt : i < vs.length := (List.getElem?_eq_some_iff.1 hv).1
    have hr := h2 i hlt
    rw [getD_eq hv] at hr
    refine Res.quiet hI (cv := as.getD i undef) ?_ hr
    simp only [Instr.extract]
    rw [agetD_lt (l := as) (by omega)]; rfl
def listRep (C : Cx) : List AV → List Value → Prop
  | [], [] => True
  | a :: as, v :: vs => Rep C a v ∧ listRep C as vs
  | _, _ => False
theorem listRep_iff {as : List AV} {vs : List Value} (h : listRep C as vs) : vs.length = as.length ∧ ∀ i, i < as.length → Rep C (as.getD i .u) (vs.getD i undef) := by
  induction as generalizing vs with
  | nil => cases vs with
    | nil => exact ⟨rfl, fun _ h => absurd h (by simp)⟩
    | cons _ _ => exact h.elim
  | cons a as ih => cases vs with
    | nil => exact h.elim
    | cons v vs =>
      obtain ⟨h1, h2⟩ := h
      obtain ⟨k1, k2⟩ := ih h2
      refine ⟨by simp [k1], fun i hi => ?_⟩
      cases i with
      | zero => exact h1
      | succ i => simpa [List.getD] using k2 i (by simpa using hi)
theorem listRep_arr {as : List AV} {vs : Array Value} (h : listRep C as vs.toList) : vs.size = as.length ∧ ∀ i, i < as.length → Rep C (as.getD i .u) (vs.getD i undef) := by
  obtain ⟨h1, h2⟩ := listRep_iff h
  refine ⟨by simpa using h1, fun i hi => ?_⟩
  have := h2 i hi
  rwa [Array.getD_eq_getD_getElem?, ← Array.getElem?_toList]
theorem mkFn_ok (hI : Inv G w0 C m w) {f : Fn} {first cap : List AV} {xs ys : Array Value} (h1 : listRep C first xs.toList) (h2 : listRep C cap ys.toList) :
    Res G w0 C m (.fn f first cap) ((do pure (.value (← Instr.makeFunc f xs ys)) : Sem Next).run P w) := by
  obtain ⟨a1, a2⟩ := listRep_arr h1
  obtain ⟨b1, b2⟩ := listRep_arr h2
  exact Res.quiet hI (cv := .func f xs ys) rfl (.fn _ _ _ _ _ a1 a2 b1 b2)
theorem tassert_ok (hI : Inv G w0 C m w) {x v z : AV} {a : Value} (hx : Rep C x a) {xt t : TypeId} {ok : Bool} (ht : ∃ d, P.underlying t = some d ∧ ∀ ms, d ≠ .interface ms) (hz : zeroOk P t z = true)
    (h : tassertV t z ok x = some v) : Res G w0 C m v ((do pure (.value (← Instr.typeAssert a xt t ok)) : Sem Next).run P w) := by
  obtain ⟨d, hu, hd⟩ := ht
  obtain ⟨zv, z1, z2⟩ := zeroOk_run (w := w) hz
  have hzr := cstOk_rep C z2
  have pair : ∀ (p q : AV) (c e : Value), Rep C p c → Rep C q e → Rep C (.tup [p, q]) (.tuple #[c, e]) := by
    intro p q c e hp hq
    refine .tup _ _ rfl fun i hi => ?_
    match i, hi with
    | 0, _ => exact hp
    | 1, _ => exact hq
  cases hx with
  | nilIface =>
    simp only [tassertV] at h
    split at h
    · rename_i hok; injection h with h; subst h
      refine Res.quiet hI (cv := .tuple #[zv, .bool false]) ?_ (pair _ _ _ _ hzr (.bool _))
      cases d <;> first | (exact absurd rfl (hd _)) | (simp [Instr.typeAssert, run_underlying hu, hok, z1])
    · cases h
  | iface t' y c hr =>
    simp only [tassertV] at h
    split at h
    · rename_i ht
      injection h with h; subst h; subst ht
      refine Res.quiet hI (cv := if ok then .tuple #[c, .bool true] else c) ?_ ?_
      · cases d <;> first | (exact absurd rfl (hd _)) | (simp [Instr.typeAssert, run_underlying hu])
      · cases ok
        · exact hr
        · exact pair _ _ _ _ hr (.bool _)
    · rename_i ht
      split at h
      · rename_i hok; injection h with h; subst h
        refine Res.quiet hI (cv := .tuple #[zv, .bool false]) ?_ (pair _ _ _ _ hzr (.bool _))
        cases d <;> first | (exact absurd rfl (hd _)) | (simp [Instr.typeAssert, run_underlying hu, hok, z1, ht])
      · cases h
  | _ => simp [tassertV] at h
end
end Go.Proofs.YtkjokjogdehonaaGreatDoor.Am
