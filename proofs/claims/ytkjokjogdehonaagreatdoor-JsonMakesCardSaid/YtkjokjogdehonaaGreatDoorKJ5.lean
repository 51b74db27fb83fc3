/- Part KJ5 of a claim's texts, joined: what the claim needs of them. -/
import Derived.Test.YtkjokjogdehonaaGreatDoorKJ3
import Derived.Test.YtkjokjogdehonaaGreatDoorKA5
set_option linter.unusedSimpArgs false
set_option linter.unusedVariables false
namespace Go.Proofs.YtkjokjogdehonaaGreatDoor.Am.Q
open Go Go.Proofs Go.Proofs.YtkjokjogdehonaaGreatDoor.Am
def isDigN (n : Nat) : Bool := decide (48 ≤ n) && decide (n ≤ 57)
def isBlkN (n : Nat) : Bool := decide (n = 9) || (decide (n = 10) || (decide (n = 13) || decide (n = 32)))
def isSmallN (n : Nat) : Bool := decide (97 ≤ n) && decide (n ≤ 122)
def isNumN (n : Nat) : Bool := isDigN n || (decide (n = 45) || (decide (n = 43) || (decide (n = 46) || (decide (n = 101) || decide (n = 69)))))
def nibN (n : Nat) : Nat := if isDigN n then n - 48 else if 97 ≤ n ∧ n ≤ 102 then n - 87 else if 65 ≤ n ∧ n ≤ 70 then n - 55 else 16
def isDig (c : UInt8) : Bool := isDigN c.toNat
def isBlk (c : UInt8) : Bool := isBlkN c.toNat
def isSmall (c : UInt8) : Bool := isSmallN c.toNat
def isNum (c : UInt8) : Bool := isNumN c.toNat
def nib (c : UInt8) : Nat := nibN c.toNat
def runN (p : UInt8 → Bool) (s : List UInt8) : Nat := (s.takeWhile p).length
def expS : List UInt8 → Bool
  | [] => true
  | c :: r => (decide (c.toNat = 101) || decide (c.toNat = 69)) && (match r with
    | [] => false
    | d :: q => if d.toNat = 43 ∨ d.toNat = 45 then decide (q ≠ []) && decide (runN isDig q = q.length) else decide (runN isDig (d :: q) = (d :: q).length))
def fracS : List UInt8 → Bool
  | [] => true
  | c :: r => if c.toNat = 46 then (if runN isDig r = 0 then false else expS (r.drop (runN isDig r))) else expS (c :: r)
def absS (s : List UInt8) : Bool := if runN isDig s = 0 ∨ (1 < runN isDig s ∧ s.head? = some 48) then false else fracS (s.drop (runN isDig s))
def numS : List UInt8 → Bool
  | [] => false
  | c :: r => if c.toNat = 45 then absS r else absS (c :: r)
def uSize (c : Nat) : Nat := if c < 0x80 then 1 else if 0xC2 ≤ c ∧ c ≤ 0xDF then 2 else if 0xE0 ≤ c ∧ c ≤ 0xEF then 3 else if 0xF0 ≤ c ∧ c ≤ 0xF4 then 4 else 0
def putN (n : Int) : List UInt8 := (Utf8.encode n).toList
abbrev Flt := Int × Nat
def skipN (s : List UInt8) (i : Nat) : Nat := i + runN isBlk (s.drop i)
def nxt (s : List UInt8) (i : Nat) : Except Flt (Nat × UInt8) :=
  match s[skipN s i]? with
  | some c => .ok (skipN s i, c)
  | none => .error (4, s.length)
def hexN (l : List UInt8) : Nat := l.foldl (fun n c => n * 16 + nib c) 0
def hex4 (s : List UInt8) (i of : Nat) : Except Flt Nat :=
  if ((s.drop i).take 4).any (fun c => decide (nib c = 16)) then .error (3, of) else if ((s.drop i).take 4).length < 4 then .error (4, s.length) else .ok (hexN ((s.drop i).take 4))
def escIdx (c : UInt8) : Option Nat := ([98, 116, 110, 102, 114, 34, 92, 47] : List UInt8).findIdx? (· == c)
def surS (s : List UInt8) (i n : Nat) : Except Flt (List UInt8 × Nat) :=
  match s[i + 6]? with
  | none => .error (4, s.length)
  | some a => if a.toNat ≠ 92 then .error (3, i) else match s[i + 7]? with
    | none => .error (4, s.length)
    | some b => if b.toNat ≠ 117 then .error (3, i) else match hex4 s (i + 8) i with
      | .error e => .error e
      | .ok k => if k < 0xDC00 ∨ 0xDFFF < k then .error (3, i) else .ok (putN (0x10000 + (n - 0xD800) * 1024 + (k - 0xDC00) : Nat), i + 12)
def escS (s : List UInt8) (i : Nat) : Except Flt (List UInt8 × Nat) :=
  match s[i + 1]? with
  | none => .error (4, s.length)
  | some c => match escIdx c with
    | some k => .ok ([([8, 9, 10, 12, 13, 34, 92, 47] : List UInt8).getD k 0], i + 2)
    | none => if c.toNat ≠ 117 then .error (3, i) else match hex4 s (i + 2) i with
      | .error e => .error e
      | .ok n => if n < 0xD800 ∨ 0xDFFF < n then .ok (putN n, i + 6) else if 0xDC00 ≤ n then .error (3, i) else surS s i n
def quoS (s : List UInt8) : Nat → Nat → List UInt8 → Except Flt (List UInt8 × Nat)
  | 0, _, _ => .error (0, 0)
  | f + 1, i, out => match s[i]? with
    | none => .error (4, s.length)
    | some c => if c.toNat < 32 then .error (3, i) else if c.toNat = 34 then .ok (out, i + 1) else if c.toNat = 92 then
        (match escS s i with
        | .error e => .error e
        | .ok (b, j) => quoS s f j (out ++ b))
      else quoS s f (i + 1) (out ++ [c])
def quote (s : List UInt8) (i : Nat) : Except Flt (List UInt8 × Nat) := quoS s (s.length - i + 1) (i + 1) []
inductive PT where
  | val | list (acc : List VT) | tab (ks : List (List UInt8)) (acc : List VT)
def tNull : List UInt8 := [110, 117, 108, 108]
def tTrue : List UInt8 := [116, 114, 117, 101]
def tFalse : List UInt8 := [102, 97, 108, 115, 101]
def pGo (s : List UInt8) : Nat → PT → Nat → Nat → Nat → Except Flt (VT × Nat × Nat)
  | 0, _, _, _, _ => .error (0, 0)
  | f + 1, .val, i, many, deep => match nxt s i with
    | .error e => .error e
    | .ok (j, c) => if 4096 < many + 1 then .error (5, j) else
      if c.toNat = 34 then (match quote s j with
        | .error e => .error e
        | .ok (t, k) => .ok (.node 4 t [] [], k, many + 1))
      else if c.toNat = 91 ∨ c.toNat = 123 then
        (if 64 ≤ deep then .error (8, j) else if c.toNat = 91 then pGo s f (.list []) (j + 1) (many + 1) deep else pGo s f (.tab [] []) (j + 1) (many + 1) deep)
      else if c.toNat = 45 ∨ isDig c = true then
        (if numS ((s.drop j).takeWhile isNum) then .ok (.node 3 ((s.drop j).takeWhile isNum) [] [], j + runN isNum (s.drop j), many + 1) else .error (3, j))
      else if (s.drop j).takeWhile isSmall = tNull then .ok (.node 1 [] [] [], j + runN isSmall (s.drop j), many + 1)
      else if (s.drop j).takeWhile isSmall = tTrue ∨ (s.drop j).takeWhile isSmall = tFalse then .ok (.node 2 ((s.drop j).takeWhile isSmall) [] [], j + runN isSmall (s.drop j), many + 1)
      else .error (3, j)
  | f + 1, .list acc, i, many, deep => match nxt s i with
    | .error e => .error e
    | .ok (j, c) => if c.toNat = 93 then .ok (.node 5 [] [] acc, j + 1, many) else
      if acc ≠ [] ∧ c.toNat ≠ 44 then .error (3, j) else
        (match pGo s f .val (if acc = [] then j else j + 1) many (deep + 1) with
        | .error e => .error e
        | .ok (v, k, many') => pGo s f (.list (acc ++ [v])) k many' deep)
  | f + 1, .tab ks acc, i, many, deep => match nxt s i with
    | .error e => .error e
    | .ok (j, c) => if c.toNat = 125 then .ok (.node 6 [] ks acc, j + 1, many) else
      if acc ≠ [] ∧ c.toNat ≠ 44 then .error (3, j) else
        (match nxt s (if acc = [] then j else j + 1) with
        | .error e => .error e
        | .ok (a, q) => if q.toNat ≠ 34 then .error (3, a) else
          (match quote s a with
          | .error e => .error e
          | .ok (key, b) => if key ∈ ks then .error (7, a) else
            (match nxt s b with
            | .error e => .error e
            | .ok (d, o) => if o.toNat ≠ 58 then .error (3, d) else
              (match pGo s f .val (d + 1) many (deep + 1) with
              | .error e => .error e
              | .ok (v, k, many') => pGo s f (.tab (ks ++ [key]) (acc ++ [v])) k many' deep))))
def need (t : PT) (s : List UInt8) (i : Nat) : Nat :=
  match t with
  | .val => 2 * (s.length - i) + 1
  | _ => 2 * (s.length - i) + 2
def parseS (s : List UInt8) : Except Flt VT :=
  match pGo s (2 * s.length + 1) .val 0 0 0 with
  | .error e => .error e
  | .ok (v, i, _) => if skipN s i < s.length then .error (3, skipN s i) else .ok v
end Go.Proofs.YtkjokjogdehonaaGreatDoor.Am.Q
namespace Go.Proofs.YtkjokjogdehonaaGreatDoor.Am.Q
open Go Go.Proofs Go.Proofs.YtkjokjogdehonaaGreatDoor.Am
theorem rdig_ok (c : UInt8) (m : Mem) : CS 150 [.int .u8 c.toNat] m (.ret (.bool (isDig c))) m := byte_fn xfok mixed fTok gflat (g := fun n => .bool (isDigN n)) (by kernel_rfl) c m
theorem rsmall_ok (c : UInt8) (m : Mem) : CS 153 [.int .u8 c.toNat] m (.ret (.bool (isSmall c))) m := byte_fn xfok mixed fTok gflat (g := fun n => .bool (isSmallN n)) (by kernel_rfl) c m
theorem rnum_ok (c : UInt8) (m : Mem) : CS 224 [.int .u8 c.toNat] m (.ret (.bool (isNum c))) m := byte_fn xfok mixed fTok gflat (g := fun n => .bool (isNumN n)) (by kernel_rfl) c m
theorem rnib_ok (c : UInt8) (m : Mem) : CS 312 [.int .u8 c.toNat] m (.ret (.int .u32 (nib c))) m := byte_fn xfok mixed fTok gflat (g := fun n => .int .u32 (nibN n)) (by kernel_rfl) c m
theorem rsize_ok (c : UInt8) (m : Mem) : CS 144 [.int .u8 c.toNat] m (.ret (.int .i64 (uSize c.toNat))) m := byte_fn xfok mixed fTok gflat (g := fun n => .int .i64 (uSize n)) (by kernel_rfl) c m
end Go.Proofs.YtkjokjogdehonaaGreatDoor.Am.Q
