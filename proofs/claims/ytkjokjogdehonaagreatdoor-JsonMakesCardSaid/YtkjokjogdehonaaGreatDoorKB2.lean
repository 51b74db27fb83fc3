/- Part KB2 of a claim's texts, joined: what the claim needs of them. -/
import Derived.Test.YtkjokjogdehonaaGreatDoorKB1
set_option linter.unusedSimpArgs false
set_option linter.unusedVariables false
namespace Go.Proofs.YtkjokjogdehonaaGreatDoor.Am.Q
open Go Go.Proofs Go.Proofs.YtkjokjogdehonaaGreatDoor.Am
abbrev PP (s : List UInt8) (i : Nat) (left : Int) : AObj := .cells 179 [.str s, .int .i64 i, .int .i64 left]
theorem index_byte_ok (l : List UInt8) (c : UInt8) (m : Mem) : CS 140 [.str l, .int .u8 c.toNat] m (.ret (.int .i64 (indexB c l))) m := by
  have h85 : CS 219 [.str l, .int .u8 c.toNat] m (.ret (.int .i64 (indexB c l))) m := by
    refine call_by xfok mixed q219at q219ok rfl ?_
    have e : idxByteV (.str l) (.int .u8 c.toNat) = some (.int .i64 (indexB c l)) := by simp [idxByteV]
    simp only [go_sem, reduceIte, Nat.reduceEqDiff, Nat.reduceAdd, q219, q219r0, q219r1, e]
  refine call_by xfok mixed q140at q140ok rfl ?_
  simp only [go_sem, reduceIte, Nat.reduceEqDiff, Nat.reduceAdd, q140, q140r0, q140r1]
  refine callW_ret h85 ?_
  simp only [go_sem, reduceIte, Nat.reduceEqDiff, Nat.reduceAdd]
end Go.Proofs.YtkjokjogdehonaaGreatDoor.Am.Q
namespace Go.Proofs.YtkjokjogdehonaaGreatDoor.Am.Q
open Go Go.Proofs Go.Proofs.YtkjokjogdehonaaGreatDoor.Am
theorem has_prefix {s t : List UInt8} (m : Mem) : CS 243 [.str s, .str t] m (.ret (.bool (decide (t.length ≤ s.length) && (s.take t.length == t)))) m := by
  refine call_by xfok mixed q243at q243ok rfl ?_
  by_cases h : t.length ≤ s.length
  · have e1 : decide ((s.length : Int) ≥ (t.length : Nat)) = true := dT (by omega)
    simp only [go_sem, reduceIte, Nat.reduceEqDiff, Nat.reduceAdd, q243, q243r0, q243r1, e1, slice_to h, dT h]
  · have e1 : decide ((s.length : Int) ≥ (t.length : Nat)) = false := dF (by omega)
    simp only [go_sem, reduceIte, Nat.reduceEqDiff, Nat.reduceAdd, q243, q243r0, q243r1, e1, dF h]
    rfl
end Go.Proofs.YtkjokjogdehonaaGreatDoor.Am.Q
namespace Go.Proofs.YtkjokjogdehonaaGreatDoor.Am.Q
open Go Go.Proofs Go.Proofs.YtkjokjogdehonaaGreatDoor.Am
theorem minV_of {k : IntKind} {x y : Int} : minV (.int k x) (.int k y) = some (.int k (if y < x then y else x)) := rfl
section
variable {m : Mem} {Q : AExit → List AV → Mem → Prop} {b : Bool}
end
end Go.Proofs.YtkjokjogdehonaaGreatDoor.Am.Q
namespace Go.Proofs.YtkjokjogdehonaaGreatDoor.Am.Q
open Go Go.Proofs Go.Proofs.YtkjokjogdehonaaGreatDoor.Am
end Go.Proofs.YtkjokjogdehonaaGreatDoor.Am.Q
namespace Go.Proofs.YtkjokjogdehonaaGreatDoor.Am.Q
open Go Go.Proofs Go.Proofs.YtkjokjogdehonaaGreatDoor.Am
theorem wrapU8 {n : Nat} : IntKind.u8.wrap (n : Int) = ((n % 256 : Nat) : Int) := by rw [wrap_u8]; omega
theorem and63 {x : Nat} : IntKind.u8.wrap (((@HAnd.hAnd (BitVec 8) (BitVec 8) (BitVec 8) (@instHAndOfAndOp (BitVec IntKind.u8.bits) (@BitVec.instAndOp IntKind.u8.bits)) (BitVec.ofInt 8 ((x % 256 : Nat) : Int)) (BitVec.ofInt 8 63)).toNat : Nat) : Int) = ((x % 64 : Nat) : Int) := by
  have h : ∀ y : Fin 256, IntKind.u8.wrap (((@HAnd.hAnd (BitVec 8) (BitVec 8) (BitVec 8) (@instHAndOfAndOp (BitVec IntKind.u8.bits) (@BitVec.instAndOp IntKind.u8.bits)) (BitVec.ofInt 8 ((y.val : Nat) : Int)) (BitVec.ofInt 8 63)).toNat : Nat) : Int) = ((y.val % 64 : Nat) : Int) := by decide +kernel
  have := h ⟨x % 256, Nat.mod_lt _ (by omega)⟩
  rw [this]
  show ((x % 256 % 64 : Nat) : Int) = ((x % 64 : Nat) : Int)
  omega
theorem or128 {x : Nat} : IntKind.u8.wrap (((@HOr.hOr (BitVec 8) (BitVec 8) (BitVec 8) (@instHOrOfOrOp (BitVec IntKind.u8.bits) (@BitVec.instOrOp IntKind.u8.bits)) (BitVec.ofInt 8 128) (BitVec.ofInt 8 ((x % 64 : Nat) : Int))).toNat : Nat) : Int) = (((b8 (0x80 + x % 64)).toNat : Nat) : Int) := by
  have h : ∀ y : Fin 64, IntKind.u8.wrap (((@HOr.hOr (BitVec 8) (BitVec 8) (BitVec 8) (@instHOrOfOrOp (BitVec IntKind.u8.bits) (@BitVec.instOrOp IntKind.u8.bits)) (BitVec.ofInt 8 128) (BitVec.ofInt 8 ((y.val : Nat) : Int))).toNat : Nat) : Int) = (((b8 (0x80 + y.val)).toNat : Nat) : Int) := by decide +kernel
  exact h ⟨x % 64, Nat.mod_lt _ (by omega)⟩
theorem or192 {x : Nat} (hx : x < 32) : IntKind.u8.wrap (((@HOr.hOr (BitVec 8) (BitVec 8) (BitVec 8) (@instHOrOfOrOp (BitVec IntKind.u8.bits) (@BitVec.instOrOp IntKind.u8.bits)) (BitVec.ofInt 8 192) (BitVec.ofInt 8 ((x % 256 : Nat) : Int))).toNat : Nat) : Int) = (((b8 (0xC0 + x)).toNat : Nat) : Int) := by
  have h : ∀ y : Fin 32, IntKind.u8.wrap (((@HOr.hOr (BitVec 8) (BitVec 8) (BitVec 8) (@instHOrOfOrOp (BitVec IntKind.u8.bits) (@BitVec.instOrOp IntKind.u8.bits)) (BitVec.ofInt 8 192) (BitVec.ofInt 8 ((y.val % 256 : Nat) : Int))).toNat : Nat) : Int) = (((b8 (0xC0 + y.val)).toNat : Nat) : Int) := by decide +kernel
  exact h ⟨x, hx⟩
theorem or224 {x : Nat} (hx : x < 16) : IntKind.u8.wrap (((@HOr.hOr (BitVec 8) (BitVec 8) (BitVec 8) (@instHOrOfOrOp (BitVec IntKind.u8.bits) (@BitVec.instOrOp IntKind.u8.bits)) (BitVec.ofInt 8 224) (BitVec.ofInt 8 ((x % 256 : Nat) : Int))).toNat : Nat) : Int) = (((b8 (0xE0 + x)).toNat : Nat) : Int) := by
  have h : ∀ y : Fin 16, IntKind.u8.wrap (((@HOr.hOr (BitVec 8) (BitVec 8) (BitVec 8) (@instHOrOfOrOp (BitVec IntKind.u8.bits) (@BitVec.instOrOp IntKind.u8.bits)) (BitVec.ofInt 8 224) (BitVec.ofInt 8 ((y.val % 256 : Nat) : Int))).toNat : Nat) : Int) = (((b8 (0xE0 + y.val)).toNat : Nat) : Int) := by decide +kernel
  exact h ⟨x, hx⟩
theorem or240 {x : Nat} (hx : x < 8) : IntKind.u8.wrap (((@HOr.hOr (BitVec 8) (BitVec 8) (BitVec 8) (@instHOrOfOrOp (BitVec IntKind.u8.bits) (@BitVec.instOrOp IntKind.u8.bits)) (BitVec.ofInt 8 240) (BitVec.ofInt 8 ((x % 256 : Nat) : Int))).toNat : Nat) : Int) = (((b8 (0xF0 + x)).toNat : Nat) : Int) := by
  have h : ∀ y : Fin 8, IntKind.u8.wrap (((@HOr.hOr (BitVec 8) (BitVec 8) (BitVec 8) (@instHOrOfOrOp (BitVec IntKind.u8.bits) (@BitVec.instOrOp IntKind.u8.bits)) (BitVec.ofInt 8 240) (BitVec.ofInt 8 ((y.val % 256 : Nat) : Int))).toNat : Nat) : Int) = (((b8 (0xF0 + y.val)).toNat : Nat) : Int) := by decide +kernel
  exact h ⟨x, hx⟩
theorem shr6 {n : Nat} : (n : Int).fdiv (2 ^ min (Int.toNat 6) 32) = ((n / 64 : Nat) : Int) := by
  show (n : Int).fdiv ((64 : Nat) : Int) = _
  rw [Int.fdiv_eq_ediv_of_nonneg _ (by omega)]; rfl
theorem le0_6 : ((0 : Int) ≤ 6) = True := by simp
theorem shr12 {n : Nat} : (n : Int).fdiv (2 ^ min (Int.toNat 12) 32) = ((n / 4096 : Nat) : Int) := by
  show (n : Int).fdiv ((4096 : Nat) : Int) = _
  rw [Int.fdiv_eq_ediv_of_nonneg _ (by omega)]; rfl
theorem le0_12 : ((0 : Int) ≤ 12) = True := by simp
theorem shr18 {n : Nat} : (n : Int).fdiv (2 ^ min (Int.toNat 18) 32) = ((n / 262144 : Nat) : Int) := by
  show (n : Int).fdiv ((262144 : Nat) : Int) = _
  rw [Int.fdiv_eq_ediv_of_nonneg _ (by omega)]; rfl
theorem le0_18 : ((0 : Int) ≤ 18) = True := by simp
theorem wrap_u32 {n : Nat} (h : n < 2 ^ 32) : IntKind.u32.wrap (n : Int) = (n : Int) := by
  simp [IntKind.wrap, IntKind.signed, IntKind.bits]; omega
structure App (mb m : Mem) (xs l : List UInt8) (v : AV) (m' : Mem) : Prop where
  mine : Mine mb m' 5 1 v (bytesAV (xs ++ l))
  get : m'.get = m.get
  ext : ∀ p, ExtB p mb m → ExtB p mb m'
  ntok : m.ntok ≤ m'.ntok
theorem mine_app {mb m : Mem} {a : AV} {xs : List UInt8} (h : Mine mb m 5 1 a (bytesAV xs)) (hm : mb.ntok ≤ m.ntok) (hx : xs.length < 2 ^ 43) {l : List UInt8} (hl : l.length < 2 ^ 43) : ∃ v m', appendV m 5 1 1 a (bytesAV l) = some (v, m') ∧ App mb m xs l v m' := by
  obtain ⟨a', M2, n1, n2, n3, n4, n5, n6⟩ := h.append (bytes := 1) (ys := bytesAV l) hm (by rw [bytes_len, bytes_len]; simp [roomMax]; omega) (bytes_good l)
  rw [bytes_append] at n2
  exact ⟨a', M2, n1, n2, n3, n5, n6⟩
theorem rune_far {mb m : Mem} {a : AV} {xs : List UInt8} {n : Nat} (h : Mine mb m 5 1 a (bytesAV xs)) (hm : mb.ntok ≤ m.ntok) (hx : xs.length < 2 ^ 42) (hv : Utf8.valid (n : Int) = true) (h1 : ¬ n < 0x80) :
    ∃ v m', CS 222 [a, .int .i32 n] m (.ret v) m' ∧ App mb m xs (putN n) v m' := by
  obtain ⟨v, m', ha, hA⟩ := mine_app h hm (by omega) (l := putN n) (by have := (putN_len n).2; omega)
  refine ⟨v, m', ?_, hA⟩
  refine call_by xfok mixed q222at q222ok rfl ?_
  have hb : n ≤ 0x10FFFF := by simp [Utf8.valid] at hv; omega
  have hs : ¬ (55296 ≤ n ∧ n ≤ 57343) := by simp [Utf8.valid] at hv; omega
  have wn : IntKind.u32.wrap (n : Int) = (n : Int) := wrap_u32 (by omega)
  have sl := h.sl
  by_cases h2 : n < 0x800
  · rw [put2 h1 h2] at ha
    have e2 : decide ((n : Int) ≤ 2047) = true := dT (by omega)
    have ha' : appendV m 5 1 1 a [.int .u8 (b8 (0xC0 + n / 64)).toNat, .int .u8 (b8 (0x80 + n % 64)).toNat] = some (v, m') := ha
    simp only [go_sem, reduceIte, Nat.reduceEqDiff, Nat.reduceAdd, q222, q222r0, q222r1, wn, q222r2, e2, q222r3, shr6, le0_6, wrapU8 (n := n), wrapU8 (n := n / 64), or192 (x := n / 64) (by omega), and63, or128, elems, ha']
  · have e2 : decide ((n : Int) ≤ 2047) = false := dF (by omega)
    by_cases h3 : n < 0x10000
    · rw [put3 hv h1 h2 h3] at ha
      have ha' : appendV m 5 1 1 a [.int .u8 (b8 (0xE0 + n / 4096)).toNat, .int .u8 (b8 (0x80 + n / 64 % 64)).toNat, .int .u8 (b8 (0x80 + n % 64)).toNat] = some (v, m') := ha
      by_cases h4 : n < 55296
      · have e3 : decide ((n : Int) < 55296) = true := dT (by omega)
        simp only [go_sem, reduceIte, Nat.reduceEqDiff, Nat.reduceAdd, q222, q222r0, q222r1, wn, q222r2, e2, q222r4, e3, q222r6, shr6, le0_6, shr12, le0_12, wrapU8 (n := n), wrapU8 (n := n / 64), wrapU8 (n := n / 4096), or224 (x := n / 4096) (by omega), and63, or128, elems, ha']
      · have e3 : decide ((n : Int) < 55296) = false := dF (by omega)
        have e4 : decide ((57343 : Int) < (n : Int)) = true := dT (by omega)
        have e5 : decide ((n : Int) ≤ 65535) = true := dT (by omega)
        simp only [go_sem, reduceIte, Nat.reduceEqDiff, Nat.reduceAdd, q222, q222r0, q222r1, wn, q222r2, e2, q222r4, e3, q222r5, e4, e5, q222r6, shr6, le0_6, shr12, le0_12, wrapU8 (n := n), wrapU8 (n := n / 64), wrapU8 (n := n / 4096), or224 (x := n / 4096) (by omega), and63, or128, elems, ha']
    · rw [put4 hv h1 h2 h3] at ha
      have ha' : appendV m 5 1 1 a [.int .u8 (b8 (0xF0 + n / 262144)).toNat, .int .u8 (b8 (0x80 + n / 4096 % 64)).toNat, .int .u8 (b8 (0x80 + n / 64 % 64)).toNat, .int .u8 (b8 (0x80 + n % 64)).toNat] = some (v, m') := ha
      have e3 : decide ((n : Int) < 55296) = false := dF (by omega)
      have e4 : decide ((57343 : Int) < (n : Int)) = true := dT (by omega)
      have e5 : decide ((n : Int) ≤ 65535) = false := dF (by omega)
      have e6 : decide ((n : Int) > 65535) = true := dT (by omega)
      have e7 : decide ((n : Int) ≤ 1114111) = true := dT (by omega)
      simp only [go_sem, reduceIte, Nat.reduceEqDiff, Nat.reduceAdd, q222, q222r0, q222r1, wn, q222r2, e2, q222r4, e3, q222r5, e4, e5, q222r7, e6, e7, q222r8, shr6, le0_6, shr12, le0_12, shr18, le0_18, wrapU8 (n := n), wrapU8 (n := n / 64), wrapU8 (n := n / 4096), wrapU8 (n := n / 262144), or240 (x := n / 262144) (by omega), and63, or128, elems, ha']
theorem rune_ok {mb m : Mem} {a : AV} {xs : List UInt8} {n : Nat} (h : Mine mb m 5 1 a (bytesAV xs)) (hm : mb.ntok ≤ m.ntok) (hx : xs.length < 2 ^ 42) (hv : Utf8.valid (n : Int) = true) :
    ∃ v m', CS 143 [a, .int .i32 n] m (.ret v) m' ∧ App mb m xs (putN n) v m' := by
  have hb : n ≤ 0x10FFFF := by simp [Utf8.valid] at hv; omega
  have wn : IntKind.u32.wrap (n : Int) = (n : Int) := wrap_u32 (by omega)
  by_cases h1 : n < 0x80
  · obtain ⟨v, m', ha, hA⟩ := mine_app h hm (by omega) (l := putN n) (by have := (putN_len n).2; omega)
    refine ⟨v, m', ?_, hA⟩
    refine call_by xfok mixed q143at q143ok rfl ?_
    rw [put1 h1] at ha
    have e2 : decide ((n : Int) ≤ 127) = true := dT (by omega)
    have ha' : appendV m 5 1 1 a [.int .u8 ((n % 256 : Nat) : Int)] = some (v, m') := by
      rw [← ha]; simp [bytesAV, byteAV, b8]
    simp only [go_sem, reduceIte, Nat.reduceEqDiff, Nat.reduceAdd, q143, q143r0, q143r1, wn, e2, q143r2, wrapU8, elems, ha']
  · obtain ⟨v, m', hc, hA⟩ := rune_far h hm hx hv h1
    refine ⟨v, m', ?_, hA⟩
    refine call_by xfok mixed q143at q143ok rfl ?_
    have e2 : decide ((n : Int) ≤ 127) = false := dF (by omega)
    simp only [go_sem, reduceIte, Nat.reduceEqDiff, Nat.reduceAdd, q143, q143r0, q143r1, wn, e2, q143r3]
    refine callW_ret hc ?_
    simp only [go_sem, reduceIte, Nat.reduceEqDiff, Nat.reduceAdd]
end Go.Proofs.YtkjokjogdehonaaGreatDoor.Am.Q
namespace Go.Proofs.YtkjokjogdehonaaGreatDoor.Am.Q
open Go Go.Proofs Go.Proofs.YtkjokjogdehonaaGreatDoor.Am
end Go.Proofs.YtkjokjogdehonaaGreatDoor.Am.Q
namespace Go.Proofs.YtkjokjogdehonaaGreatDoor.Am.Q
open Go Go.Proofs Go.Proofs.YtkjokjogdehonaaGreatDoor.Am
end Go.Proofs.YtkjokjogdehonaaGreatDoor.Am.Q
namespace Go.Proofs.YtkjokjogdehonaaGreatDoor.Am.Q
open Go Go.Proofs Go.Proofs.YtkjokjogdehonaaGreatDoor.Am
def mustS (s : List UInt8) (i e : Nat) : Except Flt (Unit × Nat) :=
  match nxt s i with
  | .error x => .error x
  | .ok (j, c) => if c.toNat ≠ e then .error (3, j) else .ok ((), j + 1)
def moreS (s : List UInt8) (i : Nat) (first : Bool) (e : Nat) : Except Flt (Bool × Nat) :=
  match nxt s i with
  | .error x => .error x
  | .ok (j, c) => if c.toNat = e then .ok (false, j + 1) else if first = true then .ok (true, j) else if c.toNat ≠ 44 then .error (3, j) else .ok (true, j + 1)
section
variable (s : List UInt8)
end
end Go.Proofs.YtkjokjogdehonaaGreatDoor.Am.Q
