import Derived.Test.YtinlfdkalijffaaDoorKJ5
set_option linter.unusedSimpArgs false
set_option linter.unusedVariables false
/-
  JSON, 15: the document's parser: faults, blanks, hex digits.
-/
namespace Go.Proofs.YtinlfdkalijffaaDoor.Am.Q
open Go Go.Proofs Go.Proofs.YtinlfdkalijffaaDoor.Am

/-- The document's parser: text, place, how many, fault. -/
abbrev RP (s : List UInt8) (i many : Nat) (why : Int) (fat : Nat) : AObj := .cells 51 [.str s, .int .i64 i, .int .i64 many, .int .i64 why, .int .i64 fat]
theorem rfail_ok {m : Mem} {p : Nat} {s : List UInt8} {i many : Nat} (hp : m.get p = RP s i many 0 0) (e : Int) (j : Nat) : CS 25 [.ptr p 0, .int .i64 e, .int .i64 j] m (.ret (.tup [])) (m.set p (RP s i many e j)) := by
  refine call_by xfok mixed q25at q25ok rfl ?_
  simp only [go_sem, reduceIte, Nat.reduceEqDiff, Nat.reduceAdd, q25, q25r0, q25r1, hp]
theorem rfail_no {m : Mem} {p : Nat} {s : List UInt8} {i many fat : Nat} {why : Int} (hp : m.get p = RP s i many why fat) (hw : why ≠ 0) (e : Int) (j : Nat) : CS 25 [.ptr p 0, .int .i64 e, .int .i64 j] m (.ret (.tup [])) m := by
  refine call_by xfok mixed q25at q25ok rfl ?_
  have h1 : (why == 0) = false := by simp [hw]
  simp only [go_sem, reduceIte, Nat.reduceEqDiff, Nat.reduceAdd, q25, q25r0, hp, h1]

/-! ### blanks -/
theorem runN_nil {p : UInt8 → Bool} : runN p [] = 0 := rfl
theorem runN_cons {p : UInt8 → Bool} {c : UInt8} {r : List UInt8} : runN p (c :: r) = if p c = true then runN p r + 1 else 0 := by
  simp only [runN, List.takeWhile_cons]; split <;> simp
theorem runN_le {p : UInt8 → Bool} : ∀ {s : List UInt8}, runN p s ≤ s.length
  | [] => Nat.zero_le _
  | c :: r => by
    have := runN_le (p := p) (s := r)
    rw [runN_cons, List.length_cons]; split <;> omega
theorem bqT {n : Nat} {k : Int} (h : (n : Int) = k) : ((n : Int) == k) = true := by simp [h]
theorem bqF {n : Nat} {k : Int} (h : (n : Int) ≠ k) : ((n : Int) == k) = false := by simp [h]
theorem bnT {n : Nat} {k : Int} (h : (n : Int) ≠ k) : ((n : Int) != k) = true := by simp [h]
theorem bnF {n : Nat} {k : Int} (h : (n : Int) = k) : ((n : Int) != k) = false := by simp [h]
theorem dT {p : Prop} [Decidable p] (h : p) : decide p = true := decide_eq_true h
theorem dF {p : Prop} [Decidable p] (h : ¬ p) : decide p = false := decide_eq_false h
theorem wrap_i64 {n : Int} (h : -(2 ^ 63) ≤ n ∧ n < 2 ^ 63) : IntKind.i64.wrap n = n := Go.IntWalk.i64_in _ (by omega)
theorem wrap_succ {i : Nat} (h : i < 2 ^ 62) : IntKind.i64.wrap ((i : Int) + 1) = ((i + 1 : Nat) : Int) := by rw [wrap_i64 (by omega)]; omega
theorem wrap_add {i k : Nat} (h : i + k < 2 ^ 62) : IntKind.i64.wrap ((i : Int) + (k : Int)) = ((i + k : Nat) : Int) := by rw [wrap_i64 (by omega)]; omega
theorem idxS_at {s : List UInt8} {k : IntKind} {i : Nat} {c : UInt8} (h : s[i]? = some c) : idxSV (.str s) (.int k (i : Int)) = some (.int .u8 c.toNat) := by
  simp [idxSV, h, byteAV]
theorem set_self {m : Mem} {i : Nat} {o : AObj} (h : m.get i = o) : m.set i o = m := by
  cases m with
  | mk g n l k t =>
    simp only [Mem.set, Mem.mk.injEq, and_true]
    funext j; split
    · rename_i e; subst e; exact h.symm
    · rfl
theorem isBlk_iff {c : UInt8} : isBlk c = true ↔ c.toNat = 9 ∨ c.toNat = 10 ∨ c.toNat = 13 ∨ c.toNat = 32 := by
  simp [isBlk, isBlkN]
theorem drop_at {s : List UInt8} {i : Nat} {c : UInt8} (h : s[i]? = some c) : s.drop i = c :: s.drop (i + 1) := by
  obtain ⟨hi, rfl⟩ := List.getElem?_eq_some_iff.1 h
  exact List.drop_eq_getElem_cons hi

theorem rblank {p : Nat} {s : List UInt8} {many fat : Nat} {why : Int} {Q : AExit → List AV → Mem → Prop} (hs : s.length < 2 ^ 61) :
    ∀ (n i : Nat) (M : Mem) (g1 g2 g3 : AV), M.get p = RP s i many why fat → runN isBlk (s.drop i) = n → (∀ g1 g2 g3, Q (.exit 0) [.ptr p 0, g1, g2, g3] (M.set p (RP s (i + n) many why fat))) → wl CS [1, 2, 3] q43l3 Q [.ptr p 0, g1, g2, g3] M := by
  intro n
  induction n with
  | zero =>
    intro i M g1 g2 g3 hp hn hq
    refine wl_step ?_
    rw [set_self (by simpa using hp)] at hq
    by_cases hi : i < s.length
    · have hc : s[i]? = some s[i] := by simp [hi]
      rw [drop_at hc, runN_cons] at hn
      have hb : ¬ isBlk s[i] = true := by intro h; rw [if_pos h] at hn; omega
      rw [isBlk_iff] at hb
      have e1 : decide ((i : Int) < (s.length : Nat)) = true := dT (by omega)
      have e9 : ((s[i].toNat : Int) == 9) = false := bqF (by omega)
      have e10 : ((s[i].toNat : Int) == 10) = false := bqF (by omega)
      have e13 : ((s[i].toNat : Int) == 13) = false := bqF (by omega)
      have e32 : ((s[i].toNat : Int) == 32) = false := bqF (by omega)
      simp only [go_sem, reduceIte, Nat.reduceEqDiff, Nat.reduceAdd, q43l3, q43r1, hp, e1, idxS_at hc, e9, e10, e13, e32]
      exact hq _ _ _
    · have e1 : decide ((i : Int) < (s.length : Nat)) = false := dF (by omega)
      simp only [go_sem, reduceIte, Nat.reduceEqDiff, Nat.reduceAdd, q43l3, q43r1, hp, e1]
      exact hq _ _ _
  | succ n ih =>
    intro i M g1 g2 g3 hp hn hq
    refine wl_step ?_
    have hi : i < s.length := by
      have := runN_le (p := isBlk) (s := s.drop i)
      simp at this; omega
    have hc : s[i]? = some s[i] := by simp [hi]
    rw [drop_at hc, runN_cons] at hn
    have hb : isBlk s[i] = true := by
      by_cases h : isBlk s[i] = true
      · exact h
      · rw [if_neg h] at hn; omega
    rw [if_pos hb] at hn
    rw [isBlk_iff] at hb
    have e1 : decide ((i : Int) < (s.length : Nat)) = true := dT (by omega)
    have hw := wrap_succ (show i < 2 ^ 62 by omega)
    have fin : wl CS [1, 2, 3] q43l3 Q [.ptr p 0, .u, .u, .u] (M.set p (RP s (i + 1) many why fat)) := by
      refine ih (i + 1) _ _ _ _ get_set_same (by omega) (fun g1 g2 g3 => ?_)
      rw [set_set, show i + 1 + n = i + (n + 1) by omega]
      exact hq _ _ _
    rcases hb with hb | hb | hb | hb
    · have e9 : ((s[i].toNat : Int) == 9) = true := bqT (by omega)
      simp only [go_sem, reduceIte, Nat.reduceEqDiff, Nat.reduceAdd, q43l3, q43r1, hp, e1, idxS_at hc, e9, q43r2, hw]
      exact fin
    · have e9 : ((s[i].toNat : Int) == 9) = false := bqF (by omega)
      have e10 : ((s[i].toNat : Int) == 10) = true := bqT (by omega)
      simp only [go_sem, reduceIte, Nat.reduceEqDiff, Nat.reduceAdd, q43l3, q43r1, hp, e1, idxS_at hc, e9, e10, q43r2, hw]
      exact fin
    · have e9 : ((s[i].toNat : Int) == 9) = false := bqF (by omega)
      have e10 : ((s[i].toNat : Int) == 10) = false := bqF (by omega)
      have e13 : ((s[i].toNat : Int) == 13) = true := bqT (by omega)
      simp only [go_sem, reduceIte, Nat.reduceEqDiff, Nat.reduceAdd, q43l3, q43r1, hp, e1, idxS_at hc, e9, e10, e13, q43r2, hw]
      exact fin
    · have e9 : ((s[i].toNat : Int) == 9) = false := bqF (by omega)
      have e10 : ((s[i].toNat : Int) == 10) = false := bqF (by omega)
      have e13 : ((s[i].toNat : Int) == 13) = false := bqF (by omega)
      have e32 : ((s[i].toNat : Int) == 32) = true := bqT (by omega)
      simp only [go_sem, reduceIte, Nat.reduceEqDiff, Nat.reduceAdd, q43l3, q43r1, hp, e1, idxS_at hc, e9, e10, e13, e32, q43r2, hw]
      exact fin

/-- What 'next' leaves, where there was no fault. -/
def rnextM (s : List UInt8) (i many : Nat) : AObj × Nat :=
  match nxt s i with
  | .ok (j, c) => (RP s j many 0 0, c.toNat)
  | .error (w, k) => (RP s (skipN s i) many w k, 0)
theorem nxt_some {s : List UInt8} {i : Nat} {c : UInt8} (h : s[skipN s i]? = some c) : nxt s i = .ok (skipN s i, c) := by simp [nxt, h]
theorem nxt_none {s : List UInt8} {i : Nat} (h : s[skipN s i]? = none) : nxt s i = .error (4, s.length) := by simp [nxt, h]
theorem rnext_ok {m : Mem} {p : Nat} {s : List UInt8} {i many : Nat} (hs : s.length < 2 ^ 61) (hp : m.get p = RP s i many 0 0) : CS 43 [.ptr p 0] m (.ret (.int .u8 (rnextM s i many).2)) (m.set p (rnextM s i many).1) := by
  refine call_by xfok mixed q43at q43ok rfl ?_
  simp only [go_sem, reduceIte, Nat.reduceEqDiff, Nat.reduceAdd, q43, q43r0]
  refine rblank hs _ i m _ _ _ hp rfl (fun g1 g2 g3 => ?_)
  cases hc : s[skipN s i]? with
  | some c =>
    have hi := (List.getElem?_eq_some_iff.1 hc).1
    have e1 : decide (((i + runN isBlk (s.drop i) : Nat) : Int) ≥ (s.length : Nat)) = false := dF (by simp only [skipN] at hi; omega)
    simp only [rnextM, nxt_some hc]
    simp only [skipN] at hc ⊢
    simp only [go_sem, reduceIte, Nat.reduceEqDiff, Nat.reduceAdd, q43r4, e1, q43r7, idxS_at hc]
  | none =>
    have hi := List.getElem?_eq_none_iff.1 hc
    have e1 : decide (((i + runN isBlk (s.drop i) : Nat) : Int) ≥ (s.length : Nat)) = true := dT (by simp only [skipN] at hi; omega)
    simp only [rnextM, nxt_none hc]
    simp only [skipN] at hc ⊢
    simp only [go_sem, reduceIte, Nat.reduceEqDiff, Nat.reduceAdd, q43r4, e1, q43r5]
    refine callW_ret (rfail_ok get_set_same 4 s.length) ?_
    simp only [go_sem, reduceIte, Nat.reduceEqDiff, Nat.reduceAdd, q43r6]
    rfl
/-- .. and behind a fault. -/
theorem rnext_no {m : Mem} {p : Nat} {s : List UInt8} {i many fat : Nat} {why : Int} (hs : s.length < 2 ^ 61) (hw : why ≠ 0) (hp : m.get p = RP s i many why fat) : ∃ n : Nat, CS 43 [.ptr p 0] m (.ret (.int .u8 n)) (m.set p (RP s (skipN s i) many why fat)) := by
  cases hc : s[skipN s i]? with
  | some c =>
    refine ⟨c.toNat, call_by xfok mixed q43at q43ok rfl ?_⟩
    simp only [go_sem, reduceIte, Nat.reduceEqDiff, Nat.reduceAdd, q43, q43r0]
    refine rblank hs _ i m _ _ _ hp rfl (fun g1 g2 g3 => ?_)
    have hi := (List.getElem?_eq_some_iff.1 hc).1
    have e1 : decide (((i + runN isBlk (s.drop i) : Nat) : Int) ≥ (s.length : Nat)) = false := dF (by simp only [skipN] at hi; omega)
    simp only [skipN] at hc ⊢
    simp only [go_sem, reduceIte, Nat.reduceEqDiff, Nat.reduceAdd, q43r4, e1, q43r7, idxS_at hc]
  | none =>
    refine ⟨0, call_by xfok mixed q43at q43ok rfl ?_⟩
    simp only [go_sem, reduceIte, Nat.reduceEqDiff, Nat.reduceAdd, q43, q43r0]
    refine rblank hs _ i m _ _ _ hp rfl (fun g1 g2 g3 => ?_)
    have hi := List.getElem?_eq_none_iff.1 hc
    have e1 : decide (((i + runN isBlk (s.drop i) : Nat) : Int) ≥ (s.length : Nat)) = true := dT (by simp only [skipN] at hi; omega)
    simp only [skipN] at hc ⊢
    simp only [go_sem, reduceIte, Nat.reduceEqDiff, Nat.reduceAdd, q43r4, e1, q43r5]
    refine callW_ret (rfail_no get_set_same hw 4 s.length) ?_
    simp only [go_sem, reduceIte, Nat.reduceEqDiff, Nat.reduceAdd, q43r6]
    rfl
end Go.Proofs.YtinlfdkalijffaaDoor.Am.Q

/-
  JSON, 16: the document's parser: hex digits, escapes.
-/
namespace Go.Proofs.YtinlfdkalijffaaDoor.Am.Q
open Go Go.Proofs Go.Proofs.YtinlfdkalijffaaDoor.Am

theorem nib_le (c : UInt8) : nib c ≤ 16 := by
  unfold nib nibN
  by_cases h1 : isDigN c.toNat = true
  · rw [if_pos h1]; simp [isDigN] at h1; omega
  · rw [if_neg h1]
    by_cases h2 : 97 ≤ c.toNat ∧ c.toNat ≤ 102
    · rw [if_pos h2]; omega
    · rw [if_neg h2]
      by_cases h3 : 65 ≤ c.toNat ∧ c.toNat ≤ 70
      · rw [if_pos h3]; omega
      · rw [if_neg h3]; omega
def bad (c : UInt8) : Bool := decide (nib c = 16)
theorem bad_iff {c : UInt8} : bad c = true ↔ 15 < nib c := by
  have := nib_le c
  simp [bad]; omega
theorem bad_not {c : UInt8} (h : bad c = false) : nib c ≤ 15 := by
  have := nib_le c
  simp [bad] at h; omega
theorem take_drop_at {s : List UInt8} {i r : Nat} {c : UInt8} (h : s[i]? = some c) : (s.drop i).take (r + 1) = c :: (s.drop (i + 1)).take r := by
  rw [drop_at h, List.take_succ_cons]

def hexA (n : Nat) (l : List UInt8) : Nat := l.foldl (fun n c => n * 16 + nib c) n
theorem wrap_i32 {n : Int} (h : -(2 ^ 31) ≤ n ∧ n < 2 ^ 31) : IntKind.i32.wrap n = n := by
  simp [IntKind.wrap, IntKind.signed, IntKind.bits]; omega
end Go.Proofs.YtinlfdkalijffaaDoor.Am.Q

/-
  JSON, 17: the document's signs as bytes.
-/
namespace Go.Proofs.YtinlfdkalijffaaDoor.Am.Q
open Go Go.Proofs Go.Proofs.YtinlfdkalijffaaDoor.Am

theorem wrap_u8 {n : Int} : IntKind.u8.wrap n = n % 256 := by simp [IntKind.wrap, IntKind.signed, IntKind.bits]
theorem right_ok (n : Int) (m : Mem) : CS 108 [.int .i32 n] m (.ret (.bool (Utf8.valid n))) m := by
  refine call_by xfok mixed q108at q108ok rfl ?_
  by_cases h1 : n ≥ 0
  · by_cases h2 : n ≤ 1114111
    · by_cases h3 : n < 55296
      · have hv : Utf8.valid n = true := by simp [Utf8.valid]; omega
        simp only [go_sem, reduceIte, Nat.reduceEqDiff, Nat.reduceAdd, q108, q108r0, q108r1, dT h1, dT h2, dT h3, hv]
      · by_cases h4 : n > 57343
        · have hv : Utf8.valid n = true := by simp [Utf8.valid]; omega
          simp only [go_sem, reduceIte, Nat.reduceEqDiff, Nat.reduceAdd, q108, q108r0, q108r1, dT h1, dT h2, dF h3, dT h4, hv]
        · have hv : Utf8.valid n = false := by simp [Utf8.valid]; omega
          simp only [go_sem, reduceIte, Nat.reduceEqDiff, Nat.reduceAdd, q108, q108r0, q108r1, dT h1, dT h2, dF h3, dF h4, hv]
    · have hv : Utf8.valid n = false := by simp [Utf8.valid]; omega
      simp only [go_sem, reduceIte, Nat.reduceEqDiff, Nat.reduceAdd, q108, q108r0, q108r1, dT h1, dF h2, hv]
  · have hv : Utf8.valid n = false := by simp [Utf8.valid]; omega
    simp only [go_sem, reduceIte, Nat.reduceEqDiff, Nat.reduceAdd, q108, q108r0, q108r1, dF h1, hv]

def b8 (n : Nat) : UInt8 := UInt8.ofNat n
theorem byte_is {x : Int} {k : Nat} (h : x = (k : Int) % 256) : AV.int .u8 x = byteAV (b8 k) := by
  subst h; simp [byteAV, b8]
theorem put1 {n : Nat} (h : n < 0x80) : putN n = [b8 n] := by
  have hv : Utf8.valid (n : Int) = true := by simp [Utf8.valid]; omega
  simp [putN, Utf8.encode, hv, h, b8]
theorem put2 {n : Nat} (h1 : ¬ n < 0x80) (h2 : n < 0x800) : putN n = [b8 (0xC0 + n / 64), b8 (0x80 + n % 64)] := by
  have hv : Utf8.valid (n : Int) = true := by simp [Utf8.valid]; omega
  simp [putN, Utf8.encode, hv, h1, h2, b8]
theorem put3 {n : Nat} (hv : Utf8.valid (n : Int) = true) (h1 : ¬ n < 0x80) (h2 : ¬ n < 0x800) (h3 : n < 0x10000) : putN n = [b8 (0xE0 + n / 4096), b8 (0x80 + n / 64 % 64), b8 (0x80 + n % 64)] := by
  simp [putN, Utf8.encode, hv, h1, h2, h3, b8]
theorem put4 {n : Nat} (hv : Utf8.valid (n : Int) = true) (h1 : ¬ n < 0x80) (h2 : ¬ n < 0x800) (h3 : ¬ n < 0x10000) : putN n = [b8 (0xF0 + n / 262144), b8 (0x80 + n / 4096 % 64), b8 (0x80 + n / 64 % 64), b8 (0x80 + n % 64)] := by
  simp [putN, Utf8.encode, hv, h1, h2, h3, b8]
theorem put0 {n : Int} (hv : Utf8.valid n = false) : putN n = putN 65533 := by
  have h2 : Utf8.valid 65533 = true := by decide
  simp [putN, Utf8.encode, hv, h2, Utf8.runeError]
theorem tdivN {n k : Nat} : (n : Int).tdiv (k : Int) = ((n / k : Nat) : Int) := by rw [Int.tdiv_eq_ediv_of_nonneg (by omega)]; rfl
theorem tmodN {n k : Nat} : (n : Int).tmod (k : Int) = ((n % k : Nat) : Int) := by rw [Int.tmod_eq_emod_of_nonneg (by omega)]; rfl

theorem one_good {n : Nat} (hv : Utf8.valid (n : Int) = true) (m : Mem) : CS 101 [.int .i32 n] m (.ret (.sl .full 1 (bytesAV (putN n)))) m := by
  have hb : n ≤ 0x10FFFF := by simp [Utf8.valid] at hv; omega
  refine call_by xfok mixed q101at q101ok rfl ?_
  simp only [go_sem, reduceIte, Nat.reduceEqDiff, Nat.reduceAdd, q101, q101r0, q101r1]
  refine callW_ret (right_ok n m) ?_
  simp only [go_sem, reduceIte, Nat.reduceEqDiff, Nat.reduceAdd, hv]
  have d64 : (n : Int).tdiv 64 = ((n / 64 : Nat) : Int) := tdivN (k := 64)
  have d4096 : (n : Int).tdiv 4096 = ((n / 4096 : Nat) : Int) := tdivN (k := 4096)
  have d26 : (n : Int).tdiv 262144 = ((n / 262144 : Nat) : Int) := tdivN (k := 262144)
  have m64 : (n : Int).tmod 64 = ((n % 64 : Nat) : Int) := tmodN (k := 64)
  have m64' : ((n / 64 : Nat) : Int).tmod 64 = ((n / 64 % 64 : Nat) : Int) := tmodN (k := 64)
  have m4096' : ((n / 4096 : Nat) : Int).tmod 64 = ((n / 4096 % 64 : Nat) : Int) := tmodN (k := 64)
  have z64 : ((64 : Int) = 0) = False := by simp
  have z4096 : ((4096 : Int) = 0) = False := by simp
  have z26 : ((262144 : Int) = 0) = False := by simp
  have w64 : IntKind.i32.wrap ((n / 64 : Nat) : Int) = ((n / 64 : Nat) : Int) := wrap_i32 (by omega)
  have w4096 : IntKind.i32.wrap ((n / 4096 : Nat) : Int) = ((n / 4096 : Nat) : Int) := wrap_i32 (by omega)
  have w26 : IntKind.i32.wrap ((n / 262144 : Nat) : Int) = ((n / 262144 : Nat) : Int) := wrap_i32 (by omega)
  by_cases h1 : n < 0x80
  · have e1 : decide ((n : Int) < 128) = true := dT (by omega)
    simp only [go_sem, reduceIte, Nat.reduceEqDiff, Nat.reduceAdd, q101r3, e1, q101r4, wrap_u8]
    rw [put1 h1, byte_is (k := n) (by omega)]
    rfl
  · have e1 : decide ((n : Int) < 128) = false := dF (by omega)
    by_cases h2 : n < 0x800
    · have e2 : decide ((n : Int) < 2048) = true := dT (by omega)
      simp only [go_sem, reduceIte, Nat.reduceEqDiff, Nat.reduceAdd, q101r3, e1, q101r5, e2, q101r6, d64, m64, z64, w64, wrap_u8]
      rw [put2 h1 h2, byte_is (k := 0xC0 + n / 64) (by omega), byte_is (k := 0x80 + n % 64) (by omega)]
      rfl
    · have e2 : decide ((n : Int) < 2048) = false := dF (by omega)
      by_cases h3 : n < 0x10000
      · have e3 : decide ((n : Int) < 65536) = true := dT (by omega)
        simp only [go_sem, reduceIte, Nat.reduceEqDiff, Nat.reduceAdd, q101r3, e1, q101r5, e2, q101r7, e3, q101r8, d64, d4096, m64, m64', z64, z4096, w64, w4096, wrap_u8]
        rw [put3 hv h1 h2 h3, byte_is (k := 0xE0 + n / 4096) (by omega), byte_is (k := 0x80 + n / 64 % 64) (by omega), byte_is (k := 0x80 + n % 64) (by omega)]
        rfl
      · have e3 : decide ((n : Int) < 65536) = false := dF (by omega)
        simp only [go_sem, reduceIte, Nat.reduceEqDiff, Nat.reduceAdd, q101r3, e1, q101r5, e2, q101r7, e3, q101r9, d64, d4096, d26, m64, m64', m4096', z64, z4096, z26, w64, w4096, w26, wrap_u8]
        rw [put4 hv h1 h2 h3, byte_is (k := 0xF0 + n / 262144) (by omega), byte_is (k := 0x80 + n / 4096 % 64) (by omega), byte_is (k := 0x80 + n / 64 % 64) (by omega), byte_is (k := 0x80 + n % 64) (by omega)]
        rfl
theorem one_ok (n : Int) (m : Mem) : CS 101 [.int .i32 n] m (.ret (.sl .full 1 (bytesAV (putN n)))) m := by
  cases hv : Utf8.valid n with
  | true =>
    obtain ⟨k, rfl⟩ : ∃ k : Nat, n = k := ⟨n.toNat, by simp [Utf8.valid] at hv; omega⟩
    exact one_good hv m
  | false =>
    refine call_by xfok mixed q101at q101ok rfl ?_
    simp only [go_sem, reduceIte, Nat.reduceEqDiff, Nat.reduceAdd, q101, q101r0, q101r1]
    refine callW_ret (right_ok n m) ?_
    simp only [go_sem, reduceIte, Nat.reduceEqDiff, Nat.reduceAdd, hv, q101r2]
    refine callW_ret (one_good (n := 65533) (by decide) m) ?_
    simp only [go_sem, reduceIte, Nat.reduceEqDiff, Nat.reduceAdd]
    rw [put0 hv]
    rfl

theorem putN_len (n : Int) : 0 < (putN n).length ∧ (putN n).length ≤ 4 := by
  have good : ∀ k : Nat, Utf8.valid (k : Int) = true → 0 < (putN k).length ∧ (putN k).length ≤ 4 := by
    intro k hv
    by_cases h1 : k < 0x80
    · rw [put1 h1]; simp
    · by_cases h2 : k < 0x800
      · rw [put2 h1 h2]; simp
      · by_cases h3 : k < 0x10000
        · rw [put3 hv h1 h2 h3]; simp
        · rw [put4 hv h1 h2 h3]; simp
  cases hv : Utf8.valid n with
  | true =>
    obtain ⟨k, rfl⟩ : ∃ k : Nat, n = k := ⟨n.toNat, by simp [Utf8.valid] at hv; omega⟩
    exact good k hv
  | false => rw [put0 hv]; exact good 65533 (by decide)
theorem bytes_good (l : List UInt8) : (bytesAV l).all (fun y => y.cells.length == 1 && y.cells.all scal) = true := by
  simp [bytesAV, byteAV, AV.cells, scal]
/-- U.Put of no bytes and one sign. -/
theorem rput_ok (n : Int) (m : Mem) : CS 88 [.nilSl, .sl .full 1 [.int .i32 n]] m (.ret (.sl (.tok m.ntok) 1 (bytesAV (putN n)))) (m.newTok 5) := by
  refine call_by xfok mixed q88at q88ok rfl ?_
  have hl := putN_len n
  have hb : ((bytesAV (putN n)).length * 1 ≤ roomMax) := by simp only [bytesAV, List.length_map, roomMax]; omega
  have hne : ¬ bytesAV (putN n) = [] := by
    intro h; have := congrArg List.length h; simp [bytesAV] at this; rw [this] at hl; simp at hl
  have ea : appendV m 5 1 1 .nilSl (bytesAV (putN n)) = some (.sl (.tok m.ntok) 1 (bytesAV (putN n)), m.newTok 5) := by
    simp only [appendV]; rw [if_neg hne, if_pos ⟨hb, bytes_good _⟩]
  have e0 : appendV m 5 1 1 .nilSl [] = some (.nilSl, m) := rfl
  simp only [go_sem, reduceIte, Nat.reduceEqDiff, Nat.reduceAdd, q88, q88r0, q88r1, q88r2, elems, e0]
  refine wl_step ?_
  have e1 : decide ((0 : Int) < 1) = true := by decide
  have e2 : decide ((1 : Int) < 1) = false := by decide
  have w1 : IntKind.i64.wrap (0 + 1) = 1 := by decide
  have i0 : idxAddrV 1 (.sl .full 1 [.int .i32 n]) (.int .i64 0) = some (.sptr [.int .i32 n] 0) := rfl
  have l0 : ∀ m, lenV m (.sl .full 1 [.int .i32 n]) = some (.int .i64 1) := fun _ => rfl
  have k0 : isLK .sli (.sl .full 1 [.int .i32 n]) = true := rfl
  simp only [go_sem, reduceIte, Nat.reduceEqDiff, Nat.reduceAdd, q88l6, q88r3, k0, l0, e1, q88r4, i0]
  refine callW_ret (one_ok n m) ?_
  simp only [go_sem, reduceIte, Nat.reduceEqDiff, Nat.reduceAdd, elems, ea, q88r5, w1]
  refine wl_step ?_
  simp only [go_sem, reduceIte, Nat.reduceEqDiff, Nat.reduceAdd, q88l6, q88r3, k0, l0, e2, q88r7]
end Go.Proofs.YtinlfdkalijffaaDoor.Am.Q

/-
  JSON, 18: the document's parser: escapes.
-/
namespace Go.Proofs.YtinlfdkalijffaaDoor.Am.Q
open Go Go.Proofs Go.Proofs.YtinlfdkalijffaaDoor.Am

def escL : List UInt8 := [98, 116, 110, 102, 114, 34, 92, 47]
def escT : List UInt8 := [8, 9, 10, 12, 13, 34, 92, 47]
theorem escIdx_eq {c : UInt8} : escIdx c = escL.findIdx? (· == c) := rfl
theorem u8_beq {a b : UInt8} : ((a.toNat : Int) == (b.toNat : Int)) = (a == b) := by
  rw [Bool.eq_iff_iff]
  simp only [beq_iff_eq]
  constructor
  · intro h; exact UInt8.toNat_inj.1 (by omega)
  · intro h; rw [h]
theorem findIdx_drop {c : UInt8} {l : List UInt8} {k : Nat} {b : UInt8} (h : l[k]? = some b) : (l.drop k).findIdx? (· == c) = if b == c then some 0 else ((l.drop (k + 1)).findIdx? (· == c)).map (· + 1) := by
  rw [drop_at h, List.findIdx?_cons]

/-- What the document's 'escape' leaves. -/
def EscR (p : Nat) (m : Mem) (s : List UInt8) (many : Nat) (r : Except Flt (List UInt8 × Nat)) (v : AV) (m' : Mem) : Prop :=
  match r with
  | .ok (b, j) => SlOf 1 v (bytesAV b) ∧ ExtB p m m' ∧ m'.get p = RP s j many 0 0
  | .error (w, k) => ∃ b j, SlOf 1 v (bytesAV b) ∧ b.length ≤ 4 ∧ ExtB p m m' ∧ m'.get p = RP s j many w k ∧ w ≠ 0
theorem hex4_bad {s : List UInt8} {a f : Nat} (h : ((s.drop a).take 4).any bad = true) : hex4 s a f = .error (3, f) := by
  unfold hex4; exact if_pos h
theorem hex4_end {s : List UInt8} {a f : Nat} (h : ((s.drop a).take 4).any bad = false) (h2 : ((s.drop a).take 4).length < 4) : hex4 s a f = .error (4, s.length) := by
  unfold hex4; rw [if_neg (by intro k; rw [show ((s.drop a).take 4).any bad = true from k] at h; cases h), if_pos h2]
theorem hex4_ok {s : List UInt8} {a f : Nat} (h : ((s.drop a).take 4).any bad = false) (h2 : ¬ ((s.drop a).take 4).length < 4) : hex4 s a f = .ok (hexN ((s.drop a).take 4)) := by
  unfold hex4; rw [if_neg (by intro k; rw [show ((s.drop a).take 4).any bad = true from k] at h; cases h), if_neg h2]
theorem hexA_lt : ∀ {l : List UInt8} {n k : Nat}, l.any bad = false → n < 16 ^ k → hexA n l < 16 ^ (k + l.length)
  | [], n, k, _, h => by simpa [hexA] using h
  | c :: l, n, k, hb, h => by
    rw [List.any_cons, Bool.or_eq_false_iff] at hb
    have := hexA_lt (l := l) (n := n * 16 + nib c) (k := k + 1) hb.2 (by have := bad_not hb.1; rw [Nat.pow_succ]; omega)
    rw [List.length_cons]
    have e : k + 1 + l.length = k + (l.length + 1) := by omega
    rwa [e] at this
theorem hexN_lt {s : List UInt8} {a : Nat} (h : ((s.drop a).take 4).any bad = false) : hexN ((s.drop a).take 4) < 65536 := by
  have := hexA_lt (n := 0) (k := 0) h (by simp)
  have h2 : ((s.drop a).take 4).length ≤ 4 := by simp; omega
  have h3 : (16 : Nat) ^ (0 + ((s.drop a).take 4).length) ≤ 16 ^ 4 := Nat.pow_le_pow_right (by omega) (by omega)
  exact Nat.lt_of_lt_of_le this h3

end Go.Proofs.YtinlfdkalijffaaDoor.Am.Q

/-
  JSON, 19: the document's parser: quotes.
-/
namespace Go.Proofs.YtinlfdkalijffaaDoor.Am.Q
open Go Go.Proofs Go.Proofs.YtinlfdkalijffaaDoor.Am

theorem unbytes_bytes : ∀ l : List UInt8, unbytes (bytesAV l) = some l
  | [] => rfl
  | b :: l => by
    have := unbytes_bytes l
    simp only [bytesAV] at this
    simp [bytesAV, unbytes, byteAV, unbyte, this]
theorem str_of {a : AV} {l : List UInt8} (h : SlOf 1 a (bytesAV l)) : strOfV a = some (.str l) := by
  rcases h with ⟨rfl, h⟩ | ⟨o, rfl⟩
  · have : l = [] := by cases l <;> simp [bytesAV] at h; rfl
    subst this; rfl
  · simp [strOfV, unbytes_bytes]
theorem bytes_append {a b : List UInt8} : bytesAV a ++ bytesAV b = bytesAV (a ++ b) := by simp [bytesAV]
theorem bytes_len {l : List UInt8} : (bytesAV l).length = l.length := by simp [bytesAV]

theorem surS_ok {s : List UInt8} {i n : Nat} {b : List UInt8} {j : Nat} (h : surS s i n = .ok (b, j)) : i < j ∧ j ≤ s.length ∧ b.length ≤ 4 := by
  unfold surS at h
  split at h
  · cases h
  · split at h
    · cases h
    · split at h
      · cases h
      · split at h
        · cases h
        · split at h
          · cases h
          · rename_i k hk
            split at h
            · cases h
            · simp only [Except.ok.injEq, Prod.mk.injEq] at h
              obtain ⟨rfl, rfl⟩ := h
              have hl : ¬ ((s.drop (i + 8)).take 4).length < 4 := by
                intro hl
                unfold hex4 at hk
                split at hk
                · cases hk
                · cases hk
              simp at hl
              exact ⟨by omega, by omega, (putN_len _).2⟩
theorem escS_ok {s : List UInt8} {i : Nat} {b : List UInt8} {j : Nat} (h : escS s i = .ok (b, j)) : i < j ∧ j ≤ s.length ∧ b.length ≤ 4 := by
  unfold escS at h
  split at h
  · cases h
  · rename_i c hc
    have h1 := (List.getElem?_eq_some_iff.1 hc).1
    split at h
    · simp only [Except.ok.injEq, Prod.mk.injEq] at h
      obtain ⟨rfl, rfl⟩ := h
      exact ⟨by omega, by omega, by simp⟩
    · split at h
      · cases h
      · split at h
        · cases h
        · rename_i n hk
          have hl : ¬ ((s.drop (i + 2)).take 4).length < 4 := by
            intro hl
            unfold hex4 at hk
            split at hk
            · cases hk
            · cases hk
          simp at hl
          split at h
          · simp only [Except.ok.injEq, Prod.mk.injEq] at h
            obtain ⟨rfl, rfl⟩ := h
            exact ⟨by omega, by omega, (putN_len _).2⟩
          · split at h
            · cases h
            · exact surS_ok h

def QuoR (p : Nat) (m : Mem) (s : List UInt8) (many : Nat) (r : Except Flt (List UInt8 × Nat)) (v : AV) (m' : Mem) : Prop :=
  match r with
  | .ok (t, j) => v = .str t ∧ ExtB p m m' ∧ m'.get p = RP s j many 0 0
  | .error (w, k) => ∃ t j, v = .str t ∧ ExtB p m m' ∧ m'.get p = RP s j many w k ∧ w ≠ 0
end Go.Proofs.YtinlfdkalijffaaDoor.Am.Q

/-
  JSON, 20: the document's parser: numbers, words; is a text among some.
-/
namespace Go.Proofs.YtinlfdkalijffaaDoor.Am.Q
open Go Go.Proofs Go.Proofs.YtinlfdkalijffaaDoor.Am

theorem runN_drop {p : UInt8 → Bool} : ∀ {s : List UInt8} {i : Nat}, i ≤ runN p s → runN p s = i + runN p (s.drop i)
  | s, 0, _ => by simp
  | [], i + 1, h => by simp [runN_nil] at h
  | c :: r, i + 1, h => by
    rw [runN_cons] at h ⊢
    by_cases hc : p c = true
    · rw [if_pos hc] at h ⊢
      have := runN_drop (p := p) (s := r) (i := i) (by omega)
      rw [List.drop_succ_cons]; omega
    · rw [if_neg hc] at h; omega
theorem digits_loop {m : Mem} {s : List UInt8} (hs : s.length < 2 ^ 61) {Q : AExit → List AV → Mem → Prop} (hx : ∀ g1 g3, Q (.exit 0) [.str s, g1, .int .i64 (runN isDig s), g3] m) :
    ∀ (n i : Nat) (g1 g3 : AV), runN isDig (s.drop i) = n → i + n = runN isDig s → wl CS [1, 3] q70l4 Q [.str s, g1, .int .i64 i, g3] m := by
  intro n
  induction n with
  | zero =>
    intro i g1 g3 hn hi
    refine wl_step ?_
    have hx' := hx g1
    rw [show runN isDig s = i by omega] at hx'
    cases hc : s[i]? with
    | none =>
      have h1 := List.getElem?_eq_none_iff.1 hc
      have e1 : decide ((i : Int) < (s.length : Nat)) = false := dF (by omega)
      simp only [go_sem, reduceIte, Nat.reduceEqDiff, Nat.reduceAdd, q70l4, q70r2, e1]
      exact hx' _
    | some c =>
      have h1 := (List.getElem?_eq_some_iff.1 hc).1
      have e1 : decide ((i : Int) < (s.length : Nat)) = true := dT (by omega)
      rw [drop_at hc, runN_cons] at hn
      have hd : isDig c = false := by
        cases h : isDig c with
        | true => rw [h, if_pos rfl] at hn; omega
        | false => rfl
      simp only [go_sem, reduceIte, Nat.reduceEqDiff, Nat.reduceAdd, q70l4, q70r2, e1, idxS_at hc]
      refine callW_ret (rdig_ok c m) ?_
      simp only [go_sem, reduceIte, Nat.reduceEqDiff, Nat.reduceAdd, hd]
      exact hx' _
  | succ n ih =>
    intro i g1 g3 hn hi
    refine wl_step ?_
    have hlt : i < s.length := by
      have := runN_le (p := isDig) (s := s.drop i)
      simp at this; omega
    have hc : s[i]? = some s[i] := List.getElem?_eq_getElem hlt
    have e1 : decide ((i : Int) < (s.length : Nat)) = true := dT (by omega)
    rw [drop_at hc, runN_cons] at hn
    have hd : isDig s[i] = true := by
      cases h : isDig s[i] with
      | true => rfl
      | false => rw [h] at hn; simp at hn
    rw [if_pos hd] at hn
    have hw := wrap_succ (i := i) (by omega)
    simp only [go_sem, reduceIte, Nat.reduceEqDiff, Nat.reduceAdd, q70l4, q70r2, e1, idxS_at hc]
    refine callW_ret (rdig_ok _ m) ?_
    simp only [go_sem, reduceIte, Nat.reduceEqDiff, Nat.reduceAdd, hd, q70r3, hw]
    exact ih (i + 1) _ _ (by omega) (by omega)
theorem digits_ok {s : List UInt8} (hs : s.length < 2 ^ 61) (m : Mem) : CS 70 [.str s] m (.ret (.int .i64 (runN isDig s))) m := by
  refine call_by xfok mixed q70at q70ok rfl ?_
  simp only [go_sem, reduceIte, Nat.reduceEqDiff, Nat.reduceAdd, q70, q70r0, q70r1]
  refine digits_loop hs (fun g1 g3 => ?_) (runN isDig s) 0 _ _ (by simp) (by simp)
  simp only [go_sem, reduceIte, Nat.reduceEqDiff, Nat.reduceAdd, q70r5]

theorem slice_from {s : List UInt8} {kk : IntKind} {k : Nat} (h : k ≤ s.length) : sliceStr (.str s) (some (.int kk (k : Int))) none = some (.str (s.drop k)) := by
  simp [sliceStr, boundV, h]
theorem slice_to {s : List UInt8} {kk : IntKind} {k : Nat} (h : k ≤ s.length) : sliceStr (.str s) none (some (.int kk (k : Int))) = some (.str (s.take k)) := by
  simp [sliceStr, boundV, h]
theorem slice_from_to {s : List UInt8} {k1 k2 : IntKind} {i j : Nat} (h : i ≤ j) (h2 : j ≤ s.length) : sliceStr (.str s) (some (.int k1 (i : Int))) (some (.int k2 (j : Int))) = some (.str ((s.take j).drop i)) := by
  simp [sliceStr, boundV, h, h2]
theorem slice_1 {c : UInt8} {r : List UInt8} {kk : IntKind} : sliceStr (.str (c :: r)) (some (.int kk 1)) none = some (.str r) := by
  have := slice_from (s := c :: r) (kk := kk) (k := 1) (by simp)
  simpa using this
theorem idx_0 {c : UInt8} {r : List UInt8} {kk : IntKind} : idxSV (.str (c :: r)) (.int kk 0) = some (.int .u8 c.toNat) := by
  have := idxS_at (s := c :: r) (k := kk) (i := 0) (c := c) rfl
  simpa using this
theorem neq_nil {c : UInt8} {r : List UInt8} : (!((c :: r) == ([] : List UInt8))) = true := rfl
theorem eq_nil {c : UInt8} {r : List UInt8} : ((c :: r) == ([] : List UInt8)) = false := rfl
theorem nil_eq : (([] : List UInt8) == []) = true := rfl

theorem wc_start {K : FuncId → List AV → Mem → Rs → Mem → Prop} {r : ARegion} {b : ACode} {Q : AExit → List AV → Mem → Prop} {fr : List AV} {m : Mem} : wc K (.seq (.region r) b) Q fr m = wo K ⟨r, seqQ K b Q, fr⟩ fr (!r.pairs.isEmpty) r.ops [] [] m := by rw [wc_seq, wc_region]
def t47c : ACode := (.seq (.seq (.region q47r12) (.cond (.var 7) (.seq (.region q47r13) .ret) .skip)) (.seq (.seq (.region q47r14) (.cond (.var 8) (.seq (.region q47r15) .ret) .skip)) (.seq (.region q47r16) (.seq (.seq (.region q47r17) (.cond (.var 9) (.region q47r18) .skip)) (.seq (.region q47r19) .ret)))))
def t47b : ACode := (.seq (.seq (.region q47r7) (.cond (.var 5) (.seq (.region q47r8) (.seq (.seq (.region q47r9) (.cond (.var 6) (.seq (.region q47r10) .ret) .skip)) (.region q47r11))) .skip)) t47c)
def t47a : ACode := (.seq (.region q47r3) (.seq (.seq (.region q47r4) (.cond (.var 4) (.seq (.region q47r5) .ret) .skip)) (.seq (.region q47r6) t47b)))
theorem q47_body : q47.body = (.seq (.region q47r0) (.seq (.seq (.region q47r1) (.cond (.var 3) (.region q47r2) .skip)) t47a)) := rfl

section
variable {m : Mem} {Q : AExit → List AV → Mem → Prop} {b : Bool}
theorem num_digs {s : List UInt8} (hs : s.length < 2 ^ 61) (hb : b = (decide (s ≠ []) && decide (runN isDig s = s.length))) {g1 g2 g3 g4 g5 g6 g7 g8 g9 : AV} (hq : ∀ g0 g2 g3 g4 g5 g6 g7 g8 g9, Q .ret [g0, .bool b, g2, g3, g4, g5, g6, g7, g8, g9] m) :
    wc CS (.seq (.region q47r19) .ret) Q [.str s, g1, g2, g3, g4, g5, g6, g7, g8, g9] m := by
  cases s with
  | nil =>
    obtain rfl : b = false := hb
    simp only [go_sem, reduceIte, Nat.reduceEqDiff, Nat.reduceAdd, q47r19, nil_eq]
    exact hq _ _ _ _ _ _ _ _ _
  | cons c r =>
    simp only [go_sem, reduceIte, Nat.reduceEqDiff, Nat.reduceAdd, q47r19, neq_nil]
    refine callW_ret (digits_ok hs m) ?_
    have e : (((runN isDig (c :: r) : Nat) : Int) == ((c :: r).length : Nat)) = decide (runN isDig (c :: r) = (c :: r).length) := by
      rw [Bool.eq_iff_iff]; simp only [beq_iff_eq, decide_eq_true_eq]; omega
    have e2 : decide (c :: r ≠ []) = true := dT (by simp)
    rw [e2, Bool.true_and] at hb
    simp only [go_sem, reduceIte, Nat.reduceEqDiff, Nat.reduceAdd, e, ← hb]
    exact hq _ _ _ _ _ _ _ _ _
theorem num_c {s : List UInt8} (hs : s.length < 2 ^ 61) (hb : b = expS s) {g1 g2 g3 g4 g5 g6 g7 g8 g9 : AV} (hq : ∀ g0 g2 g3 g4 g5 g6 g7 g8 g9, Q .ret [g0, .bool b, g2, g3, g4, g5, g6, g7, g8, g9] m) :
    wc CS t47c Q [.str s, g1, g2, g3, g4, g5, g6, g7, g8, g9] m := by
  cases s with
  | nil =>
    obtain rfl : b = true := hb
    simp only [go_sem, reduceIte, Nat.reduceEqDiff, Nat.reduceAdd, t47c, q47r12, nil_eq, q47r13]
    exact hq _ _ _ _ _ _ _ _ _
  | cons c r =>
    have hlen : (c :: r).length = r.length + 1 := rfl
    -- what is behind e
    have rest : (c.toNat = 101 ∨ c.toNat = 69) → ∀ g1 g2 g3 g4 g5 g6 g7 g8 g9, wc CS (.seq (.region q47r16) (.seq (.seq (.region q47r17) (.cond (.var 9) (.region q47r18) .skip)) (.seq (.region q47r19) .ret))) Q [.str (c :: r), g1, g2, g3, g4, g5, g6, g7, g8, g9] m := by
      intro hc g1 g2 g3 g4 g5 g6 g7 g8 g9
      have e1 : (decide (c.toNat = 101) || decide (c.toNat = 69)) = true := by simpa using hc
      simp only [expS, e1, Bool.true_and] at hb
      cases r with
      | nil =>
        rw [wc_seq]
        simp only [go_sem, reduceIte, Nat.reduceEqDiff, Nat.reduceAdd, q47r16, slice_1, q47r17, nil_eq]
        have := num_digs (m := m) (Q := Q) (b := b) (s := []) (by simp) (by rw [hb]; rfl) (g1 := g1) (g2 := g2) (g3 := g3) (g4 := g4) (g5 := g5) (g6 := g6) (g7 := g7) (g8 := g8) (g9 := .bool false) hq
        rw [wc_seq] at this
        simp only [go_sem, reduceIte, Nat.reduceEqDiff, Nat.reduceAdd] at this
        exact this
      | cons d q =>
        dsimp only at hb
        have tail : ∀ (t : List UInt8), t.length < 2 ^ 61 → b = (decide (t ≠ []) && decide (runN isDig t = t.length)) → ∀ g1 g2 g3 g4 g5 g6 g7 g8 g9, wo CS { r := q47r19, Q := seqQ CS ACode.ret Q, fr := [.str t, g1, g2, g3, g4, g5, g6, g7, g8, g9] } [.str t, g1, g2, g3, g4, g5, g6, g7, g8, g9] (!q47r19.pairs.isEmpty) q47r19.ops [] [] m := by
          intro t ht hbt g1 g2 g3 g4 g5 g6 g7 g8 g9
          have := num_digs (m := m) (Q := Q) (b := b) ht hbt (g1 := g1) (g2 := g2) (g3 := g3) (g4 := g4) (g5 := g5) (g6 := g6) (g7 := g7) (g8 := g8) (g9 := g9) hq
          rw [wc_seq, wc_region] at this
          exact this
        rw [wc_seq]
        by_cases h43 : d.toNat = 43
        · have a1 : ((d.toNat : Int) == 43) = true := bqT (by omega)
          rw [if_pos (.inl h43)] at hb
          simp only [go_sem, reduceIte, Nat.reduceEqDiff, Nat.reduceAdd, q47r16, slice_1, q47r17, neq_nil, idx_0, a1, q47r18]
          exact tail q (by simp at hs; omega) hb _ _ _ _ _ _ _ _ _
        · have a1 : ((d.toNat : Int) == 43) = false := bqF (by omega)
          by_cases h45 : d.toNat = 45
          · have a2 : ((d.toNat : Int) == 45) = true := bqT (by omega)
            rw [if_pos (.inr h45)] at hb
            simp only [go_sem, reduceIte, Nat.reduceEqDiff, Nat.reduceAdd, q47r16, slice_1, q47r17, neq_nil, idx_0, a1, a2, q47r18]
            exact tail q (by simp at hs; omega) hb _ _ _ _ _ _ _ _ _
          · have a2 : ((d.toNat : Int) == 45) = false := bqF (by omega)
            rw [if_neg (by omega)] at hb
            simp only [go_sem, reduceIte, Nat.reduceEqDiff, Nat.reduceAdd, q47r16, slice_1, q47r17, neq_nil, idx_0, a1, a2]
            exact tail (d :: q) (by simp at hs ⊢; omega) (by rw [hb, dT (p := d :: q ≠ []) (by simp), Bool.true_and]) _ _ _ _ _ _ _ _ _
    have conv : ∀ g1 g2 g3 g4 g5 g6 g7 g8 g9, wc CS (.seq (.region q47r16) (.seq (.seq (.region q47r17) (.cond (.var 9) (.region q47r18) .skip)) (.seq (.region q47r19) .ret))) Q [.str (c :: r), g1, g2, g3, g4, g5, g6, g7, g8, g9] m →
        wo CS { r := q47r16, Q := seqQ CS (.seq (.seq (.region q47r17) (.cond (.var 9) (.region q47r18) .skip)) (.seq (.region q47r19) .ret)) Q, fr := [.str (c :: r), g1, g2, g3, g4, g5, g6, g7, g8, g9] } [.str (c :: r), g1, g2, g3, g4, g5, g6, g7, g8, g9] (!q47r16.pairs.isEmpty) q47r16.ops [] [] m := by
      intro g1 g2 g3 g4 g5 g6 g7 g8 g9 h
      rw [wc_seq, wc_region] at h
      exact h
    by_cases h101 : c.toNat = 101
    · have a1 : ((c.toNat : Int) != 101) = false := bnF (by omega)
      simp only [go_sem, reduceIte, Nat.reduceEqDiff, Nat.reduceAdd, t47c, q47r12, eq_nil, q47r14, idx_0, a1]
      exact conv _ _ _ _ _ _ _ _ _ (rest (.inl h101) _ _ _ _ _ _ _ _ _)
    · have a1 : ((c.toNat : Int) != 101) = true := bnT (by omega)
      by_cases h69 : c.toNat = 69
      · have a2 : ((c.toNat : Int) != 69) = false := bnF (by omega)
        simp only [go_sem, reduceIte, Nat.reduceEqDiff, Nat.reduceAdd, t47c, q47r12, eq_nil, q47r14, idx_0, a1, a2]
        exact conv _ _ _ _ _ _ _ _ _ (rest (.inr h69) _ _ _ _ _ _ _ _ _)
      · have a2 : ((c.toNat : Int) != 69) = true := bnT (by omega)
        have hbf : b = false := by rw [hb]; simp [expS, h101, h69]
        subst hbf
        simp only [go_sem, reduceIte, Nat.reduceEqDiff, Nat.reduceAdd, t47c, q47r12, eq_nil, q47r14, idx_0, a1, a2, q47r15]
        exact hq _ _ _ _ _ _ _ _ _
theorem num_b {s : List UInt8} (hs : s.length < 2 ^ 61) (hb : b = fracS s) {g1 g2 g3 g4 g5 g6 g7 g8 g9 : AV} (hq : ∀ g0 g2 g3 g4 g5 g6 g7 g8 g9, Q .ret [g0, .bool b, g2, g3, g4, g5, g6, g7, g8, g9] m) :
    wc CS t47b Q [.str s, g1, g2, g3, g4, g5, g6, g7, g8, g9] m := by
  cases s with
  | nil =>
    simp only [go_sem, reduceIte, Nat.reduceEqDiff, Nat.reduceAdd, t47b, q47r7, nil_eq]
    exact num_c (by simp) hb hq
  | cons c r =>
    by_cases h46 : c.toNat = 46
    · have a1 : ((c.toNat : Int) == 46) = true := bqT (by omega)
      simp only [fracS, if_pos h46] at hb
      simp only [go_sem, reduceIte, Nat.reduceEqDiff, Nat.reduceAdd, t47b, q47r7, neq_nil, idx_0, a1, q47r8, slice_1]
      refine callW_ret (digits_ok (by simp at hs; omega) m) ?_
      have hle := runN_le (p := isDig) (s := r)
      by_cases h0 : runN isDig r = 0
      · have a2 : (((runN isDig r : Nat) : Int) == 0) = true := bqT (by omega)
        rw [if_pos h0] at hb
        subst hb
        simp only [go_sem, reduceIte, Nat.reduceEqDiff, Nat.reduceAdd, q47r9, a2, q47r10]
        exact hq _ _ _ _ _ _ _ _ _
      · have a2 : (((runN isDig r : Nat) : Int) == 0) = false := bqF (by omega)
        rw [if_neg h0] at hb
        have hw := wrap_succ (i := runN isDig r) (by simp at hs; omega)
        have hsl := slice_from (s := c :: r) (kk := .i64) (k := runN isDig r + 1) (by simp; omega)
        simp only [go_sem, reduceIte, Nat.reduceEqDiff, Nat.reduceAdd, q47r9, a2, q47r11, hw, hsl]
        rw [List.drop_succ_cons]
        exact num_c (by simp at hs ⊢; omega) hb hq
    · have a1 : ((c.toNat : Int) == 46) = false := bqF (by omega)
      simp only [fracS, if_neg h46] at hb
      simp only [go_sem, reduceIte, Nat.reduceEqDiff, Nat.reduceAdd, t47b, q47r7, neq_nil, idx_0, a1]
      exact num_c hs hb hq
theorem num_a {s : List UInt8} (hs : s.length < 2 ^ 61) (hb : b = absS s) {g1 g2 g3 g4 g5 g6 g7 g8 g9 : AV} (hq : ∀ g0 g2 g3 g4 g5 g6 g7 g8 g9, Q .ret [g0, .bool b, g2, g3, g4, g5, g6, g7, g8, g9] m) :
    wc CS t47a Q [.str s, g1, g2, g3, g4, g5, g6, g7, g8, g9] m := by
  simp only [go_sem, reduceIte, Nat.reduceEqDiff, Nat.reduceAdd, t47a, q47r3]
  refine callW_ret (digits_ok hs m) ?_
  have hle := runN_le (p := isDig) (s := s)
  unfold absS at hb
  by_cases h0 : runN isDig s = 0
  · have a2 : (((runN isDig s : Nat) : Int) == 0) = true := bqT (by omega)
    rw [if_pos (.inl h0)] at hb
    subst hb
    simp only [go_sem, reduceIte, Nat.reduceEqDiff, Nat.reduceAdd, q47r4, a2, q47r5]
    exact hq _ _ _ _ _ _ _ _ _
  · have a2 : (((runN isDig s : Nat) : Int) == 0) = false := bqF (by omega)
    have hsl := slice_from (s := s) (kk := .i64) (k := runN isDig s) hle
    by_cases h1 : 1 < runN isDig s
    · have a3 : decide (((runN isDig s : Nat) : Int) > 1) = true := dT (by omega)
      cases s with
      | nil => simp [runN_nil] at h0
      | cons c r =>
        by_cases h48 : c.toNat = 48
        · have a4 : ((c.toNat : Int) == 48) = true := bqT (by omega)
          have hc : c = 48 := UInt8.toNat_inj.1 h48
          rw [if_pos (.inr ⟨h1, by rw [hc]; rfl⟩)] at hb
          subst hb
          simp only [go_sem, reduceIte, Nat.reduceEqDiff, Nat.reduceAdd, q47r4, a2, a3, idx_0, a4, q47r5]
          exact hq _ _ _ _ _ _ _ _ _
        · have a4 : ((c.toNat : Int) == 48) = false := bqF (by omega)
          rw [if_neg (by
            rintro (h | ⟨_, h⟩)
            · exact h0 h
            · simp at h; exact h48 (by rw [h]; rfl))] at hb
          simp only [go_sem, reduceIte, Nat.reduceEqDiff, Nat.reduceAdd, q47r4, a2, a3, idx_0, a4, q47r6, hsl]
          exact num_b (by simp at hs ⊢; omega) hb hq
    · have a3 : decide (((runN isDig s : Nat) : Int) > 1) = false := dF (by omega)
      rw [if_neg (by
        rintro (h | ⟨h, _⟩)
        · exact h0 h
        · exact h1 h)] at hb
      simp only [go_sem, reduceIte, Nat.reduceEqDiff, Nat.reduceAdd, q47r4, a2, a3, q47r6, hsl]
      exact num_b (by simp at hs ⊢; omega) hb hq
end
theorem rnumber_ok {s : List UInt8} (hs : s.length < 2 ^ 61) (m : Mem) : CS 47 [.str s] m (.ret (.bool (numS s))) m := by
  refine call_by xfok mixed q47at q47ok rfl ?_
  have hq : ∀ g0 g2 g3 g4 g5 g6 g7 g8 g9, endsIn q47.results (fun v' m1 => v' = AV.bool (numS s) ∧ m1 = m) noPan .ret [g0, .bool (numS s), g2, g3, g4, g5, g6, g7, g8, g9] m := by
    intro g0 g2 g3 g4 g5 g6 g7 g8 g9
    simp only [go_sem, reduceIte, Nat.reduceEqDiff, Nat.reduceAdd, q47]
  rw [q47_body]
  show wc CS _ _ [AV.str s, .u, .u, .u, .u, .u, .u, .u, .u, .u] m
  generalize hQ : endsIn q47.results (fun v' m1 => v' = AV.bool (numS s) ∧ m1 = m) noPan = Q at hq
  cases s with
  | nil =>
    simp only [go_sem, reduceIte, Nat.reduceEqDiff, Nat.reduceAdd, q47r0, q47r1, nil_eq]
    exact num_a (by simp) rfl hq
  | cons c r =>
    by_cases h45 : c.toNat = 45
    · have a1 : ((c.toNat : Int) == 45) = true := bqT (by omega)
      simp only [go_sem, reduceIte, Nat.reduceEqDiff, Nat.reduceAdd, q47r0, q47r1, neq_nil, idx_0, a1, q47r2, slice_1]
      exact num_a (by simp at hs; omega) (by simp [numS, h45]) hq
    · have a1 : ((c.toNat : Int) == 45) = false := bqF (by omega)
      simp only [go_sem, reduceIte, Nat.reduceEqDiff, Nat.reduceAdd, q47r0, q47r1, neq_nil, idx_0, a1]
      exact num_a hs (by simp [numS, h45]) hq
end Go.Proofs.YtinlfdkalijffaaDoor.Am.Q

/-
  JSON, 21: the document's parser: words; is a text among some; what comes in a list or a table.
-/
namespace Go.Proofs.YtinlfdkalijffaaDoor.Am.Q
open Go Go.Proofs Go.Proofs.YtinlfdkalijffaaDoor.Am

theorem take_runN {p : UInt8 → Bool} : ∀ {l : List UInt8}, l.take (runN p l) = l.takeWhile p
  | [] => rfl
  | c :: r => by
    rw [runN_cons, List.takeWhile_cons]
    split
    · rw [List.take_succ_cons, take_runN]
    · rfl
def runP (b : Bool) : UInt8 → Bool := if b = true then isNum else isSmall
theorem has_loop (m : Mem) {a : AV} {l : List (List UInt8)} {k : List UInt8} (ha : SlOf 1 a (l.map .str)) (hl : l.length < 2 ^ 61) {Q : AExit → List AV → Mem → Prop}
    (hx : ¬ k ∈ l → ∀ g2 g3 g4 g5, Q (.exit 0) [a, .str k, g2, g3, g4, g5] m) (hr : k ∈ l → ∀ g3 g4 g5, Q .ret [a, .str k, .bool true, g3, g4, g5] m) :
    ∀ (n i : Nat) (g2 g4 g5 : AV), i + n = l.length → (k ∈ l ↔ k ∈ l.drop i) → wl CS [2, 4, 5] q72l6 Q [a, .str k, g2, .int .i64 i, g4, g5] m := by
  intro n
  induction n with
  | zero =>
    intro i g2 g4 g5 hi ht
    refine wl_step ?_
    have e1 : decide ((i : Int) < ((l.map AV.str).length : Nat)) = false := dF (by simp; omega)
    simp only [go_sem, reduceIte, Nat.reduceEqDiff, Nat.reduceAdd, q72l6, q72r2, ha.isLK, ha.len, e1]
    exact hx (by rw [ht, List.drop_of_length_le (by omega)]; simp) _ _ _ _
  | succ n ih =>
    intro i g2 g4 g5 hi ht
    refine wl_step ?_
    have hlt : i < l.length := by omega
    have e1 : decide ((i : Int) < ((l.map AV.str).length : Nat)) = true := dT (by simp; omega)
    have ea := ha.idx (k := .i64) (i := (i : Int)) (y := .str l[i]) (by omega) (by simp [hlt])
    have hw := wrap_succ (i := i) (by omega)
    have hd : l.drop i = l[i] :: l.drop (i + 1) := List.drop_eq_getElem_cons hlt
    rw [hd, List.mem_cons] at ht
    simp only [go_sem, reduceIte, Nat.reduceEqDiff, Nat.reduceAdd, q72l6, q72r2, ha.isLK, ha.len, e1, q72r3, ea]
    by_cases h : k = l[i]
    · have e2 : (l[i] == k) = true := by simp [h]
      simp only [go_sem, reduceIte, Nat.reduceEqDiff, Nat.reduceAdd, e2, q72r4]
      exact hr (ht.2 (.inl h)) _ _ _
    · have e2 : (l[i] == k) = false := by simp; exact fun e => h e.symm
      simp only [go_sem, reduceIte, Nat.reduceEqDiff, Nat.reduceAdd, e2, q72r5, hw]
      exact ih (i + 1) _ _ _ (by omega) (ht.trans ⟨fun x => x.resolve_left h, .inr⟩)
theorem has_ok (m : Mem) {a : AV} {l : List (List UInt8)} {k : List UInt8} (ha : SlOf 1 a (l.map .str)) (hl : l.length < 2 ^ 61) : CS 72 [a, .str k] m (.ret (.bool (decide (k ∈ l)))) m := by
  refine call_by xfok mixed q72at q72ok rfl ?_
  simp only [go_sem, reduceIte, Nat.reduceEqDiff, Nat.reduceAdd, q72, q72r0, q72r1]
  refine has_loop m ha hl (fun h g2 g3 g4 g5 => ?_) (fun h g3 g4 g5 => ?_) l.length 0 _ _ _ (by omega) (by simp)
  · simp only [go_sem, reduceIte, Nat.reduceEqDiff, Nat.reduceAdd, q72r7, dF h]
  · simp only [go_sem, reduceIte, Nat.reduceEqDiff, Nat.reduceAdd, dT h]

/-- What 'more' tells, and leaves. -/
def moreR (s : List UInt8) (i many : Nat) (first : Bool) (e : Nat) : Bool × AObj :=
  match nxt s i with
  | .error (w, k) => (false, RP s (skipN s i) many w k)
  | .ok (j, c) => if c.toNat = e then (false, RP s (j + 1) many 0 0) else if first = true then (true, RP s j many 0 0) else if c.toNat ≠ 44 then (false, RP s j many 3 j) else (true, RP s (j + 1) many 0 0)
end Go.Proofs.YtinlfdkalijffaaDoor.Am.Q

/-
  JSON, 22: the plain parser goes forward.
-/
namespace Go.Proofs.YtinlfdkalijffaaDoor.Am.Q
open Go Go.Proofs Go.Proofs.YtinlfdkalijffaaDoor.Am

theorem quoS_ok {s : List UInt8} : ∀ {f i : Nat} {out t : List UInt8} {j : Nat}, quoS s f i out = .ok (t, j) → i < j ∧ j ≤ s.length
  | 0, _, _, _, _, h => by cases h
  | f + 1, i, out, t, j, h => by
    simp only [quoS] at h
    split at h
    · cases h
    · rename_i c hc
      have h1 := (List.getElem?_eq_some_iff.1 hc).1
      split at h
      · cases h
      · split at h
        · simp only [Except.ok.injEq, Prod.mk.injEq] at h
          obtain ⟨_, rfl⟩ := h
          exact ⟨by omega, by omega⟩
        · split at h
          · split at h
            · cases h
            · rename_i b k hk
              have h2 := escS_ok hk
              have h3 := quoS_ok h
              exact ⟨by omega, h3.2⟩
          · have h3 := quoS_ok h
            exact ⟨by omega, h3.2⟩
theorem quote_ok {s : List UInt8} {i : Nat} {t : List UInt8} {j : Nat} (h : quote s i = .ok (t, j)) : i + 1 < j ∧ j ≤ s.length := quoS_ok h
theorem skip_ge {s : List UInt8} {i : Nat} : i ≤ skipN s i := Nat.le_add_right _ _
theorem nxt_ok {s : List UInt8} {i j : Nat} {c : UInt8} (h : nxt s i = .ok (j, c)) : i ≤ j ∧ j < s.length ∧ s[j]? = some c ∧ j = skipN s i := by
  unfold nxt at h
  split at h
  · rename_i c' hc
    simp only [Except.ok.injEq, Prod.mk.injEq] at h
    obtain ⟨rfl, rfl⟩ := h
    exact ⟨skip_ge, (List.getElem?_eq_some_iff.1 hc).1, hc, rfl⟩
  · cases h
theorem takeWhile_len {p : UInt8 → Bool} {l : List UInt8} : (l.takeWhile p).length = runN p l := rfl
theorem pGo_ok {s : List UInt8} : ∀ {f : Nat} {t : PT} {i many deep : Nat} {v : VT} {j many' : Nat}, pGo s f t i many deep = .ok (v, j, many') → many ≤ 4096 → i < j ∧ j ≤ s.length ∧ many' ≤ 4096
  | 0, _, _, _, _, _, _, _, h, _ => by cases h
  | f + 1, .val, i, many, deep, v, j, many', h, hm => by
    simp only [pGo] at h
    split at h
    · cases h
    · rename_i a c hn
      obtain ⟨n1, n2, n3, _⟩ := nxt_ok hn
      split at h
      · cases h
      · rename_i h4
        split at h
        · split at h
          · cases h
          · rename_i t k hq
            simp only [Except.ok.injEq, Prod.mk.injEq] at h
            obtain ⟨_, rfl, rfl⟩ := h
            have := quote_ok hq
            exact ⟨by omega, by omega, by omega⟩
        · split at h
          · split at h
            · cases h
            · split at h
              · have := pGo_ok h (by omega); exact ⟨by omega, this.2.1, this.2.2⟩
              · have := pGo_ok h (by omega); exact ⟨by omega, this.2.1, this.2.2⟩
          · have hdl : runN isNum (s.drop a) ≤ s.length - a := by have := runN_le (p := isNum) (s := s.drop a); simpa using this
            have hds : runN isSmall (s.drop a) ≤ s.length - a := by have := runN_le (p := isSmall) (s := s.drop a); simpa using this
            split at h
            · split at h
              · rename_i hc hnum
                simp only [Except.ok.injEq, Prod.mk.injEq] at h
                obtain ⟨_, rfl, rfl⟩ := h
                have : 0 < runN isNum (s.drop a) := by
                  cases hz : runN isNum (s.drop a) with
                  | zero =>
                    have : ((s.drop a).takeWhile isNum) = [] := List.eq_nil_of_length_eq_zero (by rw [takeWhile_len]; exact hz)
                    rw [this] at hnum; cases hnum
                  | succ _ => omega
                exact ⟨by omega, by omega, by omega⟩
              · cases h
            · split at h
              · rename_i hw
                simp only [Except.ok.injEq, Prod.mk.injEq] at h
                obtain ⟨_, rfl, rfl⟩ := h
                have : runN isSmall (s.drop a) = 4 := by rw [← takeWhile_len, hw]; rfl
                exact ⟨by omega, by omega, by omega⟩
              · split at h
                · rename_i hw
                  simp only [Except.ok.injEq, Prod.mk.injEq] at h
                  obtain ⟨_, rfl, rfl⟩ := h
                  have : 0 < runN isSmall (s.drop a) := by
                    rw [← takeWhile_len]
                    rcases hw with hw | hw <;> rw [hw] <;> decide
                  exact ⟨by omega, by omega, by omega⟩
                · cases h
  | f + 1, .list acc, i, many, deep, v, j, many', h, hm => by
    simp only [pGo] at h
    split at h
    · cases h
    · rename_i a c hn
      obtain ⟨n1, n2, n3, _⟩ := nxt_ok hn
      split at h
      · simp only [Except.ok.injEq, Prod.mk.injEq] at h
        obtain ⟨_, rfl, rfl⟩ := h
        exact ⟨by omega, by omega, by omega⟩
      · split at h
        · cases h
        · split at h
          · cases h
          · rename_i v1 k1 m1 hv
            have h1 := pGo_ok hv hm
            have h2 := pGo_ok h h1.2.2
            have : i < k1 := by have := h1.1; split at this <;> omega
            exact ⟨by omega, h2.2.1, h2.2.2⟩
  | f + 1, .tab ks acc, i, many, deep, v, j, many', h, hm => by
    simp only [pGo] at h
    split at h
    · cases h
    · rename_i a c hn
      obtain ⟨n1, n2, n3, _⟩ := nxt_ok hn
      split at h
      · simp only [Except.ok.injEq, Prod.mk.injEq] at h
        obtain ⟨_, rfl, rfl⟩ := h
        exact ⟨by omega, by omega, by omega⟩
      · split at h
        · cases h
        · split at h
          · cases h
          · rename_i b q hn2
            obtain ⟨o1, o2, _, _⟩ := nxt_ok hn2
            split at h
            · cases h
            · split at h
              · cases h
              · rename_i key d hq
                have hq' := quote_ok hq
                split at h
                · cases h
                · split at h
                  · cases h
                  · rename_i e o hn3
                    obtain ⟨p1, p2, _, _⟩ := nxt_ok hn3
                    split at h
                    · cases h
                    · split at h
                      · cases h
                      · rename_i v1 k1 m1 hv
                        have h1 := pGo_ok hv hm
                        have h2 := pGo_ok h h1.2.2
                        have : i ≤ b := by split at o1 <;> omega
                        exact ⟨by omega, h2.2.1, h2.2.2⟩
end Go.Proofs.YtinlfdkalijffaaDoor.Am.Q

/-
  JSON, 23: the document's parser: values.
-/
namespace Go.Proofs.YtinlfdkalijffaaDoor.Am.Q
open Go Go.Proofs Go.Proofs.YtinlfdkalijffaaDoor.Am

abbrev z26 : AObj := .cells 26 [.int .i64 0, .str [], .nilSl, .nilSl]
def ValR (p : Nat) (m : Mem) (s : List UInt8) (r : Except Flt (VT × Nat × Nat)) (v : AV) (m' : Mem) : Prop :=
  match r with
  | .ok (T, j, k) => IsVal v T ∧ ExtB p m m' ∧ m'.get p = RP s j k 0 0
  | .error (w, k) => (∃ T, IsVal v T) ∧ ExtB p m m' ∧ w ≠ 0 ∧ ∃ j many, m'.get p = RP s j many w k
/-- A call's state: the parser, and a value that was laid. -/
structure VSt (p q : Nat) (m M : Mem) (o oq : AObj) : Prop where
  ext : ExtB p m M
  gp : M.get p = o
  gq : M.get q = oq
  ne : q ≠ p
  new : m.next ≤ q
  lt : q < M.next
theorem VSt.setp {p q : Nat} {m M : Mem} {o oq : AObj} (h : VSt p q m M o oq) (o' : AObj) : VSt p q m (M.set p o') o' oq :=
  ⟨h.ext.setp _, get_set_same, by rw [get_set_other h.ne]; exact h.gq, h.ne, h.new, h.lt⟩
theorem VSt.setq {p q : Nat} {m M : Mem} {o oq : AObj} (h : VSt p q m M o oq) (o' : AObj) : VSt p q m (M.set q o') o o' :=
  ⟨h.ext.set h.new _, by rw [get_set_other (Ne.symm h.ne)]; exact h.gp, get_set_same, h.ne, h.new, h.lt⟩
theorem VSt.call {p q : Nat} {m M M' : Mem} {o o' oq : AObj} (h : VSt p q m M o oq) (k : ExtB p M M') (g : M'.get p = o') : VSt p q m M' o' oq :=
  ⟨h.ext.trans k, g, by rw [k.get q h.lt h.ne]; exact h.gq, h.ne, h.new, Nat.lt_of_lt_of_le h.lt k.next⟩
theorem VSt.alloc {p q : Nat} {m M : Mem} {o oq : AObj} (h : VSt p q m M o oq) (hp : p < M.next) (o' : AObj) : VSt p q m (M.alloc o') o oq :=
  ⟨h.ext.alloc _, by rw [get_old (by omega)]; exact h.gp, by rw [get_old (by have := h.lt; omega)]; exact h.gq, h.ne, h.new, by have := h.lt; rw [next_alloc]; omega⟩
theorem VSt.begin {p : Nat} {m : Mem} {o oq : AObj} (hp : p < m.next) (g : m.get p = o) : VSt p m.next m (m.alloc oq) o oq :=
  ⟨(ExtB.refl p m).alloc _, by rw [get_old (by omega)]; exact g, get_new, by omega, Nat.le_refl _, by rw [next_alloc]; omega⟩
theorem leaf_val {k : Int} {t : List UInt8} : IsVal (.agg [.int .i64 k, .str t, .nilSl, .nilSl]) (.node k t [] []) := .mk (.inl ⟨rfl, rfl⟩) (.inl ⟨rfl, rfl⟩) rfl (fun i hi => absurd hi (Nat.not_lt_zero _))

theorem IsVal.ones {v : AV} {T : VT} (h : IsVal v T) : ∃ k t ka kb, v = .agg [.int .i64 k, .str t, ka, kb] ∧ one ka = true ∧ one kb = true := by
  cases h with
  | mk a1 a2 => exact ⟨_, _, _, _, rfl, a1.one, a2.one⟩
theorem str_beq {a b : List UInt8} (h : a = b) : (a == b) = true := by simp [h]
theorem str_bne {a b : List UInt8} (h : ¬ a = b) : (a == b) = false := by simp [h]

section
variable (s : List UInt8)
def PVal (f : Nat) : Prop := ∀ (m : Mem) (p i many deep : Nat), 2 * (s.length - i) + 1 ≤ f → many ≤ 4096 → deep < 2 ^ 40 → p < m.next → m.get p = RP s i many 0 0 →
  ∃ v m', CS 24 [.ptr p 0, .int .i64 deep] m (.ret v) m' ∧ ValR p m s (pGo s f .val i many deep) v m'
def PList (f : Nat) : Prop := ∀ (m : Mem) (p i many deep : Nat), 2 * (s.length - i) + 2 ≤ f → i ≤ s.length → many ≤ 4096 → deep < 2 ^ 39 → p < m.next → m.get p = RP s i many 0 0 →
  ∃ v m', CS 49 [.ptr p 0, .int .i64 deep] m (.ret v) m' ∧ ValR p m s (pGo s f (.list []) i many deep) v m'
def PTab (f : Nat) : Prop := ∀ (m : Mem) (p i many deep : Nat), 2 * (s.length - i) + 2 ≤ f → i ≤ s.length → many ≤ 4096 → deep < 2 ^ 39 → p < m.next → m.get p = RP s i many 0 0 →
  ∃ v m', CS 50 [.ptr p 0, .int .i64 deep] m (.ret v) m' ∧ ValR p m s (pGo s f (.tab [] []) i many deep) v m'
end

end Go.Proofs.YtinlfdkalijffaaDoor.Am.Q

/-
  JSON, 24: the document's parser: lists.
-/
namespace Go.Proofs.YtinlfdkalijffaaDoor.Am.Q
open Go Go.Proofs Go.Proofs.YtinlfdkalijffaaDoor.Am

def KidsOf (xs : List AV) (acc : List VT) : Prop := xs.length = acc.length ∧ ∀ i, i < acc.length → IsVal (xs.getD i .u) (acc.getD i VT.zero)
theorem KidsOf.nil : KidsOf [] [] := ⟨rfl, fun i hi => absurd hi (Nat.not_lt_zero _)⟩
theorem KidsOf.push {xs : List AV} {acc : List VT} {v : AV} {T : VT} (h : KidsOf xs acc) (hv : IsVal v T) : KidsOf (xs ++ [v]) (acc ++ [T]) := by
  refine ⟨by simp [h.1], fun i hi => ?_⟩
  by_cases e : i < acc.length
  · have := h.2 i e
    simpa [List.getD, List.getElem?_append_left e, List.getElem?_append_left (show i < xs.length by rw [h.1]; exact e)] using this
  · have : i = acc.length := by simp at hi; omega
    subst this
    simpa [List.getD, ← h.1] using hv
theorem KidsOf.first {xs : List AV} {acc : List VT} (h : KidsOf xs acc) : ((xs.length : Int) == 0) = decide (acc = []) := by
  rw [Bool.eq_iff_iff]
  simp only [beq_iff_eq, decide_eq_true_eq]
  have := h.1
  constructor
  · intro e; exact List.eq_nil_of_length_eq_zero (by omega)
  · intro e; rw [e] at this; simp only [List.length_nil] at this; omega
theorem val_good {k : Int} {t : List UInt8} {ka kb : AV} (h1 : one ka = true) (h2 : one kb = true) : [AV.agg [.int .i64 k, .str t, ka, kb]].all (fun y => y.cells.length == 4 && y.cells.all scal) = true := by
  rw [one_scal] at h1 h2
  simp [AV.cells, scal_int, scal_str, h1, h2]
theorem VSt.other {p q : Nat} {m M : Mem} {o oq : AObj} (h : VSt p q m M o oq) {i : Nat} (h1 : i ≠ p) (h2 : i ≠ q) (h3 : m.next ≤ i) (o' : AObj) : VSt p q m (M.set i o') o oq :=
  ⟨h.ext.set h3 _, by rw [get_set_other (Ne.symm h1)]; exact h.gp, by rw [get_set_other (Ne.symm h2)]; exact h.gq, h.ne, h.new, h.lt⟩
theorem VSt.same {p q : Nat} {m M M' : Mem} {o oq : AObj} (h : VSt p q m M o oq) (h1 : M'.get = M.get) (h2 : M'.next = M.next) (h3 : ExtB p m M') : VSt p q m M' o oq :=
  ⟨h3, by rw [h1]; exact h.gp, by rw [h1]; exact h.gq, h.ne, h.new, by rw [h2]; exact h.lt⟩
abbrev lObj (k : Int) (ka kb : AV) : AObj := .cells 26 [.int .i64 k, .str [], ka, kb]

theorem pGo_list {s : List UInt8} {f i many deep : Nat} {acc : List VT} : pGo s (f + 1) (.list acc) i many deep = (match nxt s i with
    | .error e => .error e
    | .ok (j, c) => if c.toNat = 93 then .ok (.node 5 [] [] acc, j + 1, many) else
      if acc ≠ [] ∧ c.toNat ≠ 44 then .error (3, j) else
        (match pGo s f .val (if acc = [] then j else j + 1) many (deep + 1) with
        | .error e => .error e
        | .ok (v, k, many') => pGo s f (.list (acc ++ [v])) k many' deep)) := rfl

end Go.Proofs.YtinlfdkalijffaaDoor.Am.Q

/-
  JSON, 25: the document's parser: tables; the values whole.
-/
namespace Go.Proofs.YtinlfdkalijffaaDoor.Am.Q
open Go Go.Proofs Go.Proofs.YtinlfdkalijffaaDoor.Am

/-- Another slice's room stays, where something is appended to one of another type. -/
theorem mine_keep {m0 m m' : Mem} {e e' : TypeId} {sz sz' bytes : Nat} {a a' b : AV} {xs ys zs : List AV} (h : Mine m0 m e sz a xs) (ha : appendV m e sz bytes a ys = some (a', m')) (hb : Mine m0 m e' sz' b zs) (hne : e ≠ e') : Mine m0 m' e' sz' b zs := by
  rcases h with ⟨rfl, rfl⟩ | ⟨t, rfl, h2, h3, h4, h5⟩
  · simp only [appendV] at ha
    split at ha
    · simp only [Option.some.injEq, Prod.mk.injEq] at ha
      obtain ⟨_, rfl⟩ := ha; exact hb
    · split at ha
      · simp only [Option.some.injEq, Prod.mk.injEq] at ha
        obtain ⟨_, rfl⟩ := ha
        exact hb.ext (p := 0) ((ExtB.refl 0 m).newTok e)
      · cases ha
  · simp only [appendV] at ha
    rw [if_pos trivial] at ha
    split at ha
    · simp only [Option.some.injEq, Prod.mk.injEq] at ha
      obtain ⟨_, rfl⟩ := ha; exact hb
    · split at ha
      · rw [if_pos ⟨h2, h3⟩] at ha
        simp only [Option.some.injEq, Prod.mk.injEq] at ha
        obtain ⟨_, rfl⟩ := ha
        rcases hb with hb | ⟨u', rfl, k2, k3, k4, k5⟩
        · exact .inl hb
        · have hu : u' ≠ t := by rintro rfl; exact hne (h3.symm.trans k3)
          have hnn : u' ≠ m.ntok := by omega
          refine .inr ⟨u', rfl, ?_, ?_, k4, ?_⟩
          · simp [Mem.newTok, Mem.killTok, hnn, hu, k2]
          · simp [Mem.newTok, Mem.killTok, hnn, k3]
          · simp only [Mem.newTok, Mem.killTok]; omega
      · cases ha
theorem str_good {t : List UInt8} : [AV.str t].all (fun y => y.cells.length == 1 && y.cells.all scal) = true := by simp [AV.cells, scal_str]

theorem pGo_tab {s : List UInt8} {f i many deep : Nat} {ks : List (List UInt8)} {acc : List VT} : pGo s (f + 1) (.tab ks acc) i many deep = (match nxt s i with
    | .error e => .error e
    | .ok (j, c) => if c.toNat = 125 then .ok (.node 6 [] ks acc, j + 1, many) else
      if acc ≠ [] ∧ c.toNat ≠ 44 then .error (3, j) else
        (match nxt s (if acc = [] then j else j + 1) with
        | .error e => .error e
        | .ok (a, q) => if q.toNat ≠ 34 then .error (3, a) else
          (match quote s a with
          | .error e => .error e
          | .ok (key, b) => if key ∈ ks then .error (7, a) else
            (match nxt s b with
            | .error e => .error e
            | .ok (d, o) => if o.toNat ≠ 58 then .error (3, d) else
              (match pGo s f .val (d + 1) many (deep + 1) with
              | .error e => .error e
              | .ok (v, k, many') => pGo s f (.tab (ks ++ [key]) (acc ++ [v])) k many' deep))))) := rfl

end Go.Proofs.YtinlfdkalijffaaDoor.Am.Q

/-
  JSON, 26: the document's signs and texts.
-/
namespace Go.Proofs.YtinlfdkalijffaaDoor.Am.Q
open Go Go.Proofs Go.Proofs.YtinlfdkalijffaaDoor.Am

def uLo (f k : Nat) : Nat := if k = 1 ∧ f = 224 then 160 else if k = 1 ∧ f = 240 then 144 else 128
def uHi (f k : Nat) : Nat := if k = 1 ∧ f = 237 then 159 else if k = 1 ∧ f = 244 then 143 else 191
def uGood (f k c : Nat) : Bool := decide (uLo f k ≤ c) && decide (c ≤ uHi f k)
def uCnt (f n : Nat) : Nat → List UInt8 → Nat
  | k, [] => k
  | k, c :: r => if k < n ∧ uGood f k c.toNat = true then uCnt f n (k + 1) r else k
def uBase (n : Nat) : Nat := if n = 2 then 192 else if n = 3 then 224 else if n = 4 then 240 else 0
def uAcc (a : Nat) (l : List UInt8) : Nat := l.foldl (fun a b => a * 64 + (b.toNat - 128)) a
/-- Is the first sign good, how many bytes has it, which is it. -/
def uNext : List UInt8 → Bool × Nat × Nat
  | [] => (false, 0, 0)
  | c :: r => if uSize c.toNat = 0 then (false, 1, 65533) else if uCnt c.toNat (uSize c.toNat) 1 r < uSize c.toNat then (false, uCnt c.toNat (uSize c.toNat) 1 r, 65533) else
      (true, uSize c.toNat, uAcc (c.toNat - uBase (uSize c.toNat)) (r.take (uSize c.toNat - 1)))
def isTF : Nat → List UInt8 → Bool
  | _, [] => true
  | 0, _ :: _ => false
  | f + 1, c :: r => (uNext (c :: r)).1 && isTF f ((c :: r).drop (uNext (c :: r)).2.1)
def isT (s : List UInt8) : Bool := isTF s.length s

theorem rgood_ok (f c : UInt8) (k : Nat) (m : Mem) : CS 58 [.int .u8 f.toNat, .int .i64 k, .int .u8 c.toNat] m (.ret (.bool (uGood f.toNat k c.toNat))) m := by
  refine call_by xfok mixed q58at q58ok rfl ?_
  have fin : ∀ lo hi : Nat, uLo f.toNat k = lo → uHi f.toNat k = hi → ∀ {Q : Bool → Prop}, Q (uGood f.toNat k c.toNat) → (if decide ((c.toNat : Int) ≥ (lo : Int)) = true then Q (decide ((c.toNat : Int) ≤ (hi : Int))) else Q false) := by
    intro lo hi h1 h2 Q hQ
    unfold uGood at hQ
    rw [h1, h2] at hQ
    by_cases a : lo ≤ c.toNat
    · rw [if_pos (dT (by omega))]
      rw [dT a, Bool.true_and] at hQ
      by_cases b : c.toNat ≤ hi
      · rw [dT b] at hQ; rw [dT (by omega)]; exact hQ
      · rw [dF b] at hQ; rw [dF (by omega)]; exact hQ
    · rw [if_neg (by rw [dF (by omega)]; decide)]
      rw [dF a, Bool.false_and] at hQ; exact hQ
  have last : ∀ (lo hi : Nat), uLo f.toNat k = lo → uHi f.toNat k = hi → ∀ (g0 g1 g3 g6 g7 g8 g9 g10 g11 : AV), wc CS (.seq (.region q58r12) .ret) (endsIn [.var 3] (fun v' m1 => v' = AV.bool (uGood f.toNat k c.toNat) ∧ m1 = m) noPan) [g0, g1, .int .u8 c.toNat, g3, .int .u8 lo, .int .u8 hi, g6, g7, g8, g9, g10, g11] m := by
    intro lo hi h1 h2 g0 g1 g3 g6 g7 g8 g9 g10 g11
    have := fin lo hi h1 h2 (Q := fun b => b = uGood f.toNat k c.toNat) rfl
    by_cases a : decide ((c.toNat : Int) ≥ (lo : Int)) = true
    · rw [if_pos a] at this
      simp only [go_sem, reduceIte, Nat.reduceEqDiff, Nat.reduceAdd, q58r12, a, this]
    · rw [if_neg a] at this
      have a' : decide ((c.toNat : Int) ≥ (lo : Int)) = false := by simpa using a
      simp only [go_sem, reduceIte, Nat.reduceEqDiff, Nat.reduceAdd, q58r12, a', ← this]
  by_cases hk : k = 1
  · have e1 : ((k : Int) == 1) = true := bqT (by omega)
    by_cases h1 : f.toNat = 224
    · have a1 : ((f.toNat : Int) == 224) = true := bqT (by omega)
      simp only [go_sem, reduceIte, Nat.reduceEqDiff, Nat.reduceAdd, q58, q58r0, q58r1, q58r2, e1, q58r3, q58r4, a1, q58r5]
      rw [← wc_start]; exact last 160 191 (by simp [uLo, hk, h1]) (by simp [uHi, h1]) _ _ _ _ _ _ _ _ _
    · have a1 : ((f.toNat : Int) == 224) = false := bqF (by omega)
      by_cases h2 : f.toNat = 237
      · have a2 : ((f.toNat : Int) == 237) = true := bqT (by omega)
        simp only [go_sem, reduceIte, Nat.reduceEqDiff, Nat.reduceAdd, q58, q58r0, q58r1, q58r2, e1, q58r3, q58r4, a1, q58r6, a2, q58r7]
        rw [← wc_start]; exact last 128 159 (by simp [uLo, h2]) (by simp [uHi, hk, h2]) _ _ _ _ _ _ _ _ _
      · have a2 : ((f.toNat : Int) == 237) = false := bqF (by omega)
        by_cases h3 : f.toNat = 240
        · have a3 : ((f.toNat : Int) == 240) = true := bqT (by omega)
          simp only [go_sem, reduceIte, Nat.reduceEqDiff, Nat.reduceAdd, q58, q58r0, q58r1, q58r2, e1, q58r3, q58r4, a1, q58r6, a2, q58r8, a3, q58r9]
          rw [← wc_start]; exact last 144 191 (by simp [uLo, hk, h3]) (by simp [uHi, h3]) _ _ _ _ _ _ _ _ _
        · have a3 : ((f.toNat : Int) == 240) = false := bqF (by omega)
          by_cases h4 : f.toNat = 244
          · have a4 : ((f.toNat : Int) == 244) = true := bqT (by omega)
            simp only [go_sem, reduceIte, Nat.reduceEqDiff, Nat.reduceAdd, q58, q58r0, q58r1, q58r2, e1, q58r3, q58r4, a1, q58r6, a2, q58r8, a3, q58r10, a4, q58r11]
            rw [← wc_start]; exact last 128 143 (by simp [uLo, h4]) (by simp [uHi, hk, h4]) _ _ _ _ _ _ _ _ _
          · have a4 : ((f.toNat : Int) == 244) = false := bqF (by omega)
            simp only [go_sem, reduceIte, Nat.reduceEqDiff, Nat.reduceAdd, q58, q58r0, q58r1, q58r2, e1, q58r3, q58r4, a1, q58r6, a2, q58r8, a3, q58r10, a4]
            rw [← wc_start]; exact last 128 191 (by simp [uLo, h1, h3]) (by simp [uHi, h2, h4]) _ _ _ _ _ _ _ _ _
  · have e1 : ((k : Int) == 1) = false := bqF (by omega)
    simp only [go_sem, reduceIte, Nat.reduceEqDiff, Nat.reduceAdd, q58, q58r0, q58r1, q58r2, e1]
    rw [← wc_start]; exact last 128 191 (by simp [uLo, hk]) (by simp [uHi, hk]) _ _ _ _ _ _ _ _ _

theorem uSize_le (c : Nat) : uSize c ≤ 4 := by unfold uSize; split <;> (try split) <;> (try split) <;> (try split) <;> omega
theorem uCnt_ge {f n : Nat} : ∀ {r : List UInt8} {k : Nat}, k ≤ uCnt f n k r
  | [], k => Nat.le_refl k
  | c :: r, k => by
    simp only [uCnt]
    split
    · exact Nat.le_trans (Nat.le_succ k) uCnt_ge
    · exact Nat.le_refl k
theorem uCnt_le {f n : Nat} : ∀ {r : List UInt8} {k : Nat}, k ≤ n → uCnt f n k r ≤ n ∧ uCnt f n k r ≤ k + r.length
  | [], k, h => ⟨h, by simp [uCnt]⟩
  | c :: r, k, h => by
    simp only [uCnt]
    split
    · rename_i hc
      have := uCnt_le (f := f) (n := n) (r := r) (k := k + 1) (by omega)
      simp only [List.length_cons]; omega
    · simp only [List.length_cons]; omega

theorem rnext_cnt {c0 : UInt8} {s : List UInt8} {n : Nat} (hs : s.length < 2 ^ 61) (h0 : s[0]? = some c0) (hn : n ≤ 4) {m : Mem} {Q : AExit → List AV → Mem → Prop} {K : Nat}
    (hx : ∀ g1 g2 g3 g6 g7 g8 g9 g10 g11 g12 g13 g14 g15 g16, Q (.exit 0) [.str s, g1, g2, g3, .int .i64 n, .int .i64 K, g6, g7, g8, g9, g10, g11, g12, g13, g14, g15, g16] m) :
    ∀ (r : List UInt8) (k : Nat) (g1 g2 g3 g6 g7 g8 g9 g10 g11 g12 g13 g14 g15 g16 : AV), s.drop k = r → K = uCnt c0.toNat n k r →
      wl CS [1, 2, 3, 6, 7, 8, 9, 10, 11, 12, 13, 14, 15, 16] q37l9 Q [.str s, g1, g2, g3, .int .i64 n, .int .i64 k, g6, g7, g8, g9, g10, g11, g12, g13, g14, g15, g16] m := by
  intro r
  induction r with
  | nil =>
    intro k g1 g2 g3 g6 g7 g8 g9 g10 g11 g12 g13 g14 g15 g16 hr hK
    refine wl_step ?_
    have hl : s.length ≤ k := by have := congrArg List.length hr; simp at this; omega
    have e2 : decide ((k : Int) < (s.length : Nat)) = false := dF (by omega)
    simp only [uCnt] at hK
    subst hK
    by_cases h1 : K < n
    · have e1 : decide ((K : Int) < (n : Int)) = true := dT (by omega)
      simp only [go_sem, reduceIte, Nat.reduceEqDiff, Nat.reduceAdd, q37l9, q37r7, e1, e2]
      exact hx _ _ _ _ _ _ _ _ _ _ _ _ _ _
    · have e1 : decide ((K : Int) < (n : Int)) = false := dF (by omega)
      simp only [go_sem, reduceIte, Nat.reduceEqDiff, Nat.reduceAdd, q37l9, q37r7, e1]
      exact hx _ _ _ _ _ _ _ _ _ _ _ _ _ _
  | cons c r ih =>
    intro k g1 g2 g3 g6 g7 g8 g9 g10 g11 g12 g13 g14 g15 g16 hr hK
    refine wl_step ?_
    have hc : s[k]? = some c := by
      have := congrArg (·[0]?) hr
      simpa using this
    have hlt := (List.getElem?_eq_some_iff.1 hc).1
    have hr' : s.drop (k + 1) = r := by rw [← List.drop_drop, hr]; rfl
    have e2 : decide ((k : Int) < (s.length : Nat)) = true := dT (by omega)
    have i0 : idxSV (.str s) (.int .i64 0) = some (.int .u8 c0.toNat) := by have := idxS_at (k := .i64) h0; simpa using this
    have hw := wrap_succ (i := k) (by omega)
    simp only [uCnt] at hK
    by_cases h1 : k < n
    · have e1 : decide ((k : Int) < (n : Int)) = true := dT (by omega)
      simp only [go_sem, reduceIte, Nat.reduceEqDiff, Nat.reduceAdd, q37l9, q37r7, e1, e2, i0, idxS_at hc]
      refine callW_ret (rgood_ok c0 c k m) ?_
      cases hg : uGood c0.toNat k c.toNat with
      | true =>
        rw [if_pos ⟨h1, hg⟩] at hK
        simp only [go_sem, reduceIte, Nat.reduceEqDiff, Nat.reduceAdd, q37r8, hw]
        exact ih (k + 1) _ _ _ _ _ _ _ _ _ _ _ _ _ _ hr' hK
      | false =>
        rw [if_neg (by rw [hg]; simp)] at hK
        subst hK
        simp only [go_sem, reduceIte, Nat.reduceEqDiff, Nat.reduceAdd]
        exact hx _ _ _ _ _ _ _ _ _ _ _ _ _ _
    · have e1 : decide ((k : Int) < (n : Int)) = false := dF (by omega)
      rw [if_neg (by simp [h1])] at hK
      subst hK
      simp only [go_sem, reduceIte, Nat.reduceEqDiff, Nat.reduceAdd, q37l9, q37r7, e1]
      exact hx _ _ _ _ _ _ _ _ _ _ _ _ _ _
end Go.Proofs.YtinlfdkalijffaaDoor.Am.Q

/-
  JSON, 27: the document's Next and IsText.
-/
namespace Go.Proofs.YtinlfdkalijffaaDoor.Am.Q
open Go Go.Proofs Go.Proofs.YtinlfdkalijffaaDoor.Am

theorem uAcc_cons {a : Nat} {b : UInt8} {l : List UInt8} : uAcc a (b :: l) = uAcc (a * 64 + (b.toNat - 128)) l := by simp only [uAcc, List.foldl_cons]
theorem uLo_ge (f k : Nat) : 128 ≤ uLo f k := by unfold uLo; split; omega; split <;> omega
theorem uHi_le (f k : Nat) : uHi f k ≤ 191 := by unfold uHi; split; omega; split <;> omega
theorem uGood_ge {f k c : Nat} (h : uGood f k c = true) : 128 ≤ c ∧ c ≤ 191 := by
  simp only [uGood, Bool.and_eq_true, decide_eq_true_eq] at h
  have := uLo_ge f k
  have := uHi_le f k
  omega
theorem uBase_low {c : Nat} (h0 : ¬ uSize c = 0) : uBase (uSize c) ≤ c ∧ c - uBase (uSize c) < 128 := by
  by_cases a1 : c < 0x80
  · have : uSize c = 1 := if_pos a1
    rw [this]; simp [uBase]; omega
  · by_cases a2 : 0xC2 ≤ c ∧ c ≤ 0xDF
    · have : uSize c = 2 := by unfold uSize; rw [if_neg a1, if_pos a2]
      rw [this]; simp [uBase]; omega
    · by_cases a3 : 0xE0 ≤ c ∧ c ≤ 0xEF
      · have : uSize c = 3 := by unfold uSize; rw [if_neg a1, if_neg a2, if_pos a3]
        rw [this]; simp [uBase]; omega
      · by_cases a4 : 0xF0 ≤ c ∧ c ≤ 0xF4
        · have : uSize c = 4 := by unfold uSize; rw [if_neg a1, if_neg a2, if_neg a3, if_pos a4]
          rw [this]; simp [uBase]; omega
        · exact absurd (by unfold uSize; rw [if_neg a1, if_neg a2, if_neg a3, if_neg a4]) h0
theorem uCnt_good {f n : Nat} : ∀ {r : List UInt8} {k : Nat}, k ≤ n → ¬ uCnt f n k r < n → n - k ≤ r.length ∧ ∀ b ∈ r.take (n - k), 128 ≤ b.toNat ∧ b.toNat ≤ 191
  | [], k, h, hk => by
    simp only [uCnt] at hk
    have : n - k = 0 := by omega
    rw [this]; simp
  | c :: r, k, h, hk => by
    simp only [uCnt] at hk
    by_cases hc : k < n ∧ uGood f k c.toNat = true
    · rw [if_pos hc] at hk
      obtain ⟨h1, h2⟩ := uCnt_good (by omega) hk
      have e : n - k = (n - (k + 1)) + 1 := by omega
      refine ⟨by simp only [List.length_cons]; omega, ?_⟩
      rw [e, List.take_succ_cons]
      intro b hb
      rcases List.mem_cons.1 hb with rfl | hb
      · exact uGood_ge hc.2
      · exact h2 b hb
    · rw [if_neg hc] at hk
      have : n - k = 0 := by omega
      rw [this]; simp
theorem rnext_val {s : List UInt8} {n : Nat} (hs : s.length < 2 ^ 61) (hn : n ≤ 4) (hnl : n ≤ s.length) (hgood : ∀ b ∈ (s.drop 1).take (n - 1), 128 ≤ b.toNat ∧ b.toNat ≤ 191) {m : Mem} {Q : AExit → List AV → Mem → Prop} {x : Nat}
    (hx : ∀ g1 g2 g3 g5 g7 g8 g9 g10 g11 g12 g13 g14 g15 g16, Q (.exit 3) [.str s, g1, g2, g3, .int .i64 n, g5, .int .i32 x, g7, g8, g9, g10, g11, g12, g13, g14, g15, g16] m) :
    ∀ (d i a : Nat) (g1 g2 g3 g5 g8 g9 g10 g11 g12 g13 g14 g15 g16 : AV), 1 ≤ i → (i + d = n ∨ (n = 0 ∧ d = 0)) → a < 128 * 64 ^ (i - 1) → x = uAcc a ((s.drop i).take d) →
      wl CS [1, 2, 3, 5, 8, 9, 10, 11, 12, 13, 14, 15, 16] q37l24 Q [.str s, g1, g2, g3, .int .i64 n, g5, .int .i32 a, .int .i64 i, g8, g9, g10, g11, g12, g13, g14, g15, g16] m := by
  intro d
  induction d with
  | zero =>
    intro i a g1 g2 g3 g5 g8 g9 g10 g11 g12 g13 g14 g15 g16 hi hd ha hX
    refine wl_step ?_
    have e1 : decide ((i : Int) < (n : Int)) = false := dF (by omega)
    simp only [List.take_zero, uAcc, List.foldl_nil] at hX
    subst hX
    simp only [go_sem, reduceIte, Nat.reduceEqDiff, Nat.reduceAdd, q37l24, q37r21, e1]
    exact hx _ _ _ _ _ _ _ _ _ _ _ _ _ _
  | succ d ih =>
    intro i a g1 g2 g3 g5 g8 g9 g10 g11 g12 g13 g14 g15 g16 hi hd ha hX
    refine wl_step ?_
    have hin : i < n := by omega
    have e1 : decide ((i : Int) < (n : Int)) = true := dT (by omega)
    have hc : s[i]? = some s[i] := List.getElem?_eq_getElem (by omega)
    rw [take_drop_at hc] at hX
    have hb : 128 ≤ s[i].toNat ∧ s[i].toNat ≤ 191 := by
      refine hgood _ ?_
      refine List.mem_iff_getElem?.2 ⟨i - 1, ?_⟩
      rw [List.getElem?_take, if_pos (by omega), List.getElem?_drop, show 1 + (i - 1) = i by omega]
      exact hc
    have hp : (64 : Nat) ^ (i - 1) ≤ 64 ^ 2 := Nat.pow_le_pow_right (by omega) (by omega)
    have ha2 : a < 524288 := by omega
    have w1 : IntKind.i32.wrap ((a : Int) * 64) = ((a * 64 : Nat) : Int) := by rw [wrap_i32 (by omega)]; omega
    have w2 : IntKind.i32.wrap (s[i].toNat : Int) = (s[i].toNat : Int) := wrap_i32 (by omega)
    have w3 : IntKind.i32.wrap (((a * 64 : Nat) : Int) + (s[i].toNat : Int)) = ((a * 64 + s[i].toNat : Nat) : Int) := by rw [wrap_i32 (by omega)]; omega
    have w4 : IntKind.i32.wrap (((a * 64 + s[i].toNat : Nat) : Int) - 128) = ((a * 64 + (s[i].toNat - 128) : Nat) : Int) := by rw [wrap_i32 (by omega)]; omega
    have hw := wrap_succ (i := i) (by omega)
    simp only [go_sem, reduceIte, Nat.reduceEqDiff, Nat.reduceAdd, q37l24, q37r21, e1, q37r22, idxS_at hc, w1, w2, w3, w4, q37r23, hw]
    refine ih (i + 1) _ _ _ _ _ _ _ _ _ _ _ _ _ _ (by omega) (by omega) ?_ (by rw [hX, uAcc_cons])
    have e : i + 1 - 1 = (i - 1) + 1 := by omega
    rw [e, Nat.pow_succ]; omega

def errU (s : List UInt8) : Nat := if (uNext s).1 = true then 0 else 9
theorem rNext_ok {c : UInt8} {r : List UInt8} (hs : (c :: r).length < 2 ^ 61) (m : Mem) : CS 37 [.str (c :: r)] m (.ret (.tup [.int .i32 (uNext (c :: r)).2.2, .int .i64 (uNext (c :: r)).2.1, .int .i64 (errU (c :: r))])) m := by
  refine call_by xfok mixed q37at q37ok rfl ?_
  simp only [go_sem, reduceIte, Nat.reduceEqDiff, Nat.reduceAdd, q37, q37r0, q37r1, eq_nil, q37r3, idx_0]
  refine callW_ret (rsize_ok c m) ?_
  have hn4 := uSize_le c.toNat
  have hU : uNext (c :: r) = if uSize c.toNat = 0 then (false, 1, 65533) else if uCnt c.toNat (uSize c.toNat) 1 r < uSize c.toNat then (false, uCnt c.toNat (uSize c.toNat) 1 r, 65533) else
      (true, uSize c.toNat, uAcc (c.toNat - uBase (uSize c.toNat)) (r.take (uSize c.toNat - 1))) := rfl
  by_cases h0 : uSize c.toNat = 0
  · have e0 : ((uSize c.toNat : Int) == 0) = true := bqT (by omega)
    rw [if_pos h0] at hU
    simp only [go_sem, reduceIte, Nat.reduceEqDiff, Nat.reduceAdd, q37r4, e0, q37r5]
    simp only [errU, hU]; rfl
  · have e0 : ((uSize c.toNat : Int) == 0) = false := bqF (by omega)
    rw [if_neg h0] at hU
    simp only [go_sem, reduceIte, Nat.reduceEqDiff, Nat.reduceAdd, q37r4, e0, q37r6]
    refine rnext_cnt (c0 := c) hs rfl hn4 (K := uCnt c.toNat (uSize c.toNat) 1 r) (fun g1 g2 g3 g6 g7 g8 g9 g10 g11 g12 g13 g14 g15 g16 => ?_) r 1 _ _ _ _ _ _ _ _ _ _ _ _ _ _ rfl rfl
    by_cases hlt : uCnt c.toNat (uSize c.toNat) 1 r < uSize c.toNat
    · have e1 : decide (((uCnt c.toNat (uSize c.toNat) 1 r : Nat) : Int) < ((uSize c.toNat : Nat) : Int)) = true := dT (by omega)
      rw [if_pos hlt] at hU
      simp only [go_sem, reduceIte, Nat.reduceEqDiff, Nat.reduceAdd, q37r10, e1, q37r11]
      simp only [errU, hU]; simp
    · have e1 : decide (((uCnt c.toNat (uSize c.toNat) 1 r : Nat) : Int) < ((uSize c.toNat : Nat) : Int)) = false := dF (by omega)
      rw [if_neg hlt] at hU
      obtain ⟨hl, hg⟩ := uCnt_good (by omega) hlt
      have hc8 := c.toNat_lt
      have w0 : IntKind.i32.wrap (c.toNat : Int) = (c.toNat : Int) := wrap_i32 (by omega)
      have hlow := uBase_low h0
      have wb : ∀ b : Nat, b ≤ c.toNat → IntKind.i32.wrap ((c.toNat : Int) - (b : Int)) = ((c.toNat - b : Nat) : Int) := by
        intro b hb; rw [wrap_i32 (by omega)]; omega
      have w192 : 192 ≤ c.toNat → IntKind.i32.wrap ((c.toNat : Int) - 192) = ((c.toNat - 192 : Nat) : Int) := wb 192
      have w224 : 224 ≤ c.toNat → IntKind.i32.wrap ((c.toNat : Int) - 224) = ((c.toNat - 224 : Nat) : Int) := wb 224
      have w240 : 240 ≤ c.toNat → IntKind.i32.wrap ((c.toNat : Int) - 240) = ((c.toNat - 240 : Nat) : Int) := wb 240
      have rest : ∀ (a : Nat), a = c.toNat - uBase (uSize c.toNat) → ∀ (g1 g2 g3 g5 g7 g8 g9 g10 g11 g12 g13 g14 g15 g16 : AV), wc CS (.seq (.seq (.region q37r20) (.block 3 (.loop [1, 2, 3, 5, 8, 9, 10, 11, 12, 13, 14, 15, 16] q37l24))) (.seq (.region q37r25) .ret))
          (endsIn [.var 1, .var 2, .var 3] (fun v' m1 => v' = AV.tup [.int .i32 (uNext (c :: r)).2.2, .int .i64 (uNext (c :: r)).2.1, .int .i64 (errU (c :: r))] ∧ m1 = m) noPan) [.str (c :: r), g1, g2, g3, .int .i64 (uSize c.toNat), g5, .int .i32 a, g7, g8, g9, g10, g11, g12, g13, g14, g15, g16] m := by
        rintro a rfl g1 g2 g3 g5 g7 g8 g9 g10 g11 g12 g13 g14 g15 g16
        simp only [go_sem, reduceIte, Nat.reduceEqDiff, Nat.reduceAdd, q37r20]
        refine rnext_val (n := uSize c.toNat) hs hn4 (by simp only [List.length_cons]; omega) (by simpa using hg) (x := uAcc (c.toNat - uBase (uSize c.toNat)) (r.take (uSize c.toNat - 1))) (fun g1 g2 g3 g5 g7 g8 g9 g10 g11 g12 g13 g14 g15 g16 => ?_) (uSize c.toNat - 1) 1 _ _ _ _ _ _ _ _ _ _ _ _ _ _ (by omega) (by omega) (by simpa using hlow.2) rfl
        simp only [go_sem, reduceIte, Nat.reduceEqDiff, Nat.reduceAdd, q37r25]
        simp only [errU, hU]; simp
      have rest' : ∀ (a : Nat), a = c.toNat - uBase (uSize c.toNat) → ∀ (g1 g2 g3 g5 g7 g8 g9 g10 g11 g12 g13 g14 g15 g16 : AV), wo CS { r := q37r20, Q := seqQ CS (.block 3 (.loop [1, 2, 3, 5, 8, 9, 10, 11, 12, 13, 14, 15, 16] q37l24)) (seqQ CS (.seq (.region q37r25) .ret)
          (endsIn [.var 1, .var 2, .var 3] (fun v' m1 => v' = AV.tup [.int .i32 (uNext (c :: r)).2.2, .int .i64 (uNext (c :: r)).2.1, .int .i64 (errU (c :: r))] ∧ m1 = m) noPan)), fr := [.str (c :: r), g1, g2, g3, .int .i64 (uSize c.toNat), g5, .int .i32 a, g7, g8, g9, g10, g11, g12, g13, g14, g15, g16] } [.str (c :: r), g1, g2, g3, .int .i64 (uSize c.toNat), g5, .int .i32 a, g7, g8, g9, g10, g11, g12, g13, g14, g15, g16] (!q37r20.pairs.isEmpty) q37r20.ops [] [] m := by
        intro a ha g1 g2 g3 g5 g7 g8 g9 g10 g11 g12 g13 g14 g15 g16
        have := rest a ha g1 g2 g3 g5 g7 g8 g9 g10 g11 g12 g13 g14 g15 g16
        rw [wc_seq, wc_start] at this
        exact this
      have hsz : uSize c.toNat = 1 ∨ uSize c.toNat = 2 ∨ uSize c.toNat = 3 ∨ uSize c.toNat = 4 := by omega
      have hub : uBase (uSize c.toNat) = (if uSize c.toNat = 2 then 192 else if uSize c.toNat = 3 then 224 else if uSize c.toNat = 4 then 240 else 0) := rfl
      generalize uSize c.toNat = n at *
      rcases hsz with rfl | rfl | rfl | rfl
      · simp only [go_sem, reduceIte, Nat.reduceEqDiff, Nat.reduceAdd, q37r10, e1, q37r12, idx_0, w0, q37r13, q37r14, show (((1 : Nat) : Int) == 2) = false from rfl, q37r16, show (((1 : Nat) : Int) == 3) = false from rfl, q37r18, show (((1 : Nat) : Int) == 4) = false from rfl]
        exact rest' c.toNat (by simp [hub]) _ _ _ _ _ _ _ _ _ _ _ _ _ _
      · simp only [go_sem, reduceIte, Nat.reduceEqDiff, Nat.reduceAdd, q37r10, e1, q37r12, idx_0, w0, q37r13, q37r14, show (((2 : Nat) : Int) == 2) = true from rfl, q37r15, w192 (by simpa [hub] using hlow.1)]
        exact rest' _ (by simp [hub]) _ _ _ _ _ _ _ _ _ _ _ _ _ _
      · simp only [go_sem, reduceIte, Nat.reduceEqDiff, Nat.reduceAdd, q37r10, e1, q37r12, idx_0, w0, q37r13, q37r14, show (((3 : Nat) : Int) == 2) = false from rfl, q37r16, show (((3 : Nat) : Int) == 3) = true from rfl, q37r17, w224 (by simpa [hub] using hlow.1)]
        exact rest' _ (by simp [hub]) _ _ _ _ _ _ _ _ _ _ _ _ _ _
      · simp only [go_sem, reduceIte, Nat.reduceEqDiff, Nat.reduceAdd, q37r10, e1, q37r12, idx_0, w0, q37r13, q37r14, show (((4 : Nat) : Int) == 2) = false from rfl, q37r16, show (((4 : Nat) : Int) == 3) = false from rfl, q37r18, show (((4 : Nat) : Int) == 4) = true from rfl, q37r19, w240 (by simpa [hub] using hlow.1)]
        exact rest' _ (by simp [hub]) _ _ _ _ _ _ _ _ _ _ _ _ _ _

theorem uNext_pos {c : UInt8} {r : List UInt8} : 1 ≤ (uNext (c :: r)).2.1 ∧ (uNext (c :: r)).2.1 ≤ (c :: r).length := by
  have hU : uNext (c :: r) = if uSize c.toNat = 0 then (false, 1, 65533) else if uCnt c.toNat (uSize c.toNat) 1 r < uSize c.toNat then (false, uCnt c.toNat (uSize c.toNat) 1 r, 65533) else
      (true, uSize c.toNat, uAcc (c.toNat - uBase (uSize c.toNat)) (r.take (uSize c.toNat - 1))) := rfl
  rw [hU]
  split
  · simp
  · rename_i h0
    split
    · have h1 := uCnt_ge (f := c.toNat) (n := uSize c.toNat) (r := r) (k := 1)
      have h2 := (uCnt_le (f := c.toNat) (n := uSize c.toNat) (r := r) (k := 1) (by omega)).2
      simp only [List.length_cons]; omega
    · rename_i hlt
      have := (uCnt_good (by omega) hlt).1
      simp only [List.length_cons]; omega
theorem rtext_loop {m : Mem} {B : Bool} {Q : AExit → List AV → Mem → Prop} (hx : B = true → ∀ g0 g1 g2 g3 g4 g5, Q (.exit 0) [g0, g1, g2, g3, g4, g5] m) (hr : B = false → ∀ g0 g2 g3 g4 g5, Q .ret [g0, .bool false, g2, g3, g4, g5] m) :
    ∀ (f : Nat) (s : List UInt8) (g1 g2 g3 g4 g5 : AV), s.length ≤ f → s.length < 2 ^ 61 → B = isTF f s → wl CS [1, 2, 3, 4, 5] q21l6 Q [.str s, g1, g2, g3, g4, g5] m := by
  intro f
  induction f with
  | zero =>
    intro s g1 g2 g3 g4 g5 hf hs hB
    obtain rfl : s = [] := List.eq_nil_of_length_eq_zero (by omega)
    refine wl_step ?_
    have e1 : decide ((([] : List UInt8).length : Int) > 0) = false := by decide
    simp only [go_sem, reduceIte, Nat.reduceEqDiff, Nat.reduceAdd, q21l6, q21r1, e1]
    exact hx (by rw [hB]; rfl) _ _ _ _ _ _
  | succ f ih =>
    intro s g1 g2 g3 g4 g5 hf hs hB
    refine wl_step ?_
    cases s with
    | nil =>
      have e1 : decide ((([] : List UInt8).length : Int) > 0) = false := by decide
      simp only [go_sem, reduceIte, Nat.reduceEqDiff, Nat.reduceAdd, q21l6, q21r1, e1]
      exact hx (by rw [hB]; rfl) _ _ _ _ _ _
    | cons c r =>
      have e1 : decide (((c :: r).length : Int) > 0) = true := dT (by simp only [List.length_cons]; omega)
      have hB' : B = ((uNext (c :: r)).1 && isTF f ((c :: r).drop (uNext (c :: r)).2.1)) := hB
      simp only [go_sem, reduceIte, Nat.reduceEqDiff, Nat.reduceAdd, q21l6, q21r1, e1, q21r2]
      refine callW_ret (rNext_ok hs m) ?_
      obtain ⟨p1, p2⟩ := uNext_pos (c := c) (r := r)
      cases hu : (uNext (c :: r)).1 with
      | true =>
        have e2 : ((errU (c :: r) : Int) != 0) = false := bnF (by simp [errU, hu])
        have hsl := slice_from (s := c :: r) (kk := .i64) (k := (uNext (c :: r)).2.1) p2
        rw [hu, Bool.true_and] at hB'
        simp only [go_sem, reduceIte, Nat.reduceEqDiff, Nat.reduceAdd, q21r3, e2, q21r5, hsl]
        exact ih _ _ _ _ _ _ (by rw [List.length_drop]; omega) (by rw [List.length_drop]; omega) hB'
      | false =>
        have e2 : ((errU (c :: r) : Int) != 0) = true := bnT (by simp [errU, hu])
        rw [hu, Bool.false_and] at hB'
        simp only [go_sem, reduceIte, Nat.reduceEqDiff, Nat.reduceAdd, q21r3, e2, q21r4]
        exact hr hB' _ _ _ _ _
theorem rtext_ok {s : List UInt8} (hs : s.length < 2 ^ 61) (m : Mem) : CS 21 [.str s] m (.ret (.bool (isT s))) m := by
  refine call_by xfok mixed q21at q21ok rfl ?_
  simp only [go_sem, reduceIte, Nat.reduceEqDiff, Nat.reduceAdd, q21, q21r0]
  refine rtext_loop (B := isT s) (fun h g0 g1 g2 g3 g4 g5 => ?_) (fun h g0 g2 g3 g4 g5 => ?_) s.length s _ _ _ _ _ (Nat.le_refl _) hs rfl
  · simp only [go_sem, reduceIte, Nat.reduceEqDiff, Nat.reduceAdd, q21r7, h]
  · simp only [go_sem, reduceIte, Nat.reduceEqDiff, Nat.reduceAdd, h]
end Go.Proofs.YtinlfdkalijffaaDoor.Am.Q

/-
  JSON, 28: the document's Parse.
-/
namespace Go.Proofs.YtinlfdkalijffaaDoor.Am.Q
open Go Go.Proofs Go.Proofs.YtinlfdkalijffaaDoor.Am

/-- What is parsed, and its fault. -/
def parseT (s : List UInt8) : VT × Int × Nat :=
  if 65536 < s.length then (VT.zero, 5, 0) else if isT s = false then (VT.zero, 9, 0) else match parseS s with
    | .error (w, k) => (VT.zero, w, k)
    | .ok v => (v, 0, 0)
theorem extB_ext {p : Nat} {m m' : Mem} (h : ExtB p m m') (hp : m.next ≤ p) : Ext m m' :=
  ⟨fun i hi => h.get i hi (by omega), h.next, h.live, h.ntok, h.tty⟩
theorem ext_extB {p : Nat} {m m' : Mem} (h : Ext m m') : ExtB p m m' := ⟨fun i hi _ => h.get i hi, h.next, h.live, h.ntok, h.tty⟩
abbrev zFault : AObj := .cells 29 [.int .i64 0, .int .i64 0]

theorem pushH_true {m : Mem} {h : List Mem} : pushH true m h = m :: h := rfl
def ParR (s : List UInt8) (m : Mem) (v : AV) (m' : Mem) : Prop := ∃ a, v = .tup [a, .agg [.int .i64 (parseT s).2.1, .int .i64 (parseT s).2.2]] ∧ IsVal a (parseT s).1 ∧ Ext m m'
end Go.Proofs.YtinlfdkalijffaaDoor.Am.Q
