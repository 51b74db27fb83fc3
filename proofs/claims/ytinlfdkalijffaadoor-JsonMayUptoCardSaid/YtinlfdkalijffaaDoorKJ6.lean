import Derived.Test.YtinlfdkalijffaaDoorKJ5
set_option linter.unusedSimpArgs false
set_option linter.unusedVariables false
/-
  JSON, 15: the document's parser: faults, blanks, hex digits.
-/
namespace Go.Proofs.YtinlfdkalijffaaDoor.Am.Q
open Go Go.Proofs Go.Proofs.YtinlfdkalijffaaDoor.Am

/-- The document's parser: text, place, how many, fault. -/
abbrev RP (s : List UInt8) (i many : Nat) (why : Int) (fat : Nat) : AObj := .cells 51 [.str s, .int .i64 i, .int .i64 many, .int .i64 why, .int .i64 fat]
theorem rfail_ok {m : Mem} {p : Nat} {s : List UInt8} {i many : Nat} (hp : m.get p = RP s i many 0 0) (e : Int) (j : Nat) : CS 25 [.ptr p 0, .int .i64 e, .int .i64 j] m (.ret (.tup [])) (m.set p (RP s i many e j)) := by
  refine call_by xfok mixed q25at q25ok rfl ?_
  simp only [go_sem, reduceIte, Nat.reduceEqDiff, Nat.reduceAdd, q25, q25r0, q25r1, hp]
theorem rfail_no {m : Mem} {p : Nat} {s : List UInt8} {i many fat : Nat} {why : Int} (hp : m.get p = RP s i many why fat) (hw : why ≠ 0) (e : Int) (j : Nat) : CS 25 [.ptr p 0, .int .i64 e, .int .i64 j] m (.ret (.tup [])) m := by
  refine call_by xfok mixed q25at q25ok rfl ?_
  have h1 : (why == 0) = false := by simp [hw]
  simp only [go_sem, reduceIte, Nat.reduceEqDiff, Nat.reduceAdd, q25, q25r0, hp, h1]

/-! ### blanks -/
theorem runN_nil {p : UInt8 → Bool} : runN p [] = 0 := rfl
theorem runN_cons {p : UInt8 → Bool} {c : UInt8} {r : List UInt8} : runN p (c :: r) = if p c = true then runN p r + 1 else 0 := by
  simp only [runN, List.takeWhile_cons]; split <;> simp
theorem runN_le {p : UInt8 → Bool} : ∀ {s : List UInt8}, runN p s ≤ s.length
  | [] => Nat.zero_le _
  | c :: r => by
    have := runN_le (p := p) (s := r)
    rw [runN_cons, List.length_cons]; split <;> omega
theorem bqT {n : Nat} {k : Int} (h : (n : Int) = k) : ((n : Int) == k) = true := by simp [h]
theorem bqF {n : Nat} {k : Int} (h : (n : Int) ≠ k) : ((n : Int) == k) = false := by simp [h]
theorem bnT {n : Nat} {k : Int} (h : (n : Int) ≠ k) : ((n : Int) != k) = true := by simp [h]
theorem bnF {n : Nat} {k : Int} (h : (n : Int) = k) : ((n : Int) != k) = false := by simp [h]
theorem dT {p : Prop} [Decidable p] (h : p) : decide p = true := decide_eq_true h
theorem dF {p : Prop} [Decidable p] (h : ¬ p) : decide p = false := decide_eq_false h
theorem wrap_i64 {n : Int} (h : -(2 ^ 63) ≤ n ∧ n < 2 ^ 63) : IntKind.i64.wrap n = n := Go.IntWalk.i64_in _ (by omega)
theorem wrap_succ {i : Nat} (h : i < 2 ^ 62) : IntKind.i64.wrap ((i : Int) + 1) = ((i + 1 : Nat) : Int) := by rw [wrap_i64 (by omega)]; omega
theorem wrap_add {i k : Nat} (h : i + k < 2 ^ 62) : IntKind.i64.wrap ((i : Int) + (k : Int)) = ((i + k : Nat) : Int) := by rw [wrap_i64 (by omega)]; omega
theorem idxS_at {s : List UInt8} {k : IntKind} {i : Nat} {c : UInt8} (h : s[i]? = some c) : idxSV (.str s) (.int k (i : Int)) = some (.int .u8 c.toNat) := by
  simp [idxSV, h, byteAV]
theorem set_self {m : Mem} {i : Nat} {o : AObj} (h : m.get i = o) : m.set i o = m := by
  cases m with
  | mk g n l k t =>
    simp only [Mem.set, Mem.mk.injEq, and_true]
    funext j; split
    · rename_i e; subst e; exact h.symm
    · rfl
theorem isBlk_iff {c : UInt8} : isBlk c = true ↔ c.toNat = 9 ∨ c.toNat = 10 ∨ c.toNat = 13 ∨ c.toNat = 32 := by
  simp [isBlk, isBlkN]
theorem drop_at {s : List UInt8} {i : Nat} {c : UInt8} (h : s[i]? = some c) : s.drop i = c :: s.drop (i + 1) := by
  obtain ⟨hi, rfl⟩ := List.getElem?_eq_some_iff.1 h
  exact List.drop_eq_getElem_cons hi

theorem rblank {p : Nat} {s : List UInt8} {many fat : Nat} {why : Int} {Q : AExit → List AV → Mem → Prop} (hs : s.length < 2 ^ 61) :
    ∀ (n i : Nat) (M : Mem) (g1 g2 g3 : AV), M.get p = RP s i many why fat → runN isBlk (s.drop i) = n → (∀ g1 g2 g3, Q (.exit 0) [.ptr p 0, g1, g2, g3] (M.set p (RP s (i + n) many why fat))) → wl CS [1, 2, 3] q43l3 Q [.ptr p 0, g1, g2, g3] M := by
  intro n
  induction n with
  | zero =>
    intro i M g1 g2 g3 hp hn hq
    refine wl_step ?_
    rw [set_self (by simpa using hp)] at hq
    by_cases hi : i < s.length
    · have hc : s[i]? = some s[i] := by simp [hi]
      rw [drop_at hc, runN_cons] at hn
      have hb : ¬ isBlk s[i] = true := by intro h; rw [if_pos h] at hn; omega
      rw [isBlk_iff] at hb
      have e1 : decide ((i : Int) < (s.length : Nat)) = true := dT (by omega)
      have e9 : ((s[i].toNat : Int) == 9) = false := bqF (by omega)
      have e10 : ((s[i].toNat : Int) == 10) = false := bqF (by omega)
      have e13 : ((s[i].toNat : Int) == 13) = false := bqF (by omega)
      have e32 : ((s[i].toNat : Int) == 32) = false := bqF (by omega)
      simp only [go_sem, reduceIte, Nat.reduceEqDiff, Nat.reduceAdd, q43l3, q43r1, hp, e1, idxS_at hc, e9, e10, e13, e32]
      exact hq _ _ _
    · have e1 : decide ((i : Int) < (s.length : Nat)) = false := dF (by omega)
      simp only [go_sem, reduceIte, Nat.reduceEqDiff, Nat.reduceAdd, q43l3, q43r1, hp, e1]
      exact hq _ _ _
  | succ n ih =>
    intro i M g1 g2 g3 hp hn hq
    refine wl_step ?_
    have hi : i < s.length := by
      have := runN_le (p := isBlk) (s := s.drop i)
      simp at this; omega
    have hc : s[i]? = some s[i] := by simp [hi]
    rw [drop_at hc, runN_cons] at hn
    have hb : isBlk s[i] = true := by
      by_cases h : isBlk s[i] = true
      · exact h
      · rw [if_neg h] at hn; omega
    rw [if_pos hb] at hn
    rw [isBlk_iff] at hb
    have e1 : decide ((i : Int) < (s.length : Nat)) = true := dT (by omega)
    have hw := wrap_succ (show i < 2 ^ 62 by omega)
    have fin : wl CS [1, 2, 3] q43l3 Q [.ptr p 0, .u, .u, .u] (M.set p (RP s (i + 1) many why fat)) := by
      refine ih (i + 1) _ _ _ _ get_set_same (by omega) (fun g1 g2 g3 => ?_)
      rw [set_set, show i + 1 + n = i + (n + 1) by omega]
      exact hq _ _ _
    rcases hb with hb | hb | hb | hb
    · have e9 : ((s[i].toNat : Int) == 9) = true := bqT (by omega)
      simp only [go_sem, reduceIte, Nat.reduceEqDiff, Nat.reduceAdd, q43l3, q43r1, hp, e1, idxS_at hc, e9, q43r2, hw]
      exact fin
    · have e9 : ((s[i].toNat : Int) == 9) = false := bqF (by omega)
      have e10 : ((s[i].toNat : Int) == 10) = true := bqT (by omega)
      simp only [go_sem, reduceIte, Nat.reduceEqDiff, Nat.reduceAdd, q43l3, q43r1, hp, e1, idxS_at hc, e9, e10, q43r2, hw]
      exact fin
    · have e9 : ((s[i].toNat : Int) == 9) = false := bqF (by omega)
      have e10 : ((s[i].toNat : Int) == 10) = false := bqF (by omega)
      have e13 : ((s[i].toNat : Int) == 13) = true := bqT (by omega)
      simp only [go_sem, reduceIte, Nat.reduceEqDiff, Nat.reduceAdd, q43l3, q43r1, hp, e1, idxS_at hc, e9, e10, e13, q43r2, hw]
      exact fin
    · have e9 : ((s[i].toNat : Int) == 9) = false := bqF (by omega)
      have e10 : ((s[i].toNat : Int) == 10) = false := bqF (by omega)
      have e13 : ((s[i].toNat : Int) == 13) = false := bqF (by omega)
      have e32 : ((s[i].toNat : Int) == 32) = true := bqT (by omega)
      simp only [go_sem, reduceIte, Nat.reduceEqDiff, Nat.reduceAdd, q43l3, q43r1, hp, e1, idxS_at hc, e9, e10, e13, e32, q43r2, hw]
      exact fin

/-- What 'next' leaves, where there was no fault. -/
def rnextM (s : List UInt8) (i many : Nat) : AObj × Nat :=
  match nxt s i with
  | .ok (j, c) => (RP s j many 0 0, c.toNat)
  | .error (w, k) => (RP s (skipN s i) many w k, 0)
theorem nxt_some {s : List UInt8} {i : Nat} {c : UInt8} (h : s[skipN s i]? = some c) : nxt s i = .ok (skipN s i, c) := by simp [nxt, h]
theorem nxt_none {s : List UInt8} {i : Nat} (h : s[skipN s i]? = none) : nxt s i = .error (4, s.length) := by simp [nxt, h]
theorem rnext_ok {m : Mem} {p : Nat} {s : List UInt8} {i many : Nat} (hs : s.length < 2 ^ 61) (hp : m.get p = RP s i many 0 0) : CS 43 [.ptr p 0] m (.ret (.int .u8 (rnextM s i many).2)) (m.set p (rnextM s i many).1) := by
  refine call_by xfok mixed q43at q43ok rfl ?_
  simp only [go_sem, reduceIte, Nat.reduceEqDiff, Nat.reduceAdd, q43, q43r0]
  refine rblank hs _ i m _ _ _ hp rfl (fun g1 g2 g3 => ?_)
  cases hc : s[skipN s i]? with
  | some c =>
    have hi := (List.getElem?_eq_some_iff.1 hc).1
    have e1 : decide (((i + runN isBlk (s.drop i) : Nat) : Int) ≥ (s.length : Nat)) = false := dF (by simp only [skipN] at hi; omega)
    simp only [rnextM, nxt_some hc]
    simp only [skipN] at hc ⊢
    simp only [go_sem, reduceIte, Nat.reduceEqDiff, Nat.reduceAdd, q43r4, e1, q43r7, idxS_at hc]
  | none =>
    have hi := List.getElem?_eq_none_iff.1 hc
    have e1 : decide (((i + runN isBlk (s.drop i) : Nat) : Int) ≥ (s.length : Nat)) = true := dT (by simp only [skipN] at hi; omega)
    simp only [rnextM, nxt_none hc]
    simp only [skipN] at hc ⊢
    simp only [go_sem, reduceIte, Nat.reduceEqDiff, Nat.reduceAdd, q43r4, e1, q43r5]
    refine callW_ret (rfail_ok get_set_same 4 s.length) ?_
    simp only [go_sem, reduceIte, Nat.reduceEqDiff, Nat.reduceAdd, q43r6]
    rfl
/-- .. and behind a fault. -/
theorem rnext_no {m : Mem} {p : Nat} {s : List UInt8} {i many fat : Nat} {why : Int} (hs : s.length < 2 ^ 61) (hw : why ≠ 0) (hp : m.get p = RP s i many why fat) : ∃ n : Nat, CS 43 [.ptr p 0] m (.ret (.int .u8 n)) (m.set p (RP s (skipN s i) many why fat)) := by
  cases hc : s[skipN s i]? with
  | some c =>
    refine ⟨c.toNat, call_by xfok mixed q43at q43ok rfl ?_⟩
    simp only [go_sem, reduceIte, Nat.reduceEqDiff, Nat.reduceAdd, q43, q43r0]
    refine rblank hs _ i m _ _ _ hp rfl (fun g1 g2 g3 => ?_)
    have hi := (List.getElem?_eq_some_iff.1 hc).1
    have e1 : decide (((i + runN isBlk (s.drop i) : Nat) : Int) ≥ (s.length : Nat)) = false := dF (by simp only [skipN] at hi; omega)
    simp only [skipN] at hc ⊢
    simp only [go_sem, reduceIte, Nat.reduceEqDiff, Nat.reduceAdd, q43r4, e1, q43r7, idxS_at hc]
  | none =>
    refine ⟨0, call_by xfok mixed q43at q43ok rfl ?_⟩
    simp only [go_sem, reduceIte, Nat.reduceEqDiff, Nat.reduceAdd, q43, q43r0]
    refine rblank hs _ i m _ _ _ hp rfl (fun g1 g2 g3 => ?_)
    have hi := List.getElem?_eq_none_iff.1 hc
    have e1 : decide (((i + runN isBlk (s.drop i) : Nat) : Int) ≥ (s.length : Nat)) = true := dT (by simp only [skipN] at hi; omega)
    simp only [skipN] at hc ⊢
    simp only [go_sem, reduceIte, Nat.reduceEqDiff, Nat.reduceAdd, q43r4, e1, q43r5]
    refine callW_ret (rfail_no get_set_same hw 4 s.length) ?_
    simp only [go_sem, reduceIte, Nat.reduceEqDiff, Nat.reduceAdd, q43r6]
    rfl
end Go.Proofs.YtinlfdkalijffaaDoor.Am.Q

/-
  JSON, 16: the document's parser: hex digits, escapes.
-/
namespace Go.Proofs.YtinlfdkalijffaaDoor.Am.Q
open Go Go.Proofs Go.Proofs.YtinlfdkalijffaaDoor.Am

theorem nib_le (c : UInt8) : nib c ≤ 16 := by
  unfold nib nibN
  by_cases h1 : isDigN c.toNat = true
  · rw [if_pos h1]; simp [isDigN] at h1; omega
  · rw [if_neg h1]
    by_cases h2 : 97 ≤ c.toNat ∧ c.toNat ≤ 102
    · rw [if_pos h2]; omega
    · rw [if_neg h2]
      by_cases h3 : 65 ≤ c.toNat ∧ c.toNat ≤ 70
      · rw [if_pos h3]; omega
      · rw [if_neg h3]; omega
def bad (c : UInt8) : Bool := decide (nib c = 16)
theorem bad_iff {c : UInt8} : bad c = true ↔ 15 < nib c := by
  have := nib_le c
  simp [bad]; omega
theorem bad_not {c : UInt8} (h : bad c = false) : nib c ≤ 15 := by
  have := nib_le c
  simp [bad] at h; omega
theorem take_drop_at {s : List UInt8} {i r : Nat} {c : UInt8} (h : s[i]? = some c) : (s.drop i).take (r + 1) = c :: (s.drop (i + 1)).take r := by
  rw [drop_at h, List.take_succ_cons]

theorem rallhex_loop {p : Nat} {s : List UInt8} {i many fault : Nat} {m : Mem} (hs : s.length < 2 ^ 61) (hp : m.get p = RP s i many 0 0) {a : Nat} (ha : a < 2 ^ 61) {Q : AExit → List AV → Mem → Prop}
    (hx : ((s.drop a).take 4).any bad = false → ∀ g3 g4 g5 g6, Q (.exit 0) [.ptr p 0, .int .i64 a, .int .i64 fault, g3, g4, g5, g6] m) (hr : ((s.drop a).take 4).any bad = true → ∀ g0 g2 g4 g5 g6, Q .ret [g0, .int .i64 a, g2, .bool false, g4, g5, g6] (m.set p (RP s i many 3 fault))) :
    ∀ (r k : Nat) (g3 g5 g6 : AV), r + k = 4 → ((s.drop a).take 4).any bad = ((s.drop (a + k)).take r).any bad → wl CS [3, 5, 6] q86l7 Q [.ptr p 0, .int .i64 a, .int .i64 fault, g3, .int .i64 k, g5, g6] m := by
  intro r
  induction r with
  | zero =>
    intro k g3 g5 g6 hk ht
    refine wl_step ?_
    have e1 : decide ((k : Int) < 4) = false := dF (by omega)
    simp only [go_sem, reduceIte, Nat.reduceEqDiff, Nat.reduceAdd, q86l7, q86r2, e1]
    exact hx (by rw [ht]; simp) _ _ _ _
  | succ r ih =>
    intro k g3 g5 g6 hk ht
    refine wl_step ?_
    have e1 : decide ((k : Int) < 4) = true := dT (by omega)
    have hw := wrap_add (i := a) (k := k) (by omega)
    have hw2 := wrap_succ (i := k) (by omega)
    cases hc : s[a + k]? with
    | some c =>
      have hi := (List.getElem?_eq_some_iff.1 hc).1
      have e2 : decide (((a + k : Nat) : Int) < (s.length : Nat)) = true := dT (by omega)
      rw [take_drop_at hc, List.any_cons] at ht
      simp only [go_sem, reduceIte, Nat.reduceEqDiff, Nat.reduceAdd, q86l7, q86r2, e1, hw, hp, e2, q86r3, idxS_at hc]
      refine callW_ret (rnib_ok c m) ?_
      simp only [go_sem, reduceIte, Nat.reduceEqDiff, Nat.reduceAdd]
      cases hb : bad c with
      | true =>
        have e3 : decide ((nib c : Int) > 15) = true := dT (by have := bad_iff.1 hb; omega)
        rw [hb, Bool.true_or] at ht
        simp only [go_sem, reduceIte, Nat.reduceEqDiff, Nat.reduceAdd, e3, q86r4]
        refine callW_ret (rfail_ok hp 3 fault) ?_
        simp only [go_sem, reduceIte, Nat.reduceEqDiff, Nat.reduceAdd, q86r5]
        exact hr ht _ _ _ _ _
      | false =>
        have e3 : decide ((nib c : Int) > 15) = false := dF (by have := bad_not hb; omega)
        rw [hb, Bool.false_or] at ht
        simp only [go_sem, reduceIte, Nat.reduceEqDiff, Nat.reduceAdd, e3, q86r6, hw2]
        exact ih (k + 1) _ _ _ (by omega) ht
    | none =>
      have hi := List.getElem?_eq_none_iff.1 hc
      have e2 : decide (((a + k : Nat) : Int) < (s.length : Nat)) = false := dF (by omega)
      simp only [go_sem, reduceIte, Nat.reduceEqDiff, Nat.reduceAdd, q86l7, q86r2, e1, hw, hp, e2]
      exact hx (by rw [ht, List.drop_of_length_le (by omega)]; simp) _ _ _ _
theorem rallhex_ok {m : Mem} {p : Nat} {s : List UInt8} {i many : Nat} (hs : s.length < 2 ^ 61) (hp : m.get p = RP s i many 0 0) {a fault : Nat} (ha : a < 2 ^ 61) :
    CS 86 [.ptr p 0, .int .i64 a, .int .i64 fault] m (.ret (.bool (!((s.drop a).take 4).any bad))) (if ((s.drop a).take 4).any bad = true then m.set p (RP s i many 3 fault) else m) := by
  refine call_by xfok mixed q86at q86ok rfl ?_
  simp only [go_sem, reduceIte, Nat.reduceEqDiff, Nat.reduceAdd, q86, q86r0, q86r1]
  refine rallhex_loop hs hp ha (fun h g3 g4 g5 g6 => ?_) (fun h g0 g2 g4 g5 g6 => ?_) 4 0 _ _ _ rfl rfl
  · simp only [go_sem, reduceIte, Nat.reduceEqDiff, Nat.reduceAdd, q86r8, h]
  · simp only [go_sem, reduceIte, Nat.reduceEqDiff, Nat.reduceAdd, h]

def hexA (n : Nat) (l : List UInt8) : Nat := l.foldl (fun n c => n * 16 + nib c) n
theorem wrap_i32 {n : Int} (h : -(2 ^ 31) ≤ n ∧ n < 2 ^ 31) : IntKind.i32.wrap n = n := by
  simp [IntKind.wrap, IntKind.signed, IntKind.bits]; omega
theorem rhex_loop {p : Nat} {s : List UInt8} {i many fault : Nat} {m : Mem} (hs : s.length < 2 ^ 61) (hp : m.get p = RP s i many 0 0) {a : Nat} (ha : a < 2 ^ 61) (hbad : ((s.drop a).take 4).any bad = false) {Q : AExit → List AV → Mem → Prop}
    (hx : ((s.drop a).take 4).length = 4 → ∀ g3 g5 g6 g7 g8 g9, Q (.exit 0) [.ptr p 0, .int .i64 a, .int .i64 fault, g3, .int .i32 (hexN ((s.drop a).take 4)), g5, g6, g7, g8, g9] m)
    (hr : ((s.drop a).take 4).length < 4 → ∀ g0 g2 g4 g5 g6 g7 g8 g9, Q .ret [g0, .int .i64 a, g2, .int .i32 0, g4, g5, g6, g7, g8, g9] (m.set p (RP s i many 4 s.length))) :
    ∀ (r k n : Nat) (g3 g6 g7 g8 g9 : AV), r + k = 4 → k ≤ s.length - a → n < 16 ^ k → ((s.drop (a + k)).take r).any bad = false → hexN ((s.drop a).take 4) = hexA n ((s.drop (a + k)).take r) →
      wl CS [3, 6, 7, 8, 9] q87l13 Q [.ptr p 0, .int .i64 a, .int .i64 fault, g3, .int .i32 n, .int .i64 k, g6, g7, g8, g9] m := by
  intro r
  induction r with
  | zero =>
    intro k n g3 g6 g7 g8 g9 hk hkl hn hb ht
    refine wl_step ?_
    have e1 : decide ((k : Int) < 4) = false := dF (by omega)
    simp only [go_sem, reduceIte, Nat.reduceEqDiff, Nat.reduceAdd, q87l13, q87r3, e1]
    have := hx (by simp; omega)
    rw [ht] at this
    exact this _ _ _ _ _ _
  | succ r ih =>
    intro k n g3 g6 g7 g8 g9 hk hkl hn hb ht
    refine wl_step ?_
    have e1 : decide ((k : Int) < 4) = true := dT (by omega)
    have hw := wrap_add (i := a) (k := k) (by omega)
    have hw2 := wrap_succ (i := k) (by omega)
    cases hc : s[a + k]? with
    | some c =>
      have hi := (List.getElem?_eq_some_iff.1 hc).1
      have e2 : decide (((a + k : Nat) : Int) ≥ (s.length : Nat)) = false := dF (by omega)
      rw [take_drop_at hc, List.any_cons, Bool.or_eq_false_iff] at hb
      rw [take_drop_at hc] at ht
      simp only [go_sem, reduceIte, Nat.reduceEqDiff, Nat.reduceAdd, q87l13, q87r3, e1, q87r4, hw, hp, e2, q87r7, idxS_at hc]
      refine callW_ret (rnib_ok c m) ?_
      have hnb := bad_not hb.1
      have e3 : decide ((nib c : Int) > 15) = false := dF (by omega)
      have hn4 : n < 4096 := by
        have : (16 : Nat) ^ k ≤ 16 ^ 3 := Nat.pow_le_pow_right (by omega) (by omega)
        omega
      have w1 : IntKind.i32.wrap ((n : Int) * 16) = ((n * 16 : Nat) : Int) := by rw [wrap_i32 (by omega)]; omega
      have w2 : IntKind.i32.wrap (nib c : Int) = (nib c : Int) := wrap_i32 (by omega)
      have w3 : IntKind.i32.wrap (((n * 16 : Nat) : Int) + (nib c : Int)) = ((n * 16 + nib c : Nat) : Int) := by rw [wrap_i32 (by omega)]; omega
      simp only [go_sem, reduceIte, Nat.reduceEqDiff, Nat.reduceAdd, q87r8, e3, q87r11, w1, w2, w3, q87r12, hw2]
      refine ih (k + 1) (n * 16 + nib c) _ _ _ _ _ (by omega) (by omega) ?_ hb.2 ht
      rw [Nat.pow_succ]; omega
    | none =>
      have hi := List.getElem?_eq_none_iff.1 hc
      have e2 : decide (((a + k : Nat) : Int) ≥ (s.length : Nat)) = true := dT (by omega)
      simp only [go_sem, reduceIte, Nat.reduceEqDiff, Nat.reduceAdd, q87l13, q87r3, e1, q87r4, hw, hp, e2, q87r5]
      refine callW_ret (rfail_ok hp 4 s.length) ?_
      simp only [go_sem, reduceIte, Nat.reduceEqDiff, Nat.reduceAdd, q87r6]
      exact hr (by simp; omega) _ _ _ _ _ _ _ _
theorem rhex_ok {m : Mem} {p : Nat} {s : List UInt8} {i many : Nat} (hs : s.length < 2 ^ 61) (hp : m.get p = RP s i many 0 0) {a fault : Nat} (ha : a < 2 ^ 61) (hbad : ((s.drop a).take 4).any bad = false) :
    CS 87 [.ptr p 0, .int .i64 a, .int .i64 fault] m (.ret (.int .i32 (if ((s.drop a).take 4).length < 4 then 0 else hexN ((s.drop a).take 4) : Nat))) (if ((s.drop a).take 4).length < 4 then m.set p (RP s i many 4 s.length) else m) := by
  refine call_by xfok mixed q87at q87ok rfl ?_
  simp only [go_sem, reduceIte, Nat.reduceEqDiff, Nat.reduceAdd, q87, q87r0, q87r1, q87r2]
  refine rhex_loop hs hp ha hbad (fun h g3 g5 g6 g7 g8 g9 => ?_) (fun h g0 g2 g4 g5 g6 g7 g8 g9 => ?_) 4 0 0 _ _ _ _ _ rfl (Nat.zero_le _) (by simp) hbad rfl
  · simp only [go_sem, reduceIte, Nat.reduceEqDiff, Nat.reduceAdd, q87r14]
    rw [if_neg (by omega), if_neg (by omega)]
    exact ⟨rfl, rfl⟩
  · simp only [go_sem, reduceIte, Nat.reduceEqDiff, Nat.reduceAdd]
    rw [if_pos h, if_pos h]
    exact ⟨rfl, rfl⟩
end Go.Proofs.YtinlfdkalijffaaDoor.Am.Q

/-
  JSON, 17: the document's signs as bytes.
-/
namespace Go.Proofs.YtinlfdkalijffaaDoor.Am.Q
open Go Go.Proofs Go.Proofs.YtinlfdkalijffaaDoor.Am

theorem wrap_u8 {n : Int} : IntKind.u8.wrap n = n % 256 := by simp [IntKind.wrap, IntKind.signed, IntKind.bits]
theorem right_ok (n : Int) (m : Mem) : CS 108 [.int .i32 n] m (.ret (.bool (Utf8.valid n))) m := by
  refine call_by xfok mixed q108at q108ok rfl ?_
  by_cases h1 : n ≥ 0
  · by_cases h2 : n ≤ 1114111
    · by_cases h3 : n < 55296
      · have hv : Utf8.valid n = true := by simp [Utf8.valid]; omega
        simp only [go_sem, reduceIte, Nat.reduceEqDiff, Nat.reduceAdd, q108, q108r0, q108r1, dT h1, dT h2, dT h3, hv]
      · by_cases h4 : n > 57343
        · have hv : Utf8.valid n = true := by simp [Utf8.valid]; omega
          simp only [go_sem, reduceIte, Nat.reduceEqDiff, Nat.reduceAdd, q108, q108r0, q108r1, dT h1, dT h2, dF h3, dT h4, hv]
        · have hv : Utf8.valid n = false := by simp [Utf8.valid]; omega
          simp only [go_sem, reduceIte, Nat.reduceEqDiff, Nat.reduceAdd, q108, q108r0, q108r1, dT h1, dT h2, dF h3, dF h4, hv]
    · have hv : Utf8.valid n = false := by simp [Utf8.valid]; omega
      simp only [go_sem, reduceIte, Nat.reduceEqDiff, Nat.reduceAdd, q108, q108r0, q108r1, dT h1, dF h2, hv]
  · have hv : Utf8.valid n = false := by simp [Utf8.valid]; omega
    simp only [go_sem, reduceIte, Nat.reduceEqDiff, Nat.reduceAdd, q108, q108r0, q108r1, dF h1, hv]

def b8 (n : Nat) : UInt8 := UInt8.ofNat n
theorem byte_is {x : Int} {k : Nat} (h : x = (k : Int) % 256) : AV.int .u8 x = byteAV (b8 k) := by
  subst h; simp [byteAV, b8]
theorem put1 {n : Nat} (h : n < 0x80) : putN n = [b8 n] := by
  have hv : Utf8.valid (n : Int) = true := by simp [Utf8.valid]; omega
  simp [putN, Utf8.encode, hv, h, b8]
theorem put2 {n : Nat} (h1 : ¬ n < 0x80) (h2 : n < 0x800) : putN n = [b8 (0xC0 + n / 64), b8 (0x80 + n % 64)] := by
  have hv : Utf8.valid (n : Int) = true := by simp [Utf8.valid]; omega
  simp [putN, Utf8.encode, hv, h1, h2, b8]
theorem put3 {n : Nat} (hv : Utf8.valid (n : Int) = true) (h1 : ¬ n < 0x80) (h2 : ¬ n < 0x800) (h3 : n < 0x10000) : putN n = [b8 (0xE0 + n / 4096), b8 (0x80 + n / 64 % 64), b8 (0x80 + n % 64)] := by
  simp [putN, Utf8.encode, hv, h1, h2, h3, b8]
theorem put4 {n : Nat} (hv : Utf8.valid (n : Int) = true) (h1 : ¬ n < 0x80) (h2 : ¬ n < 0x800) (h3 : ¬ n < 0x10000) : putN n = [b8 (0xF0 + n / 262144), b8 (0x80 + n / 4096 % 64), b8 (0x80 + n / 64 % 64), b8 (0x80 + n % 64)] := by
  simp [putN, Utf8.encode, hv, h1, h2, h3, b8]
theorem put0 {n : Int} (hv : Utf8.valid n = false) : putN n = putN 65533 := by
  have h2 : Utf8.valid 65533 = true := by decide
  simp [putN, Utf8.encode, hv, h2, Utf8.runeError]
theorem tdivN {n k : Nat} : (n : Int).tdiv (k : Int) = ((n / k : Nat) : Int) := by rw [Int.tdiv_eq_ediv_of_nonneg (by omega)]; rfl
theorem tmodN {n k : Nat} : (n : Int).tmod (k : Int) = ((n % k : Nat) : Int) := by rw [Int.tmod_eq_emod_of_nonneg (by omega)]; rfl

theorem one_good {n : Nat} (hv : Utf8.valid (n : Int) = true) (m : Mem) : CS 101 [.int .i32 n] m (.ret (.sl .full 1 (bytesAV (putN n)))) m := by
  have hb : n ≤ 0x10FFFF := by simp [Utf8.valid] at hv; omega
  refine call_by xfok mixed q101at q101ok rfl ?_
  simp only [go_sem, reduceIte, Nat.reduceEqDiff, Nat.reduceAdd, q101, q101r0, q101r1]
  refine callW_ret (right_ok n m) ?_
  simp only [go_sem, reduceIte, Nat.reduceEqDiff, Nat.reduceAdd, hv]
  have d64 : (n : Int).tdiv 64 = ((n / 64 : Nat) : Int) := tdivN (k := 64)
  have d4096 : (n : Int).tdiv 4096 = ((n / 4096 : Nat) : Int) := tdivN (k := 4096)
  have d26 : (n : Int).tdiv 262144 = ((n / 262144 : Nat) : Int) := tdivN (k := 262144)
  have m64 : (n : Int).tmod 64 = ((n % 64 : Nat) : Int) := tmodN (k := 64)
  have m64' : ((n / 64 : Nat) : Int).tmod 64 = ((n / 64 % 64 : Nat) : Int) := tmodN (k := 64)
  have m4096' : ((n / 4096 : Nat) : Int).tmod 64 = ((n / 4096 % 64 : Nat) : Int) := tmodN (k := 64)
  have z64 : ((64 : Int) = 0) = False := by simp
  have z4096 : ((4096 : Int) = 0) = False := by simp
  have z26 : ((262144 : Int) = 0) = False := by simp
  have w64 : IntKind.i32.wrap ((n / 64 : Nat) : Int) = ((n / 64 : Nat) : Int) := wrap_i32 (by omega)
  have w4096 : IntKind.i32.wrap ((n / 4096 : Nat) : Int) = ((n / 4096 : Nat) : Int) := wrap_i32 (by omega)
  have w26 : IntKind.i32.wrap ((n / 262144 : Nat) : Int) = ((n / 262144 : Nat) : Int) := wrap_i32 (by omega)
  by_cases h1 : n < 0x80
  · have e1 : decide ((n : Int) < 128) = true := dT (by omega)
    simp only [go_sem, reduceIte, Nat.reduceEqDiff, Nat.reduceAdd, q101r3, e1, q101r4, wrap_u8]
    rw [put1 h1, byte_is (k := n) (by omega)]
    rfl
  · have e1 : decide ((n : Int) < 128) = false := dF (by omega)
    by_cases h2 : n < 0x800
    · have e2 : decide ((n : Int) < 2048) = true := dT (by omega)
      simp only [go_sem, reduceIte, Nat.reduceEqDiff, Nat.reduceAdd, q101r3, e1, q101r5, e2, q101r6, d64, m64, z64, w64, wrap_u8]
      rw [put2 h1 h2, byte_is (k := 0xC0 + n / 64) (by omega), byte_is (k := 0x80 + n % 64) (by omega)]
      rfl
    · have e2 : decide ((n : Int) < 2048) = false := dF (by omega)
      by_cases h3 : n < 0x10000
      · have e3 : decide ((n : Int) < 65536) = true := dT (by omega)
        simp only [go_sem, reduceIte, Nat.reduceEqDiff, Nat.reduceAdd, q101r3, e1, q101r5, e2, q101r7, e3, q101r8, d64, d4096, m64, m64', z64, z4096, w64, w4096, wrap_u8]
        rw [put3 hv h1 h2 h3, byte_is (k := 0xE0 + n / 4096) (by omega), byte_is (k := 0x80 + n / 64 % 64) (by omega), byte_is (k := 0x80 + n % 64) (by omega)]
        rfl
      · have e3 : decide ((n : Int) < 65536) = false := dF (by omega)
        simp only [go_sem, reduceIte, Nat.reduceEqDiff, Nat.reduceAdd, q101r3, e1, q101r5, e2, q101r7, e3, q101r9, d64, d4096, d26, m64, m64', m4096', z64, z4096, z26, w64, w4096, w26, wrap_u8]
        rw [put4 hv h1 h2 h3, byte_is (k := 0xF0 + n / 262144) (by omega), byte_is (k := 0x80 + n / 4096 % 64) (by omega), byte_is (k := 0x80 + n / 64 % 64) (by omega), byte_is (k := 0x80 + n % 64) (by omega)]
        rfl
theorem one_ok (n : Int) (m : Mem) : CS 101 [.int .i32 n] m (.ret (.sl .full 1 (bytesAV (putN n)))) m := by
  cases hv : Utf8.valid n with
  | true =>
    obtain ⟨k, rfl⟩ : ∃ k : Nat, n = k := ⟨n.toNat, by simp [Utf8.valid] at hv; omega⟩
    exact one_good hv m
  | false =>
    refine call_by xfok mixed q101at q101ok rfl ?_
    simp only [go_sem, reduceIte, Nat.reduceEqDiff, Nat.reduceAdd, q101, q101r0, q101r1]
    refine callW_ret (right_ok n m) ?_
    simp only [go_sem, reduceIte, Nat.reduceEqDiff, Nat.reduceAdd, hv, q101r2]
    refine callW_ret (one_good (n := 65533) (by decide) m) ?_
    simp only [go_sem, reduceIte, Nat.reduceEqDiff, Nat.reduceAdd]
    rw [put0 hv]
    rfl

theorem putN_len (n : Int) : 0 < (putN n).length ∧ (putN n).length ≤ 4 := by
  have good : ∀ k : Nat, Utf8.valid (k : Int) = true → 0 < (putN k).length ∧ (putN k).length ≤ 4 := by
    intro k hv
    by_cases h1 : k < 0x80
    · rw [put1 h1]; simp
    · by_cases h2 : k < 0x800
      · rw [put2 h1 h2]; simp
      · by_cases h3 : k < 0x10000
        · rw [put3 hv h1 h2 h3]; simp
        · rw [put4 hv h1 h2 h3]; simp
  cases hv : Utf8.valid n with
  | true =>
    obtain ⟨k, rfl⟩ : ∃ k : Nat, n = k := ⟨n.toNat, by simp [Utf8.valid] at hv; omega⟩
    exact good k hv
  | false => rw [put0 hv]; exact good 65533 (by decide)
theorem bytes_good (l : List UInt8) : (bytesAV l).all (fun y => y.cells.length == 1 && y.cells.all scal) = true := by
  simp [bytesAV, byteAV, AV.cells, scal]
/-- U.Put of no bytes and one sign. -/
theorem rput_ok (n : Int) (m : Mem) : CS 88 [.nilSl, .sl .full 1 [.int .i32 n]] m (.ret (.sl (.tok m.ntok) 1 (bytesAV (putN n)))) (m.newTok 5) := by
  refine call_by xfok mixed q88at q88ok rfl ?_
  have hl := putN_len n
  have hb : ((bytesAV (putN n)).length * 1 ≤ roomMax) := by simp only [bytesAV, List.length_map, roomMax]; omega
  have hne : ¬ bytesAV (putN n) = [] := by
    intro h; have := congrArg List.length h; simp [bytesAV] at this; rw [this] at hl; simp at hl
  have ea : appendV m 5 1 1 .nilSl (bytesAV (putN n)) = some (.sl (.tok m.ntok) 1 (bytesAV (putN n)), m.newTok 5) := by
    simp only [appendV]; rw [if_neg hne, if_pos ⟨hb, bytes_good _⟩]
  have e0 : appendV m 5 1 1 .nilSl [] = some (.nilSl, m) := rfl
  simp only [go_sem, reduceIte, Nat.reduceEqDiff, Nat.reduceAdd, q88, q88r0, q88r1, q88r2, elems, e0]
  refine wl_step ?_
  have e1 : decide ((0 : Int) < 1) = true := by decide
  have e2 : decide ((1 : Int) < 1) = false := by decide
  have w1 : IntKind.i64.wrap (0 + 1) = 1 := by decide
  have i0 : idxAddrV 1 (.sl .full 1 [.int .i32 n]) (.int .i64 0) = some (.sptr [.int .i32 n] 0) := rfl
  have l0 : ∀ m, lenV m (.sl .full 1 [.int .i32 n]) = some (.int .i64 1) := fun _ => rfl
  have k0 : isLK .sli (.sl .full 1 [.int .i32 n]) = true := rfl
  simp only [go_sem, reduceIte, Nat.reduceEqDiff, Nat.reduceAdd, q88l6, q88r3, k0, l0, e1, q88r4, i0]
  refine callW_ret (one_ok n m) ?_
  simp only [go_sem, reduceIte, Nat.reduceEqDiff, Nat.reduceAdd, elems, ea, q88r5, w1]
  refine wl_step ?_
  simp only [go_sem, reduceIte, Nat.reduceEqDiff, Nat.reduceAdd, q88l6, q88r3, k0, l0, e2, q88r7]
end Go.Proofs.YtinlfdkalijffaaDoor.Am.Q

/-
  JSON, 18: the document's parser: escapes.
-/
namespace Go.Proofs.YtinlfdkalijffaaDoor.Am.Q
open Go Go.Proofs Go.Proofs.YtinlfdkalijffaaDoor.Am

def escL : List UInt8 := [98, 116, 110, 102, 114, 34, 92, 47]
def escT : List UInt8 := [8, 9, 10, 12, 13, 34, 92, 47]
theorem escIdx_eq {c : UInt8} : escIdx c = escL.findIdx? (· == c) := rfl
theorem u8_beq {a b : UInt8} : ((a.toNat : Int) == (b.toNat : Int)) = (a == b) := by
  rw [Bool.eq_iff_iff]
  simp only [beq_iff_eq]
  constructor
  · intro h; exact UInt8.toNat_inj.1 (by omega)
  · intro h; rw [h]
theorem findIdx_drop {c : UInt8} {l : List UInt8} {k : Nat} {b : UInt8} (h : l[k]? = some b) : (l.drop k).findIdx? (· == c) = if b == c then some 0 else ((l.drop (k + 1)).findIdx? (· == c)).map (· + 1) := by
  rw [drop_at h, List.findIdx?_cons]

theorem resc_find {p : Nat} {s : List UInt8} {i many : Nat} {m : Mem} (hs : s.length < 2 ^ 60) (hi : i < s.length) (hp : m.get p = RP s i many 0 0) {c : UInt8} {Q : AExit → List AV → Mem → Prop}
    (hx : escIdx c = none → ∀ g1 g6 g7 g8 g9 g10 g11 g12 g13 g14 g15 g16 g17 g18 g19 g20 g21 g22, Q (.exit 0) [.ptr p 0, g1, .int .i64 i, .int .u8 c.toNat, .str escL, .str escT, g6, g7, g8, g9, g10, g11, g12, g13, g14, g15, g16, g17, g18, g19, g20, g21, g22] m)
    (hr : ∀ k, escIdx c = some k → ∀ g0 g2 g3 g4 g5 g6 g7 g8 g9 g10 g11 g12 g13 g14 g15 g16 g17 g18 g19 g20 g21 g22, Q .ret [g0, .sl .full 1 [.int .u8 (escT.getD k 0).toNat], g2, g3, g4, g5, g6, g7, g8, g9, g10, g11, g12, g13, g14, g15, g16, g17, g18, g19, g20, g21, g22] (m.set p (RP s (i + 2) many 0 0))) :
    ∀ (r k : Nat) (g1 g7 g8 g9 g10 g11 g12 g13 g14 g15 g16 g17 g18 g19 g20 g21 g22 : AV), r + k = 8 → escIdx c = ((escL.drop k).findIdx? (· == c)).map (· + k) →
      wl CS [1, 7, 8, 9, 10, 11, 12, 13, 14, 15, 16, 17, 18, 19, 20, 21, 22] q68l13 Q [.ptr p 0, g1, .int .i64 i, .int .u8 c.toNat, .str escL, .str escT, .int .i64 k, g7, g8, g9, g10, g11, g12, g13, g14, g15, g16, g17, g18, g19, g20, g21, g22] m := by
  intro r
  induction r with
  | zero =>
    intro k g1 g7 g8 g9 g10 g11 g12 g13 g14 g15 g16 g17 g18 g19 g20 g21 g22 hk ht
    refine wl_step ?_
    have e1 : decide ((k : Int) < (escL.length : Nat)) = false := dF (by simp [escL]; omega)
    simp only [go_sem, reduceIte, Nat.reduceEqDiff, Nat.reduceAdd, q68l13, q68r8, e1]
    exact hx (by rw [ht, List.drop_of_length_le (by simp [escL]; omega)]; rfl) _ _ _ _ _ _ _ _ _ _ _ _ _ _ _ _ _ _
  | succ r ih =>
    intro k g1 g7 g8 g9 g10 g11 g12 g13 g14 g15 g16 g17 g18 g19 g20 g21 g22 hk ht
    refine wl_step ?_
    have hkl : k < escL.length := by simp [escL]; omega
    have hkt : k < escT.length := by simp [escT]; omega
    have e1 : decide ((k : Int) < (escL.length : Nat)) = true := dT (by omega)
    have hb : escL[k]? = some escL[k] := List.getElem?_eq_getElem hkl
    have hbt : escT[k]? = some escT[k] := List.getElem?_eq_getElem hkt
    have hw := wrap_succ (i := k) (by omega)
    have hw2 : IntKind.i64.wrap ((i : Int) + 2) = ((i + 2 : Nat) : Int) := wrap_add (k := 2) (by omega)
    rw [findIdx_drop hb] at ht
    cases hc : (escL[k] == c) with
    | true =>
      rw [hc, if_pos rfl] at ht
      simp only [go_sem, reduceIte, Nat.reduceEqDiff, Nat.reduceAdd, q68l13, q68r8, e1, q68r9, idxS_at hb, u8_beq, hc, q68r10, hw2, hp, q68r11, idxS_at hbt]
      have := hr k (by simpa using ht)
      rw [show escT.getD k 0 = escT[k] by simp [List.getD, hkt]] at this
      exact this _ _ _ _ _ _ _ _ _ _ _ _ _ _ _ _ _ _ _ _ _ _
    | false =>
      rw [hc] at ht
      simp only [go_sem, reduceIte, Nat.reduceEqDiff, Nat.reduceAdd, q68l13, q68r8, e1, q68r9, idxS_at hb, u8_beq, hc, q68r12, hw]
      refine ih (k + 1) _ _ _ _ _ _ _ _ _ _ _ _ _ _ _ _ _ (by omega) ?_
      rw [ht]
      simp only [Bool.false_eq_true, if_false, Option.map_map]
      congr 1
      funext x; simp; omega

/-- What the document's 'escape' leaves. -/
def EscR (p : Nat) (m : Mem) (s : List UInt8) (many : Nat) (r : Except Flt (List UInt8 × Nat)) (v : AV) (m' : Mem) : Prop :=
  match r with
  | .ok (b, j) => SlOf 1 v (bytesAV b) ∧ ExtB p m m' ∧ m'.get p = RP s j many 0 0
  | .error (w, k) => ∃ b j, SlOf 1 v (bytesAV b) ∧ b.length ≤ 4 ∧ ExtB p m m' ∧ m'.get p = RP s j many w k ∧ w ≠ 0
theorem hex4_bad {s : List UInt8} {a f : Nat} (h : ((s.drop a).take 4).any bad = true) : hex4 s a f = .error (3, f) := by
  unfold hex4; exact if_pos h
theorem hex4_end {s : List UInt8} {a f : Nat} (h : ((s.drop a).take 4).any bad = false) (h2 : ((s.drop a).take 4).length < 4) : hex4 s a f = .error (4, s.length) := by
  unfold hex4; rw [if_neg (by intro k; rw [show ((s.drop a).take 4).any bad = true from k] at h; cases h), if_pos h2]
theorem hex4_ok {s : List UInt8} {a f : Nat} (h : ((s.drop a).take 4).any bad = false) (h2 : ¬ ((s.drop a).take 4).length < 4) : hex4 s a f = .ok (hexN ((s.drop a).take 4)) := by
  unfold hex4; rw [if_neg (by intro k; rw [show ((s.drop a).take 4).any bad = true from k] at h; cases h), if_neg h2]
theorem hexA_lt : ∀ {l : List UInt8} {n k : Nat}, l.any bad = false → n < 16 ^ k → hexA n l < 16 ^ (k + l.length)
  | [], n, k, _, h => by simpa [hexA] using h
  | c :: l, n, k, hb, h => by
    rw [List.any_cons, Bool.or_eq_false_iff] at hb
    have := hexA_lt (l := l) (n := n * 16 + nib c) (k := k + 1) hb.2 (by have := bad_not hb.1; rw [Nat.pow_succ]; omega)
    rw [List.length_cons]
    have e : k + 1 + l.length = k + (l.length + 1) := by omega
    rwa [e] at this
theorem hexN_lt {s : List UInt8} {a : Nat} (h : ((s.drop a).take 4).any bad = false) : hexN ((s.drop a).take 4) < 65536 := by
  have := hexA_lt (n := 0) (k := 0) h (by simp)
  have h2 : ((s.drop a).take 4).length ≤ 4 := by simp; omega
  have h3 : (16 : Nat) ^ (0 + ((s.drop a).take 4).length) ≤ 16 ^ 4 := Nat.pow_le_pow_right (by omega) (by omega)
  exact Nat.lt_of_lt_of_le this h3

/-- The other half. -/
theorem resc_sur {m : Mem} {p : Nat} {s : List UInt8} {i many n : Nat} (hs : s.length < 2 ^ 59) (hi : i < s.length) (hp : m.get p = RP s i many 0 0) (hn1 : 0xD800 ≤ n) (hn2 : n < 0xDC00) {g1 g3 g4 g5 g6 g10 g11 g12 g13 g14 g15 g16 g17 g18 g19 g20 g21 g22 : AV} :
    wl CS [1, 3, 4, 5, 6, 10, 11, 12, 13, 14, 15, 16, 17, 18, 19, 20, 21, 22] q68l36 (blockQ 2
      (seqQ CS (((ACode.region q68r37).seq (ACode.cond (Opd.var 21) ((ACode.region q68r38).seq ACode.ret) ACode.skip)).seq
          ((ACode.region q68r39).seq ((ACode.region q68r40).seq (((ACode.region q68r41).seq (ACode.cond (Opd.var 22) (ACode.region q68r42) ACode.skip)).seq ((ACode.region q68r43).seq ACode.ret)))))
        (endsIn [ARes.var 1] (EscR p m s many (surS s i n)) noPan)))
      [.ptr p 0, g1, .int .i64 i, g3, g4, g5, g6, .int .i32 n, .str [92, 117], .int .i64 0, g10, g11, g12, g13, g14, g15, g16, g17, g18, g19, g20, g21, g22] (m.set p (RP s (i + 6) many 0 0)) := by
  have hs61 : s.length < 2 ^ 61 := by omega
  have l0 : decide ((0 : Int) < 2) = true := by decide
  have l1 : decide ((1 : Int) < 2) = true := by decide
  have l2 : decide ((2 : Int) < 2) = false := by decide
  have v0 : IntKind.i64.wrap ((0 : Int) + 1) = 1 := by decide
  have v1 : IntKind.i64.wrap ((1 : Int) + 1) = 2 := by decide
  have w60 : IntKind.i64.wrap (((i + 6 : Nat) : Int) + 0) = ((i + 6 : Nat) : Int) := wrap_add (k := 0) (by omega)
  have w61 : IntKind.i64.wrap (((i + 6 : Nat) : Int) + 1) = ((i + 7 : Nat) : Int) := wrap_add (k := 1) (by omega)
  have w62 : IntKind.i64.wrap (((i + 6 : Nat) : Int) + 2) = ((i + 8 : Nat) : Int) := wrap_add (k := 2) (by omega)
  have w66 : IntKind.i64.wrap (((i + 6 : Nat) : Int) + 6) = ((i + 12 : Nat) : Int) := wrap_add (k := 6) (by omega)
  have x0 : idxSV (.str [92, 117]) (.int .i64 0) = some (.int .u8 92) := rfl
  have x1 : idxSV (.str [92, 117]) (.int .i64 1) = some (.int .u8 117) := rfl
  have hp1 : (m.set p (RP s (i + 6) many 0 0)).get p = RP s (i + 6) many 0 0 := get_set_same
  have hE : ExtB p m (m.set p (RP s (i + 6) many 0 0)) := (ExtB.refl p m).setp _
  generalize (m.set p (RP s (i + 6) many 0 0)) = M at hp1 hE
  refine wl_step ?_
  cases hc : s[i + 6]? with
  | none =>
    have h1 := List.getElem?_eq_none_iff.1 hc
    have e1 : decide (((i + 6 : Nat) : Int) ≥ (s.length : Nat)) = true := dT (by omega)
    have hS : surS s i n = .error (4, s.length) := by simp [surS, hc]
    simp only [go_sem, reduceIte, Nat.reduceEqDiff, Nat.reduceAdd, q68l36, q68r28, l0, q68r29, hp1, w60, e1, q68r30]
    refine callW_ret (rfail_ok hp1 4 s.length) ?_
    simp only [go_sem, reduceIte, Nat.reduceEqDiff, Nat.reduceAdd, q68r31]
    rw [hS]
    exact ⟨[], i + 6, .inl ⟨rfl, rfl⟩, by simp, hE.setp _, get_set_same, by decide⟩
  | some a =>
    have h1 := (List.getElem?_eq_some_iff.1 hc).1
    have e1 : decide (((i + 6 : Nat) : Int) ≥ (s.length : Nat)) = false := dF (by omega)
    simp only [go_sem, reduceIte, Nat.reduceEqDiff, Nat.reduceAdd, q68l36, q68r28, l0, q68r29, hp1, w60, e1, q68r32, idxS_at hc, x0]
    by_cases ha : a.toNat = 92
    · have ea : ((a.toNat : Int) != 92) = false := bnF (by omega)
      simp only [go_sem, reduceIte, Nat.reduceEqDiff, Nat.reduceAdd, ea, q68r35, v0]
      refine wl_step ?_
      cases hc2 : s[i + 7]? with
      | none =>
        have h2 := List.getElem?_eq_none_iff.1 hc2
        have e2 : decide (((i + 7 : Nat) : Int) ≥ (s.length : Nat)) = true := dT (by omega)
        have hS : surS s i n = .error (4, s.length) := by simp [surS, hc, hc2, ha]
        simp only [go_sem, reduceIte, Nat.reduceEqDiff, Nat.reduceAdd, q68l36, q68r28, l1, q68r29, hp1, w61, e2, q68r30]
        refine callW_ret (rfail_ok hp1 4 s.length) ?_
        simp only [go_sem, reduceIte, Nat.reduceEqDiff, Nat.reduceAdd, q68r31]
        rw [hS]
        exact ⟨[], i + 6, .inl ⟨rfl, rfl⟩, by simp, hE.setp _, get_set_same, by decide⟩
      | some b =>
        have h2 := (List.getElem?_eq_some_iff.1 hc2).1
        have e2 : decide (((i + 7 : Nat) : Int) ≥ (s.length : Nat)) = false := dF (by omega)
        simp only [go_sem, reduceIte, Nat.reduceEqDiff, Nat.reduceAdd, q68l36, q68r28, l1, q68r29, hp1, w61, e2, q68r32, idxS_at hc2, x1]
        by_cases hb : b.toNat = 117
        · have eb : ((b.toNat : Int) != 117) = false := bnF (by omega)
          simp only [go_sem, reduceIte, Nat.reduceEqDiff, Nat.reduceAdd, eb, q68r35, v1]
          refine wl_step ?_
          simp only [go_sem, reduceIte, Nat.reduceEqDiff, Nat.reduceAdd, q68l36, q68r28, l2, q68r37, hp1, w62]
          refine callW_ret (rallhex_ok hs61 hp1 (a := i + 8) (fault := i) (by omega)) ?_
          cases hbad : ((s.drop (i + 8)).take 4).any bad with
          | true =>
            have hS : surS s i n = .error (3, i) := by simp [surS, hc, hc2, ha, hb, hex4_bad hbad]
            simp only [go_sem, reduceIte, Nat.reduceEqDiff, Nat.reduceAdd, q68r38]
            rw [hS]
            exact ⟨[], i + 6, .inl ⟨rfl, rfl⟩, by simp, hE.setp _, get_set_same, by decide⟩
          | false =>
            simp only [go_sem, reduceIte, Nat.reduceEqDiff, Nat.reduceAdd, q68r39, hp1, w62]
            refine callW_ret (rhex_ok hs61 hp1 (a := i + 8) (fault := i) (by omega) hbad) ?_
            by_cases hl : ((s.drop (i + 8)).take 4).length < 4
            · have hS : surS s i n = .error (4, s.length) := by simp [surS, hc, hc2, ha, hb, hex4_end hbad hl]
              rw [if_pos hl, if_pos hl]
              simp only [go_sem, reduceIte, Nat.reduceEqDiff, Nat.reduceAdd, q68r40, w66, q68r41, show ((4 : Int) == 0) = false from rfl, q68r43]
              refine callW_ret (rput_ok _ _) ?_
              simp only [go_sem, reduceIte, Nat.reduceEqDiff, Nat.reduceAdd]
              rw [hS]
              exact ⟨_, i + 12, .inr ⟨_, rfl⟩, (putN_len _).2, (hE.setp _).newTok 5, get_set_same, by decide⟩
            · have hS1 := hex4_ok (f := i) hbad hl
              have hN := hexN_lt hbad
              rw [if_neg hl, if_neg hl]
              generalize hexN ((s.drop (i + 8)).take 4) = k at hS1 hN
              have hS : surS s i n = (if k < 0xDC00 ∨ 0xDFFF < k then .error (3, i) else .ok (putN (0x10000 + (n - 0xD800) * 1024 + (k - 0xDC00) : Nat), i + 12)) := by simp [surS, hc, hc2, ha, hb, hS1]
              rw [hS]
              by_cases hlo : k < 0xDC00
              · have a1 : decide ((k : Int) < 56320) = true := dT (by omega)
                simp only [go_sem, reduceIte, Nat.reduceEqDiff, Nat.reduceAdd, hp1, q68r40, w66, q68r41, show ((0 : Int) == 0) = true from rfl, a1, q68r42]
                refine callW_ret (rfail_ok get_set_same 3 i) ?_
                simp only [go_sem, reduceIte, Nat.reduceEqDiff, Nat.reduceAdd, q68r43]
                refine callW_ret (rput_ok _ _) ?_
                simp only [go_sem, reduceIte, Nat.reduceEqDiff, Nat.reduceAdd]
                rw [if_pos (.inl hlo)]
                exact ⟨_, i + 12, .inr ⟨_, rfl⟩, (putN_len _).2, (hE.setp _).newTok 5, get_set_same, by decide⟩
              · have a1 : decide ((k : Int) < 56320) = false := dF (by omega)
                by_cases hhi : 0xDFFF < k
                · have a2 : decide ((k : Int) > 57343) = true := dT (by omega)
                  simp only [go_sem, reduceIte, Nat.reduceEqDiff, Nat.reduceAdd, hp1, q68r40, w66, q68r41, show ((0 : Int) == 0) = true from rfl, a1, a2, q68r42]
                  refine callW_ret (rfail_ok get_set_same 3 i) ?_
                  simp only [go_sem, reduceIte, Nat.reduceEqDiff, Nat.reduceAdd, q68r43]
                  refine callW_ret (rput_ok _ _) ?_
                  simp only [go_sem, reduceIte, Nat.reduceEqDiff, Nat.reduceAdd]
                  rw [if_pos (.inr hhi)]
                  exact ⟨_, i + 12, .inr ⟨_, rfl⟩, (putN_len _).2, (hE.setp _).newTok 5, get_set_same, by decide⟩
                · have a2 : decide ((k : Int) > 57343) = false := dF (by omega)
                  obtain ⟨k', rfl⟩ := Nat.exists_eq_add_of_le (Nat.not_lt.1 hlo)
                  obtain ⟨n', rfl⟩ := Nat.exists_eq_add_of_le hn1
                  have hk' : k' < 1024 := by omega
                  have hn' : n' < 1024 := by omega
                  have r1 : IntKind.i32.wrap (((0xD800 + n' : Nat) : Int) - 55296) = (n' : Int) := by rw [wrap_i32 (by omega)]; omega
                  have r2 : IntKind.i32.wrap ((n' : Int) * 1024) = ((n' * 1024 : Nat) : Int) := by rw [wrap_i32 (by omega)]; omega
                  have r3 : IntKind.i32.wrap (65536 + ((n' * 1024 : Nat) : Int)) = ((65536 + n' * 1024 : Nat) : Int) := by rw [wrap_i32 (by omega)]; omega
                  have r4 : IntKind.i32.wrap (((65536 + n' * 1024 : Nat) : Int) + ((0xDC00 + k' : Nat) : Int)) = ((65536 + n' * 1024 + (0xDC00 + k') : Nat) : Int) := by rw [wrap_i32 (by omega)]; omega
                  have r5 : IntKind.i32.wrap (((65536 + n' * 1024 + (0xDC00 + k') : Nat) : Int) - 56320) = ((65536 + n' * 1024 + k' : Nat) : Int) := by rw [wrap_i32 (by omega)]; omega
                  simp only [go_sem, reduceIte, Nat.reduceEqDiff, Nat.reduceAdd, hp1, q68r40, w66, q68r41, show ((0 : Int) == 0) = true from rfl, a1, a2, q68r43, r1, r2, r3, r4, r5]
                  refine callW_ret (rput_ok _ _) ?_
                  simp only [go_sem, reduceIte, Nat.reduceEqDiff, Nat.reduceAdd]
                  rw [if_neg (fun h => h.elim hlo hhi), Nat.add_sub_cancel_left, Nat.add_sub_cancel_left]
                  exact ⟨.inr ⟨_, rfl⟩, (hE.setp _).newTok 5, get_set_same⟩
        · have eb : ((b.toNat : Int) != 117) = true := bnT (by omega)
          have hS : surS s i n = .error (3, i) := by simp [surS, hc, hc2, ha, hb]
          simp only [go_sem, reduceIte, Nat.reduceEqDiff, Nat.reduceAdd, eb, q68r33]
          refine callW_ret (rfail_ok hp1 3 i) ?_
          simp only [go_sem, reduceIte, Nat.reduceEqDiff, Nat.reduceAdd, q68r34]
          rw [hS]
          exact ⟨[], i + 6, .inl ⟨rfl, rfl⟩, by simp, hE.setp _, get_set_same, by decide⟩
    · have ea : ((a.toNat : Int) != 92) = true := bnT (by omega)
      have hS : surS s i n = .error (3, i) := by simp [surS, hc, ha]
      simp only [go_sem, reduceIte, Nat.reduceEqDiff, Nat.reduceAdd, ea, q68r33]
      refine callW_ret (rfail_ok hp1 3 i) ?_
      simp only [go_sem, reduceIte, Nat.reduceEqDiff, Nat.reduceAdd, q68r34]
      rw [hS]
      exact ⟨[], i + 6, .inl ⟨rfl, rfl⟩, by simp, hE.setp _, get_set_same, by decide⟩

theorem resc_ok {m : Mem} {p : Nat} {s : List UInt8} {i many : Nat} (hs : s.length < 2 ^ 59) (hi : i < s.length) (hp : m.get p = RP s i many 0 0) : ∃ v m', CS 68 [.ptr p 0] m (.ret v) m' ∧ EscR p m s many (escS s i) v m' := by
  refine call_some (R := EscR p m s many (escS s i)) xfok mixed q68at q68ok rfl ?_
  have hs61 : s.length < 2 ^ 61 := by omega
  have w1 := wrap_succ (i := i) (by omega)
  have w2 : IntKind.i64.wrap ((i : Int) + 2) = ((i + 2 : Nat) : Int) := wrap_add (k := 2) (by omega)
  have w6 : IntKind.i64.wrap ((i : Int) + 6) = ((i + 6 : Nat) : Int) := wrap_add (k := 6) (by omega)
  simp only [go_sem, reduceIte, Nat.reduceEqDiff, Nat.reduceAdd, q68, q68r0, q68r1, hp, q68r2, w1]
  cases hc : s[i + 1]? with
  | none =>
    have h1 := List.getElem?_eq_none_iff.1 hc
    have e1 : decide (((i + 1 : Nat) : Int) ≥ (s.length : Nat)) = true := dT (by omega)
    have hS : escS s i = .error (4, s.length) := by simp [escS, hc]
    simp only [go_sem, reduceIte, Nat.reduceEqDiff, Nat.reduceAdd, e1, q68r3, hp]
    refine callW_ret (rfail_ok hp 4 s.length) ?_
    simp only [go_sem, reduceIte, Nat.reduceEqDiff, Nat.reduceAdd, q68r4]
    rw [hS]
    exact ⟨[], i, .inl ⟨rfl, rfl⟩, by simp, (ExtB.refl p m).setp _, get_set_same, by decide⟩
  | some c =>
    have h1 := (List.getElem?_eq_some_iff.1 hc).1
    have e1 : decide (((i + 1 : Nat) : Int) ≥ (s.length : Nat)) = false := dF (by omega)
    simp only [go_sem, reduceIte, Nat.reduceEqDiff, Nat.reduceAdd, e1, q68r5, hp, w1, idxS_at hc, q68r6, q68r7]
    refine resc_find (by omega) hi hp (c := c) (fun hn g1 g6 g7 g8 g9 g10 g11 g12 g13 g14 g15 g16 g17 g18 g19 g20 g21 g22 => ?_) (fun k hk g0 g2 g3 g4 g5 g6 g7 g8 g9 g10 g11 g12 g13 g14 g15 g16 g17 g18 g19 g20 g21 g22 => ?_) 8 0 _ _ _ _ _ _ _ _ _ _ _ _ _ _ _ _ _ rfl (by rw [escIdx_eq]; simp)
    · by_cases h117 : c.toNat = 117
      · have e117 : ((c.toNat : Int) != 117) = false := bnF (by omega)
        simp only [go_sem, reduceIte, Nat.reduceEqDiff, Nat.reduceAdd, q68r14, e117, q68r17, w2]
        refine callW_ret (rallhex_ok hs61 hp (a := i + 2) (fault := i) (by omega)) ?_
        cases hb : ((s.drop (i + 2)).take 4).any bad with
        | true =>
          have hS : escS s i = .error (3, i) := by simp [escS, hc, hn, h117, hex4_bad hb]
          simp only [go_sem, reduceIte, Nat.reduceEqDiff, Nat.reduceAdd, q68r18]
          rw [hS]
          exact ⟨[], i, .inl ⟨rfl, rfl⟩, by simp, (ExtB.refl p m).setp _, get_set_same, by decide⟩
        | false =>
          simp only [go_sem, reduceIte, Nat.reduceEqDiff, Nat.reduceAdd, q68r19, w2]
          refine callW_ret (rhex_ok hs61 hp (a := i + 2) (fault := i) (by omega) hb) ?_
          by_cases hl : ((s.drop (i + 2)).take 4).length < 4
          · have hS : escS s i = .error (4, s.length) := by simp [escS, hc, hn, h117, hex4_end hb hl]
            rw [if_pos hl, if_pos hl]
            simp only [go_sem, reduceIte, Nat.reduceEqDiff, Nat.reduceAdd, q68r20, w6, q68r21, show ((4 : Int) != 0) = true from rfl, q68r22]
            refine callW_ret (rput_ok _ _) ?_
            simp only [go_sem, reduceIte, Nat.reduceEqDiff, Nat.reduceAdd]
            rw [hS]
            exact ⟨putN ((0 : Nat) : Int), i + 6, .inr ⟨_, rfl⟩, (putN_len _).2, ((ExtB.refl p m).setp _).newTok 5, get_set_same, by decide⟩
          · have hS1 := hex4_ok (f := i) hb hl
            have hN := hexN_lt hb
            rw [if_neg hl, if_neg hl]
            generalize hexN ((s.drop (i + 2)).take 4) = n at hS1 hN
            have hS : escS s i = (if n < 0xD800 ∨ 0xDFFF < n then .ok (putN n, i + 6) else if 0xDC00 ≤ n then .error (3, i) else surS s i n) := by simp only [escS, hc, hn, hS1]; simp [h117]
            by_cases hlo : n < 0xD800
            · have a1 : decide ((n : Int) < 55296) = true := dT (by omega)
              rw [if_pos (.inl hlo)] at hS
              simp only [go_sem, reduceIte, Nat.reduceEqDiff, Nat.reduceAdd, hp, q68r20, w6, q68r21, show ((0 : Int) != 0) = false from rfl, a1, q68r22]
              refine callW_ret (rput_ok _ _) ?_
              simp only [go_sem, reduceIte, Nat.reduceEqDiff, Nat.reduceAdd]
              rw [hS]
              exact ⟨.inr ⟨_, rfl⟩, ((ExtB.refl p m).setp _).newTok 5, get_set_same⟩
            · have a1 : decide ((n : Int) < 55296) = false := dF (by omega)
              by_cases hhi : 0xDFFF < n
              · have a2 : decide ((n : Int) > 57343) = true := dT (by omega)
                rw [if_pos (.inr hhi)] at hS
                simp only [go_sem, reduceIte, Nat.reduceEqDiff, Nat.reduceAdd, hp, q68r20, w6, q68r21, show ((0 : Int) != 0) = false from rfl, a1, a2, q68r22]
                refine callW_ret (rput_ok _ _) ?_
                simp only [go_sem, reduceIte, Nat.reduceEqDiff, Nat.reduceAdd]
                rw [hS]
                exact ⟨.inr ⟨_, rfl⟩, ((ExtB.refl p m).setp _).newTok 5, get_set_same⟩
              · have a2 : decide ((n : Int) > 57343) = false := dF (by omega)
                rw [if_neg (by omega)] at hS
                by_cases hmid : 0xDC00 ≤ n
                · have a3 : decide ((n : Int) ≥ 56320) = true := dT (by omega)
                  rw [if_pos hmid] at hS
                  simp only [go_sem, reduceIte, Nat.reduceEqDiff, Nat.reduceAdd, hp, q68r20, w6, q68r21, show ((0 : Int) != 0) = false from rfl, a1, a2, q68r23, a3, q68r24]
                  refine callW_ret (rfail_ok get_set_same 3 i) ?_
                  simp only [go_sem, reduceIte, Nat.reduceEqDiff, Nat.reduceAdd, q68r25]
                  rw [hS]
                  exact ⟨[], i + 6, .inl ⟨rfl, rfl⟩, by simp, (ExtB.refl p m).setp _, get_set_same, by decide⟩
                · have a3 : decide ((n : Int) ≥ 56320) = false := dF (by omega)
                  rw [if_neg hmid] at hS
                  rw [hS]
                  simp only [go_sem, reduceIte, Nat.reduceEqDiff, Nat.reduceAdd, hp, q68r20, w6, q68r21, show ((0 : Int) != 0) = false from rfl, a1, a2, q68r23, a3, q68r26, q68r27]
                  exact resc_sur hs hi hp (by omega) (by omega)
      · have e117 : ((c.toNat : Int) != 117) = true := bnT (by omega)
        have hS : escS s i = .error (3, i) := by simp [escS, hc, hn, h117]
        simp only [go_sem, reduceIte, Nat.reduceEqDiff, Nat.reduceAdd, q68r14, e117, q68r15]
        refine callW_ret (rfail_ok hp 3 i) ?_
        simp only [go_sem, reduceIte, Nat.reduceEqDiff, Nat.reduceAdd, q68r16]
        rw [hS]
        exact ⟨[], i, .inl ⟨rfl, rfl⟩, by simp, (ExtB.refl p m).setp _, get_set_same, by decide⟩
    · have hS : escS s i = .ok ([escT.getD k 0], i + 2) := by simp [escS, hc, hk, escT]
      simp only [go_sem, reduceIte, Nat.reduceEqDiff, Nat.reduceAdd]
      rw [hS]
      exact ⟨.inr ⟨_, rfl⟩, (ExtB.refl p m).setp _, get_set_same⟩
end Go.Proofs.YtinlfdkalijffaaDoor.Am.Q

/-
  JSON, 19: the document's parser: quotes.
-/
namespace Go.Proofs.YtinlfdkalijffaaDoor.Am.Q
open Go Go.Proofs Go.Proofs.YtinlfdkalijffaaDoor.Am

theorem unbytes_bytes : ∀ l : List UInt8, unbytes (bytesAV l) = some l
  | [] => rfl
  | b :: l => by
    have := unbytes_bytes l
    simp only [bytesAV] at this
    simp [bytesAV, unbytes, byteAV, unbyte, this]
theorem str_of {a : AV} {l : List UInt8} (h : SlOf 1 a (bytesAV l)) : strOfV a = some (.str l) := by
  rcases h with ⟨rfl, h⟩ | ⟨o, rfl⟩
  · have : l = [] := by cases l <;> simp [bytesAV] at h; rfl
    subst this; rfl
  · simp [strOfV, unbytes_bytes]
theorem bytes_append {a b : List UInt8} : bytesAV a ++ bytesAV b = bytesAV (a ++ b) := by simp [bytesAV]
theorem bytes_len {l : List UInt8} : (bytesAV l).length = l.length := by simp [bytesAV]

theorem surS_ok {s : List UInt8} {i n : Nat} {b : List UInt8} {j : Nat} (h : surS s i n = .ok (b, j)) : i < j ∧ j ≤ s.length ∧ b.length ≤ 4 := by
  unfold surS at h
  split at h
  · cases h
  · split at h
    · cases h
    · split at h
      · cases h
      · split at h
        · cases h
        · split at h
          · cases h
          · rename_i k hk
            split at h
            · cases h
            · simp only [Except.ok.injEq, Prod.mk.injEq] at h
              obtain ⟨rfl, rfl⟩ := h
              have hl : ¬ ((s.drop (i + 8)).take 4).length < 4 := by
                intro hl
                unfold hex4 at hk
                split at hk
                · cases hk
                · cases hk
              simp at hl
              exact ⟨by omega, by omega, (putN_len _).2⟩
theorem escS_ok {s : List UInt8} {i : Nat} {b : List UInt8} {j : Nat} (h : escS s i = .ok (b, j)) : i < j ∧ j ≤ s.length ∧ b.length ≤ 4 := by
  unfold escS at h
  split at h
  · cases h
  · rename_i c hc
    have h1 := (List.getElem?_eq_some_iff.1 hc).1
    split at h
    · simp only [Except.ok.injEq, Prod.mk.injEq] at h
      obtain ⟨rfl, rfl⟩ := h
      exact ⟨by omega, by omega, by simp⟩
    · split at h
      · cases h
      · split at h
        · cases h
        · rename_i n hk
          have hl : ¬ ((s.drop (i + 2)).take 4).length < 4 := by
            intro hl
            unfold hex4 at hk
            split at hk
            · cases hk
            · cases hk
          simp at hl
          split at h
          · simp only [Except.ok.injEq, Prod.mk.injEq] at h
            obtain ⟨rfl, rfl⟩ := h
            exact ⟨by omega, by omega, (putN_len _).2⟩
          · split at h
            · cases h
            · exact surS_ok h

theorem rquo_loop {p : Nat} {s : List UInt8} {many : Nat} {mb : Mem} (hs : s.length < 2 ^ 40) {R : Except Flt (List UInt8 × Nat)} {Q : AExit → List AV → Mem → Prop}
    (hx : ∀ M w k j, R = .error (w, k) → ExtB p mb M → M.get p = RP s j many w k → w ≠ 0 → ∀ g0 g1 g2 g3 g4 g5 g6 g7 g8, Q (.exit 0) [g0, g1, g2, g3, g4, g5, g6, g7, g8] M)
    (hr : ∀ M t j, R = .ok (t, j) → ExtB p mb M → M.get p = RP s j many 0 0 → ∀ g0 g2 g3 g4 g5 g6 g7 g8, Q .ret [g0, .str t, g2, g3, g4, g5, g6, g7, g8] M) :
    ∀ (f i : Nat) (M : Mem) (a : AV) (out : List UInt8) (g1 g3 g4 g5 g6 g7 g8 : AV), s.length - i + 1 ≤ f → i ≤ s.length + 1 → out.length ≤ 4 * i → Mine mb M 5 1 a (bytesAV out) → ExtB p mb M → M.get p = RP s i many 0 0 → R = quoS s f i out →
      wl CS [1, 3, 4, 5, 6, 7, 8] q44l16 Q [.ptr p 0, g1, a, g3, g4, g5, g6, g7, g8] M := by
  intro f
  induction f with
  | zero => intro i M a out g1 g3 g4 g5 g6 g7 g8 hf; omega
  | succ f ih =>
    intro i M a out g1 g3 g4 g5 g6 g7 g8 hf hi hol hm hE hp hR
    have z0 : ((0 : Int) == 0) = true := rfl
    have z3 : ((3 : Int) == 0) = false := rfl
    have w1 := wrap_succ (i := i) (by omega)
    have sl := hm.sl
    refine wl_step ?_
    cases hc : s[i]? with
    | none =>
      have h1 := List.getElem?_eq_none_iff.1 hc
      have e1 : decide ((i : Int) ≥ (s.length : Nat)) = true := dT (by omega)
      have hS : R = .error (4, s.length) := by rw [hR]; simp [quoS, hc]
      simp only [go_sem, reduceIte, Nat.reduceEqDiff, Nat.reduceAdd, q44l16, q44r3, hp, z0, q44r4, e1, q44r5]
      refine callW_ret (rfail_ok hp 4 s.length) ?_
      simp only [go_sem, reduceIte, Nat.reduceEqDiff, Nat.reduceAdd]
      exact hx _ _ _ i hS (hE.setp _) get_set_same (by decide) _ _ _ _ _ _ _ _ _
    | some c =>
      have h1 := (List.getElem?_eq_some_iff.1 hc).1
      have e1 : decide ((i : Int) ≥ (s.length : Nat)) = false := dF (by omega)
      have hRc : R = if c.toNat < 32 then .error (3, i) else if c.toNat = 34 then .ok (out, i + 1) else if c.toNat = 92 then
          (match escS s i with
          | .error e => .error e
          | .ok (b, j) => quoS s f j (out ++ b))
        else quoS s f (i + 1) (out ++ [c]) := by rw [hR]; simp only [quoS, hc]; rfl
      simp only [go_sem, reduceIte, Nat.reduceEqDiff, Nat.reduceAdd, q44l16, q44r3, hp, z0, q44r4, e1, q44r6, idxS_at hc]
      by_cases c1 : c.toNat < 32
      · have a1 : decide ((c.toNat : Int) < 32) = true := dT (by omega)
        rw [if_pos c1] at hRc
        simp only [go_sem, reduceIte, Nat.reduceEqDiff, Nat.reduceAdd, q44r7, a1, q44r8, hp]
        refine callW_ret (rfail_ok hp 3 i) ?_
        simp only [go_sem, reduceIte, Nat.reduceEqDiff, Nat.reduceAdd]
        refine wl_step ?_
        simp only [go_sem, reduceIte, Nat.reduceEqDiff, Nat.reduceAdd, q44l16, q44r3, z3]
        exact hx _ _ _ i hRc (hE.setp _) get_set_same (by decide) _ _ _ _ _ _ _ _ _
      · have a1 : decide ((c.toNat : Int) < 32) = false := dF (by omega)
        rw [if_neg c1] at hRc
        by_cases c2 : c.toNat = 34
        · have a2 : ((c.toNat : Int) == 34) = true := bqT (by omega)
          rw [if_pos c2] at hRc
          simp only [go_sem, reduceIte, Nat.reduceEqDiff, Nat.reduceAdd, q44r7, a1, q44r9, a2, q44r10, hp, w1, q44r11, str_of sl]
          exact hr _ _ (i + 1) hRc (hE.setp _) get_set_same _ _ _ _ _ _ _ _
        · have a2 : ((c.toNat : Int) == 34) = false := bqF (by omega)
          rw [if_neg c2] at hRc
          by_cases c3 : c.toNat = 92
          · have a3 : ((c.toNat : Int) == 92) = true := bqT (by omega)
            rw [if_pos c3] at hRc
            simp only [go_sem, reduceIte, Nat.reduceEqDiff, Nat.reduceAdd, q44r7, a1, q44r9, a2, q44r12, a3, q44r13]
            obtain ⟨v, M1, hv1, hv2⟩ := resc_ok (by omega) h1 hp
            refine callW_ret hv1 ?_
            cases hes : escS s i with
            | error e =>
              obtain ⟨w, k⟩ := e
              rw [hes] at hv2 hRc
              obtain ⟨b, j, k1, k2, k3, k4, k5⟩ := hv2
              obtain ⟨a', M2, n1, n2, n3, n4, n5, n6⟩ := (hm.ext k3).append (bytes := 1) (ys := bytesAV b) (hE.trans k3).ntok (by rw [bytes_len, bytes_len]; simp [roomMax]; omega) (bytes_good b)
              simp only [go_sem, reduceIte, Nat.reduceEqDiff, Nat.reduceAdd, k1.elems, n1]
              refine wl_step ?_
              have hp2 : M2.get p = RP s j many w k := by rw [n3]; exact k4
              have zw : (w == 0) = false := by simp [k5]
              simp only [go_sem, reduceIte, Nat.reduceEqDiff, Nat.reduceAdd, q44l16, q44r3, hp2, zw]
              exact hx _ _ _ j hRc (n5 p (hE.trans k3)) hp2 k5 _ _ _ _ _ _ _ _ _
            | ok x =>
              obtain ⟨b, j⟩ := x
              rw [hes] at hv2 hRc
              obtain ⟨k1, k3, k4⟩ := hv2
              obtain ⟨l1, l2, l3⟩ := escS_ok hes
              obtain ⟨a', M2, n1, n2, n3, n4, n5, n6⟩ := (hm.ext k3).append (bytes := 1) (ys := bytesAV b) (hE.trans k3).ntok (by rw [bytes_len, bytes_len]; simp [roomMax]; omega) (bytes_good b)
              simp only [go_sem, reduceIte, Nat.reduceEqDiff, Nat.reduceAdd, k1.elems, n1]
              rw [bytes_append] at n2
              exact ih j M2 a' (out ++ b) _ _ _ _ _ _ _ (by omega) (by omega) (by rw [List.length_append]; omega) n2 (n5 p (hE.trans k3)) (by rw [n3]; exact k4) hRc
          · have a3 : ((c.toNat : Int) == 92) = false := bqF (by omega)
            rw [if_neg c3] at hRc
            obtain ⟨a', M2, n1, n2, n3, n4, n5, n6⟩ := hm.append (bytes := 1) (ys := bytesAV [c]) hE.ntok (by rw [bytes_len, bytes_len]; simp [roomMax]; omega) (bytes_good [c])
            have hp2 : M2.get p = RP s i many 0 0 := by rw [n3]; exact hp
            have n1' : appendV M 5 1 1 a [AV.int .u8 c.toNat] = some (a', M2) := n1
            simp only [go_sem, reduceIte, Nat.reduceEqDiff, Nat.reduceAdd, q44r7, a1, q44r9, a2, q44r12, a3, q44r14, elems, n1', q44r15, hp2, w1]
            rw [bytes_append] at n2
            exact ih (i + 1) _ a' (out ++ [c]) _ _ _ _ _ _ _ (by omega) (by omega) (by rw [List.length_append, List.length_singleton]; omega) (n2.ext ((ExtB.refl p M2).setp _)) ((n5 p hE).setp _) get_set_same hRc

def QuoR (p : Nat) (m : Mem) (s : List UInt8) (many : Nat) (r : Except Flt (List UInt8 × Nat)) (v : AV) (m' : Mem) : Prop :=
  match r with
  | .ok (t, j) => v = .str t ∧ ExtB p m m' ∧ m'.get p = RP s j many 0 0
  | .error (w, k) => ∃ t j, v = .str t ∧ ExtB p m m' ∧ m'.get p = RP s j many w k ∧ w ≠ 0
theorem rquo_ok {m : Mem} {p : Nat} {s : List UInt8} {i many : Nat} (hs : s.length < 2 ^ 40) (hi : i < s.length) (hp : m.get p = RP s i many 0 0) : ∃ v m', CS 44 [.ptr p 0] m (.ret v) m' ∧ QuoR p m s many (quote s i) v m' := by
  refine call_some (R := QuoR p m s many (quote s i)) xfok mixed q44at q44ok rfl ?_
  have w1 := wrap_succ (i := i) (by omega)
  simp only [go_sem, reduceIte, Nat.reduceEqDiff, Nat.reduceAdd, q44, q44r0, q44r1, q44r2, hp, w1]
  refine rquo_loop (mb := m) (R := quote s i) hs (fun M w k j h1 h2 h3 h4 g0 g1 g2 g3 g4 g5 g6 g7 g8 => ?_) (fun M t j h1 h2 h3 g0 g2 g3 g4 g5 g6 g7 g8 => ?_) (s.length - i + 1) (i + 1) _ _ [] _ _ _ _ _ _ _ (by omega) (by omega) (by simp) .nil ((ExtB.refl p m).setp _) get_set_same rfl
  · simp only [go_sem, reduceIte, Nat.reduceEqDiff, Nat.reduceAdd, q44r17]
    rw [h1]
    exact ⟨[], j, rfl, h2, h3, h4⟩
  · simp only [go_sem, reduceIte, Nat.reduceEqDiff, Nat.reduceAdd]
    rw [h1]
    exact ⟨rfl, h2, h3⟩
end Go.Proofs.YtinlfdkalijffaaDoor.Am.Q

/-
  JSON, 20: the document's parser: numbers, words; is a text among some.
-/
namespace Go.Proofs.YtinlfdkalijffaaDoor.Am.Q
open Go Go.Proofs Go.Proofs.YtinlfdkalijffaaDoor.Am

theorem runN_drop {p : UInt8 → Bool} : ∀ {s : List UInt8} {i : Nat}, i ≤ runN p s → runN p s = i + runN p (s.drop i)
  | s, 0, _ => by simp
  | [], i + 1, h => by simp [runN_nil] at h
  | c :: r, i + 1, h => by
    rw [runN_cons] at h ⊢
    by_cases hc : p c = true
    · rw [if_pos hc] at h ⊢
      have := runN_drop (p := p) (s := r) (i := i) (by omega)
      rw [List.drop_succ_cons]; omega
    · rw [if_neg hc] at h; omega
theorem digits_loop {m : Mem} {s : List UInt8} (hs : s.length < 2 ^ 61) {Q : AExit → List AV → Mem → Prop} (hx : ∀ g1 g3, Q (.exit 0) [.str s, g1, .int .i64 (runN isDig s), g3] m) :
    ∀ (n i : Nat) (g1 g3 : AV), runN isDig (s.drop i) = n → i + n = runN isDig s → wl CS [1, 3] q70l4 Q [.str s, g1, .int .i64 i, g3] m := by
  intro n
  induction n with
  | zero =>
    intro i g1 g3 hn hi
    refine wl_step ?_
    have hx' := hx g1
    rw [show runN isDig s = i by omega] at hx'
    cases hc : s[i]? with
    | none =>
      have h1 := List.getElem?_eq_none_iff.1 hc
      have e1 : decide ((i : Int) < (s.length : Nat)) = false := dF (by omega)
      simp only [go_sem, reduceIte, Nat.reduceEqDiff, Nat.reduceAdd, q70l4, q70r2, e1]
      exact hx' _
    | some c =>
      have h1 := (List.getElem?_eq_some_iff.1 hc).1
      have e1 : decide ((i : Int) < (s.length : Nat)) = true := dT (by omega)
      rw [drop_at hc, runN_cons] at hn
      have hd : isDig c = false := by
        cases h : isDig c with
        | true => rw [h, if_pos rfl] at hn; omega
        | false => rfl
      simp only [go_sem, reduceIte, Nat.reduceEqDiff, Nat.reduceAdd, q70l4, q70r2, e1, idxS_at hc]
      refine callW_ret (rdig_ok c m) ?_
      simp only [go_sem, reduceIte, Nat.reduceEqDiff, Nat.reduceAdd, hd]
      exact hx' _
  | succ n ih =>
    intro i g1 g3 hn hi
    refine wl_step ?_
    have hlt : i < s.length := by
      have := runN_le (p := isDig) (s := s.drop i)
      simp at this; omega
    have hc : s[i]? = some s[i] := List.getElem?_eq_getElem hlt
    have e1 : decide ((i : Int) < (s.length : Nat)) = true := dT (by omega)
    rw [drop_at hc, runN_cons] at hn
    have hd : isDig s[i] = true := by
      cases h : isDig s[i] with
      | true => rfl
      | false => rw [h] at hn; simp at hn
    rw [if_pos hd] at hn
    have hw := wrap_succ (i := i) (by omega)
    simp only [go_sem, reduceIte, Nat.reduceEqDiff, Nat.reduceAdd, q70l4, q70r2, e1, idxS_at hc]
    refine callW_ret (rdig_ok _ m) ?_
    simp only [go_sem, reduceIte, Nat.reduceEqDiff, Nat.reduceAdd, hd, q70r3, hw]
    exact ih (i + 1) _ _ (by omega) (by omega)
theorem digits_ok {s : List UInt8} (hs : s.length < 2 ^ 61) (m : Mem) : CS 70 [.str s] m (.ret (.int .i64 (runN isDig s))) m := by
  refine call_by xfok mixed q70at q70ok rfl ?_
  simp only [go_sem, reduceIte, Nat.reduceEqDiff, Nat.reduceAdd, q70, q70r0, q70r1]
  refine digits_loop hs (fun g1 g3 => ?_) (runN isDig s) 0 _ _ (by simp) (by simp)
  simp only [go_sem, reduceIte, Nat.reduceEqDiff, Nat.reduceAdd, q70r5]

theorem slice_from {s : List UInt8} {kk : IntKind} {k : Nat} (h : k ≤ s.length) : sliceStr (.str s) (some (.int kk (k : Int))) none = some (.str (s.drop k)) := by
  simp [sliceStr, boundV, h]
theorem slice_to {s : List UInt8} {kk : IntKind} {k : Nat} (h : k ≤ s.length) : sliceStr (.str s) none (some (.int kk (k : Int))) = some (.str (s.take k)) := by
  simp [sliceStr, boundV, h]
theorem slice_from_to {s : List UInt8} {k1 k2 : IntKind} {i j : Nat} (h : i ≤ j) (h2 : j ≤ s.length) : sliceStr (.str s) (some (.int k1 (i : Int))) (some (.int k2 (j : Int))) = some (.str ((s.take j).drop i)) := by
  simp [sliceStr, boundV, h, h2]
theorem slice_1 {c : UInt8} {r : List UInt8} {kk : IntKind} : sliceStr (.str (c :: r)) (some (.int kk 1)) none = some (.str r) := by
  have := slice_from (s := c :: r) (kk := kk) (k := 1) (by simp)
  simpa using this
theorem idx_0 {c : UInt8} {r : List UInt8} {kk : IntKind} : idxSV (.str (c :: r)) (.int kk 0) = some (.int .u8 c.toNat) := by
  have := idxS_at (s := c :: r) (k := kk) (i := 0) (c := c) rfl
  simpa using this
theorem neq_nil {c : UInt8} {r : List UInt8} : (!((c :: r) == ([] : List UInt8))) = true := rfl
theorem eq_nil {c : UInt8} {r : List UInt8} : ((c :: r) == ([] : List UInt8)) = false := rfl
theorem nil_eq : (([] : List UInt8) == []) = true := rfl

theorem wc_start {K : FuncId → List AV → Mem → Rs → Mem → Prop} {r : ARegion} {b : ACode} {Q : AExit → List AV → Mem → Prop} {fr : List AV} {m : Mem} : wc K (.seq (.region r) b) Q fr m = wo K ⟨r, seqQ K b Q, fr⟩ fr (!r.pairs.isEmpty) r.ops [] [] m := by rw [wc_seq, wc_region]
def t47c : ACode := (.seq (.seq (.region q47r12) (.cond (.var 7) (.seq (.region q47r13) .ret) .skip)) (.seq (.seq (.region q47r14) (.cond (.var 8) (.seq (.region q47r15) .ret) .skip)) (.seq (.region q47r16) (.seq (.seq (.region q47r17) (.cond (.var 9) (.region q47r18) .skip)) (.seq (.region q47r19) .ret)))))
def t47b : ACode := (.seq (.seq (.region q47r7) (.cond (.var 5) (.seq (.region q47r8) (.seq (.seq (.region q47r9) (.cond (.var 6) (.seq (.region q47r10) .ret) .skip)) (.region q47r11))) .skip)) t47c)
def t47a : ACode := (.seq (.region q47r3) (.seq (.seq (.region q47r4) (.cond (.var 4) (.seq (.region q47r5) .ret) .skip)) (.seq (.region q47r6) t47b)))
theorem q47_body : q47.body = (.seq (.region q47r0) (.seq (.seq (.region q47r1) (.cond (.var 3) (.region q47r2) .skip)) t47a)) := rfl

section
variable {m : Mem} {Q : AExit → List AV → Mem → Prop} {b : Bool}
theorem num_digs {s : List UInt8} (hs : s.length < 2 ^ 61) (hb : b = (decide (s ≠ []) && decide (runN isDig s = s.length))) {g1 g2 g3 g4 g5 g6 g7 g8 g9 : AV} (hq : ∀ g0 g2 g3 g4 g5 g6 g7 g8 g9, Q .ret [g0, .bool b, g2, g3, g4, g5, g6, g7, g8, g9] m) :
    wc CS (.seq (.region q47r19) .ret) Q [.str s, g1, g2, g3, g4, g5, g6, g7, g8, g9] m := by
  cases s with
  | nil =>
    obtain rfl : b = false := hb
    simp only [go_sem, reduceIte, Nat.reduceEqDiff, Nat.reduceAdd, q47r19, nil_eq]
    exact hq _ _ _ _ _ _ _ _ _
  | cons c r =>
    simp only [go_sem, reduceIte, Nat.reduceEqDiff, Nat.reduceAdd, q47r19, neq_nil]
    refine callW_ret (digits_ok hs m) ?_
    have e : (((runN isDig (c :: r) : Nat) : Int) == ((c :: r).length : Nat)) = decide (runN isDig (c :: r) = (c :: r).length) := by
      rw [Bool.eq_iff_iff]; simp only [beq_iff_eq, decide_eq_true_eq]; omega
    have e2 : decide (c :: r ≠ []) = true := dT (by simp)
    rw [e2, Bool.true_and] at hb
    simp only [go_sem, reduceIte, Nat.reduceEqDiff, Nat.reduceAdd, e, ← hb]
    exact hq _ _ _ _ _ _ _ _ _
theorem num_c {s : List UInt8} (hs : s.length < 2 ^ 61) (hb : b = expS s) {g1 g2 g3 g4 g5 g6 g7 g8 g9 : AV} (hq : ∀ g0 g2 g3 g4 g5 g6 g7 g8 g9, Q .ret [g0, .bool b, g2, g3, g4, g5, g6, g7, g8, g9] m) :
    wc CS t47c Q [.str s, g1, g2, g3, g4, g5, g6, g7, g8, g9] m := by
  cases s with
  | nil =>
    obtain rfl : b = true := hb
    simp only [go_sem, reduceIte, Nat.reduceEqDiff, Nat.reduceAdd, t47c, q47r12, nil_eq, q47r13]
    exact hq _ _ _ _ _ _ _ _ _
  | cons c r =>
    have hlen : (c :: r).length = r.length + 1 := rfl
    -- what is behind e
    have rest : (c.toNat = 101 ∨ c.toNat = 69) → ∀ g1 g2 g3 g4 g5 g6 g7 g8 g9, wc CS (.seq (.region q47r16) (.seq (.seq (.region q47r17) (.cond (.var 9) (.region q47r18) .skip)) (.seq (.region q47r19) .ret))) Q [.str (c :: r), g1, g2, g3, g4, g5, g6, g7, g8, g9] m := by
      intro hc g1 g2 g3 g4 g5 g6 g7 g8 g9
      have e1 : (decide (c.toNat = 101) || decide (c.toNat = 69)) = true := by simpa using hc
      simp only [expS, e1, Bool.true_and] at hb
      cases r with
      | nil =>
        rw [wc_seq]
        simp only [go_sem, reduceIte, Nat.reduceEqDiff, Nat.reduceAdd, q47r16, slice_1, q47r17, nil_eq]
        have := num_digs (m := m) (Q := Q) (b := b) (s := []) (by simp) (by rw [hb]; rfl) (g1 := g1) (g2 := g2) (g3 := g3) (g4 := g4) (g5 := g5) (g6 := g6) (g7 := g7) (g8 := g8) (g9 := .bool false) hq
        rw [wc_seq] at this
        simp only [go_sem, reduceIte, Nat.reduceEqDiff, Nat.reduceAdd] at this
        exact this
      | cons d q =>
        dsimp only at hb
        have tail : ∀ (t : List UInt8), t.length < 2 ^ 61 → b = (decide (t ≠ []) && decide (runN isDig t = t.length)) → ∀ g1 g2 g3 g4 g5 g6 g7 g8 g9, wo CS { r := q47r19, Q := seqQ CS ACode.ret Q, fr := [.str t, g1, g2, g3, g4, g5, g6, g7, g8, g9] } [.str t, g1, g2, g3, g4, g5, g6, g7, g8, g9] (!q47r19.pairs.isEmpty) q47r19.ops [] [] m := by
          intro t ht hbt g1 g2 g3 g4 g5 g6 g7 g8 g9
          have := num_digs (m := m) (Q := Q) (b := b) ht hbt (g1 := g1) (g2 := g2) (g3 := g3) (g4 := g4) (g5 := g5) (g6 := g6) (g7 := g7) (g8 := g8) (g9 := g9) hq
          rw [wc_seq, wc_region] at this
          exact this
        rw [wc_seq]
        by_cases h43 : d.toNat = 43
        · have a1 : ((d.toNat : Int) == 43) = true := bqT (by omega)
          rw [if_pos (.inl h43)] at hb
          simp only [go_sem, reduceIte, Nat.reduceEqDiff, Nat.reduceAdd, q47r16, slice_1, q47r17, neq_nil, idx_0, a1, q47r18]
          exact tail q (by simp at hs; omega) hb _ _ _ _ _ _ _ _ _
        · have a1 : ((d.toNat : Int) == 43) = false := bqF (by omega)
          by_cases h45 : d.toNat = 45
          · have a2 : ((d.toNat : Int) == 45) = true := bqT (by omega)
            rw [if_pos (.inr h45)] at hb
            simp only [go_sem, reduceIte, Nat.reduceEqDiff, Nat.reduceAdd, q47r16, slice_1, q47r17, neq_nil, idx_0, a1, a2, q47r18]
            exact tail q (by simp at hs; omega) hb _ _ _ _ _ _ _ _ _
          · have a2 : ((d.toNat : Int) == 45) = false := bqF (by omega)
            rw [if_neg (by omega)] at hb
            simp only [go_sem, reduceIte, Nat.reduceEqDiff, Nat.reduceAdd, q47r16, slice_1, q47r17, neq_nil, idx_0, a1, a2]
            exact tail (d :: q) (by simp at hs ⊢; omega) (by rw [hb, dT (p := d :: q ≠ []) (by simp), Bool.true_and]) _ _ _ _ _ _ _ _ _
    have conv : ∀ g1 g2 g3 g4 g5 g6 g7 g8 g9, wc CS (.seq (.region q47r16) (.seq (.seq (.region q47r17) (.cond (.var 9) (.region q47r18) .skip)) (.seq (.region q47r19) .ret))) Q [.str (c :: r), g1, g2, g3, g4, g5, g6, g7, g8, g9] m →
        wo CS { r := q47r16, Q := seqQ CS (.seq (.seq (.region q47r17) (.cond (.var 9) (.region q47r18) .skip)) (.seq (.region q47r19) .ret)) Q, fr := [.str (c :: r), g1, g2, g3, g4, g5, g6, g7, g8, g9] } [.str (c :: r), g1, g2, g3, g4, g5, g6, g7, g8, g9] (!q47r16.pairs.isEmpty) q47r16.ops [] [] m := by
      intro g1 g2 g3 g4 g5 g6 g7 g8 g9 h
      rw [wc_seq, wc_region] at h
      exact h
    by_cases h101 : c.toNat = 101
    · have a1 : ((c.toNat : Int) != 101) = false := bnF (by omega)
      simp only [go_sem, reduceIte, Nat.reduceEqDiff, Nat.reduceAdd, t47c, q47r12, eq_nil, q47r14, idx_0, a1]
      exact conv _ _ _ _ _ _ _ _ _ (rest (.inl h101) _ _ _ _ _ _ _ _ _)
    · have a1 : ((c.toNat : Int) != 101) = true := bnT (by omega)
      by_cases h69 : c.toNat = 69
      · have a2 : ((c.toNat : Int) != 69) = false := bnF (by omega)
        simp only [go_sem, reduceIte, Nat.reduceEqDiff, Nat.reduceAdd, t47c, q47r12, eq_nil, q47r14, idx_0, a1, a2]
        exact conv _ _ _ _ _ _ _ _ _ (rest (.inr h69) _ _ _ _ _ _ _ _ _)
      · have a2 : ((c.toNat : Int) != 69) = true := bnT (by omega)
        have hbf : b = false := by rw [hb]; simp [expS, h101, h69]
        subst hbf
        simp only [go_sem, reduceIte, Nat.reduceEqDiff, Nat.reduceAdd, t47c, q47r12, eq_nil, q47r14, idx_0, a1, a2, q47r15]
        exact hq _ _ _ _ _ _ _ _ _
theorem num_b {s : List UInt8} (hs : s.length < 2 ^ 61) (hb : b = fracS s) {g1 g2 g3 g4 g5 g6 g7 g8 g9 : AV} (hq : ∀ g0 g2 g3 g4 g5 g6 g7 g8 g9, Q .ret [g0, .bool b, g2, g3, g4, g5, g6, g7, g8, g9] m) :
    wc CS t47b Q [.str s, g1, g2, g3, g4, g5, g6, g7, g8, g9] m := by
  cases s with
  | nil =>
    simp only [go_sem, reduceIte, Nat.reduceEqDiff, Nat.reduceAdd, t47b, q47r7, nil_eq]
    exact num_c (by simp) hb hq
  | cons c r =>
    by_cases h46 : c.toNat = 46
    · have a1 : ((c.toNat : Int) == 46) = true := bqT (by omega)
      simp only [fracS, if_pos h46] at hb
      simp only [go_sem, reduceIte, Nat.reduceEqDiff, Nat.reduceAdd, t47b, q47r7, neq_nil, idx_0, a1, q47r8, slice_1]
      refine callW_ret (digits_ok (by simp at hs; omega) m) ?_
      have hle := runN_le (p := isDig) (s := r)
      by_cases h0 : runN isDig r = 0
      · have a2 : (((runN isDig r : Nat) : Int) == 0) = true := bqT (by omega)
        rw [if_pos h0] at hb
        subst hb
        simp only [go_sem, reduceIte, Nat.reduceEqDiff, Nat.reduceAdd, q47r9, a2, q47r10]
        exact hq _ _ _ _ _ _ _ _ _
      · have a2 : (((runN isDig r : Nat) : Int) == 0) = false := bqF (by omega)
        rw [if_neg h0] at hb
        have hw := wrap_succ (i := runN isDig r) (by simp at hs; omega)
        have hsl := slice_from (s := c :: r) (kk := .i64) (k := runN isDig r + 1) (by simp; omega)
        simp only [go_sem, reduceIte, Nat.reduceEqDiff, Nat.reduceAdd, q47r9, a2, q47r11, hw, hsl]
        rw [List.drop_succ_cons]
        exact num_c (by simp at hs ⊢; omega) hb hq
    · have a1 : ((c.toNat : Int) == 46) = false := bqF (by omega)
      simp only [fracS, if_neg h46] at hb
      simp only [go_sem, reduceIte, Nat.reduceEqDiff, Nat.reduceAdd, t47b, q47r7, neq_nil, idx_0, a1]
      exact num_c hs hb hq
theorem num_a {s : List UInt8} (hs : s.length < 2 ^ 61) (hb : b = absS s) {g1 g2 g3 g4 g5 g6 g7 g8 g9 : AV} (hq : ∀ g0 g2 g3 g4 g5 g6 g7 g8 g9, Q .ret [g0, .bool b, g2, g3, g4, g5, g6, g7, g8, g9] m) :
    wc CS t47a Q [.str s, g1, g2, g3, g4, g5, g6, g7, g8, g9] m := by
  simp only [go_sem, reduceIte, Nat.reduceEqDiff, Nat.reduceAdd, t47a, q47r3]
  refine callW_ret (digits_ok hs m) ?_
  have hle := runN_le (p := isDig) (s := s)
  unfold absS at hb
  by_cases h0 : runN isDig s = 0
  · have a2 : (((runN isDig s : Nat) : Int) == 0) = true := bqT (by omega)
    rw [if_pos (.inl h0)] at hb
    subst hb
    simp only [go_sem, reduceIte, Nat.reduceEqDiff, Nat.reduceAdd, q47r4, a2, q47r5]
    exact hq _ _ _ _ _ _ _ _ _
  · have a2 : (((runN isDig s : Nat) : Int) == 0) = false := bqF (by omega)
    have hsl := slice_from (s := s) (kk := .i64) (k := runN isDig s) hle
    by_cases h1 : 1 < runN isDig s
    · have a3 : decide (((runN isDig s : Nat) : Int) > 1) = true := dT (by omega)
      cases s with
      | nil => simp [runN_nil] at h0
      | cons c r =>
        by_cases h48 : c.toNat = 48
        · have a4 : ((c.toNat : Int) == 48) = true := bqT (by omega)
          have hc : c = 48 := UInt8.toNat_inj.1 h48
          rw [if_pos (.inr ⟨h1, by rw [hc]; rfl⟩)] at hb
          subst hb
          simp only [go_sem, reduceIte, Nat.reduceEqDiff, Nat.reduceAdd, q47r4, a2, a3, idx_0, a4, q47r5]
          exact hq _ _ _ _ _ _ _ _ _
        · have a4 : ((c.toNat : Int) == 48) = false := bqF (by omega)
          rw [if_neg (by
            rintro (h | ⟨_, h⟩)
            · exact h0 h
            · simp at h; exact h48 (by rw [h]; rfl))] at hb
          simp only [go_sem, reduceIte, Nat.reduceEqDiff, Nat.reduceAdd, q47r4, a2, a3, idx_0, a4, q47r6, hsl]
          exact num_b (by simp at hs ⊢; omega) hb hq
    · have a3 : decide (((runN isDig s : Nat) : Int) > 1) = false := dF (by omega)
      rw [if_neg (by
        rintro (h | ⟨h, _⟩)
        · exact h0 h
        · exact h1 h)] at hb
      simp only [go_sem, reduceIte, Nat.reduceEqDiff, Nat.reduceAdd, q47r4, a2, a3, q47r6, hsl]
      exact num_b (by simp at hs ⊢; omega) hb hq
end
theorem rnumber_ok {s : List UInt8} (hs : s.length < 2 ^ 61) (m : Mem) : CS 47 [.str s] m (.ret (.bool (numS s))) m := by
  refine call_by xfok mixed q47at q47ok rfl ?_
  have hq : ∀ g0 g2 g3 g4 g5 g6 g7 g8 g9, endsIn q47.results (fun v' m1 => v' = AV.bool (numS s) ∧ m1 = m) noPan .ret [g0, .bool (numS s), g2, g3, g4, g5, g6, g7, g8, g9] m := by
    intro g0 g2 g3 g4 g5 g6 g7 g8 g9
    simp only [go_sem, reduceIte, Nat.reduceEqDiff, Nat.reduceAdd, q47]
  rw [q47_body]
  show wc CS _ _ [AV.str s, .u, .u, .u, .u, .u, .u, .u, .u, .u] m
  generalize hQ : endsIn q47.results (fun v' m1 => v' = AV.bool (numS s) ∧ m1 = m) noPan = Q at hq
  cases s with
  | nil =>
    simp only [go_sem, reduceIte, Nat.reduceEqDiff, Nat.reduceAdd, q47r0, q47r1, nil_eq]
    exact num_a (by simp) rfl hq
  | cons c r =>
    by_cases h45 : c.toNat = 45
    · have a1 : ((c.toNat : Int) == 45) = true := bqT (by omega)
      simp only [go_sem, reduceIte, Nat.reduceEqDiff, Nat.reduceAdd, q47r0, q47r1, neq_nil, idx_0, a1, q47r2, slice_1]
      exact num_a (by simp at hs; omega) (by simp [numS, h45]) hq
    · have a1 : ((c.toNat : Int) == 45) = false := bqF (by omega)
      simp only [go_sem, reduceIte, Nat.reduceEqDiff, Nat.reduceAdd, q47r0, q47r1, neq_nil, idx_0, a1]
      exact num_a hs (by simp [numS, h45]) hq
end Go.Proofs.YtinlfdkalijffaaDoor.Am.Q

/-
  JSON, 21: the document's parser: words; is a text among some; what comes in a list or a table.
-/
namespace Go.Proofs.YtinlfdkalijffaaDoor.Am.Q
open Go Go.Proofs Go.Proofs.YtinlfdkalijffaaDoor.Am

theorem take_runN {p : UInt8 → Bool} : ∀ {l : List UInt8}, l.take (runN p l) = l.takeWhile p
  | [] => rfl
  | c :: r => by
    rw [runN_cons, List.takeWhile_cons]
    split
    · rw [List.take_succ_cons, take_runN]
    · rfl
def runP (b : Bool) : UInt8 → Bool := if b = true then isNum else isSmall
theorem rrun_loop {p : Nat} {s : List UInt8} {many fat from' : Nat} {why : Int} {b : Bool} {Q : AExit → List AV → Mem → Prop} (hs : s.length < 2 ^ 61) :
    ∀ (n i : Nat) (M : Mem) (g2 g4 : AV), M.get p = RP s i many why fat → runN (runP b) (s.drop i) = n → (∀ g2 g4, Q (.exit 0) [.ptr p 0, .bool b, g2, .int .i64 from', g4] (M.set p (RP s (i + n) many why fat))) → wl CS [2, 4] q46l4 Q [.ptr p 0, .bool b, g2, .int .i64 from', g4] M := by
  intro n
  induction n with
  | zero =>
    intro i M g2 g4 hp hn hq
    refine wl_step ?_
    rw [set_self (by simpa using hp)] at hq
    cases hc : s[i]? with
    | none =>
      have h1 := List.getElem?_eq_none_iff.1 hc
      have e1 : decide ((i : Int) < (s.length : Nat)) = false := dF (by omega)
      simp only [go_sem, reduceIte, Nat.reduceEqDiff, Nat.reduceAdd, q46l4, q46r2, hp, e1]
      exact hq _ _
    | some c =>
      have h1 := (List.getElem?_eq_some_iff.1 hc).1
      have e1 : decide ((i : Int) < (s.length : Nat)) = true := dT (by omega)
      rw [drop_at hc, runN_cons] at hn
      have hd : runP b c = false := by
        cases h : runP b c with
        | true => rw [h, if_pos rfl] at hn; omega
        | false => rfl
      cases b with
      | true =>
        have hd' : isNum c = false := hd
        simp only [go_sem, reduceIte, Nat.reduceEqDiff, Nat.reduceAdd, q46l4, q46r2, hp, e1, idxS_at hc]
        refine callW_ret (rnum_ok c M) ?_
        simp only [go_sem, reduceIte, Nat.reduceEqDiff, Nat.reduceAdd, hd']
        exact hq _ _
      | false =>
        have hd' : isSmall c = false := hd
        simp only [go_sem, reduceIte, Nat.reduceEqDiff, Nat.reduceAdd, q46l4, q46r2, hp, e1, idxS_at hc]
        refine callW_ret (rsmall_ok c M) ?_
        simp only [go_sem, reduceIte, Nat.reduceEqDiff, Nat.reduceAdd, hd']
        exact hq _ _
  | succ n ih =>
    intro i M g2 g4 hp hn hq
    refine wl_step ?_
    have hlt : i < s.length := by
      have := runN_le (p := runP b) (s := s.drop i)
      simp at this; omega
    have hc : s[i]? = some s[i] := List.getElem?_eq_getElem hlt
    have e1 : decide ((i : Int) < (s.length : Nat)) = true := dT (by omega)
    rw [drop_at hc, runN_cons] at hn
    have hd : runP b s[i] = true := by
      cases h : runP b s[i] with
      | true => rfl
      | false => rw [h] at hn; simp at hn
    rw [if_pos hd] at hn
    have hw := wrap_succ (i := i) (by omega)
    have fin : ∀ g2 g4, wl CS [2, 4] q46l4 Q [.ptr p 0, .bool b, g2, .int .i64 from', g4] (M.set p (RP s (i + 1) many why fat)) := by
      intro g2 g4
      refine ih (i + 1) _ _ _ get_set_same (by omega) (fun g2 g4 => ?_)
      rw [set_set, show i + 1 + n = i + (n + 1) by omega]
      exact hq _ _
    cases b with
    | true =>
      have hd' : isNum s[i] = true := hd
      simp only [go_sem, reduceIte, Nat.reduceEqDiff, Nat.reduceAdd, q46l4, q46r2, hp, e1, idxS_at hc]
      refine callW_ret (rnum_ok _ M) ?_
      simp only [go_sem, reduceIte, Nat.reduceEqDiff, Nat.reduceAdd, hd', q46r3, hp, hw]
      exact fin _ _
    | false =>
      have hd' : isSmall s[i] = true := hd
      simp only [go_sem, reduceIte, Nat.reduceEqDiff, Nat.reduceAdd, q46l4, q46r2, hp, e1, idxS_at hc]
      refine callW_ret (rsmall_ok _ M) ?_
      simp only [go_sem, reduceIte, Nat.reduceEqDiff, Nat.reduceAdd, hd', q46r3, hp, hw]
      exact fin _ _
theorem rrun_ok {m : Mem} {p : Nat} {s : List UInt8} {i many fat : Nat} {why : Int} {b : Bool} (hs : s.length < 2 ^ 61) (hi : i ≤ s.length) (hp : m.get p = RP s i many why fat) :
    CS 46 [.ptr p 0, .bool b] m (.ret (.str ((s.drop i).takeWhile (runP b)))) (m.set p (RP s (i + runN (runP b) (s.drop i)) many why fat)) := by
  refine call_by xfok mixed q46at q46ok rfl ?_
  simp only [go_sem, reduceIte, Nat.reduceEqDiff, Nat.reduceAdd, q46, q46r0, q46r1, hp]
  refine rrun_loop hs (runN (runP b) (s.drop i)) i m _ _ hp rfl (fun g2 g4 => ?_)
  have hle := runN_le (p := runP b) (s := s.drop i)
  simp only [List.length_drop] at hle
  have hsl := slice_from_to (s := s) (k1 := .i64) (k2 := .i64) (i := i) (j := i + runN (runP b) (s.drop i)) (by omega) (by omega)
  rw [List.drop_take, Nat.add_sub_cancel_left, take_runN] at hsl
  simp only [go_sem, reduceIte, Nat.reduceEqDiff, Nat.reduceAdd, q46r5, hsl]

theorem has_loop (m : Mem) {a : AV} {l : List (List UInt8)} {k : List UInt8} (ha : SlOf 1 a (l.map .str)) (hl : l.length < 2 ^ 61) {Q : AExit → List AV → Mem → Prop}
    (hx : ¬ k ∈ l → ∀ g2 g3 g4 g5, Q (.exit 0) [a, .str k, g2, g3, g4, g5] m) (hr : k ∈ l → ∀ g3 g4 g5, Q .ret [a, .str k, .bool true, g3, g4, g5] m) :
    ∀ (n i : Nat) (g2 g4 g5 : AV), i + n = l.length → (k ∈ l ↔ k ∈ l.drop i) → wl CS [2, 4, 5] q72l6 Q [a, .str k, g2, .int .i64 i, g4, g5] m := by
  intro n
  induction n with
  | zero =>
    intro i g2 g4 g5 hi ht
    refine wl_step ?_
    have e1 : decide ((i : Int) < ((l.map AV.str).length : Nat)) = false := dF (by simp; omega)
    simp only [go_sem, reduceIte, Nat.reduceEqDiff, Nat.reduceAdd, q72l6, q72r2, ha.isLK, ha.len, e1]
    exact hx (by rw [ht, List.drop_of_length_le (by omega)]; simp) _ _ _ _
  | succ n ih =>
    intro i g2 g4 g5 hi ht
    refine wl_step ?_
    have hlt : i < l.length := by omega
    have e1 : decide ((i : Int) < ((l.map AV.str).length : Nat)) = true := dT (by simp; omega)
    have ea := ha.idx (k := .i64) (i := (i : Int)) (y := .str l[i]) (by omega) (by simp [hlt])
    have hw := wrap_succ (i := i) (by omega)
    have hd : l.drop i = l[i] :: l.drop (i + 1) := List.drop_eq_getElem_cons hlt
    rw [hd, List.mem_cons] at ht
    simp only [go_sem, reduceIte, Nat.reduceEqDiff, Nat.reduceAdd, q72l6, q72r2, ha.isLK, ha.len, e1, q72r3, ea]
    by_cases h : k = l[i]
    · have e2 : (l[i] == k) = true := by simp [h]
      simp only [go_sem, reduceIte, Nat.reduceEqDiff, Nat.reduceAdd, e2, q72r4]
      exact hr (ht.2 (.inl h)) _ _ _
    · have e2 : (l[i] == k) = false := by simp; exact fun e => h e.symm
      simp only [go_sem, reduceIte, Nat.reduceEqDiff, Nat.reduceAdd, e2, q72r5, hw]
      exact ih (i + 1) _ _ _ (by omega) (ht.trans ⟨fun x => x.resolve_left h, .inr⟩)
theorem has_ok (m : Mem) {a : AV} {l : List (List UInt8)} {k : List UInt8} (ha : SlOf 1 a (l.map .str)) (hl : l.length < 2 ^ 61) : CS 72 [a, .str k] m (.ret (.bool (decide (k ∈ l)))) m := by
  refine call_by xfok mixed q72at q72ok rfl ?_
  simp only [go_sem, reduceIte, Nat.reduceEqDiff, Nat.reduceAdd, q72, q72r0, q72r1]
  refine has_loop m ha hl (fun h g2 g3 g4 g5 => ?_) (fun h g3 g4 g5 => ?_) l.length 0 _ _ _ (by omega) (by simp)
  · simp only [go_sem, reduceIte, Nat.reduceEqDiff, Nat.reduceAdd, q72r7, dF h]
  · simp only [go_sem, reduceIte, Nat.reduceEqDiff, Nat.reduceAdd, dT h]

/-- What 'more' tells, and leaves. -/
def moreR (s : List UInt8) (i many : Nat) (first : Bool) (e : Nat) : Bool × AObj :=
  match nxt s i with
  | .error (w, k) => (false, RP s (skipN s i) many w k)
  | .ok (j, c) => if c.toNat = e then (false, RP s (j + 1) many 0 0) else if first = true then (true, RP s j many 0 0) else if c.toNat ≠ 44 then (false, RP s j many 3 j) else (true, RP s (j + 1) many 0 0)
theorem rmore_ok {m : Mem} {p : Nat} {s : List UInt8} {i many : Nat} (hs : s.length < 2 ^ 60) (hp : m.get p = RP s i many 0 0) (first : Bool) (e : Nat) :
    CS 71 [.ptr p 0, .bool first, .int .u8 e] m (.ret (.bool (moreR s i many first e).1)) (m.set p (moreR s i many first e).2) := by
  refine call_by xfok mixed q71at q71ok rfl ?_
  have hn := rnext_ok (by omega) hp
  simp only [go_sem, reduceIte, Nat.reduceEqDiff, Nat.reduceAdd, q71, q71r0, q71r1]
  refine callW_ret hn ?_
  cases hc : s[skipN s i]? with
  | none =>
    simp only [rnextM, moreR, nxt_none hc]
    simp only [go_sem, reduceIte, Nat.reduceEqDiff, Nat.reduceAdd, q71r2, show ((4 : Int) != 0) = true from rfl, q71r3]
  | some c =>
    have h1 := (List.getElem?_eq_some_iff.1 hc).1
    simp only [rnextM, moreR, nxt_some hc]
    have hw := wrap_succ (i := skipN s i) (by omega)
    by_cases he : c.toNat = e
    · have a1 : ((c.toNat : Int) == (e : Int)) = true := bqT (by omega)
      rw [if_pos he]
      simp only [go_sem, reduceIte, Nat.reduceEqDiff, Nat.reduceAdd, q71r2, show ((0 : Int) != 0) = false from rfl, q71r4, a1, q71r5, hw, q71r6]
    · have a1 : ((c.toNat : Int) == (e : Int)) = false := bqF (by omega)
      rw [if_neg he]
      cases first with
      | true =>
        rw [if_pos rfl]
        simp only [go_sem, reduceIte, Nat.reduceEqDiff, Nat.reduceAdd, q71r2, show ((0 : Int) != 0) = false from rfl, q71r4, a1, q71r7, q71r8]
      | false =>
        rw [if_neg (by decide)]
        by_cases h44 : c.toNat = 44
        · have a2 : ((c.toNat : Int) != 44) = false := bnF (by omega)
          rw [if_neg (by omega)]
          simp only [go_sem, reduceIte, Nat.reduceEqDiff, Nat.reduceAdd, q71r2, show ((0 : Int) != 0) = false from rfl, q71r4, a1, q71r7, q71r9, a2, q71r12, hw, q71r13]
        · have a2 : ((c.toNat : Int) != 44) = true := bnT (by omega)
          rw [if_pos (by omega)]
          simp only [go_sem, reduceIte, Nat.reduceEqDiff, Nat.reduceAdd, q71r2, show ((0 : Int) != 0) = false from rfl, q71r4, a1, q71r7, q71r9, a2, q71r10]
          refine callW_ret (rfail_ok get_set_same 3 _) ?_
          simp only [go_sem, reduceIte, Nat.reduceEqDiff, Nat.reduceAdd, q71r11]
theorem rmore_no {m : Mem} {p : Nat} {s : List UInt8} {i many fat : Nat} {why : Int} (hs : s.length < 2 ^ 60) (hw : why ≠ 0) (hp : m.get p = RP s i many why fat) (first : Bool) (e : Nat) :
    CS 71 [.ptr p 0, .bool first, .int .u8 e] m (.ret (.bool false)) (m.set p (RP s (skipN s i) many why fat)) := by
  refine call_by xfok mixed q71at q71ok rfl ?_
  obtain ⟨n, hn⟩ := rnext_no (by omega) hw hp
  have z : (why != 0) = true := by simp [hw]
  simp only [go_sem, reduceIte, Nat.reduceEqDiff, Nat.reduceAdd, q71, q71r0, q71r1]
  refine callW_ret hn ?_
  simp only [go_sem, reduceIte, Nat.reduceEqDiff, Nat.reduceAdd, q71r2, z, q71r3]
end Go.Proofs.YtinlfdkalijffaaDoor.Am.Q

/-
  JSON, 22: the plain parser goes forward.
-/
namespace Go.Proofs.YtinlfdkalijffaaDoor.Am.Q
open Go Go.Proofs Go.Proofs.YtinlfdkalijffaaDoor.Am

theorem quoS_ok {s : List UInt8} : ∀ {f i : Nat} {out t : List UInt8} {j : Nat}, quoS s f i out = .ok (t, j) → i < j ∧ j ≤ s.length
  | 0, _, _, _, _, h => by cases h
  | f + 1, i, out, t, j, h => by
    simp only [quoS] at h
    split at h
    · cases h
    · rename_i c hc
      have h1 := (List.getElem?_eq_some_iff.1 hc).1
      split at h
      · cases h
      · split at h
        · simp only [Except.ok.injEq, Prod.mk.injEq] at h
          obtain ⟨_, rfl⟩ := h
          exact ⟨by omega, by omega⟩
        · split at h
          · split at h
            · cases h
            · rename_i b k hk
              have h2 := escS_ok hk
              have h3 := quoS_ok h
              exact ⟨by omega, h3.2⟩
          · have h3 := quoS_ok h
            exact ⟨by omega, h3.2⟩
theorem quote_ok {s : List UInt8} {i : Nat} {t : List UInt8} {j : Nat} (h : quote s i = .ok (t, j)) : i + 1 < j ∧ j ≤ s.length := quoS_ok h
theorem skip_ge {s : List UInt8} {i : Nat} : i ≤ skipN s i := Nat.le_add_right _ _
theorem nxt_ok {s : List UInt8} {i j : Nat} {c : UInt8} (h : nxt s i = .ok (j, c)) : i ≤ j ∧ j < s.length ∧ s[j]? = some c ∧ j = skipN s i := by
  unfold nxt at h
  split at h
  · rename_i c' hc
    simp only [Except.ok.injEq, Prod.mk.injEq] at h
    obtain ⟨rfl, rfl⟩ := h
    exact ⟨skip_ge, (List.getElem?_eq_some_iff.1 hc).1, hc, rfl⟩
  · cases h
theorem takeWhile_len {p : UInt8 → Bool} {l : List UInt8} : (l.takeWhile p).length = runN p l := rfl
theorem pGo_ok {s : List UInt8} : ∀ {f : Nat} {t : PT} {i many deep : Nat} {v : VT} {j many' : Nat}, pGo s f t i many deep = .ok (v, j, many') → many ≤ 4096 → i < j ∧ j ≤ s.length ∧ many' ≤ 4096
  | 0, _, _, _, _, _, _, _, h, _ => by cases h
  | f + 1, .val, i, many, deep, v, j, many', h, hm => by
    simp only [pGo] at h
    split at h
    · cases h
    · rename_i a c hn
      obtain ⟨n1, n2, n3, _⟩ := nxt_ok hn
      split at h
      · cases h
      · rename_i h4
        split at h
        · split at h
          · cases h
          · rename_i t k hq
            simp only [Except.ok.injEq, Prod.mk.injEq] at h
            obtain ⟨_, rfl, rfl⟩ := h
            have := quote_ok hq
            exact ⟨by omega, by omega, by omega⟩
        · split at h
          · split at h
            · cases h
            · split at h
              · have := pGo_ok h (by omega); exact ⟨by omega, this.2.1, this.2.2⟩
              · have := pGo_ok h (by omega); exact ⟨by omega, this.2.1, this.2.2⟩
          · have hdl : runN isNum (s.drop a) ≤ s.length - a := by have := runN_le (p := isNum) (s := s.drop a); simpa using this
            have hds : runN isSmall (s.drop a) ≤ s.length - a := by have := runN_le (p := isSmall) (s := s.drop a); simpa using this
            split at h
            · split at h
              · rename_i hc hnum
                simp only [Except.ok.injEq, Prod.mk.injEq] at h
                obtain ⟨_, rfl, rfl⟩ := h
                have : 0 < runN isNum (s.drop a) := by
                  cases hz : runN isNum (s.drop a) with
                  | zero =>
                    have : ((s.drop a).takeWhile isNum) = [] := List.eq_nil_of_length_eq_zero (by rw [takeWhile_len]; exact hz)
                    rw [this] at hnum; cases hnum
                  | succ _ => omega
                exact ⟨by omega, by omega, by omega⟩
              · cases h
            · split at h
              · rename_i hw
                simp only [Except.ok.injEq, Prod.mk.injEq] at h
                obtain ⟨_, rfl, rfl⟩ := h
                have : runN isSmall (s.drop a) = 4 := by rw [← takeWhile_len, hw]; rfl
                exact ⟨by omega, by omega, by omega⟩
              · split at h
                · rename_i hw
                  simp only [Except.ok.injEq, Prod.mk.injEq] at h
                  obtain ⟨_, rfl, rfl⟩ := h
                  have : 0 < runN isSmall (s.drop a) := by
                    rw [← takeWhile_len]
                    rcases hw with hw | hw <;> rw [hw] <;> decide
                  exact ⟨by omega, by omega, by omega⟩
                · cases h
  | f + 1, .list acc, i, many, deep, v, j, many', h, hm => by
    simp only [pGo] at h
    split at h
    · cases h
    · rename_i a c hn
      obtain ⟨n1, n2, n3, _⟩ := nxt_ok hn
      split at h
      · simp only [Except.ok.injEq, Prod.mk.injEq] at h
        obtain ⟨_, rfl, rfl⟩ := h
        exact ⟨by omega, by omega, by omega⟩
      · split at h
        · cases h
        · split at h
          · cases h
          · rename_i v1 k1 m1 hv
            have h1 := pGo_ok hv hm
            have h2 := pGo_ok h h1.2.2
            have : i < k1 := by have := h1.1; split at this <;> omega
            exact ⟨by omega, h2.2.1, h2.2.2⟩
  | f + 1, .tab ks acc, i, many, deep, v, j, many', h, hm => by
    simp only [pGo] at h
    split at h
    · cases h
    · rename_i a c hn
      obtain ⟨n1, n2, n3, _⟩ := nxt_ok hn
      split at h
      · simp only [Except.ok.injEq, Prod.mk.injEq] at h
        obtain ⟨_, rfl, rfl⟩ := h
        exact ⟨by omega, by omega, by omega⟩
      · split at h
        · cases h
        · split at h
          · cases h
          · rename_i b q hn2
            obtain ⟨o1, o2, _, _⟩ := nxt_ok hn2
            split at h
            · cases h
            · split at h
              · cases h
              · rename_i key d hq
                have hq' := quote_ok hq
                split at h
                · cases h
                · split at h
                  · cases h
                  · rename_i e o hn3
                    obtain ⟨p1, p2, _, _⟩ := nxt_ok hn3
                    split at h
                    · cases h
                    · split at h
                      · cases h
                      · rename_i v1 k1 m1 hv
                        have h1 := pGo_ok hv hm
                        have h2 := pGo_ok h h1.2.2
                        have : i ≤ b := by split at o1 <;> omega
                        exact ⟨by omega, h2.2.1, h2.2.2⟩
end Go.Proofs.YtinlfdkalijffaaDoor.Am.Q
