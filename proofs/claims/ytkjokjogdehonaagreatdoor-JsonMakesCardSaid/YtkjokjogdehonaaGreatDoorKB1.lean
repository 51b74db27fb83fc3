/- Part KB1 of a claim's texts, joined: what the claim needs of them. -/
import Derived.Test.YtkjokjogdehonaaGreatDoorKJ5
set_option linter.unusedSimpArgs false
set_option linter.unusedVariables false
namespace Go.Proofs.YtkjokjogdehonaaGreatDoor.Am.Q
open Go Go.Proofs Go.Proofs.YtkjokjogdehonaaGreatDoor.Am
abbrev RP (s : List UInt8) (i many : Nat) (why : Int) (fat : Nat) : AObj := .cells 110 [.str s, .int .i64 i, .int .i64 many, .int .i64 why, .int .i64 fat]
theorem rfail_ok {m : Mem} {p : Nat} {s : List UInt8} {i many : Nat} (hp : m.get p = RP s i many 0 0) (e : Int) (j : Nat) : CS 73 [.ptr p 0, .int .i64 e, .int .i64 j] m (.ret (.tup [])) (m.set p (RP s i many e j)) := by
  refine call_by xfok mixed q73at q73ok rfl ?_
  simp only [go_sem, reduceIte, Nat.reduceEqDiff, Nat.reduceAdd, q73, q73r0, q73r1, hp]
theorem rfail_no {m : Mem} {p : Nat} {s : List UInt8} {i many fat : Nat} {why : Int} (hp : m.get p = RP s i many why fat) (hw : why ≠ 0) (e : Int) (j : Nat) : CS 73 [.ptr p 0, .int .i64 e, .int .i64 j] m (.ret (.tup [])) m := by
  refine call_by xfok mixed q73at q73ok rfl ?_
  have h1 : (why == 0) = false := by simp [hw]
  simp only [go_sem, reduceIte, Nat.reduceEqDiff, Nat.reduceAdd, q73, q73r0, hp, h1]
theorem runN_nil {p : UInt8 → Bool} : runN p [] = 0 := rfl
theorem runN_cons {p : UInt8 → Bool} {c : UInt8} {r : List UInt8} : runN p (c :: r) = if p c = true then runN p r + 1 else 0 := by
  simp only [runN, List.takeWhile_cons]; split <;> simp
theorem runN_le {p : UInt8 → Bool} : ∀ {s : List UInt8}, runN p s ≤ s.length
  | [] => Nat.zero_le _
  | c :: r => by
    have := runN_le (p := p) (s := r)
    rw [runN_cons, List.length_cons]; split <;> omega
theorem bqT {n : Nat} {k : Int} (h : (n : Int) = k) : ((n : Int) == k) = true := by simp [h]
theorem bqF {n : Nat} {k : Int} (h : (n : Int) ≠ k) : ((n : Int) == k) = false := by simp [h]
theorem bnT {n : Nat} {k : Int} (h : (n : Int) ≠ k) : ((n : Int) != k) = true := by simp [h]
theorem bnF {n : Nat} {k : Int} (h : (n : Int) = k) : ((n : Int) != k) = false := by simp [h]
theorem dT {p : Prop} [Decidable p] (h : p) : decide p = true := decide_eq_true h
theorem dF {p : Prop} [Decidable p] (h : ¬ p) : decide p = false := decide_eq_false h
theorem wrap_i64 {n : Int} (h : -(2 ^ 63) ≤ n ∧ n < 2 ^ 63) : IntKind.i64.wrap n = n := Go.IntWalk.i64_in _ (by omega)
theorem wrap_succ {i : Nat} (h : i < 2 ^ 62) : IntKind.i64.wrap ((i : Int) + 1) = ((i + 1 : Nat) : Int) := by rw [wrap_i64 (by omega)]; omega
theorem wrap_add {i k : Nat} (h : i + k < 2 ^ 62) : IntKind.i64.wrap ((i : Int) + (k : Int)) = ((i + k : Nat) : Int) := by rw [wrap_i64 (by omega)]; omega
theorem idxS_at {s : List UInt8} {k : IntKind} {i : Nat} {c : UInt8} (h : s[i]? = some c) : idxSV (.str s) (.int k (i : Int)) = some (.int .u8 c.toNat) := by
  simp [idxSV, h, byteAV]
theorem set_self {m : Mem} {i : Nat} {o : AObj} (h : m.get i = o) : m.set i o = m := by
  cases m with
  | mk g n l k t =>
    simp only [Mem.set, Mem.mk.injEq, and_true]
    funext j; split
    · rename_i e; subst e; exact h.symm
    · rfl
theorem isBlk_iff {c : UInt8} : isBlk c = true ↔ c.toNat = 9 ∨ c.toNat = 10 ∨ c.toNat = 13 ∨ c.toNat = 32 := by
  simp [isBlk, isBlkN]
theorem drop_at {s : List UInt8} {i : Nat} {c : UInt8} (h : s[i]? = some c) : s.drop i = c :: s.drop (i + 1) := by
  obtain ⟨hi, rfl⟩ := List.getElem?_eq_some_iff.1 h
  exact List.drop_eq_getElem_cons hi
theorem rblank {p : Nat} {s : List UInt8} {many fat : Nat} {why : Int} {Q : AExit → List AV → Mem → Prop} (hs : s.length < 2 ^ 61) :
    ∀ (n i : Nat) (M : Mem) (g1 g2 g3 : AV), M.get p = RP s i many why fat → runN isBlk (s.drop i) = n → (∀ g1 g2 g3, Q (.exit 0) [.ptr p 0, g1, g2, g3] (M.set p (RP s (i + n) many why fat))) → wl CS [1, 2, 3] q148l3 Q [.ptr p 0, g1, g2, g3] M := by
  intro n
  induction n with
  | zero =>
    intro i M g1 g2 g3 hp hn hq
    refine wl_step ?_
    rw [set_self (by simpa using hp)] at hq
    by_cases hi : i < s.length
    · have hc : s[i]? = some s[i] := by simp [hi]
      rw [drop_at hc, runN_cons] at hn
      have hb : ¬ isBlk s[i] = true := by intro h; rw [if_pos h] at hn; omega
      rw [isBlk_iff] at hb
      have e1 : decide ((i : Int) < (s.length : Nat)) = true := dT (by omega)
      have e9 : ((s[i].toNat : Int) == 9) = false := bqF (by omega)
      have e10 : ((s[i].toNat : Int) == 10) = false := bqF (by omega)
      have e13 : ((s[i].toNat : Int) == 13) = false := bqF (by omega)
      have e32 : ((s[i].toNat : Int) == 32) = false := bqF (by omega)
      simp only [go_sem, reduceIte, Nat.reduceEqDiff, Nat.reduceAdd, q148l3, q148r1, hp, e1, idxS_at hc, e9, e10, e13, e32]
      exact hq _ _ _
    · have e1 : decide ((i : Int) < (s.length : Nat)) = false := dF (by omega)
      simp only [go_sem, reduceIte, Nat.reduceEqDiff, Nat.reduceAdd, q148l3, q148r1, hp, e1]
      exact hq _ _ _
  | succ n ih =>
    intro i M g1 g2 g3 hp hn hq
    refine wl_step ?_
    have hi : i < s.length := by
      have := runN_le (p := isBlk) (s := s.drop i)
      simp at this; omega
    have hc : s[i]? = some s[i] := by simp [hi]
    rw [drop_at hc, runN_cons] at hn
    have hb : isBlk s[i] = true := by
      by_cases h : isBlk s[i] = true
      · exact h
      · rw [if_neg h] at hn; omega
    rw [if_pos hb] at hn
    rw [isBlk_iff] at hb
    have e1 : decide ((i : Int) < (s.length : Nat)) = true := dT (by omega)
    have hw := wrap_succ (show i < 2 ^ 62 by omega)
    have fin : wl CS [1, 2, 3] q148l3 Q [.ptr p 0, .u, .u, .u] (M.set p (RP s (i + 1) many why fat)) := by
      refine ih (i + 1) _ _ _ _ get_set_same (by omega) (fun g1 g2 g3 => ?_)
      rw [set_set, show i + 1 + n = i + (n + 1) by omega]
      exact hq _ _ _
    rcases hb with hb | hb | hb | hb
    · have e9 : ((s[i].toNat : Int) == 9) = true := bqT (by omega)
      simp only [go_sem, reduceIte, Nat.reduceEqDiff, Nat.reduceAdd, q148l3, q148r1, hp, e1, idxS_at hc, e9, q148r2, hw]
      exact fin
    · have e9 : ((s[i].toNat : Int) == 9) = false := bqF (by omega)
      have e10 : ((s[i].toNat : Int) == 10) = true := bqT (by omega)
      simp only [go_sem, reduceIte, Nat.reduceEqDiff, Nat.reduceAdd, q148l3, q148r1, hp, e1, idxS_at hc, e9, e10, q148r2, hw]
      exact fin
    · have e9 : ((s[i].toNat : Int) == 9) = false := bqF (by omega)
      have e10 : ((s[i].toNat : Int) == 10) = false := bqF (by omega)
      have e13 : ((s[i].toNat : Int) == 13) = true := bqT (by omega)
      simp only [go_sem, reduceIte, Nat.reduceEqDiff, Nat.reduceAdd, q148l3, q148r1, hp, e1, idxS_at hc, e9, e10, e13, q148r2, hw]
      exact fin
    · have e9 : ((s[i].toNat : Int) == 9) = false := bqF (by omega)
      have e10 : ((s[i].toNat : Int) == 10) = false := bqF (by omega)
      have e13 : ((s[i].toNat : Int) == 13) = false := bqF (by omega)
      have e32 : ((s[i].toNat : Int) == 32) = true := bqT (by omega)
      simp only [go_sem, reduceIte, Nat.reduceEqDiff, Nat.reduceAdd, q148l3, q148r1, hp, e1, idxS_at hc, e9, e10, e13, e32, q148r2, hw]
      exact fin
def rnextM (s : List UInt8) (i many : Nat) : AObj × Nat :=
  match nxt s i with
  | .ok (j, c) => (RP s j many 0 0, c.toNat)
  | .error (w, k) => (RP s (skipN s i) many w k, 0)
theorem nxt_some {s : List UInt8} {i : Nat} {c : UInt8} (h : s[skipN s i]? = some c) : nxt s i = .ok (skipN s i, c) := by simp [nxt, h]
theorem nxt_none {s : List UInt8} {i : Nat} (h : s[skipN s i]? = none) : nxt s i = .error (4, s.length) := by simp [nxt, h]
theorem rnext_ok {m : Mem} {p : Nat} {s : List UInt8} {i many : Nat} (hs : s.length < 2 ^ 61) (hp : m.get p = RP s i many 0 0) : CS 148 [.ptr p 0] m (.ret (.int .u8 (rnextM s i many).2)) (m.set p (rnextM s i many).1) := by
  refine call_by xfok mixed q148at q148ok rfl ?_
  simp only [go_sem, reduceIte, Nat.reduceEqDiff, Nat.reduceAdd, q148, q148r0]
  refine rblank hs _ i m _ _ _ hp rfl (fun g1 g2 g3 => ?_)
  cases hc : s[skipN s i]? with
  | some c =>
    have hi := (List.getElem?_eq_some_iff.1 hc).1
    have e1 : decide (((i + runN isBlk (s.drop i) : Nat) : Int) ≥ (s.length : Nat)) = false := dF (by simp only [skipN] at hi; omega)
    simp only [rnextM, nxt_some hc]
    simp only [skipN] at hc ⊢
    simp only [go_sem, reduceIte, Nat.reduceEqDiff, Nat.reduceAdd, q148r4, e1, q148r7, idxS_at hc]
  | none =>
    have hi := List.getElem?_eq_none_iff.1 hc
    have e1 : decide (((i + runN isBlk (s.drop i) : Nat) : Int) ≥ (s.length : Nat)) = true := dT (by simp only [skipN] at hi; omega)
    simp only [rnextM, nxt_none hc]
    simp only [skipN] at hc ⊢
    simp only [go_sem, reduceIte, Nat.reduceEqDiff, Nat.reduceAdd, q148r4, e1, q148r5]
    refine callW_ret (rfail_ok get_set_same 4 s.length) ?_
    simp only [go_sem, reduceIte, Nat.reduceEqDiff, Nat.reduceAdd, q148r6]
    rfl
theorem rnext_no {m : Mem} {p : Nat} {s : List UInt8} {i many fat : Nat} {why : Int} (hs : s.length < 2 ^ 61) (hw : why ≠ 0) (hp : m.get p = RP s i many why fat) : ∃ n : Nat, CS 148 [.ptr p 0] m (.ret (.int .u8 n)) (m.set p (RP s (skipN s i) many why fat)) := by
  cases hc : s[skipN s i]? with
  | some c =>
    refine ⟨c.toNat, call_by xfok mixed q148at q148ok rfl ?_⟩
    simp only [go_sem, reduceIte, Nat.reduceEqDiff, Nat.reduceAdd, q148, q148r0]
    refine rblank hs _ i m _ _ _ hp rfl (fun g1 g2 g3 => ?_)
    have hi := (List.getElem?_eq_some_iff.1 hc).1
    have e1 : decide (((i + runN isBlk (s.drop i) : Nat) : Int) ≥ (s.length : Nat)) = false := dF (by simp only [skipN] at hi; omega)
    simp only [skipN] at hc ⊢
    simp only [go_sem, reduceIte, Nat.reduceEqDiff, Nat.reduceAdd, q148r4, e1, q148r7, idxS_at hc]
  | none =>
    refine ⟨0, call_by xfok mixed q148at q148ok rfl ?_⟩
    simp only [go_sem, reduceIte, Nat.reduceEqDiff, Nat.reduceAdd, q148, q148r0]
    refine rblank hs _ i m _ _ _ hp rfl (fun g1 g2 g3 => ?_)
    have hi := List.getElem?_eq_none_iff.1 hc
    have e1 : decide (((i + runN isBlk (s.drop i) : Nat) : Int) ≥ (s.length : Nat)) = true := dT (by simp only [skipN] at hi; omega)
    simp only [skipN] at hc ⊢
    simp only [go_sem, reduceIte, Nat.reduceEqDiff, Nat.reduceAdd, q148r4, e1, q148r5]
    refine callW_ret (rfail_no get_set_same hw 4 s.length) ?_
    simp only [go_sem, reduceIte, Nat.reduceEqDiff, Nat.reduceAdd, q148r6]
    rfl
end Go.Proofs.YtkjokjogdehonaaGreatDoor.Am.Q
namespace Go.Proofs.YtkjokjogdehonaaGreatDoor.Am.Q
open Go Go.Proofs Go.Proofs.YtkjokjogdehonaaGreatDoor.Am
theorem nib_le (c : UInt8) : nib c ≤ 16 := by
  unfold nib nibN
  by_cases h1 : isDigN c.toNat = true
  · rw [if_pos h1]; simp [isDigN] at h1; omega
  · rw [if_neg h1]
    by_cases h2 : 97 ≤ c.toNat ∧ c.toNat ≤ 102
    · rw [if_pos h2]; omega
    · rw [if_neg h2]
      by_cases h3 : 65 ≤ c.toNat ∧ c.toNat ≤ 70
      · rw [if_pos h3]; omega
      · rw [if_neg h3]; omega
def bad (c : UInt8) : Bool := decide (nib c = 16)
theorem bad_iff {c : UInt8} : bad c = true ↔ 15 < nib c := by
  have := nib_le c
  simp [bad]; omega
theorem bad_not {c : UInt8} (h : bad c = false) : nib c ≤ 15 := by
  have := nib_le c
  simp [bad] at h; omega
theorem take_drop_at {s : List UInt8} {i r : Nat} {c : UInt8} (h : s[i]? = some c) : (s.drop i).take (r + 1) = c :: (s.drop (i + 1)).take r := by
  rw [drop_at h, List.take_succ_cons]
theorem rallhex_loop {p : Nat} {s : List UInt8} {i many fault : Nat} {m : Mem} (hs : s.length < 2 ^ 61) (hp : m.get p = RP s i many 0 0) {a : Nat} (ha : a < 2 ^ 61) {Q : AExit → List AV → Mem → Prop}
    (hx : ((s.drop a).take 4).any bad = false → ∀ g3 g4 g5 g6, Q (.exit 0) [.ptr p 0, .int .i64 a, .int .i64 fault, g3, g4, g5, g6] m) (hr : ((s.drop a).take 4).any bad = true → ∀ g0 g2 g4 g5 g6, Q .ret [g0, .int .i64 a, g2, .bool false, g4, g5, g6] (m.set p (RP s i many 3 fault))) :
    ∀ (r k : Nat) (g3 g5 g6 : AV), r + k = 4 → ((s.drop a).take 4).any bad = ((s.drop (a + k)).take r).any bad → wl CS [3, 5, 6] q280l7 Q [.ptr p 0, .int .i64 a, .int .i64 fault, g3, .int .i64 k, g5, g6] m := by
  intro r
  induction r with
  | zero =>
    intro k g3 g5 g6 hk ht
    refine wl_step ?_
    have e1 : decide ((k : Int) < 4) = false := dF (by omega)
    simp only [go_sem, reduceIte, Nat.reduceEqDiff, Nat.reduceAdd, q280l7, q280r2, e1]
    exact hx (by rw [ht]; simp) _ _ _ _
  | succ r ih =>
    intro k g3 g5 g6 hk ht
    refine wl_step ?_
    have e1 : decide ((k : Int) < 4) = true := dT (by omega)
    have hw := wrap_add (i := a) (k := k) (by omega)
    have hw2 := wrap_succ (i := k) (by omega)
    cases hc : s[a + k]? with
    | some c =>
      have hi := (List.getElem?_eq_some_iff.1 hc).1
      have e2 : decide (((a + k : Nat) : Int) < (s.length : Nat)) = true := dT (by omega)
      rw [take_drop_at hc, List.any_cons] at ht
      simp only [go_sem, reduceIte, Nat.reduceEqDiff, Nat.reduceAdd, q280l7, q280r2, e1, hw, hp, e2, q280r3, idxS_at hc]
      refine callW_ret (rnib_ok c m) ?_
      simp only [go_sem, reduceIte, Nat.reduceEqDiff, Nat.reduceAdd]
      cases hb : bad c with
      | true =>
        have e3 : decide ((nib c : Int) > 15) = true := dT (by have := bad_iff.1 hb; omega)
        rw [hb, Bool.true_or] at ht
        simp only [go_sem, reduceIte, Nat.reduceEqDiff, Nat.reduceAdd, e3, q280r4]
        refine callW_ret (rfail_ok hp 3 fault) ?_
        simp only [go_sem, reduceIte, Nat.reduceEqDiff, Nat.reduceAdd, q280r5]
        exact hr ht _ _ _ _ _
      | false =>
        have e3 : decide ((nib c : Int) > 15) = false := dF (by have := bad_not hb; omega)
        rw [hb, Bool.false_or] at ht
        simp only [go_sem, reduceIte, Nat.reduceEqDiff, Nat.reduceAdd, e3, q280r6, hw2]
        exact ih (k + 1) _ _ _ (by omega) ht
    | none =>
      have hi := List.getElem?_eq_none_iff.1 hc
      have e2 : decide (((a + k : Nat) : Int) < (s.length : Nat)) = false := dF (by omega)
      simp only [go_sem, reduceIte, Nat.reduceEqDiff, Nat.reduceAdd, q280l7, q280r2, e1, hw, hp, e2]
      exact hx (by rw [ht, List.drop_of_length_le (by omega)]; simp) _ _ _ _
theorem rallhex_ok {m : Mem} {p : Nat} {s : List UInt8} {i many : Nat} (hs : s.length < 2 ^ 61) (hp : m.get p = RP s i many 0 0) {a fault : Nat} (ha : a < 2 ^ 61) :
    CS 280 [.ptr p 0, .int .i64 a, .int .i64 fault] m (.ret (.bool (!((s.drop a).take 4).any bad))) (if ((s.drop a).take 4).any bad = true then m.set p (RP s i many 3 fault) else m) := by
  refine call_by xfok mixed q280at q280ok rfl ?_
  simp only [go_sem, reduceIte, Nat.reduceEqDiff, Nat.reduceAdd, q280, q280r0, q280r1]
  refine rallhex_loop hs hp ha (fun h g3 g4 g5 g6 => ?_) (fun h g0 g2 g4 g5 g6 => ?_) 4 0 _ _ _ rfl rfl
  · simp only [go_sem, reduceIte, Nat.reduceEqDiff, Nat.reduceAdd, q280r8, h]
  · simp only [go_sem, reduceIte, Nat.reduceEqDiff, Nat.reduceAdd, h]
def hexA (n : Nat) (l : List UInt8) : Nat := l.foldl (fun n c => n * 16 + nib c) n
theorem wrap_i32 {n : Int} (h : -(2 ^ 31) ≤ n ∧ n < 2 ^ 31) : IntKind.i32.wrap n = n := by
  simp [IntKind.wrap, IntKind.signed, IntKind.bits]; omega
theorem rhex_loop {p : Nat} {s : List UInt8} {i many fault : Nat} {m : Mem} (hs : s.length < 2 ^ 61) (hp : m.get p = RP s i many 0 0) {a : Nat} (ha : a < 2 ^ 61) (hbad : ((s.drop a).take 4).any bad = false) {Q : AExit → List AV → Mem → Prop}
    (hx : ((s.drop a).take 4).length = 4 → ∀ g3 g5 g6 g7 g8 g9, Q (.exit 0) [.ptr p 0, .int .i64 a, .int .i64 fault, g3, .int .i32 (hexN ((s.drop a).take 4)), g5, g6, g7, g8, g9] m)
    (hr : ((s.drop a).take 4).length < 4 → ∀ g0 g2 g4 g5 g6 g7 g8 g9, Q .ret [g0, .int .i64 a, g2, .int .i32 0, g4, g5, g6, g7, g8, g9] (m.set p (RP s i many 4 s.length))) :
    ∀ (r k n : Nat) (g3 g6 g7 g8 g9 : AV), r + k = 4 → k ≤ s.length - a → n < 16 ^ k → ((s.drop (a + k)).take r).any bad = false → hexN ((s.drop a).take 4) = hexA n ((s.drop (a + k)).take r) →
      wl CS [3, 6, 7, 8, 9] q281l13 Q [.ptr p 0, .int .i64 a, .int .i64 fault, g3, .int .i32 n, .int .i64 k, g6, g7, g8, g9] m := by
  intro r
  induction r with
  | zero =>
    intro k n g3 g6 g7 g8 g9 hk hkl hn hb ht
    refine wl_step ?_
    have e1 : decide ((k : Int) < 4) = false := dF (by omega)
    simp only [go_sem, reduceIte, Nat.reduceEqDiff, Nat.reduceAdd, q281l13, q281r3, e1]
    have := hx (by simp; omega)
    rw [ht] at this
    exact this _ _ _ _ _ _
  | succ r ih =>
    intro k n g3 g6 g7 g8 g9 hk hkl hn hb ht
    refine wl_step ?_
    have e1 : decide ((k : Int) < 4) = true := dT (by omega)
    have hw := wrap_add (i := a) (k := k) (by omega)
    have hw2 := wrap_succ (i := k) (by omega)
    cases hc : s[a + k]? with
    | some c =>
      have hi := (List.getElem?_eq_some_iff.1 hc).1
      have e2 : decide (((a + k : Nat) : Int) ≥ (s.length : Nat)) = false := dF (by omega)
      rw [take_drop_at hc, List.any_cons, Bool.or_eq_false_iff] at hb
      rw [take_drop_at hc] at ht
      simp only [go_sem, reduceIte, Nat.reduceEqDiff, Nat.reduceAdd, q281l13, q281r3, e1, q281r4, hw, hp, e2, q281r7, idxS_at hc]
      refine callW_ret (rnib_ok c m) ?_
      have hnb := bad_not hb.1
      have e3 : decide ((nib c : Int) > 15) = false := dF (by omega)
      have hn4 : n < 4096 := by
        have : (16 : Nat) ^ k ≤ 16 ^ 3 := Nat.pow_le_pow_right (by omega) (by omega)
        omega
      have w1 : IntKind.i32.wrap ((n : Int) * 16) = ((n * 16 : Nat) : Int) := by rw [wrap_i32 (by omega)]; omega
      have w2 : IntKind.i32.wrap (nib c : Int) = (nib c : Int) := wrap_i32 (by omega)
      have w3 : IntKind.i32.wrap (((n * 16 : Nat) : Int) + (nib c : Int)) = ((n * 16 + nib c : Nat) : Int) := by rw [wrap_i32 (by omega)]; omega
      simp only [go_sem, reduceIte, Nat.reduceEqDiff, Nat.reduceAdd, q281r8, e3, q281r11, w1, w2, w3, q281r12, hw2]
      refine ih (k + 1) (n * 16 + nib c) _ _ _ _ _ (by omega) (by omega) ?_ hb.2 ht
      rw [Nat.pow_succ]; omega
    | none =>
      have hi := List.getElem?_eq_none_iff.1 hc
      have e2 : decide (((a + k : Nat) : Int) ≥ (s.length : Nat)) = true := dT (by omega)
      simp only [go_sem, reduceIte, Nat.reduceEqDiff, Nat.reduceAdd, q281l13, q281r3, e1, q281r4, hw, hp, e2, q281r5]
      refine callW_ret (rfail_ok hp 4 s.length) ?_
      simp only [go_sem, reduceIte, Nat.reduceEqDiff, Nat.reduceAdd, q281r6]
      exact hr (by simp; omega) _ _ _ _ _ _ _ _
theorem rhex_ok {m : Mem} {p : Nat} {s : List UInt8} {i many : Nat} (hs : s.length < 2 ^ 61) (hp : m.get p = RP s i many 0 0) {a fault : Nat} (ha : a < 2 ^ 61) (hbad : ((s.drop a).take 4).any bad = false) :
    CS 281 [.ptr p 0, .int .i64 a, .int .i64 fault] m (.ret (.int .i32 (if ((s.drop a).take 4).length < 4 then 0 else hexN ((s.drop a).take 4) : Nat))) (if ((s.drop a).take 4).length < 4 then m.set p (RP s i many 4 s.length) else m) := by
  refine call_by xfok mixed q281at q281ok rfl ?_
  simp only [go_sem, reduceIte, Nat.reduceEqDiff, Nat.reduceAdd, q281, q281r0, q281r1, q281r2]
  refine rhex_loop hs hp ha hbad (fun h g3 g5 g6 g7 g8 g9 => ?_) (fun h g0 g2 g4 g5 g6 g7 g8 g9 => ?_) 4 0 0 _ _ _ _ _ rfl (Nat.zero_le _) (by simp) hbad rfl
  · simp only [go_sem, reduceIte, Nat.reduceEqDiff, Nat.reduceAdd, q281r14]
    rw [if_neg (by omega), if_neg (by omega)]
    exact ⟨rfl, rfl⟩
  · simp only [go_sem, reduceIte, Nat.reduceEqDiff, Nat.reduceAdd]
    rw [if_pos h, if_pos h]
    exact ⟨rfl, rfl⟩
end Go.Proofs.YtkjokjogdehonaaGreatDoor.Am.Q
namespace Go.Proofs.YtkjokjogdehonaaGreatDoor.Am.Q
open Go Go.Proofs Go.Proofs.YtkjokjogdehonaaGreatDoor.Am
theorem wrap_u8 {n : Int} : IntKind.u8.wrap n = n % 256 := by simp [IntKind.wrap, IntKind.signed, IntKind.bits]
theorem right_ok (n : Int) (m : Mem) : CS 146 [.int .i32 n] m (.ret (.bool (Utf8.valid n))) m := by
  refine call_by xfok mixed q146at q146ok rfl ?_
  by_cases h1 : n ≥ 0
  · by_cases h2 : n ≤ 1114111
    · by_cases h3 : n < 55296
      · have hv : Utf8.valid n = true := by simp [Utf8.valid]; omega
        simp only [go_sem, reduceIte, Nat.reduceEqDiff, Nat.reduceAdd, q146, q146r0, q146r1, dT h1, dT h2, dT h3, hv]
      · by_cases h4 : n > 57343
        · have hv : Utf8.valid n = true := by simp [Utf8.valid]; omega
          simp only [go_sem, reduceIte, Nat.reduceEqDiff, Nat.reduceAdd, q146, q146r0, q146r1, dT h1, dT h2, dF h3, dT h4, hv]
        · have hv : Utf8.valid n = false := by simp [Utf8.valid]; omega
          simp only [go_sem, reduceIte, Nat.reduceEqDiff, Nat.reduceAdd, q146, q146r0, q146r1, dT h1, dT h2, dF h3, dF h4, hv]
    · have hv : Utf8.valid n = false := by simp [Utf8.valid]; omega
      simp only [go_sem, reduceIte, Nat.reduceEqDiff, Nat.reduceAdd, q146, q146r0, q146r1, dT h1, dF h2, hv]
  · have hv : Utf8.valid n = false := by simp [Utf8.valid]; omega
    simp only [go_sem, reduceIte, Nat.reduceEqDiff, Nat.reduceAdd, q146, q146r0, q146r1, dF h1, hv]
def b8 (n : Nat) : UInt8 := UInt8.ofNat n
theorem byte_is {x : Int} {k : Nat} (h : x = (k : Int) % 256) : AV.int .u8 x = byteAV (b8 k) := by
  subst h; simp [byteAV, b8]
theorem put1 {n : Nat} (h : n < 0x80) : putN n = [b8 n] := by
  have hv : Utf8.valid (n : Int) = true := by simp [Utf8.valid]; omega
  simp [putN, Utf8.encode, hv, h, b8]
theorem put2 {n : Nat} (h1 : ¬ n < 0x80) (h2 : n < 0x800) : putN n = [b8 (0xC0 + n / 64), b8 (0x80 + n % 64)] := by
  have hv : Utf8.valid (n : Int) = true := by simp [Utf8.valid]; omega
  simp [putN, Utf8.encode, hv, h1, h2, b8]
theorem put3 {n : Nat} (hv : Utf8.valid (n : Int) = true) (h1 : ¬ n < 0x80) (h2 : ¬ n < 0x800) (h3 : n < 0x10000) : putN n = [b8 (0xE0 + n / 4096), b8 (0x80 + n / 64 % 64), b8 (0x80 + n % 64)] := by
  simp [putN, Utf8.encode, hv, h1, h2, h3, b8]
theorem put4 {n : Nat} (hv : Utf8.valid (n : Int) = true) (h1 : ¬ n < 0x80) (h2 : ¬ n < 0x800) (h3 : ¬ n < 0x10000) : putN n = [b8 (0xF0 + n / 262144), b8 (0x80 + n / 4096 % 64), b8 (0x80 + n / 64 % 64), b8 (0x80 + n % 64)] := by
  simp [putN, Utf8.encode, hv, h1, h2, h3, b8]
theorem put0 {n : Int} (hv : Utf8.valid n = false) : putN n = putN 65533 := by
  have h2 : Utf8.valid 65533 = true := by decide
  simp [putN, Utf8.encode, hv, h2, Utf8.runeError]
theorem tdivN {n k : Nat} : (n : Int).tdiv (k : Int) = ((n / k : Nat) : Int) := by rw [Int.tdiv_eq_ediv_of_nonneg (by omega)]; rfl
theorem tmodN {n k : Nat} : (n : Int).tmod (k : Int) = ((n % k : Nat) : Int) := by rw [Int.tmod_eq_emod_of_nonneg (by omega)]; rfl
theorem one_good {n : Nat} (hv : Utf8.valid (n : Int) = true) (m : Mem) : CS 67 [.int .i32 n] m (.ret (.sl .full 1 (bytesAV (putN n)))) m := by
  have hb : n ≤ 0x10FFFF := by simp [Utf8.valid] at hv; omega
  refine call_by xfok mixed q67at q67ok rfl ?_
  simp only [go_sem, reduceIte, Nat.reduceEqDiff, Nat.reduceAdd, q67, q67r0, q67r1]
  refine callW_ret (right_ok n m) ?_
  simp only [go_sem, reduceIte, Nat.reduceEqDiff, Nat.reduceAdd, hv]
  have d64 : (n : Int).tdiv 64 = ((n / 64 : Nat) : Int) := tdivN (k := 64)
  have d4096 : (n : Int).tdiv 4096 = ((n / 4096 : Nat) : Int) := tdivN (k := 4096)
  have d26 : (n : Int).tdiv 262144 = ((n / 262144 : Nat) : Int) := tdivN (k := 262144)
  have m64 : (n : Int).tmod 64 = ((n % 64 : Nat) : Int) := tmodN (k := 64)
  have m64' : ((n / 64 : Nat) : Int).tmod 64 = ((n / 64 % 64 : Nat) : Int) := tmodN (k := 64)
  have m4096' : ((n / 4096 : Nat) : Int).tmod 64 = ((n / 4096 % 64 : Nat) : Int) := tmodN (k := 64)
  have z64 : ((64 : Int) = 0) = False := by simp
  have z4096 : ((4096 : Int) = 0) = False := by simp
  have z26 : ((262144 : Int) = 0) = False := by simp
  have w64 : IntKind.i32.wrap ((n / 64 : Nat) : Int) = ((n / 64 : Nat) : Int) := wrap_i32 (by omega)
  have w4096 : IntKind.i32.wrap ((n / 4096 : Nat) : Int) = ((n / 4096 : Nat) : Int) := wrap_i32 (by omega)
  have w26 : IntKind.i32.wrap ((n / 262144 : Nat) : Int) = ((n / 262144 : Nat) : Int) := wrap_i32 (by omega)
  by_cases h1 : n < 0x80
  · have e1 : decide ((n : Int) < 128) = true := dT (by omega)
    simp only [go_sem, reduceIte, Nat.reduceEqDiff, Nat.reduceAdd, q67r3, e1, q67r4, wrap_u8]
    rw [put1 h1, byte_is (k := n) (by omega)]
    rfl
  · have e1 : decide ((n : Int) < 128) = false := dF (by omega)
    by_cases h2 : n < 0x800
    · have e2 : decide ((n : Int) < 2048) = true := dT (by omega)
      simp only [go_sem, reduceIte, Nat.reduceEqDiff, Nat.reduceAdd, q67r3, e1, q67r5, e2, q67r6, d64, m64, z64, w64, wrap_u8]
      rw [put2 h1 h2, byte_is (k := 0xC0 + n / 64) (by omega), byte_is (k := 0x80 + n % 64) (by omega)]
      rfl
    · have e2 : decide ((n : Int) < 2048) = false := dF (by omega)
      by_cases h3 : n < 0x10000
      · have e3 : decide ((n : Int) < 65536) = true := dT (by omega)
        simp only [go_sem, reduceIte, Nat.reduceEqDiff, Nat.reduceAdd, q67r3, e1, q67r5, e2, q67r7, e3, q67r8, d64, d4096, m64, m64', z64, z4096, w64, w4096, wrap_u8]
        rw [put3 hv h1 h2 h3, byte_is (k := 0xE0 + n / 4096) (by omega), byte_is (k := 0x80 + n / 64 % 64) (by omega), byte_is (k := 0x80 + n % 64) (by omega)]
        rfl
      · have e3 : decide ((n : Int) < 65536) = false := dF (by omega)
        simp only [go_sem, reduceIte, Nat.reduceEqDiff, Nat.reduceAdd, q67r3, e1, q67r5, e2, q67r7, e3, q67r9, d64, d4096, d26, m64, m64', m4096', z64, z4096, z26, w64, w4096, w26, wrap_u8]
        rw [put4 hv h1 h2 h3, byte_is (k := 0xF0 + n / 262144) (by omega), byte_is (k := 0x80 + n / 4096 % 64) (by omega), byte_is (k := 0x80 + n / 64 % 64) (by omega), byte_is (k := 0x80 + n % 64) (by omega)]
        rfl
theorem one_ok (n : Int) (m : Mem) : CS 67 [.int .i32 n] m (.ret (.sl .full 1 (bytesAV (putN n)))) m := by
  cases hv : Utf8.valid n with
  | true =>
    obtain ⟨k, rfl⟩ : ∃ k : Nat, n = k := ⟨n.toNat, by simp [Utf8.valid] at hv; omega⟩
    exact one_good hv m
  | false =>
    refine call_by xfok mixed q67at q67ok rfl ?_
    simp only [go_sem, reduceIte, Nat.reduceEqDiff, Nat.reduceAdd, q67, q67r0, q67r1]
    refine callW_ret (right_ok n m) ?_
    simp only [go_sem, reduceIte, Nat.reduceEqDiff, Nat.reduceAdd, hv, q67r2]
    refine callW_ret (one_good (n := 65533) (by decide) m) ?_
    simp only [go_sem, reduceIte, Nat.reduceEqDiff, Nat.reduceAdd]
    rw [put0 hv]
    rfl
theorem putN_len (n : Int) : 0 < (putN n).length ∧ (putN n).length ≤ 4 := by
  have good : ∀ k : Nat, Utf8.valid (k : Int) = true → 0 < (putN k).length ∧ (putN k).length ≤ 4 := by
    intro k hv
    by_cases h1 : k < 0x80
    · rw [put1 h1]; simp
    · by_cases h2 : k < 0x800
      · rw [put2 h1 h2]; simp
      · by_cases h3 : k < 0x10000
        · rw [put3 hv h1 h2 h3]; simp
        · rw [put4 hv h1 h2 h3]; simp
  cases hv : Utf8.valid n with
  | true =>
    obtain ⟨k, rfl⟩ : ∃ k : Nat, n = k := ⟨n.toNat, by simp [Utf8.valid] at hv; omega⟩
    exact good k hv
  | false => rw [put0 hv]; exact good 65533 (by decide)
theorem bytes_good (l : List UInt8) : (bytesAV l).all (fun y => y.cells.length == 1 && y.cells.all scal) = true := by
  simp [bytesAV, byteAV, AV.cells, scal]
theorem rput_ok (n : Int) (m : Mem) : CS 282 [.nilSl, .sl .full 1 [.int .i32 n]] m (.ret (.sl (.tok m.ntok) 1 (bytesAV (putN n)))) (m.newTok 5) := by
  refine call_by xfok mixed q282at q282ok rfl ?_
  have hl := putN_len n
  have hb : ((bytesAV (putN n)).length * 1 ≤ roomMax) := by simp only [bytesAV, List.length_map, roomMax]; omega
  have hne : ¬ bytesAV (putN n) = [] := by
    intro h; have := congrArg List.length h; simp [bytesAV] at this; rw [this] at hl; simp at hl
  have ea : appendV m 5 1 1 .nilSl (bytesAV (putN n)) = some (.sl (.tok m.ntok) 1 (bytesAV (putN n)), m.newTok 5) := by
    simp only [appendV]; rw [if_neg hne, if_pos ⟨hb, bytes_good _⟩]
  have e0 : appendV m 5 1 1 .nilSl [] = some (.nilSl, m) := rfl
  simp only [go_sem, reduceIte, Nat.reduceEqDiff, Nat.reduceAdd, q282, q282r0, q282r1, q282r2, elems, e0]
  refine wl_step ?_
  have e1 : decide ((0 : Int) < 1) = true := by decide
  have e2 : decide ((1 : Int) < 1) = false := by decide
  have w1 : IntKind.i64.wrap (0 + 1) = 1 := by decide
  have i0 : idxAddrV 1 (.sl .full 1 [.int .i32 n]) (.int .i64 0) = some (.sptr [.int .i32 n] 0) := rfl
  have l0 : ∀ m, lenV m (.sl .full 1 [.int .i32 n]) = some (.int .i64 1) := fun _ => rfl
  have k0 : isLK .sli (.sl .full 1 [.int .i32 n]) = true := rfl
  simp only [go_sem, reduceIte, Nat.reduceEqDiff, Nat.reduceAdd, q282l6, q282r3, k0, l0, e1, q282r4, i0]
  refine callW_ret (one_ok n m) ?_
  simp only [go_sem, reduceIte, Nat.reduceEqDiff, Nat.reduceAdd, elems, ea, q282r5, w1]
  refine wl_step ?_
  simp only [go_sem, reduceIte, Nat.reduceEqDiff, Nat.reduceAdd, q282l6, q282r3, k0, l0, e2, q282r7]
end Go.Proofs.YtkjokjogdehonaaGreatDoor.Am.Q
namespace Go.Proofs.YtkjokjogdehonaaGreatDoor.Am.Q
open Go Go.Proofs Go.Proofs.YtkjokjogdehonaaGreatDoor.Am
def escL : List UInt8 := [98, 116, 110, 102, 114, 34, 92, 47]
def escT : List UInt8 := [8, 9, 10, 12, 13, 34, 92, 47]
theorem escIdx_eq {c : UInt8} : escIdx c = escL.findIdx? (· == c) := rfl
theorem u8_beq {a b : UInt8} : ((a.toNat : Int) == (b.toNat : Int)) = (a == b) := by
  rw [Bool.eq_iff_iff]
  simp only [beq_iff_eq]
  constructor
  · intro h; exact UInt8.toNat_inj.1 (by omega)
  · intro h; rw [h]
theorem findIdx_drop {c : UInt8} {l : List UInt8} {k : Nat} {b : UInt8} (h : l[k]? = some b) : (l.drop k).findIdx? (· == c) = if b == c then some 0 else ((l.drop (k + 1)).findIdx? (· == c)).map (· + 1) := by
  rw [drop_at h, List.findIdx?_cons]
theorem resc_find {p : Nat} {s : List UInt8} {i many : Nat} {m : Mem} (hs : s.length < 2 ^ 60) (hi : i < s.length) (hp : m.get p = RP s i many 0 0) {c : UInt8} {Q : AExit → List AV → Mem → Prop}
    (hx : escIdx c = none → ∀ g1 g6 g7 g8 g9 g10 g11 g12 g13 g14 g15 g16 g17 g18 g19 g20 g21 g22, Q (.exit 0) [.ptr p 0, g1, .int .i64 i, .int .u8 c.toNat, .str escL, .str escT, g6, g7, g8, g9, g10, g11, g12, g13, g14, g15, g16, g17, g18, g19, g20, g21, g22] m)
    (hr : ∀ k, escIdx c = some k → ∀ g0 g2 g3 g4 g5 g6 g7 g8 g9 g10 g11 g12 g13 g14 g15 g16 g17 g18 g19 g20 g21 g22, Q .ret [g0, .sl .full 1 [.int .u8 (escT.getD k 0).toNat], g2, g3, g4, g5, g6, g7, g8, g9, g10, g11, g12, g13, g14, g15, g16, g17, g18, g19, g20, g21, g22] (m.set p (RP s (i + 2) many 0 0))) :
    ∀ (r k : Nat) (g1 g7 g8 g9 g10 g11 g12 g13 g14 g15 g16 g17 g18 g19 g20 g21 g22 : AV), r + k = 8 → escIdx c = ((escL.drop k).findIdx? (· == c)).map (· + k) →
      wl CS [1, 7, 8, 9, 10, 11, 12, 13, 14, 15, 16, 17, 18, 19, 20, 21, 22] q223l13 Q [.ptr p 0, g1, .int .i64 i, .int .u8 c.toNat, .str escL, .str escT, .int .i64 k, g7, g8, g9, g10, g11, g12, g13, g14, g15, g16, g17, g18, g19, g20, g21, g22] m := by
  intro r
  induction r with
  | zero =>
    intro k g1 g7 g8 g9 g10 g11 g12 g13 g14 g15 g16 g17 g18 g19 g20 g21 g22 hk ht
    refine wl_step ?_
    have e1 : decide ((k : Int) < (escL.length : Nat)) = false := dF (by simp [escL]; omega)
    simp only [go_sem, reduceIte, Nat.reduceEqDiff, Nat.reduceAdd, q223l13, q223r8, e1]
    exact hx (by rw [ht, List.drop_of_length_le (by simp [escL]; omega)]; rfl) _ _ _ _ _ _ _ _ _ _ _ _ _ _ _ _ _ _
  | succ r ih =>
    intro k g1 g7 g8 g9 g10 g11 g12 g13 g14 g15 g16 g17 g18 g19 g20 g21 g22 hk ht
    refine wl_step ?_
    have hkl : k < escL.length := by simp [escL]; omega
    have hkt : k < escT.length := by simp [escT]; omega
    have e1 : decide ((k : Int) < (escL.length : Nat)) = true := dT (by omega)
    have hb : escL[k]? = some escL[k] := List.getElem?_eq_getElem hkl
    have hbt : escT[k]? = some escT[k] := List.getElem?_eq_getElem hkt
    have hw := wrap_succ (i := k) (by omega)
    have hw2 : IntKind.i64.wrap ((i : Int) + 2) = ((i + 2 : Nat) : Int) := wrap_add (k := 2) (by omega)
    rw [findIdx_drop hb] at ht
    cases hc : (escL[k] == c) with
    | true =>
      rw [hc, if_pos rfl] at ht
      simp only [go_sem, reduceIte, Nat.reduceEqDiff, Nat.reduceAdd, q223l13, q223r8, e1, q223r9, idxS_at hb, u8_beq, hc, q223r10, hw2, hp, q223r11, idxS_at hbt]
      have := hr k (by simpa using ht)
      rw [show escT.getD k 0 = escT[k] by simp [List.getD, hkt]] at this
      exact this _ _ _ _ _ _ _ _ _ _ _ _ _ _ _ _ _ _ _ _ _ _
    | false =>
      rw [hc] at ht
      simp only [go_sem, reduceIte, Nat.reduceEqDiff, Nat.reduceAdd, q223l13, q223r8, e1, q223r9, idxS_at hb, u8_beq, hc, q223r12, hw]
      refine ih (k + 1) _ _ _ _ _ _ _ _ _ _ _ _ _ _ _ _ _ (by omega) ?_
      rw [ht]
      simp only [Bool.false_eq_true, if_false, Option.map_map]
      congr 1
      funext x; simp; omega
def EscR (p : Nat) (m : Mem) (s : List UInt8) (many : Nat) (r : Except Flt (List UInt8 × Nat)) (v : AV) (m' : Mem) : Prop :=
  match r with
  | .ok (b, j) => SlOf 1 v (bytesAV b) ∧ ExtB p m m' ∧ m'.get p = RP s j many 0 0
  | .error (w, k) => ∃ b j, SlOf 1 v (bytesAV b) ∧ b.length ≤ 4 ∧ ExtB p m m' ∧ m'.get p = RP s j many w k ∧ w ≠ 0
theorem hex4_bad {s : List UInt8} {a f : Nat} (h : ((s.drop a).take 4).any bad = true) : hex4 s a f = .error (3, f) := by
  unfold hex4; exact if_pos h
theorem hex4_end {s : List UInt8} {a f : Nat} (h : ((s.drop a).take 4).any bad = false) (h2 : ((s.drop a).take 4).length < 4) : hex4 s a f = .error (4, s.length) := by
  unfold hex4; rw [if_neg (by intro k; rw [show ((s.drop a).take 4).any bad = true from k] at h; cases h), if_pos h2]
theorem hex4_ok {s : List UInt8} {a f : Nat} (h : ((s.drop a).take 4).any bad = false) (h2 : ¬ ((s.drop a).take 4).length < 4) : hex4 s a f = .ok (hexN ((s.drop a).take 4)) := by
  unfold hex4; rw [if_neg (by intro k; rw [show ((s.drop a).take 4).any bad = true from k] at h; cases h), if_neg h2]
theorem hexA_lt : ∀ {l : List UInt8} {n k : Nat}, l.any bad = false → n < 16 ^ k → hexA n l < 16 ^ (k + l.length)
  | [], n, k, _, h => by simpa [hexA] using h
  | c :: l, n, k, hb, h => by
    rw [List.any_cons, Bool.or_eq_false_iff] at hb
    have := hexA_lt (l := l) (n := n * 16 + nib c) (k := k + 1) hb.2 (by have := bad_not hb.1; rw [Nat.pow_succ]; omega)
    rw [List.length_cons]
    have e : k + 1 + l.length = k + (l.length + 1) := by omega
    rwa [e] at this
theorem hexN_lt {s : List UInt8} {a : Nat} (h : ((s.drop a).take 4).any bad = false) : hexN ((s.drop a).take 4) < 65536 := by
  have := hexA_lt (n := 0) (k := 0) h (by simp)
  have h2 : ((s.drop a).take 4).length ≤ 4 := by simp; omega
  have h3 : (16 : Nat) ^ (0 + ((s.drop a).take 4).length) ≤ 16 ^ 4 := Nat.pow_le_pow_right (by omega) (by omega)
  exact Nat.lt_of_lt_of_le this h3
theorem resc_sur {m : Mem} {p : Nat} {s : List UInt8} {i many n : Nat} (hs : s.length < 2 ^ 59) (hi : i < s.length) (hp : m.get p = RP s i many 0 0) (hn1 : 0xD800 ≤ n) (hn2 : n < 0xDC00) {g1 g3 g4 g5 g6 g10 g11 g12 g13 g14 g15 g16 g17 g18 g19 g20 g21 g22 : AV} :
    wl CS [1, 3, 4, 5, 6, 10, 11, 12, 13, 14, 15, 16, 17, 18, 19, 20, 21, 22] q223l36 (blockQ 2
      (seqQ CS (((ACode.region q223r37).seq (ACode.cond (Opd.var 21) ((ACode.region q223r38).seq ACode.ret) ACode.skip)).seq
          ((ACode.region q223r39).seq ((ACode.region q223r40).seq (((ACode.region q223r41).seq (ACode.cond (Opd.var 22) (ACode.region q223r42) ACode.skip)).seq ((ACode.region q223r43).seq ACode.ret)))))
        (endsIn [ARes.var 1] (EscR p m s many (surS s i n)) noPan)))
      [.ptr p 0, g1, .int .i64 i, g3, g4, g5, g6, .int .i32 n, .str [92, 117], .int .i64 0, g10, g11, g12, g13, g14, g15, g16, g17, g18, g19, g20, g21, g22] (m.set p (RP s (i + 6) many 0 0)) := by
  have hs61 : s.length < 2 ^ 61 := by omega
  have l0 : decide ((0 : Int) < 2) = true := by decide
  have l1 : decide ((1 : Int) < 2) = true := by decide
  have l2 : decide ((2 : Int) < 2) = false := by decide
  have v0 : IntKind.i64.wrap ((0 : Int) + 1) = 1 := by decide
  have v1 : IntKind.i64.wrap ((1 : Int) + 1) = 2 := by decide
  have w60 : IntKind.i64.wrap (((i + 6 : Nat) : Int) + 0) = ((i + 6 : Nat) : Int) := wrap_add (k := 0) (by omega)
  have w61 : IntKind.i64.wrap (((i + 6 : Nat) : Int) + 1) = ((i + 7 : Nat) : Int) := wrap_add (k := 1) (by omega)
  have w62 : IntKind.i64.wrap (((i + 6 : Nat) : Int) + 2) = ((i + 8 : Nat) : Int) := wrap_add (k := 2) (by omega)
  have w66 : IntKind.i64.wrap (((i + 6 : Nat) : Int) + 6) = ((i + 12 : Nat) : Int) := wrap_add (k := 6) (by omega)
  have x0 : idxSV (.str [92, 117]) (.int .i64 0) = some (.int .u8 92) := rfl
  have x1 : idxSV (.str [92, 117]) (.int .i64 1) = some (.int .u8 117) := rfl
  have hp1 : (m.set p (RP s (i + 6) many 0 0)).get p = RP s (i + 6) many 0 0 := get_set_same
  have hE : ExtB p m (m.set p (RP s (i + 6) many 0 0)) := (ExtB.refl p m).setp _
  generalize (m.set p (RP s (i + 6) many 0 0)) = M at hp1 hE
  refine wl_step ?_
  cases hc : s[i + 6]? with
  | none =>
    have h1 := List.getElem?_eq_none_iff.1 hc
    have e1 : decide (((i + 6 : Nat) : Int) ≥ (s.length : Nat)) = true := dT (by omega)
    have hS : surS s i n = .error (4, s.length) := by simp [surS, hc]
    simp only [go_sem, reduceIte, Nat.reduceEqDiff, Nat.reduceAdd, q223l36, q223r28, l0, q223r29, hp1, w60, e1, q223r30]
    refine callW_ret (rfail_ok hp1 4 s.length) ?_
    simp only [go_sem, reduceIte, Nat.reduceEqDiff, Nat.reduceAdd, q223r31]
    rw [hS]
    exact ⟨[], i + 6, .inl ⟨rfl, rfl⟩, by simp, hE.setp _, get_set_same, by decide⟩
  | some a =>
    have h1 := (List.getElem?_eq_some_iff.1 hc).1
    have e1 : decide (((i + 6 : Nat) : Int) ≥ (s.length : Nat)) = false := dF (by omega)
    simp only [go_sem, reduceIte, Nat.reduceEqDiff, Nat.reduceAdd, q223l36, q223r28, l0, q223r29, hp1, w60, e1, q223r32, idxS_at hc, x0]
    by_cases ha : a.toNat = 92
    · have ea : ((a.toNat : Int) != 92) = false := bnF (by omega)
      simp only [go_sem, reduceIte, Nat.reduceEqDiff, Nat.reduceAdd, ea, q223r35, v0]
      refine wl_step ?_
      cases hc2 : s[i + 7]? with
      | none =>
        have h2 := List.getElem?_eq_none_iff.1 hc2
        have e2 : decide (((i + 7 : Nat) : Int) ≥ (s.length : Nat)) = true := dT (by omega)
        have hS : surS s i n = .error (4, s.length) := by simp [surS, hc, hc2, ha]
        simp only [go_sem, reduceIte, Nat.reduceEqDiff, Nat.reduceAdd, q223l36, q223r28, l1, q223r29, hp1, w61, e2, q223r30]
        refine callW_ret (rfail_ok hp1 4 s.length) ?_
        simp only [go_sem, reduceIte, Nat.reduceEqDiff, Nat.reduceAdd, q223r31]
        rw [hS]
        exact ⟨[], i + 6, .inl ⟨rfl, rfl⟩, by simp, hE.setp _, get_set_same, by decide⟩
      | some b =>
        have h2 := (List.getElem?_eq_some_iff.1 hc2).1
        have e2 : decide (((i + 7 : Nat) : Int) ≥ (s.length : Nat)) = false := dF (by omega)
        simp only [go_sem, reduceIte, Nat.reduceEqDiff, Nat.reduceAdd, q223l36, q223r28, l1, q223r29, hp1, w61, e2, q223r32, idxS_at hc2, x1]
        by_cases hb : b.toNat = 117
        · have eb : ((b.toNat : Int) != 117) = false := bnF (by omega)
          simp only [go_sem, reduceIte, Nat.reduceEqDiff, Nat.reduceAdd, eb, q223r35, v1]
          refine wl_step ?_
          simp only [go_sem, reduceIte, Nat.reduceEqDiff, Nat.reduceAdd, q223l36, q223r28, l2, q223r37, hp1, w62]
          refine callW_ret (rallhex_ok hs61 hp1 (a := i + 8) (fault := i) (by omega)) ?_
          cases hbad : ((s.drop (i + 8)).take 4).any bad with
          | true =>
            have hS : surS s i n = .error (3, i) := by simp [surS, hc, hc2, ha, hb, hex4_bad hbad]
            simp only [go_sem, reduceIte, Nat.reduceEqDiff, Nat.reduceAdd, q223r38]
            rw [hS]
            exact ⟨[], i + 6, .inl ⟨rfl, rfl⟩, by simp, hE.setp _, get_set_same, by decide⟩
          | false =>
            simp only [go_sem, reduceIte, Nat.reduceEqDiff, Nat.reduceAdd, q223r39, hp1, w62]
            refine callW_ret (rhex_ok hs61 hp1 (a := i + 8) (fault := i) (by omega) hbad) ?_
            by_cases hl : ((s.drop (i + 8)).take 4).length < 4
            · have hS : surS s i n = .error (4, s.length) := by simp [surS, hc, hc2, ha, hb, hex4_end hbad hl]
              rw [if_pos hl, if_pos hl]
              simp only [go_sem, reduceIte, Nat.reduceEqDiff, Nat.reduceAdd, q223r40, w66, q223r41, show ((4 : Int) == 0) = false from rfl, q223r43]
              refine callW_ret (rput_ok _ _) ?_
              simp only [go_sem, reduceIte, Nat.reduceEqDiff, Nat.reduceAdd]
              rw [hS]
              exact ⟨_, i + 12, .inr ⟨_, rfl⟩, (putN_len _).2, (hE.setp _).newTok 5, get_set_same, by decide⟩
            · have hS1 := hex4_ok (f := i) hbad hl
              have hN := hexN_lt hbad
              rw [if_neg hl, if_neg hl]
              generalize hexN ((s.drop (i + 8)).take 4) = k at hS1 hN
              have hS : surS s i n = (if k < 0xDC00 ∨ 0xDFFF < k then .error (3, i) else .ok (putN (0x10000 + (n - 0xD800) * 1024 + (k - 0xDC00) : Nat), i + 12)) := by simp [surS, hc, hc2, ha, hb, hS1]
              rw [hS]
              by_cases hlo : k < 0xDC00
              · have a1 : decide ((k : Int) < 56320) = true := dT (by omega)
                simp only [go_sem, reduceIte, Nat.reduceEqDiff, Nat.reduceAdd, hp1, q223r40, w66, q223r41, show ((0 : Int) == 0) = true from rfl, a1, q223r42]
                refine callW_ret (rfail_ok get_set_same 3 i) ?_
                simp only [go_sem, reduceIte, Nat.reduceEqDiff, Nat.reduceAdd, q223r43]
                refine callW_ret (rput_ok _ _) ?_
                simp only [go_sem, reduceIte, Nat.reduceEqDiff, Nat.reduceAdd]
                rw [if_pos (.inl hlo)]
                exact ⟨_, i + 12, .inr ⟨_, rfl⟩, (putN_len _).2, (hE.setp _).newTok 5, get_set_same, by decide⟩
              · have a1 : decide ((k : Int) < 56320) = false := dF (by omega)
                by_cases hhi : 0xDFFF < k
                · have a2 : decide ((k : Int) > 57343) = true := dT (by omega)
                  simp only [go_sem, reduceIte, Nat.reduceEqDiff, Nat.reduceAdd, hp1, q223r40, w66, q223r41, show ((0 : Int) == 0) = true from rfl, a1, a2, q223r42]
                  refine callW_ret (rfail_ok get_set_same 3 i) ?_
                  simp only [go_sem, reduceIte, Nat.reduceEqDiff, Nat.reduceAdd, q223r43]
                  refine callW_ret (rput_ok _ _) ?_
                  simp only [go_sem, reduceIte, Nat.reduceEqDiff, Nat.reduceAdd]
                  rw [if_pos (.inr hhi)]
                  exact ⟨_, i + 12, .inr ⟨_, rfl⟩, (putN_len _).2, (hE.setp _).newTok 5, get_set_same, by decide⟩
                · have a2 : decide ((k : Int) > 57343) = false := dF (by omega)
                  obtain ⟨k', rfl⟩ := Nat.exists_eq_add_of_le (Nat.not_lt.1 hlo)
                  obtain ⟨n', rfl⟩ := Nat.exists_eq_add_of_le hn1
                  have hk' : k' < 1024 := by omega
                  have hn' : n' < 1024 := by omega
                  have r1 : IntKind.i32.wrap (((0xD800 + n' : Nat) : Int) - 55296) = (n' : Int) := by rw [wrap_i32 (by omega)]; omega
                  have r2 : IntKind.i32.wrap ((n' : Int) * 1024) = ((n' * 1024 : Nat) : Int) := by rw [wrap_i32 (by omega)]; omega
                  have r3 : IntKind.i32.wrap (65536 + ((n' * 1024 : Nat) : Int)) = ((65536 + n' * 1024 : Nat) : Int) := by rw [wrap_i32 (by omega)]; omega
                  have r4 : IntKind.i32.wrap (((65536 + n' * 1024 : Nat) : Int) + ((0xDC00 + k' : Nat) : Int)) = ((65536 + n' * 1024 + (0xDC00 + k') : Nat) : Int) := by rw [wrap_i32 (by omega)]; omega
                  have r5 : IntKind.i32.wrap (((65536 + n' * 1024 + (0xDC00 + k') : Nat) : Int) - 56320) = ((65536 + n' * 1024 + k' : Nat) : Int) := by rw [wrap_i32 (by omega)]; omega
                  simp only [go_sem, reduceIte, Nat.reduceEqDiff, Nat.reduceAdd, hp1, q223r40, w66, q223r41, show ((0 : Int) == 0) = true from rfl, a1, a2, q223r43, r1, r2, r3, r4, r5]
                  refine callW_ret (rput_ok _ _) ?_
                  simp only [go_sem, reduceIte, Nat.reduceEqDiff, Nat.reduceAdd]
                  rw [if_neg (fun h => h.elim hlo hhi), Nat.add_sub_cancel_left, Nat.add_sub_cancel_left]
                  exact ⟨.inr ⟨_, rfl⟩, (hE.setp _).newTok 5, get_set_same⟩
        · have eb : ((b.toNat : Int) != 117) = true := bnT (by omega)
          have hS : surS s i n = .error (3, i) := by simp [surS, hc, hc2, ha, hb]
          simp only [go_sem, reduceIte, Nat.reduceEqDiff, Nat.reduceAdd, eb, q223r33]
          refine callW_ret (rfail_ok hp1 3 i) ?_
          simp only [go_sem, reduceIte, Nat.reduceEqDiff, Nat.reduceAdd, q223r34]
          rw [hS]
          exact ⟨[], i + 6, .inl ⟨rfl, rfl⟩, by simp, hE.setp _, get_set_same, by decide⟩
    · have ea : ((a.toNat : Int) != 92) = true := bnT (by omega)
      have hS : surS s i n = .error (3, i) := by simp [surS, hc, ha]
      simp only [go_sem, reduceIte, Nat.reduceEqDiff, Nat.reduceAdd, ea, q223r33]
      refine callW_ret (rfail_ok hp1 3 i) ?_
      simp only [go_sem, reduceIte, Nat.reduceEqDiff, Nat.reduceAdd, q223r34]
      rw [hS]
      exact ⟨[], i + 6, .inl ⟨rfl, rfl⟩, by simp, hE.setp _, get_set_same, by decide⟩
theorem resc_ok {m : Mem} {p : Nat} {s : List UInt8} {i many : Nat} (hs : s.length < 2 ^ 59) (hi : i < s.length) (hp : m.get p = RP s i many 0 0) : ∃ v m', CS 223 [.ptr p 0] m (.ret v) m' ∧ EscR p m s many (escS s i) v m' := by
  refine call_some (R := EscR p m s many (escS s i)) xfok mixed q223at q223ok rfl ?_
  have hs61 : s.length < 2 ^ 61 := by omega
  have w1 := wrap_succ (i := i) (by omega)
  have w2 : IntKind.i64.wrap ((i : Int) + 2) = ((i + 2 : Nat) : Int) := wrap_add (k := 2) (by omega)
  have w6 : IntKind.i64.wrap ((i : Int) + 6) = ((i + 6 : Nat) : Int) := wrap_add (k := 6) (by omega)
  simp only [go_sem, reduceIte, Nat.reduceEqDiff, Nat.reduceAdd, q223, q223r0, q223r1, hp, q223r2, w1]
  cases hc : s[i + 1]? with
  | none =>
    have h1 := List.getElem?_eq_none_iff.1 hc
    have e1 : decide (((i + 1 : Nat) : Int) ≥ (s.length : Nat)) = true := dT (by omega)
    have hS : escS s i = .error (4, s.length) := by simp [escS, hc]
    simp only [go_sem, reduceIte, Nat.reduceEqDiff, Nat.reduceAdd, e1, q223r3, hp]
    refine callW_ret (rfail_ok hp 4 s.length) ?_
    simp only [go_sem, reduceIte, Nat.reduceEqDiff, Nat.reduceAdd, q223r4]
    rw [hS]
    exact ⟨[], i, .inl ⟨rfl, rfl⟩, by simp, (ExtB.refl p m).setp _, get_set_same, by decide⟩
  | some c =>
    have h1 := (List.getElem?_eq_some_iff.1 hc).1
    have e1 : decide (((i + 1 : Nat) : Int) ≥ (s.length : Nat)) = false := dF (by omega)
    simp only [go_sem, reduceIte, Nat.reduceEqDiff, Nat.reduceAdd, e1, q223r5, hp, w1, idxS_at hc, q223r6, q223r7]
    refine resc_find (by omega) hi hp (c := c) (fun hn g1 g6 g7 g8 g9 g10 g11 g12 g13 g14 g15 g16 g17 g18 g19 g20 g21 g22 => ?_) (fun k hk g0 g2 g3 g4 g5 g6 g7 g8 g9 g10 g11 g12 g13 g14 g15 g16 g17 g18 g19 g20 g21 g22 => ?_) 8 0 _ _ _ _ _ _ _ _ _ _ _ _ _ _ _ _ _ rfl (by rw [escIdx_eq]; simp)
    · by_cases h117 : c.toNat = 117
      · have e117 : ((c.toNat : Int) != 117) = false := bnF (by omega)
        simp only [go_sem, reduceIte, Nat.reduceEqDiff, Nat.reduceAdd, q223r14, e117, q223r17, w2]
        refine callW_ret (rallhex_ok hs61 hp (a := i + 2) (fault := i) (by omega)) ?_
        cases hb : ((s.drop (i + 2)).take 4).any bad with
        | true =>
          have hS : escS s i = .error (3, i) := by simp [escS, hc, hn, h117, hex4_bad hb]
          simp only [go_sem, reduceIte, Nat.reduceEqDiff, Nat.reduceAdd, q223r18]
          rw [hS]
          exact ⟨[], i, .inl ⟨rfl, rfl⟩, by simp, (ExtB.refl p m).setp _, get_set_same, by decide⟩
        | false =>
          simp only [go_sem, reduceIte, Nat.reduceEqDiff, Nat.reduceAdd, q223r19, w2]
          refine callW_ret (rhex_ok hs61 hp (a := i + 2) (fault := i) (by omega) hb) ?_
          by_cases hl : ((s.drop (i + 2)).take 4).length < 4
          · have hS : escS s i = .error (4, s.length) := by simp [escS, hc, hn, h117, hex4_end hb hl]
            rw [if_pos hl, if_pos hl]
            simp only [go_sem, reduceIte, Nat.reduceEqDiff, Nat.reduceAdd, q223r20, w6, q223r21, show ((4 : Int) != 0) = true from rfl, q223r22]
            refine callW_ret (rput_ok _ _) ?_
            simp only [go_sem, reduceIte, Nat.reduceEqDiff, Nat.reduceAdd]
            rw [hS]
            exact ⟨putN ((0 : Nat) : Int), i + 6, .inr ⟨_, rfl⟩, (putN_len _).2, ((ExtB.refl p m).setp _).newTok 5, get_set_same, by decide⟩
          · have hS1 := hex4_ok (f := i) hb hl
            have hN := hexN_lt hb
            rw [if_neg hl, if_neg hl]
            generalize hexN ((s.drop (i + 2)).take 4) = n at hS1 hN
            have hS : escS s i = (if n < 0xD800 ∨ 0xDFFF < n then .ok (putN n, i + 6) else if 0xDC00 ≤ n then .error (3, i) else surS s i n) := by simp only [escS, hc, hn, hS1]; simp [h117]
            by_cases hlo : n < 0xD800
            · have a1 : decide ((n : Int) < 55296) = true := dT (by omega)
              rw [if_pos (.inl hlo)] at hS
              simp only [go_sem, reduceIte, Nat.reduceEqDiff, Nat.reduceAdd, hp, q223r20, w6, q223r21, show ((0 : Int) != 0) = false from rfl, a1, q223r22]
              refine callW_ret (rput_ok _ _) ?_
              simp only [go_sem, reduceIte, Nat.reduceEqDiff, Nat.reduceAdd]
              rw [hS]
              exact ⟨.inr ⟨_, rfl⟩, ((ExtB.refl p m).setp _).newTok 5, get_set_same⟩
            · have a1 : decide ((n : Int) < 55296) = false := dF (by omega)
              by_cases hhi : 0xDFFF < n
              · have a2 : decide ((n : Int) > 57343) = true := dT (by omega)
                rw [if_pos (.inr hhi)] at hS
                simp only [go_sem, reduceIte, Nat.reduceEqDiff, Nat.reduceAdd, hp, q223r20, w6, q223r21, show ((0 : Int) != 0) = false from rfl, a1, a2, q223r22]
                refine callW_ret (rput_ok _ _) ?_
                simp only [go_sem, reduceIte, Nat.reduceEqDiff, Nat.reduceAdd]
                rw [hS]
                exact ⟨.inr ⟨_, rfl⟩, ((ExtB.refl p m).setp _).newTok 5, get_set_same⟩
              · have a2 : decide ((n : Int) > 57343) = false := dF (by omega)
                rw [if_neg (by omega)] at hS
                by_cases hmid : 0xDC00 ≤ n
                · have a3 : decide ((n : Int) ≥ 56320) = true := dT (by omega)
                  rw [if_pos hmid] at hS
                  simp only [go_sem, reduceIte, Nat.reduceEqDiff, Nat.reduceAdd, hp, q223r20, w6, q223r21, show ((0 : Int) != 0) = false from rfl, a1, a2, q223r23, a3, q223r24]
                  refine callW_ret (rfail_ok get_set_same 3 i) ?_
                  simp only [go_sem, reduceIte, Nat.reduceEqDiff, Nat.reduceAdd, q223r25]
                  rw [hS]
                  exact ⟨[], i + 6, .inl ⟨rfl, rfl⟩, by simp, (ExtB.refl p m).setp _, get_set_same, by decide⟩
                · have a3 : decide ((n : Int) ≥ 56320) = false := dF (by omega)
                  rw [if_neg hmid] at hS
                  rw [hS]
                  simp only [go_sem, reduceIte, Nat.reduceEqDiff, Nat.reduceAdd, hp, q223r20, w6, q223r21, show ((0 : Int) != 0) = false from rfl, a1, a2, q223r23, a3, q223r26, q223r27]
                  exact resc_sur hs hi hp (by omega) (by omega)
      · have e117 : ((c.toNat : Int) != 117) = true := bnT (by omega)
        have hS : escS s i = .error (3, i) := by simp [escS, hc, hn, h117]
        simp only [go_sem, reduceIte, Nat.reduceEqDiff, Nat.reduceAdd, q223r14, e117, q223r15]
        refine callW_ret (rfail_ok hp 3 i) ?_
        simp only [go_sem, reduceIte, Nat.reduceEqDiff, Nat.reduceAdd, q223r16]
        rw [hS]
        exact ⟨[], i, .inl ⟨rfl, rfl⟩, by simp, (ExtB.refl p m).setp _, get_set_same, by decide⟩
    · have hS : escS s i = .ok ([escT.getD k 0], i + 2) := by simp [escS, hc, hk, escT]
      simp only [go_sem, reduceIte, Nat.reduceEqDiff, Nat.reduceAdd]
      rw [hS]
      exact ⟨.inr ⟨_, rfl⟩, (ExtB.refl p m).setp _, get_set_same⟩
end Go.Proofs.YtkjokjogdehonaaGreatDoor.Am.Q
namespace Go.Proofs.YtkjokjogdehonaaGreatDoor.Am.Q
open Go Go.Proofs Go.Proofs.YtkjokjogdehonaaGreatDoor.Am
theorem unbytes_bytes : ∀ l : List UInt8, unbytes (bytesAV l) = some l
  | [] => rfl
  | b :: l => by
    have := unbytes_bytes l
    simp only [bytesAV] at this
    simp [bytesAV, unbytes, byteAV, unbyte, this]
theorem str_of {a : AV} {l : List UInt8} (h : SlOf 1 a (bytesAV l)) : strOfV a = some (.str l) := by
  rcases h with ⟨rfl, h⟩ | ⟨o, rfl⟩
  · have : l = [] := by cases l <;> simp [bytesAV] at h; rfl
    subst this; rfl
  · simp [strOfV, unbytes_bytes]
theorem bytes_append {a b : List UInt8} : bytesAV a ++ bytesAV b = bytesAV (a ++ b) := by simp [bytesAV]
theorem bytes_len {l : List UInt8} : (bytesAV l).length = l.length := by simp [bytesAV]
theorem surS_ok {s : List UInt8} {i n : Nat} {b : List UInt8} {j : Nat} (h : surS s i n = .ok (b, j)) : i < j ∧ j ≤ s.length ∧ b.length ≤ 4 := by
  unfold surS at h
  split at h
  · cases h
  · split at h
    · cases h
    · split at h
      · cases h
      · split at h
        · cases h
        · split at h
          · cases h
          · rename_i k hk
            split at h
            · cases h
            · simp only [Except.ok.injEq, Prod.mk.injEq] at h
              obtain ⟨rfl, rfl⟩ := h
              have hl : ¬ ((s.drop (i + 8)).take 4).length < 4 := by
                intro hl
                unfold hex4 at hk
                split at hk
                · cases hk
                · cases hk
              simp at hl
              exact ⟨by omega, by omega, (putN_len _).2⟩
theorem escS_ok {s : List UInt8} {i : Nat} {b : List UInt8} {j : Nat} (h : escS s i = .ok (b, j)) : i < j ∧ j ≤ s.length ∧ b.length ≤ 4 := by
  unfold escS at h
  split at h
  · cases h
  · rename_i c hc
    have h1 := (List.getElem?_eq_some_iff.1 hc).1
    split at h
    · simp only [Except.ok.injEq, Prod.mk.injEq] at h
      obtain ⟨rfl, rfl⟩ := h
      exact ⟨by omega, by omega, by simp⟩
    · split at h
      · cases h
      · split at h
        · cases h
        · rename_i n hk
          have hl : ¬ ((s.drop (i + 2)).take 4).length < 4 := by
            intro hl
            unfold hex4 at hk
            split at hk
            · cases hk
            · cases hk
          simp at hl
          split at h
          · simp only [Except.ok.injEq, Prod.mk.injEq] at h
            obtain ⟨rfl, rfl⟩ := h
            exact ⟨by omega, by omega, (putN_len _).2⟩
          · split at h
            · cases h
            · exact surS_ok h
theorem rquo_loop {p : Nat} {s : List UInt8} {many : Nat} {mb : Mem} (hs : s.length < 2 ^ 40) {R : Except Flt (List UInt8 × Nat)} {Q : AExit → List AV → Mem → Prop}
    (hx : ∀ M w k j, R = .error (w, k) → ExtB p mb M → M.get p = RP s j many w k → w ≠ 0 → ∀ g0 g1 g2 g3 g4 g5 g6 g7 g8, Q (.exit 0) [g0, g1, g2, g3, g4, g5, g6, g7, g8] M)
    (hr : ∀ M t j, R = .ok (t, j) → ExtB p mb M → M.get p = RP s j many 0 0 → ∀ g0 g2 g3 g4 g5 g6 g7 g8, Q .ret [g0, .str t, g2, g3, g4, g5, g6, g7, g8] M) :
    ∀ (f i : Nat) (M : Mem) (a : AV) (out : List UInt8) (g1 g3 g4 g5 g6 g7 g8 : AV), s.length - i + 1 ≤ f → i ≤ s.length + 1 → out.length ≤ 4 * i → Mine mb M 5 1 a (bytesAV out) → ExtB p mb M → M.get p = RP s i many 0 0 → R = quoS s f i out →
      wl CS [1, 3, 4, 5, 6, 7, 8] q149l16 Q [.ptr p 0, g1, a, g3, g4, g5, g6, g7, g8] M := by
  intro f
  induction f with
  | zero => intro i M a out g1 g3 g4 g5 g6 g7 g8 hf; omega
  | succ f ih =>
    intro i M a out g1 g3 g4 g5 g6 g7 g8 hf hi hol hm hE hp hR
    have z0 : ((0 : Int) == 0) = true := rfl
    have z3 : ((3 : Int) == 0) = false := rfl
    have w1 := wrap_succ (i := i) (by omega)
    have sl := hm.sl
    refine wl_step ?_
    cases hc : s[i]? with
    | none =>
      have h1 := List.getElem?_eq_none_iff.1 hc
      have e1 : decide ((i : Int) ≥ (s.length : Nat)) = true := dT (by omega)
      have hS : R = .error (4, s.length) := by rw [hR]; simp [quoS, hc]
      simp only [go_sem, reduceIte, Nat.reduceEqDiff, Nat.reduceAdd, q149l16, q149r3, hp, z0, q149r4, e1, q149r5]
      refine callW_ret (rfail_ok hp 4 s.length) ?_
      simp only [go_sem, reduceIte, Nat.reduceEqDiff, Nat.reduceAdd]
      exact hx _ _ _ i hS (hE.setp _) get_set_same (by decide) _ _ _ _ _ _ _ _ _
    | some c =>
      have h1 := (List.getElem?_eq_some_iff.1 hc).1
      have e1 : decide ((i : Int) ≥ (s.length : Nat)) = false := dF (by omega)
      have hRc : R = if c.toNat < 32 then .error (3, i) else if c.toNat = 34 then .ok (out, i + 1) else if c.toNat = 92 then
          (match escS s i with
          | .error e => .error e
          | .ok (b, j) => quoS s f j (out ++ b))
        else quoS s f (i + 1) (out ++ [c]) := by rw [hR]; simp only [quoS, hc]; rfl
      simp only [go_sem, reduceIte, Nat.reduceEqDiff, Nat.reduceAdd, q149l16, q149r3, hp, z0, q149r4, e1, q149r6, idxS_at hc]
      by_cases c1 : c.toNat < 32
      · have a1 : decide ((c.toNat : Int) < 32) = true := dT (by omega)
        rw [if_pos c1] at hRc
        simp only [go_sem, reduceIte, Nat.reduceEqDiff, Nat.reduceAdd, q149r7, a1, q149r8, hp]
        refine callW_ret (rfail_ok hp 3 i) ?_
        simp only [go_sem, reduceIte, Nat.reduceEqDiff, Nat.reduceAdd]
        refine wl_step ?_
        simp only [go_sem, reduceIte, Nat.reduceEqDiff, Nat.reduceAdd, q149l16, q149r3, z3]
        exact hx _ _ _ i hRc (hE.setp _) get_set_same (by decide) _ _ _ _ _ _ _ _ _
      · have a1 : decide ((c.toNat : Int) < 32) = false := dF (by omega)
        rw [if_neg c1] at hRc
        by_cases c2 : c.toNat = 34
        · have a2 : ((c.toNat : Int) == 34) = true := bqT (by omega)
          rw [if_pos c2] at hRc
          simp only [go_sem, reduceIte, Nat.reduceEqDiff, Nat.reduceAdd, q149r7, a1, q149r9, a2, q149r10, hp, w1, q149r11, str_of sl]
          exact hr _ _ (i + 1) hRc (hE.setp _) get_set_same _ _ _ _ _ _ _ _
        · have a2 : ((c.toNat : Int) == 34) = false := bqF (by omega)
          rw [if_neg c2] at hRc
          by_cases c3 : c.toNat = 92
          · have a3 : ((c.toNat : Int) == 92) = true := bqT (by omega)
            rw [if_pos c3] at hRc
            simp only [go_sem, reduceIte, Nat.reduceEqDiff, Nat.reduceAdd, q149r7, a1, q149r9, a2, q149r12, a3, q149r13]
            obtain ⟨v, M1, hv1, hv2⟩ := resc_ok (by omega) h1 hp
            refine callW_ret hv1 ?_
            cases hes : escS s i with
            | error e =>
              obtain ⟨w, k⟩ := e
              rw [hes] at hv2 hRc
              obtain ⟨b, j, k1, k2, k3, k4, k5⟩ := hv2
              obtain ⟨a', M2, n1, n2, n3, n4, n5, n6⟩ := (hm.ext k3).append (bytes := 1) (ys := bytesAV b) (hE.trans k3).ntok (by rw [bytes_len, bytes_len]; simp [roomMax]; omega) (bytes_good b)
              simp only [go_sem, reduceIte, Nat.reduceEqDiff, Nat.reduceAdd, k1.elems, n1]
              refine wl_step ?_
              have hp2 : M2.get p = RP s j many w k := by rw [n3]; exact k4
              have zw : (w == 0) = false := by simp [k5]
              simp only [go_sem, reduceIte, Nat.reduceEqDiff, Nat.reduceAdd, q149l16, q149r3, hp2, zw]
              exact hx _ _ _ j hRc (n5 p (hE.trans k3)) hp2 k5 _ _ _ _ _ _ _ _ _
            | ok x =>
              obtain ⟨b, j⟩ := x
              rw [hes] at hv2 hRc
              obtain ⟨k1, k3, k4⟩ := hv2
              obtain ⟨l1, l2, l3⟩ := escS_ok hes
              obtain ⟨a', M2, n1, n2, n3, n4, n5, n6⟩ := (hm.ext k3).append (bytes := 1) (ys := bytesAV b) (hE.trans k3).ntok (by rw [bytes_len, bytes_len]; simp [roomMax]; omega) (bytes_good b)
              simp only [go_sem, reduceIte, Nat.reduceEqDiff, Nat.reduceAdd, k1.elems, n1]
              rw [bytes_append] at n2
              exact ih j M2 a' (out ++ b) _ _ _ _ _ _ _ (by omega) (by omega) (by rw [List.length_append]; omega) n2 (n5 p (hE.trans k3)) (by rw [n3]; exact k4) hRc
          · have a3 : ((c.toNat : Int) == 92) = false := bqF (by omega)
            rw [if_neg c3] at hRc
            obtain ⟨a', M2, n1, n2, n3, n4, n5, n6⟩ := hm.append (bytes := 1) (ys := bytesAV [c]) hE.ntok (by rw [bytes_len, bytes_len]; simp [roomMax]; omega) (bytes_good [c])
            have hp2 : M2.get p = RP s i many 0 0 := by rw [n3]; exact hp
            have n1' : appendV M 5 1 1 a [AV.int .u8 c.toNat] = some (a', M2) := n1
            simp only [go_sem, reduceIte, Nat.reduceEqDiff, Nat.reduceAdd, q149r7, a1, q149r9, a2, q149r12, a3, q149r14, elems, n1', q149r15, hp2, w1]
            rw [bytes_append] at n2
            exact ih (i + 1) _ a' (out ++ [c]) _ _ _ _ _ _ _ (by omega) (by omega) (by rw [List.length_append, List.length_singleton]; omega) (n2.ext ((ExtB.refl p M2).setp _)) ((n5 p hE).setp _) get_set_same hRc
def QuoR (p : Nat) (m : Mem) (s : List UInt8) (many : Nat) (r : Except Flt (List UInt8 × Nat)) (v : AV) (m' : Mem) : Prop :=
  match r with
  | .ok (t, j) => v = .str t ∧ ExtB p m m' ∧ m'.get p = RP s j many 0 0
  | .error (w, k) => ∃ t j, v = .str t ∧ ExtB p m m' ∧ m'.get p = RP s j many w k ∧ w ≠ 0
theorem rquo_ok {m : Mem} {p : Nat} {s : List UInt8} {i many : Nat} (hs : s.length < 2 ^ 40) (hi : i < s.length) (hp : m.get p = RP s i many 0 0) : ∃ v m', CS 149 [.ptr p 0] m (.ret v) m' ∧ QuoR p m s many (quote s i) v m' := by
  refine call_some (R := QuoR p m s many (quote s i)) xfok mixed q149at q149ok rfl ?_
  have w1 := wrap_succ (i := i) (by omega)
  simp only [go_sem, reduceIte, Nat.reduceEqDiff, Nat.reduceAdd, q149, q149r0, q149r1, q149r2, hp, w1]
  refine rquo_loop (mb := m) (R := quote s i) hs (fun M w k j h1 h2 h3 h4 g0 g1 g2 g3 g4 g5 g6 g7 g8 => ?_) (fun M t j h1 h2 h3 g0 g2 g3 g4 g5 g6 g7 g8 => ?_) (s.length - i + 1) (i + 1) _ _ [] _ _ _ _ _ _ _ (by omega) (by omega) (by simp) .nil ((ExtB.refl p m).setp _) get_set_same rfl
  · simp only [go_sem, reduceIte, Nat.reduceEqDiff, Nat.reduceAdd, q149r17]
    rw [h1]
    exact ⟨[], j, rfl, h2, h3, h4⟩
  · simp only [go_sem, reduceIte, Nat.reduceEqDiff, Nat.reduceAdd]
    rw [h1]
    exact ⟨rfl, h2, h3⟩
end Go.Proofs.YtkjokjogdehonaaGreatDoor.Am.Q
namespace Go.Proofs.YtkjokjogdehonaaGreatDoor.Am.Q
open Go Go.Proofs Go.Proofs.YtkjokjogdehonaaGreatDoor.Am
theorem digits_loop {m : Mem} {s : List UInt8} (hs : s.length < 2 ^ 61) {Q : AExit → List AV → Mem → Prop} (hx : ∀ g1 g3, Q (.exit 0) [.str s, g1, .int .i64 (runN isDig s), g3] m) :
    ∀ (n i : Nat) (g1 g3 : AV), runN isDig (s.drop i) = n → i + n = runN isDig s → wl CS [1, 3] q225l4 Q [.str s, g1, .int .i64 i, g3] m := by
  intro n
  induction n with
  | zero =>
    intro i g1 g3 hn hi
    refine wl_step ?_
    have hx' := hx g1
    rw [show runN isDig s = i by omega] at hx'
    cases hc : s[i]? with
    | none =>
      have h1 := List.getElem?_eq_none_iff.1 hc
      have e1 : decide ((i : Int) < (s.length : Nat)) = false := dF (by omega)
      simp only [go_sem, reduceIte, Nat.reduceEqDiff, Nat.reduceAdd, q225l4, q225r2, e1]
      exact hx' _
    | some c =>
      have h1 := (List.getElem?_eq_some_iff.1 hc).1
      have e1 : decide ((i : Int) < (s.length : Nat)) = true := dT (by omega)
      rw [drop_at hc, runN_cons] at hn
      have hd : isDig c = false := by
        cases h : isDig c with
        | true => rw [h, if_pos rfl] at hn; omega
        | false => rfl
      simp only [go_sem, reduceIte, Nat.reduceEqDiff, Nat.reduceAdd, q225l4, q225r2, e1, idxS_at hc]
      refine callW_ret (rdig_ok c m) ?_
      simp only [go_sem, reduceIte, Nat.reduceEqDiff, Nat.reduceAdd, hd]
      exact hx' _
  | succ n ih =>
    intro i g1 g3 hn hi
    refine wl_step ?_
    have hlt : i < s.length := by
      have := runN_le (p := isDig) (s := s.drop i)
      simp at this; omega
    have hc : s[i]? = some s[i] := List.getElem?_eq_getElem hlt
    have e1 : decide ((i : Int) < (s.length : Nat)) = true := dT (by omega)
    rw [drop_at hc, runN_cons] at hn
    have hd : isDig s[i] = true := by
      cases h : isDig s[i] with
      | true => rfl
      | false => rw [h] at hn; simp at hn
    rw [if_pos hd] at hn
    have hw := wrap_succ (i := i) (by omega)
    simp only [go_sem, reduceIte, Nat.reduceEqDiff, Nat.reduceAdd, q225l4, q225r2, e1, idxS_at hc]
    refine callW_ret (rdig_ok _ m) ?_
    simp only [go_sem, reduceIte, Nat.reduceEqDiff, Nat.reduceAdd, hd, q225r3, hw]
    exact ih (i + 1) _ _ (by omega) (by omega)
theorem digits_ok {s : List UInt8} (hs : s.length < 2 ^ 61) (m : Mem) : CS 225 [.str s] m (.ret (.int .i64 (runN isDig s))) m := by
  refine call_by xfok mixed q225at q225ok rfl ?_
  simp only [go_sem, reduceIte, Nat.reduceEqDiff, Nat.reduceAdd, q225, q225r0, q225r1]
  refine digits_loop hs (fun g1 g3 => ?_) (runN isDig s) 0 _ _ (by simp) (by simp)
  simp only [go_sem, reduceIte, Nat.reduceEqDiff, Nat.reduceAdd, q225r5]
theorem slice_from {s : List UInt8} {kk : IntKind} {k : Nat} (h : k ≤ s.length) : sliceStr (.str s) (some (.int kk (k : Int))) none = some (.str (s.drop k)) := by
  simp [sliceStr, boundV, h]
theorem slice_to {s : List UInt8} {kk : IntKind} {k : Nat} (h : k ≤ s.length) : sliceStr (.str s) none (some (.int kk (k : Int))) = some (.str (s.take k)) := by
  simp [sliceStr, boundV, h]
theorem slice_from_to {s : List UInt8} {k1 k2 : IntKind} {i j : Nat} (h : i ≤ j) (h2 : j ≤ s.length) : sliceStr (.str s) (some (.int k1 (i : Int))) (some (.int k2 (j : Int))) = some (.str ((s.take j).drop i)) := by
  simp [sliceStr, boundV, h, h2]
theorem slice_1 {c : UInt8} {r : List UInt8} {kk : IntKind} : sliceStr (.str (c :: r)) (some (.int kk 1)) none = some (.str r) := by
  have := slice_from (s := c :: r) (kk := kk) (k := 1) (by simp)
  simpa using this
theorem idx_0 {c : UInt8} {r : List UInt8} {kk : IntKind} : idxSV (.str (c :: r)) (.int kk 0) = some (.int .u8 c.toNat) := by
  have := idxS_at (s := c :: r) (k := kk) (i := 0) (c := c) rfl
  simpa using this
theorem neq_nil {c : UInt8} {r : List UInt8} : (!((c :: r) == ([] : List UInt8))) = true := rfl
theorem eq_nil {c : UInt8} {r : List UInt8} : ((c :: r) == ([] : List UInt8)) = false := rfl
theorem nil_eq : (([] : List UInt8) == []) = true := rfl
theorem wc_start {K : FuncId → List AV → Mem → Rs → Mem → Prop} {r : ARegion} {b : ACode} {Q : AExit → List AV → Mem → Prop} {fr : List AV} {m : Mem} : wc K (.seq (.region r) b) Q fr m = wo K ⟨r, seqQ K b Q, fr⟩ fr (!r.pairs.isEmpty) r.ops [] [] m := by rw [wc_seq, wc_region]
def t47c : ACode := (.seq (.seq (.region q152r12) (.cond (.var 7) (.seq (.region q152r13) .ret) .skip)) (.seq (.seq (.region q152r14) (.cond (.var 8) (.seq (.region q152r15) .ret) .skip)) (.seq (.region q152r16) (.seq (.seq (.region q152r17) (.cond (.var 9) (.region q152r18) .skip)) (.seq (.region q152r19) .ret)))))
def t47b : ACode := (.seq (.seq (.region q152r7) (.cond (.var 5) (.seq (.region q152r8) (.seq (.seq (.region q152r9) (.cond (.var 6) (.seq (.region q152r10) .ret) .skip)) (.region q152r11))) .skip)) t47c)
def t47a : ACode := (.seq (.region q152r3) (.seq (.seq (.region q152r4) (.cond (.var 4) (.seq (.region q152r5) .ret) .skip)) (.seq (.region q152r6) t47b)))
theorem q47_body : q152.body = (.seq (.region q152r0) (.seq (.seq (.region q152r1) (.cond (.var 3) (.region q152r2) .skip)) t47a)) := rfl
section
variable {m : Mem} {Q : AExit → List AV → Mem → Prop} {b : Bool}
theorem num_digs {s : List UInt8} (hs : s.length < 2 ^ 61) (hb : b = (decide (s ≠ []) && decide (runN isDig s = s.length))) {g1 g2 g3 g4 g5 g6 g7 g8 g9 : AV} (hq : ∀ g0 g2 g3 g4 g5 g6 g7 g8 g9, Q .ret [g0, .bool b, g2, g3, g4, g5, g6, g7, g8, g9] m) :
    wc CS (.seq (.region q152r19) .ret) Q [.str s, g1, g2, g3, g4, g5, g6, g7, g8, g9] m := by
  cases s with
  | nil =>
    obtain rfl : b = false := hb
    simp only [go_sem, reduceIte, Nat.reduceEqDiff, Nat.reduceAdd, q152r19, nil_eq]
    exact hq _ _ _ _ _ _ _ _ _
  | cons c r =>
    simp only [go_sem, reduceIte, Nat.reduceEqDiff, Nat.reduceAdd, q152r19, neq_nil]
    refine callW_ret (digits_ok hs m) ?_
    have e : (((runN isDig (c :: r) : Nat) : Int) == ((c :: r).length : Nat)) = decide (runN isDig (c :: r) = (c :: r).length) := by
      rw [Bool.eq_iff_iff]; simp only [beq_iff_eq, decide_eq_true_eq]; omega
    have e2 : decide (c :: r ≠ []) = true := dT (by simp)
    rw [e2, Bool.true_and] at hb
    simp only [go_sem, reduceIte, Nat.reduceEqDiff, Nat.reduceAdd, e, ← hb]
    exact hq _ _ _ _ _ _ _ _ _
theorem num_c {s : List UInt8} (hs : s.length < 2 ^ 61) (hb : b = expS s) {g1 g2 g3 g4 g5 g6 g7 g8 g9 : AV} (hq : ∀ g0 g2 g3 g4 g5 g6 g7 g8 g9, Q .ret [g0, .bool b, g2, g3, g4, g5, g6, g7, g8, g9] m) :
    wc CS t47c Q [.str s, g1, g2, g3, g4, g5, g6, g7, g8, g9] m := by
  cases s with
  | nil =>
    obtain rfl : b = true := hb
    simp only [go_sem, reduceIte, Nat.reduceEqDiff, Nat.reduceAdd, t47c, q152r12, nil_eq, q152r13]
    exact hq _ _ _ _ _ _ _ _ _
  | cons c r =>
    have hlen : (c :: r).length = r.length + 1 := rfl
    -- what is behind e
    have rest : (c.toNat = 101 ∨ c.toNat = 69) → ∀ g1 g2 g3 g4 g5 g6 g7 g8 g9, wc CS (.seq (.region q152r16) (.seq (.seq (.region q152r17) (.cond (.var 9) (.region q152r18) .skip)) (.seq (.region q152r19) .ret))) Q [.str (c :: r), g1, g2, g3, g4, g5, g6, g7, g8, g9] m := by
      intro hc g1 g2 g3 g4 g5 g6 g7 g8 g9
      have e1 : (decide (c.toNat = 101) || decide (c.toNat = 69)) = true := by simpa using hc
      simp only [expS, e1, Bool.true_and] at hb
      cases r with
      | nil =>
        rw [wc_seq]
        simp only [go_sem, reduceIte, Nat.reduceEqDiff, Nat.reduceAdd, q152r16, slice_1, q152r17, nil_eq]
        have := num_digs (m := m) (Q := Q) (b := b) (s := []) (by simp) (by rw [hb]; rfl) (g1 := g1) (g2 := g2) (g3 := g3) (g4 := g4) (g5 := g5) (g6 := g6) (g7 := g7) (g8 := g8) (g9 := .bool false) hq
        rw [wc_seq] at this
        simp only [go_sem, reduceIte, Nat.reduceEqDiff, Nat.reduceAdd] at this
        exact this
      | cons d q =>
        dsimp only at hb
        have tail : ∀ (t : List UInt8), t.length < 2 ^ 61 → b = (decide (t ≠ []) && decide (runN isDig t = t.length)) → ∀ g1 g2 g3 g4 g5 g6 g7 g8 g9, wo CS { r := q152r19, Q := seqQ CS ACode.ret Q, fr := [.str t, g1, g2, g3, g4, g5, g6, g7, g8, g9] } [.str t, g1, g2, g3, g4, g5, g6, g7, g8, g9] (!q152r19.pairs.isEmpty) q152r19.ops [] [] m := by
          intro t ht hbt g1 g2 g3 g4 g5 g6 g7 g8 g9
          have := num_digs (m := m) (Q := Q) (b := b) ht hbt (g1 := g1) (g2 := g2) (g3 := g3) (g4 := g4) (g5 := g5) (g6 := g6) (g7 := g7) (g8 := g8) (g9 := g9) hq
          rw [wc_seq, wc_region] at this
          exact this
        rw [wc_seq]
        by_cases h43 : d.toNat = 43
        · have a1 : ((d.toNat : Int) == 43) = true := bqT (by omega)
          rw [if_pos (.inl h43)] at hb
          simp only [go_sem, reduceIte, Nat.reduceEqDiff, Nat.reduceAdd, q152r16, slice_1, q152r17, neq_nil, idx_0, a1, q152r18]
          exact tail q (by simp at hs; omega) hb _ _ _ _ _ _ _ _ _
        · have a1 : ((d.toNat : Int) == 43) = false := bqF (by omega)
          by_cases h45 : d.toNat = 45
          · have a2 : ((d.toNat : Int) == 45) = true := bqT (by omega)
            rw [if_pos (.inr h45)] at hb
            simp only [go_sem, reduceIte, Nat.reduceEqDiff, Nat.reduceAdd, q152r16, slice_1, q152r17, neq_nil, idx_0, a1, a2, q152r18]
            exact tail q (by simp at hs; omega) hb _ _ _ _ _ _ _ _ _
          · have a2 : ((d.toNat : Int) == 45) = false := bqF (by omega)
            rw [if_neg (by omega)] at hb
            simp only [go_sem, reduceIte, Nat.reduceEqDiff, Nat.reduceAdd, q152r16, slice_1, q152r17, neq_nil, idx_0, a1, a2]
            exact tail (d :: q) (by simp at hs ⊢; omega) (by rw [hb, dT (p := d :: q ≠ []) (by simp), Bool.true_and]) _ _ _ _ _ _ _ _ _
    have conv : ∀ g1 g2 g3 g4 g5 g6 g7 g8 g9, wc CS (.seq (.region q152r16) (.seq (.seq (.region q152r17) (.cond (.var 9) (.region q152r18) .skip)) (.seq (.region q152r19) .ret))) Q [.str (c :: r), g1, g2, g3, g4, g5, g6, g7, g8, g9] m →
        wo CS { r := q152r16, Q := seqQ CS (.seq (.seq (.region q152r17) (.cond (.var 9) (.region q152r18) .skip)) (.seq (.region q152r19) .ret)) Q, fr := [.str (c :: r), g1, g2, g3, g4, g5, g6, g7, g8, g9] } [.str (c :: r), g1, g2, g3, g4, g5, g6, g7, g8, g9] (!q152r16.pairs.isEmpty) q152r16.ops [] [] m := by
      intro g1 g2 g3 g4 g5 g6 g7 g8 g9 h
      rw [wc_seq, wc_region] at h
      exact h
    by_cases h101 : c.toNat = 101
    · have a1 : ((c.toNat : Int) != 101) = false := bnF (by omega)
      simp only [go_sem, reduceIte, Nat.reduceEqDiff, Nat.reduceAdd, t47c, q152r12, eq_nil, q152r14, idx_0, a1]
      exact conv _ _ _ _ _ _ _ _ _ (rest (.inl h101) _ _ _ _ _ _ _ _ _)
    · have a1 : ((c.toNat : Int) != 101) = true := bnT (by omega)
      by_cases h69 : c.toNat = 69
      · have a2 : ((c.toNat : Int) != 69) = false := bnF (by omega)
        simp only [go_sem, reduceIte, Nat.reduceEqDiff, Nat.reduceAdd, t47c, q152r12, eq_nil, q152r14, idx_0, a1, a2]
        exact conv _ _ _ _ _ _ _ _ _ (rest (.inr h69) _ _ _ _ _ _ _ _ _)
      · have a2 : ((c.toNat : Int) != 69) = true := bnT (by omega)
        have hbf : b = false := by rw [hb]; simp [expS, h101, h69]
        subst hbf
        simp only [go_sem, reduceIte, Nat.reduceEqDiff, Nat.reduceAdd, t47c, q152r12, eq_nil, q152r14, idx_0, a1, a2, q152r15]
        exact hq _ _ _ _ _ _ _ _ _
theorem num_b {s : List UInt8} (hs : s.length < 2 ^ 61) (hb : b = fracS s) {g1 g2 g3 g4 g5 g6 g7 g8 g9 : AV} (hq : ∀ g0 g2 g3 g4 g5 g6 g7 g8 g9, Q .ret [g0, .bool b, g2, g3, g4, g5, g6, g7, g8, g9] m) :
    wc CS t47b Q [.str s, g1, g2, g3, g4, g5, g6, g7, g8, g9] m := by
  cases s with
  | nil =>
    simp only [go_sem, reduceIte, Nat.reduceEqDiff, Nat.reduceAdd, t47b, q152r7, nil_eq]
    exact num_c (by simp) hb hq
  | cons c r =>
    by_cases h46 : c.toNat = 46
    · have a1 : ((c.toNat : Int) == 46) = true := bqT (by omega)
      simp only [fracS, if_pos h46] at hb
      simp only [go_sem, reduceIte, Nat.reduceEqDiff, Nat.reduceAdd, t47b, q152r7, neq_nil, idx_0, a1, q152r8, slice_1]
      refine callW_ret (digits_ok (by simp at hs; omega) m) ?_
      have hle := runN_le (p := isDig) (s := r)
      by_cases h0 : runN isDig r = 0
      · have a2 : (((runN isDig r : Nat) : Int) == 0) = true := bqT (by omega)
        rw [if_pos h0] at hb
        subst hb
        simp only [go_sem, reduceIte, Nat.reduceEqDiff, Nat.reduceAdd, q152r9, a2, q152r10]
        exact hq _ _ _ _ _ _ _ _ _
      · have a2 : (((runN isDig r : Nat) : Int) == 0) = false := bqF (by omega)
        rw [if_neg h0] at hb
        have hw := wrap_succ (i := runN isDig r) (by simp at hs; omega)
        have hsl := slice_from (s := c :: r) (kk := .i64) (k := runN isDig r + 1) (by simp; omega)
        simp only [go_sem, reduceIte, Nat.reduceEqDiff, Nat.reduceAdd, q152r9, a2, q152r11, hw, hsl]
        rw [List.drop_succ_cons]
        exact num_c (by simp at hs ⊢; omega) hb hq
    · have a1 : ((c.toNat : Int) == 46) = false := bqF (by omega)
      simp only [fracS, if_neg h46] at hb
      simp only [go_sem, reduceIte, Nat.reduceEqDiff, Nat.reduceAdd, t47b, q152r7, neq_nil, idx_0, a1]
      exact num_c hs hb hq
theorem num_a {s : List UInt8} (hs : s.length < 2 ^ 61) (hb : b = absS s) {g1 g2 g3 g4 g5 g6 g7 g8 g9 : AV} (hq : ∀ g0 g2 g3 g4 g5 g6 g7 g8 g9, Q .ret [g0, .bool b, g2, g3, g4, g5, g6, g7, g8, g9] m) :
    wc CS t47a Q [.str s, g1, g2, g3, g4, g5, g6, g7, g8, g9] m := by
  simp only [go_sem, reduceIte, Nat.reduceEqDiff, Nat.reduceAdd, t47a, q152r3]
  refine callW_ret (digits_ok hs m) ?_
  have hle := runN_le (p := isDig) (s := s)
  unfold absS at hb
  by_cases h0 : runN isDig s = 0
  · have a2 : (((runN isDig s : Nat) : Int) == 0) = true := bqT (by omega)
    rw [if_pos (.inl h0)] at hb
    subst hb
    simp only [go_sem, reduceIte, Nat.reduceEqDiff, Nat.reduceAdd, q152r4, a2, q152r5]
    exact hq _ _ _ _ _ _ _ _ _
  · have a2 : (((runN isDig s : Nat) : Int) == 0) = false := bqF (by omega)
    have hsl := slice_from (s := s) (kk := .i64) (k := runN isDig s) hle
    by_cases h1 : 1 < runN isDig s
    · have a3 : decide (((runN isDig s : Nat) : Int) > 1) = true := dT (by omega)
      cases s with
      | nil => simp [runN_nil] at h0
      | cons c r =>
        by_cases h48 : c.toNat = 48
        · have a4 : ((c.toNat : Int) == 48) = true := bqT (by omega)
          have hc : c = 48 := UInt8.toNat_inj.1 h48
          rw [if_pos (.inr ⟨h1, by rw [hc]; rfl⟩)] at hb
          subst hb
          simp only [go_sem, reduceIte, Nat.reduceEqDiff, Nat.reduceAdd, q152r4, a2, a3, idx_0, a4, q152r5]
          exact hq _ _ _ _ _ _ _ _ _
        · have a4 : ((c.toNat : Int) == 48) = false := bqF (by omega)
          rw [if_neg (by
            rintro (h | ⟨_, h⟩)
            · exact h0 h
            · simp at h; exact h48 (by rw [h]; rfl))] at hb
          simp only [go_sem, reduceIte, Nat.reduceEqDiff, Nat.reduceAdd, q152r4, a2, a3, idx_0, a4, q152r6, hsl]
          exact num_b (by simp at hs ⊢; omega) hb hq
    · have a3 : decide (((runN isDig s : Nat) : Int) > 1) = false := dF (by omega)
      rw [if_neg (by
        rintro (h | ⟨h, _⟩)
        · exact h0 h
        · exact h1 h)] at hb
      simp only [go_sem, reduceIte, Nat.reduceEqDiff, Nat.reduceAdd, q152r4, a2, a3, q152r6, hsl]
      exact num_b (by simp at hs ⊢; omega) hb hq
end
theorem rnumber_ok {s : List UInt8} (hs : s.length < 2 ^ 61) (m : Mem) : CS 152 [.str s] m (.ret (.bool (numS s))) m := by
  refine call_by xfok mixed q152at q152ok rfl ?_
  have hq : ∀ g0 g2 g3 g4 g5 g6 g7 g8 g9, endsIn q152.results (fun v' m1 => v' = AV.bool (numS s) ∧ m1 = m) noPan .ret [g0, .bool (numS s), g2, g3, g4, g5, g6, g7, g8, g9] m := by
    intro g0 g2 g3 g4 g5 g6 g7 g8 g9
    simp only [go_sem, reduceIte, Nat.reduceEqDiff, Nat.reduceAdd, q152]
  rw [q47_body]
  show wc CS _ _ [AV.str s, .u, .u, .u, .u, .u, .u, .u, .u, .u] m
  generalize hQ : endsIn q152.results (fun v' m1 => v' = AV.bool (numS s) ∧ m1 = m) noPan = Q at hq
  cases s with
  | nil =>
    simp only [go_sem, reduceIte, Nat.reduceEqDiff, Nat.reduceAdd, q152r0, q152r1, nil_eq]
    exact num_a (by simp) rfl hq
  | cons c r =>
    by_cases h45 : c.toNat = 45
    · have a1 : ((c.toNat : Int) == 45) = true := bqT (by omega)
      simp only [go_sem, reduceIte, Nat.reduceEqDiff, Nat.reduceAdd, q152r0, q152r1, neq_nil, idx_0, a1, q152r2, slice_1]
      exact num_a (by simp at hs; omega) (by simp [numS, h45]) hq
    · have a1 : ((c.toNat : Int) == 45) = false := bqF (by omega)
      simp only [go_sem, reduceIte, Nat.reduceEqDiff, Nat.reduceAdd, q152r0, q152r1, neq_nil, idx_0, a1]
      exact num_a hs (by simp [numS, h45]) hq
end Go.Proofs.YtkjokjogdehonaaGreatDoor.Am.Q
namespace Go.Proofs.YtkjokjogdehonaaGreatDoor.Am.Q
open Go Go.Proofs Go.Proofs.YtkjokjogdehonaaGreatDoor.Am
theorem take_runN {p : UInt8 → Bool} : ∀ {l : List UInt8}, l.take (runN p l) = l.takeWhile p
  | [] => rfl
  | c :: r => by
    rw [runN_cons, List.takeWhile_cons]
    split
    · rw [List.take_succ_cons, take_runN]
    · rfl
def runP (b : Bool) : UInt8 → Bool := if b = true then isNum else isSmall
theorem rrun_loop {p : Nat} {s : List UInt8} {many fat from' : Nat} {why : Int} {b : Bool} {Q : AExit → List AV → Mem → Prop} (hs : s.length < 2 ^ 61) :
    ∀ (n i : Nat) (M : Mem) (g2 g4 : AV), M.get p = RP s i many why fat → runN (runP b) (s.drop i) = n → (∀ g2 g4, Q (.exit 0) [.ptr p 0, .bool b, g2, .int .i64 from', g4] (M.set p (RP s (i + n) many why fat))) → wl CS [2, 4] q151l4 Q [.ptr p 0, .bool b, g2, .int .i64 from', g4] M := by
  intro n
  induction n with
  | zero =>
    intro i M g2 g4 hp hn hq
    refine wl_step ?_
    rw [set_self (by simpa using hp)] at hq
    cases hc : s[i]? with
    | none =>
      have h1 := List.getElem?_eq_none_iff.1 hc
      have e1 : decide ((i : Int) < (s.length : Nat)) = false := dF (by omega)
      simp only [go_sem, reduceIte, Nat.reduceEqDiff, Nat.reduceAdd, q151l4, q151r2, hp, e1]
      exact hq _ _
    | some c =>
      have h1 := (List.getElem?_eq_some_iff.1 hc).1
      have e1 : decide ((i : Int) < (s.length : Nat)) = true := dT (by omega)
      rw [drop_at hc, runN_cons] at hn
      have hd : runP b c = false := by
        cases h : runP b c with
        | true => rw [h, if_pos rfl] at hn; omega
        | false => rfl
      cases b with
      | true =>
        have hd' : isNum c = false := hd
        simp only [go_sem, reduceIte, Nat.reduceEqDiff, Nat.reduceAdd, q151l4, q151r2, hp, e1, idxS_at hc]
        refine callW_ret (rnum_ok c M) ?_
        simp only [go_sem, reduceIte, Nat.reduceEqDiff, Nat.reduceAdd, hd']
        exact hq _ _
      | false =>
        have hd' : isSmall c = false := hd
        simp only [go_sem, reduceIte, Nat.reduceEqDiff, Nat.reduceAdd, q151l4, q151r2, hp, e1, idxS_at hc]
        refine callW_ret (rsmall_ok c M) ?_
        simp only [go_sem, reduceIte, Nat.reduceEqDiff, Nat.reduceAdd, hd']
        exact hq _ _
  | succ n ih =>
    intro i M g2 g4 hp hn hq
    refine wl_step ?_
    have hlt : i < s.length := by
      have := runN_le (p := runP b) (s := s.drop i)
      simp at this; omega
    have hc : s[i]? = some s[i] := List.getElem?_eq_getElem hlt
    have e1 : decide ((i : Int) < (s.length : Nat)) = true := dT (by omega)
    rw [drop_at hc, runN_cons] at hn
    have hd : runP b s[i] = true := by
      cases h : runP b s[i] with
      | true => rfl
      | false => rw [h] at hn; simp at hn
    rw [if_pos hd] at hn
    have hw := wrap_succ (i := i) (by omega)
    have fin : ∀ g2 g4, wl CS [2, 4] q151l4 Q [.ptr p 0, .bool b, g2, .int .i64 from', g4] (M.set p (RP s (i + 1) many why fat)) := by
      intro g2 g4
      refine ih (i + 1) _ _ _ get_set_same (by omega) (fun g2 g4 => ?_)
      rw [set_set, show i + 1 + n = i + (n + 1) by omega]
      exact hq _ _
    cases b with
    | true =>
      have hd' : isNum s[i] = true := hd
      simp only [go_sem, reduceIte, Nat.reduceEqDiff, Nat.reduceAdd, q151l4, q151r2, hp, e1, idxS_at hc]
      refine callW_ret (rnum_ok _ M) ?_
      simp only [go_sem, reduceIte, Nat.reduceEqDiff, Nat.reduceAdd, hd', q151r3, hp, hw]
      exact fin _ _
    | false =>
      have hd' : isSmall s[i] = true := hd
      simp only [go_sem, reduceIte, Nat.reduceEqDiff, Nat.reduceAdd, q151l4, q151r2, hp, e1, idxS_at hc]
      refine callW_ret (rsmall_ok _ M) ?_
      simp only [go_sem, reduceIte, Nat.reduceEqDiff, Nat.reduceAdd, hd', q151r3, hp, hw]
      exact fin _ _
theorem rrun_ok {m : Mem} {p : Nat} {s : List UInt8} {i many fat : Nat} {why : Int} {b : Bool} (hs : s.length < 2 ^ 61) (hi : i ≤ s.length) (hp : m.get p = RP s i many why fat) :
    CS 151 [.ptr p 0, .bool b] m (.ret (.str ((s.drop i).takeWhile (runP b)))) (m.set p (RP s (i + runN (runP b) (s.drop i)) many why fat)) := by
  refine call_by xfok mixed q151at q151ok rfl ?_
  simp only [go_sem, reduceIte, Nat.reduceEqDiff, Nat.reduceAdd, q151, q151r0, q151r1, hp]
  refine rrun_loop hs (runN (runP b) (s.drop i)) i m _ _ hp rfl (fun g2 g4 => ?_)
  have hle := runN_le (p := runP b) (s := s.drop i)
  simp only [List.length_drop] at hle
  have hsl := slice_from_to (s := s) (k1 := .i64) (k2 := .i64) (i := i) (j := i + runN (runP b) (s.drop i)) (by omega) (by omega)
  rw [List.drop_take, Nat.add_sub_cancel_left, take_runN] at hsl
  simp only [go_sem, reduceIte, Nat.reduceEqDiff, Nat.reduceAdd, q151r5, hsl]
theorem has_loop (m : Mem) {a : AV} {l : List (List UInt8)} {k : List UInt8} (ha : SlOf 1 a (l.map .str)) (hl : l.length < 2 ^ 61) {Q : AExit → List AV → Mem → Prop}
    (hx : ¬ k ∈ l → ∀ g2 g3 g4 g5, Q (.exit 0) [a, .str k, g2, g3, g4, g5] m) (hr : k ∈ l → ∀ g3 g4 g5, Q .ret [a, .str k, .bool true, g3, g4, g5] m) :
    ∀ (n i : Nat) (g2 g4 g5 : AV), i + n = l.length → (k ∈ l ↔ k ∈ l.drop i) → wl CS [2, 4, 5] q70l6 Q [a, .str k, g2, .int .i64 i, g4, g5] m := by
  intro n
  induction n with
  | zero =>
    intro i g2 g4 g5 hi ht
    refine wl_step ?_
    have e1 : decide ((i : Int) < ((l.map AV.str).length : Nat)) = false := dF (by simp; omega)
    simp only [go_sem, reduceIte, Nat.reduceEqDiff, Nat.reduceAdd, q70l6, q70r2, ha.isLK, ha.len, e1]
    exact hx (by rw [ht, List.drop_of_length_le (by omega)]; simp) _ _ _ _
  | succ n ih =>
    intro i g2 g4 g5 hi ht
    refine wl_step ?_
    have hlt : i < l.length := by omega
    have e1 : decide ((i : Int) < ((l.map AV.str).length : Nat)) = true := dT (by simp; omega)
    have ea := ha.idx (k := .i64) (i := (i : Int)) (y := .str l[i]) (by omega) (by simp [hlt])
    have hw := wrap_succ (i := i) (by omega)
    have hd : l.drop i = l[i] :: l.drop (i + 1) := List.drop_eq_getElem_cons hlt
    rw [hd, List.mem_cons] at ht
    simp only [go_sem, reduceIte, Nat.reduceEqDiff, Nat.reduceAdd, q70l6, q70r2, ha.isLK, ha.len, e1, q70r3, ea]
    by_cases h : k = l[i]
    · have e2 : (l[i] == k) = true := by simp [h]
      simp only [go_sem, reduceIte, Nat.reduceEqDiff, Nat.reduceAdd, e2, q70r4]
      exact hr (ht.2 (.inl h)) _ _ _
    · have e2 : (l[i] == k) = false := by simp; exact fun e => h e.symm
      simp only [go_sem, reduceIte, Nat.reduceEqDiff, Nat.reduceAdd, e2, q70r5, hw]
      exact ih (i + 1) _ _ _ (by omega) (ht.trans ⟨fun x => x.resolve_left h, .inr⟩)
theorem has_ok (m : Mem) {a : AV} {l : List (List UInt8)} {k : List UInt8} (ha : SlOf 1 a (l.map .str)) (hl : l.length < 2 ^ 61) : CS 70 [a, .str k] m (.ret (.bool (decide (k ∈ l)))) m := by
  refine call_by xfok mixed q70at q70ok rfl ?_
  simp only [go_sem, reduceIte, Nat.reduceEqDiff, Nat.reduceAdd, q70, q70r0, q70r1]
  refine has_loop m ha hl (fun h g2 g3 g4 g5 => ?_) (fun h g3 g4 g5 => ?_) l.length 0 _ _ _ (by omega) (by simp)
  · simp only [go_sem, reduceIte, Nat.reduceEqDiff, Nat.reduceAdd, q70r7, dF h]
  · simp only [go_sem, reduceIte, Nat.reduceEqDiff, Nat.reduceAdd, dT h]
def moreR (s : List UInt8) (i many : Nat) (first : Bool) (e : Nat) : Bool × AObj :=
  match nxt s i with
  | .error (w, k) => (false, RP s (skipN s i) many w k)
  | .ok (j, c) => if c.toNat = e then (false, RP s (j + 1) many 0 0) else if first = true then (true, RP s j many 0 0) else if c.toNat ≠ 44 then (false, RP s j many 3 j) else (true, RP s (j + 1) many 0 0)
theorem rmore_ok {m : Mem} {p : Nat} {s : List UInt8} {i many : Nat} (hs : s.length < 2 ^ 60) (hp : m.get p = RP s i many 0 0) (first : Bool) (e : Nat) :
    CS 226 [.ptr p 0, .bool first, .int .u8 e] m (.ret (.bool (moreR s i many first e).1)) (m.set p (moreR s i many first e).2) := by
  refine call_by xfok mixed q226at q226ok rfl ?_
  have hn := rnext_ok (by omega) hp
  simp only [go_sem, reduceIte, Nat.reduceEqDiff, Nat.reduceAdd, q226, q226r0, q226r1]
  refine callW_ret hn ?_
  cases hc : s[skipN s i]? with
  | none =>
    simp only [rnextM, moreR, nxt_none hc]
    simp only [go_sem, reduceIte, Nat.reduceEqDiff, Nat.reduceAdd, q226r2, show ((4 : Int) != 0) = true from rfl, q226r3]
  | some c =>
    have h1 := (List.getElem?_eq_some_iff.1 hc).1
    simp only [rnextM, moreR, nxt_some hc]
    have hw := wrap_succ (i := skipN s i) (by omega)
    by_cases he : c.toNat = e
    · have a1 : ((c.toNat : Int) == (e : Int)) = true := bqT (by omega)
      rw [if_pos he]
      simp only [go_sem, reduceIte, Nat.reduceEqDiff, Nat.reduceAdd, q226r2, show ((0 : Int) != 0) = false from rfl, q226r4, a1, q226r5, hw, q226r6]
    · have a1 : ((c.toNat : Int) == (e : Int)) = false := bqF (by omega)
      rw [if_neg he]
      cases first with
      | true =>
        rw [if_pos rfl]
        simp only [go_sem, reduceIte, Nat.reduceEqDiff, Nat.reduceAdd, q226r2, show ((0 : Int) != 0) = false from rfl, q226r4, a1, q226r7, q226r8]
      | false =>
        rw [if_neg (by decide)]
        by_cases h44 : c.toNat = 44
        · have a2 : ((c.toNat : Int) != 44) = false := bnF (by omega)
          rw [if_neg (by omega)]
          simp only [go_sem, reduceIte, Nat.reduceEqDiff, Nat.reduceAdd, q226r2, show ((0 : Int) != 0) = false from rfl, q226r4, a1, q226r7, q226r9, a2, q226r12, hw, q226r13]
        · have a2 : ((c.toNat : Int) != 44) = true := bnT (by omega)
          rw [if_pos (by omega)]
          simp only [go_sem, reduceIte, Nat.reduceEqDiff, Nat.reduceAdd, q226r2, show ((0 : Int) != 0) = false from rfl, q226r4, a1, q226r7, q226r9, a2, q226r10]
          refine callW_ret (rfail_ok get_set_same 3 _) ?_
          simp only [go_sem, reduceIte, Nat.reduceEqDiff, Nat.reduceAdd, q226r11]
theorem rmore_no {m : Mem} {p : Nat} {s : List UInt8} {i many fat : Nat} {why : Int} (hs : s.length < 2 ^ 60) (hw : why ≠ 0) (hp : m.get p = RP s i many why fat) (first : Bool) (e : Nat) :
    CS 226 [.ptr p 0, .bool first, .int .u8 e] m (.ret (.bool false)) (m.set p (RP s (skipN s i) many why fat)) := by
  refine call_by xfok mixed q226at q226ok rfl ?_
  obtain ⟨n, hn⟩ := rnext_no (by omega) hw hp
  have z : (why != 0) = true := by simp [hw]
  simp only [go_sem, reduceIte, Nat.reduceEqDiff, Nat.reduceAdd, q226, q226r0, q226r1]
  refine callW_ret hn ?_
  simp only [go_sem, reduceIte, Nat.reduceEqDiff, Nat.reduceAdd, q226r2, z, q226r3]
end Go.Proofs.YtkjokjogdehonaaGreatDoor.Am.Q
namespace Go.Proofs.YtkjokjogdehonaaGreatDoor.Am.Q
open Go Go.Proofs Go.Proofs.YtkjokjogdehonaaGreatDoor.Am
theorem quoS_ok {s : List UInt8} : ∀ {f i : Nat} {out t : List UInt8} {j : Nat}, quoS s f i out = .ok (t, j) → i < j ∧ j ≤ s.length
  | 0, _, _, _, _, h => by cases h
  | f + 1, i, out, t, j, h => by
    simp only [quoS] at h
    split at h
    · cases h
    · rename_i c hc
      have h1 := (List.getElem?_eq_some_iff.1 hc).1
      split at h
      · cases h
      · split at h
        · simp only [Except.ok.injEq, Prod.mk.injEq] at h
          obtain ⟨_, rfl⟩ := h
          exact ⟨by omega, by omega⟩
        · split at h
          · split at h
            · cases h
            · rename_i b k hk
              have h2 := escS_ok hk
              have h3 := quoS_ok h
              exact ⟨by omega, h3.2⟩
          · have h3 := quoS_ok h
            exact ⟨by omega, h3.2⟩
theorem quote_ok {s : List UInt8} {i : Nat} {t : List UInt8} {j : Nat} (h : quote s i = .ok (t, j)) : i + 1 < j ∧ j ≤ s.length := quoS_ok h
theorem skip_ge {s : List UInt8} {i : Nat} : i ≤ skipN s i := Nat.le_add_right _ _
theorem nxt_ok {s : List UInt8} {i j : Nat} {c : UInt8} (h : nxt s i = .ok (j, c)) : i ≤ j ∧ j < s.length ∧ s[j]? = some c ∧ j = skipN s i := by
  unfold nxt at h
  split at h
  · rename_i c' hc
    simp only [Except.ok.injEq, Prod.mk.injEq] at h
    obtain ⟨rfl, rfl⟩ := h
    exact ⟨skip_ge, (List.getElem?_eq_some_iff.1 hc).1, hc, rfl⟩
  · cases h
theorem takeWhile_len {p : UInt8 → Bool} {l : List UInt8} : (l.takeWhile p).length = runN p l := rfl
theorem pGo_ok {s : List UInt8} : ∀ {f : Nat} {t : PT} {i many deep : Nat} {v : VT} {j many' : Nat}, pGo s f t i many deep = .ok (v, j, many') → many ≤ 4096 → i < j ∧ j ≤ s.length ∧ many' ≤ 4096
  | 0, _, _, _, _, _, _, _, h, _ => by cases h
  | f + 1, .val, i, many, deep, v, j, many', h, hm => by
    simp only [pGo] at h
    split at h
    · cases h
    · rename_i a c hn
      obtain ⟨n1, n2, n3, _⟩ := nxt_ok hn
      split at h
      · cases h
      · rename_i h4
        split at h
        · split at h
          · cases h
          · rename_i t k hq
            simp only [Except.ok.injEq, Prod.mk.injEq] at h
            obtain ⟨_, rfl, rfl⟩ := h
            have := quote_ok hq
            exact ⟨by omega, by omega, by omega⟩
        · split at h
          · split at h
            · cases h
            · split at h
              · have := pGo_ok h (by omega); exact ⟨by omega, this.2.1, this.2.2⟩
              · have := pGo_ok h (by omega); exact ⟨by omega, this.2.1, this.2.2⟩
          · have hdl : runN isNum (s.drop a) ≤ s.length - a := by have := runN_le (p := isNum) (s := s.drop a); simpa using this
            have hds : runN isSmall (s.drop a) ≤ s.length - a := by have := runN_le (p := isSmall) (s := s.drop a); simpa using this
            split at h
            · split at h
              · rename_i hc hnum
                simp only [Except.ok.injEq, Prod.mk.injEq] at h
                obtain ⟨_, rfl, rfl⟩ := h
                have : 0 < runN isNum (s.drop a) := by
                  cases hz : runN isNum (s.drop a) with
                  | zero =>
                    have : ((s.drop a).takeWhile isNum) = [] := List.eq_nil_of_length_eq_zero (by rw [takeWhile_len]; exact hz)
                    rw [this] at hnum; cases hnum
                  | succ _ => omega
                exact ⟨by omega, by omega, by omega⟩
              · cases h
            · split at h
              · rename_i hw
                simp only [Except.ok.injEq, Prod.mk.injEq] at h
                obtain ⟨_, rfl, rfl⟩ := h
                have : runN isSmall (s.drop a) = 4 := by rw [← takeWhile_len, hw]; rfl
                exact ⟨by omega, by omega, by omega⟩
              · split at h
                · rename_i hw
                  simp only [Except.ok.injEq, Prod.mk.injEq] at h
                  obtain ⟨_, rfl, rfl⟩ := h
                  have : 0 < runN isSmall (s.drop a) := by
                    rw [← takeWhile_len]
                    rcases hw with hw | hw <;> rw [hw] <;> decide
                  exact ⟨by omega, by omega, by omega⟩
                · cases h
  | f + 1, .list acc, i, many, deep, v, j, many', h, hm => by
    simp only [pGo] at h
    split at h
    · cases h
    · rename_i a c hn
      obtain ⟨n1, n2, n3, _⟩ := nxt_ok hn
      split at h
      · simp only [Except.ok.injEq, Prod.mk.injEq] at h
        obtain ⟨_, rfl, rfl⟩ := h
        exact ⟨by omega, by omega, by omega⟩
      · split at h
        · cases h
        · split at h
          · cases h
          · rename_i v1 k1 m1 hv
            have h1 := pGo_ok hv hm
            have h2 := pGo_ok h h1.2.2
            have : i < k1 := by have := h1.1; split at this <;> omega
            exact ⟨by omega, h2.2.1, h2.2.2⟩
  | f + 1, .tab ks acc, i, many, deep, v, j, many', h, hm => by
    simp only [pGo] at h
    split at h
    · cases h
    · rename_i a c hn
      obtain ⟨n1, n2, n3, _⟩ := nxt_ok hn
      split at h
      · simp only [Except.ok.injEq, Prod.mk.injEq] at h
        obtain ⟨_, rfl, rfl⟩ := h
        exact ⟨by omega, by omega, by omega⟩
      · split at h
        · cases h
        · split at h
          · cases h
          · rename_i b q hn2
            obtain ⟨o1, o2, _, _⟩ := nxt_ok hn2
            split at h
            · cases h
            · split at h
              · cases h
              · rename_i key d hq
                have hq' := quote_ok hq
                split at h
                · cases h
                · split at h
                  · cases h
                  · rename_i e o hn3
                    obtain ⟨p1, p2, _, _⟩ := nxt_ok hn3
                    split at h
                    · cases h
                    · split at h
                      · cases h
                      · rename_i v1 k1 m1 hv
                        have h1 := pGo_ok hv hm
                        have h2 := pGo_ok h h1.2.2
                        have : i ≤ b := by split at o1 <;> omega
                        exact ⟨by omega, h2.2.1, h2.2.2⟩
end Go.Proofs.YtkjokjogdehonaaGreatDoor.Am.Q
namespace Go.Proofs.YtkjokjogdehonaaGreatDoor.Am.Q
open Go Go.Proofs Go.Proofs.YtkjokjogdehonaaGreatDoor.Am
abbrev z26 : AObj := .cells 27 [.int .i64 0, .str [], .nilSl, .nilSl]
def ValR (p : Nat) (m : Mem) (s : List UInt8) (r : Except Flt (VT × Nat × Nat)) (v : AV) (m' : Mem) : Prop :=
  match r with
  | .ok (T, j, k) => IsVal v T ∧ ExtB p m m' ∧ m'.get p = RP s j k 0 0
  | .error (w, k) => (∃ T, IsVal v T) ∧ ExtB p m m' ∧ w ≠ 0 ∧ ∃ j many, m'.get p = RP s j many w k
structure VSt (p q : Nat) (m M : Mem) (o oq : AObj) : Prop where
  ext : ExtB p m M
  gp : M.get p = o
  gq : M.get q = oq
  ne : q ≠ p
  new : m.next ≤ q
  lt : q < M.next
theorem VSt.setp {p q : Nat} {m M : Mem} {o oq : AObj} (h : VSt p q m M o oq) (o' : AObj) : VSt p q m (M.set p o') o' oq :=
  ⟨h.ext.setp _, get_set_same, by rw [get_set_other h.ne]; exact h.gq, h.ne, h.new, h.lt⟩
theorem VSt.setq {p q : Nat} {m M : Mem} {o oq : AObj} (h : VSt p q m M o oq) (o' : AObj) : VSt p q m (M.set q o') o o' :=
  ⟨h.ext.set h.new _, by rw [get_set_other (Ne.symm h.ne)]; exact h.gp, get_set_same, h.ne, h.new, h.lt⟩
theorem VSt.call {p q : Nat} {m M M' : Mem} {o o' oq : AObj} (h : VSt p q m M o oq) (k : ExtB p M M') (g : M'.get p = o') : VSt p q m M' o' oq :=
  ⟨h.ext.trans k, g, by rw [k.get q h.lt h.ne]; exact h.gq, h.ne, h.new, Nat.lt_of_lt_of_le h.lt k.next⟩
theorem VSt.alloc {p q : Nat} {m M : Mem} {o oq : AObj} (h : VSt p q m M o oq) (hp : p < M.next) (o' : AObj) : VSt p q m (M.alloc o') o oq :=
  ⟨h.ext.alloc _, by rw [get_old (by omega)]; exact h.gp, by rw [get_old (by have := h.lt; omega)]; exact h.gq, h.ne, h.new, by have := h.lt; rw [next_alloc]; omega⟩
theorem VSt.begin {p : Nat} {m : Mem} {o oq : AObj} (hp : p < m.next) (g : m.get p = o) : VSt p m.next m (m.alloc oq) o oq :=
  ⟨(ExtB.refl p m).alloc _, by rw [get_old (by omega)]; exact g, get_new, by omega, Nat.le_refl _, by rw [next_alloc]; omega⟩
theorem leaf_val {k : Int} {t : List UInt8} : IsVal (.agg [.int .i64 k, .str t, .nilSl, .nilSl]) (.node k t [] []) := .mk (.inl ⟨rfl, rfl⟩) (.inl ⟨rfl, rfl⟩) rfl (fun i hi => absurd hi (Nat.not_lt_zero _))
theorem IsVal.ones {v : AV} {T : VT} (h : IsVal v T) : ∃ k t ka kb, v = .agg [.int .i64 k, .str t, ka, kb] ∧ one ka = true ∧ one kb = true := by
  cases h with
  | mk a1 a2 => exact ⟨_, _, _, _, rfl, a1.one, a2.one⟩
theorem str_beq {a b : List UInt8} (h : a = b) : (a == b) = true := by simp [h]
theorem str_bne {a b : List UInt8} (h : ¬ a = b) : (a == b) = false := by simp [h]
section
variable (s : List UInt8)
def PVal (f : Nat) : Prop := ∀ (m : Mem) (p i many deep : Nat), 2 * (s.length - i) + 1 ≤ f → many ≤ 4096 → deep < 2 ^ 40 → p < m.next → m.get p = RP s i many 0 0 →
  ∃ v m', CS 72 [.ptr p 0, .int .i64 deep] m (.ret v) m' ∧ ValR p m s (pGo s f .val i many deep) v m'
def PList (f : Nat) : Prop := ∀ (m : Mem) (p i many deep : Nat), 2 * (s.length - i) + 2 ≤ f → i ≤ s.length → many ≤ 4096 → deep < 2 ^ 39 → p < m.next → m.get p = RP s i many 0 0 →
  ∃ v m', CS 154 [.ptr p 0, .int .i64 deep] m (.ret v) m' ∧ ValR p m s (pGo s f (.list []) i many deep) v m'
def PTab (f : Nat) : Prop := ∀ (m : Mem) (p i many deep : Nat), 2 * (s.length - i) + 2 ≤ f → i ≤ s.length → many ≤ 4096 → deep < 2 ^ 39 → p < m.next → m.get p = RP s i many 0 0 →
  ∃ v m', CS 155 [.ptr p 0, .int .i64 deep] m (.ret v) m' ∧ ValR p m s (pGo s f (.tab [] []) i many deep) v m'
end
theorem rval_step {s : List UInt8} (hs : s.length < 2 ^ 40) {f : Nat} (HL : PList s f) (HT : PTab s f) : PVal s (f + 1) := by
  intro m p i many deep hf hmany hdeep hpn hp
  have out : ∀ {r : Except Flt (VT × Nat × Nat)}, r = pGo s (f + 1) .val i many deep → (∃ v m', CS 72 [.ptr p 0, .int .i64 deep] m (.ret v) m' ∧ ValR p m s r v m') → ∃ v m', CS 72 [.ptr p 0, .int .i64 deep] m (.ret v) m' ∧ ValR p m s (pGo s (f + 1) .val i many deep) v m' := fun e h => e ▸ h
  have hV0 := VSt.begin (oq := z26) hpn hp
  have hp0 := hV0.gp
  generalize hM0 : m.alloc z26 = M0 at hV0 hp0
  have hn := rnext_ok (m := M0) (by omega) hp0
  cases hc : s[skipN s i]? with
  | none =>
    refine out (r := .error (4, s.length)) (by simp only [pGo, nxt_none hc]) ?_
    refine call_some (R := ValR p m s (.error (4, s.length))) xfok mixed q72at q72ok rfl ?_
    simp only [rnextM, nxt_none hc] at hn
    have hV1 := hV0.setp (RP s (skipN s i) many 4 s.length)
    have hp1 := hV1.gp
    have hq1 := hV1.gq
    simp only [go_sem, reduceIte, Nat.reduceEqDiff, Nat.reduceAdd, q72, q72r0, hM0, q72r1]
    refine callW_ret hn ?_
    generalize hM1 : M0.set p (RP s (skipN s i) many 4 s.length) = M1 at hV1 hp1 hq1
    simp only [go_sem, reduceIte, Nat.reduceEqDiff, Nat.reduceAdd, q72r2, hp1, q72r3, show ((4 : Int) != 0) = true from rfl, q72r4, hq1]
    exact ⟨⟨_, zero_val⟩, (hV1.setq _).ext, by decide, _, _, (hV1.setq _).gp⟩
  | some c =>
    have h1 := (List.getElem?_eq_some_iff.1 hc).1
    simp only [rnextM, nxt_some hc] at hn
    generalize hj : skipN s i = j at hn hc h1
    have hS : pGo s (f + 1) .val i many deep = if 4096 < many + 1 then .error (5, j) else
      if c.toNat = 34 then (match quote s j with
        | .error e => .error e
        | .ok (t, k) => .ok (.node 4 t [] [], k, many + 1))
      else if c.toNat = 91 ∨ c.toNat = 123 then
        (if 64 ≤ deep then .error (8, j) else if c.toNat = 91 then pGo s f (.list []) (j + 1) (many + 1) deep else pGo s f (.tab [] []) (j + 1) (many + 1) deep)
      else if c.toNat = 45 ∨ isDig c = true then
        (if numS ((s.drop j).takeWhile isNum) then .ok (.node 3 ((s.drop j).takeWhile isNum) [] [], j + runN isNum (s.drop j), many + 1) else .error (3, j))
      else if (s.drop j).takeWhile isSmall = tNull then .ok (.node 1 [] [] [], j + runN isSmall (s.drop j), many + 1)
      else if (s.drop j).takeWhile isSmall = tTrue ∨ (s.drop j).takeWhile isSmall = tFalse then .ok (.node 2 ((s.drop j).takeWhile isSmall) [] [], j + runN isSmall (s.drop j), many + 1)
      else .error (3, j) := by
      simp only [pGo, nxt_some (hj ▸ hc), hj]; rfl
    have hij : i ≤ j := hj ▸ skip_ge
    have hV1 := hV0.setp (RP s j many 0 0)
    have hp1 := hV1.gp
    have hq1 := hV1.gq
    generalize hM1 : M0.set p (RP s j many 0 0) = M1 at hV1 hp1 hq1
    have hV2 := hV1.setp (RP s j (many + 1) 0 0)
    have hp2 := hV2.gp
    have hq2 := hV2.gq
    have hw := wrap_succ (i := many) (by omega)
    have z0 : ((0 : Int) != 0) = false := rfl
    -- the code up to the kinds
    have pre : ∀ {R : AV → Mem → Prop}, ¬ 4096 < many + 1 → wc CS (.block 0 (.seq (.region q72r9) (.cond (.var 9) (.seq (.region q72r10) .ret) (.seq (.region q72r11) (.cond (.var 10) (.seq (.region q72r12) (.seq (.seq (.region q72r13) (.cond (.var 11) (.region q72r14) .skip)) (.seq (.region q72r15) .ret))) (.seq (.region q72r16) (.cond (.var 12) (.seq (.region q72r17) (.seq (.seq (.region q72r18) (.block 1 (.seq (.region q72r19) (.cond (.var 14) (.seq (.region q72r20) .ret) (.seq (.seq (.region q72r21) (.cond (.var 15) .skip (.region q72r22))) (.cond (.var 15) (.seq (.region q72r23) .ret) .skip)))))) (.seq (.region q72r24) (.seq (.region q72r25) .ret)))) (.seq (.region q72r26) (.cond (.var 16) (.seq (.region q72r27) (.seq (.region q72r28) .ret)) (.seq (.region q72r29) (.cond (.var 17) (.seq (.region q72r30) (.seq (.region q72r31) .ret)) .skip)))))))))))
          (seqQ CS (.seq (.region q72r32) (.seq (.seq (.region q72r33) (.cond (.var 18) (.seq (.region q72r34) .ret) .skip)) (.seq (.region q72r35) .ret))) (endsIn [.cell 2 true 4] R noPan))
          [.ptr p 0, .int .i64 deep, .ptr m.next 0, .int .u8 c.toNat, .int .i64 j, .u, .u, .bool false, .bool false, .u, .u, .u, .u, .u, .u, .u, .u, .u, .u] (M1.set p (RP s j (many + 1) 0 0)) → ∃ v m', CS 72 [.ptr p 0, .int .i64 deep] m (.ret v) m' ∧ R v m' := by
      intro R h4 hrest
      refine call_some (R := R) xfok mixed q72at q72ok rfl ?_
      have e4 : decide (((many + 1 : Nat) : Int) > 4096) = false := dF (by omega)
      simp only [go_sem, reduceIte, Nat.reduceEqDiff, Nat.reduceAdd, q72, q72r0, hM0, q72r1]
      refine callW_ret hn ?_
      rw [hM1]
      simp only [go_sem, reduceIte, Nat.reduceEqDiff, Nat.reduceAdd, q72r2, hp1, q72r3, z0, q72r5, hw, q72r6, e4]
      simp only [go_sem, reduceIte, Nat.reduceEqDiff, Nat.reduceAdd] at hrest
      exact hrest
    rw [hS]
    by_cases h4 : 4096 < many + 1
    · rw [if_pos h4]
      refine call_some (R := ValR p m s (.error (5, j))) xfok mixed q72at q72ok rfl ?_
      have e4 : decide (((many + 1 : Nat) : Int) > 4096) = true := dT (by omega)
      simp only [go_sem, reduceIte, Nat.reduceEqDiff, Nat.reduceAdd, q72, q72r0, hM0, q72r1]
      refine callW_ret hn ?_
      rw [hM1]
      simp only [go_sem, reduceIte, Nat.reduceEqDiff, Nat.reduceAdd, q72r2, hp1, q72r3, z0, q72r5, hw, q72r6, e4, q72r7]
      refine callW_ret (rfail_ok get_set_same 5 j) ?_
      have hV3 := hV1.setp (RP s j (many + 1) 5 j)
      have hq3 := hV3.gq
      simp only [go_sem, reduceIte, Nat.reduceEqDiff, Nat.reduceAdd, q72r8, hq3]
      exact ⟨⟨_, zero_val⟩, (hV3.setq _).ext, by decide, _, _, (hV3.setq _).gp⟩
    · rw [if_neg h4]
      have pre := fun {R} => pre (R := R) h4
      generalize hM2 : M1.set p (RP s j (many + 1) 0 0) = M2 at hV2 hp2 hq2 pre
      by_cases h34 : c.toNat = 34
      · -- quotes
        rw [if_pos h34]
        have a34 : ((c.toNat : Int) == 34) = true := bqT (by omega)
        refine pre ?_
        obtain ⟨v, M3, k1, k2⟩ := rquo_ok hs h1 hp2
        simp only [go_sem, reduceIte, Nat.reduceEqDiff, Nat.reduceAdd, q72r9, a34, q72r10]
        refine callW_ret k1 ?_
        cases hqu : quote s j with
        | ok x =>
          obtain ⟨t, k⟩ := x
          rw [hqu] at k2
          obtain ⟨rfl, k3, k4⟩ := k2
          have hV3 := hV2.call k3 k4
          have hq3 := hV3.gq
          simp only [go_sem, reduceIte, Nat.reduceEqDiff, Nat.reduceAdd, hq3]
          exact ⟨leaf_val, (hV3.setq _).ext, (hV3.setq _).gp⟩
        | error x =>
          obtain ⟨w, k⟩ := x
          rw [hqu] at k2
          obtain ⟨t, a, rfl, k3, k4, k5⟩ := k2
          have hV3 := hV2.call k3 k4
          have hq3 := hV3.gq
          simp only [go_sem, reduceIte, Nat.reduceEqDiff, Nat.reduceAdd, hq3]
          exact ⟨⟨_, leaf_val⟩, (hV3.setq _).ext, k5, _, _, (hV3.setq _).gp⟩
      · rw [if_neg h34]
        have a34 : ((c.toNat : Int) == 34) = false := bqF (by omega)
        by_cases hbr : c.toNat = 91 ∨ c.toNat = 123
        · -- lists and tables
          rw [if_pos hbr]
          have a45 : ((c.toNat : Int) == 45) = false := bqF (by omega)
          have hd : isDig c = false := by simp [isDig, isDigN]; omega
          have hsm : isSmall c = false := by simp [isSmall, isSmallN]; omega
          have w32 := wrap_succ (i := j) (by omega)
          have e91 : ((c.toNat : Int) != 91) = decide (c.toNat ≠ 91) := by
            by_cases h : c.toNat = 91
            · rw [bnF (by omega), dF (by omega)]
            · rw [bnT (by omega), dT (by omega)]
          by_cases hdp : 64 ≤ deep
          · rw [if_pos hdp]
            have e64 : decide ((deep : Int) ≥ 64) = true := dT (by omega)
            refine pre ?_
            simp only [go_sem, reduceIte, Nat.reduceEqDiff, Nat.reduceAdd, q72r9, a34, q72r11, a45]
            refine callW_ret (rdig_ok c M2) ?_
            simp only [go_sem, reduceIte, Nat.reduceEqDiff, Nat.reduceAdd, hd, q72r16]
            refine callW_ret (rsmall_ok c M2) ?_
            have fin : ∀ M3, VSt p m.next m M3 (RP s j (many + 1) 8 j) z26 → ValR p m s (.error (8, j)) (.agg [.int .i64 0, .str [], .nilSl, .nilSl]) (M3.set m.next z26) := by
              intro M3 hV3
              exact ⟨⟨_, zero_val⟩, (hV3.setq _).ext, by decide, _, _, (hV3.setq _).gp⟩
            have hV3 := hV2.setp (RP s j (many + 1) 8 j)
            have hq3 := hV3.gq
            rcases hbr with h91 | h123
            · have b91 : ((c.toNat : Int) != 91) = false := bnF (by omega)
              simp only [go_sem, reduceIte, Nat.reduceEqDiff, Nat.reduceAdd, hsm, q72r26, b91, q72r29, e64, q72r30]
              refine callW_ret (rfail_ok hp2 8 j) ?_
              simp only [go_sem, reduceIte, Nat.reduceEqDiff, Nat.reduceAdd, q72r31, hq3]
              exact fin _ hV3
            · have b91 : ((c.toNat : Int) != 91) = true := bnT (by omega)
              have b123 : ((c.toNat : Int) != 123) = false := bnF (by omega)
              simp only [go_sem, reduceIte, Nat.reduceEqDiff, Nat.reduceAdd, hsm, q72r26, b91, b123, q72r29, e64, q72r30]
              refine callW_ret (rfail_ok hp2 8 j) ?_
              simp only [go_sem, reduceIte, Nat.reduceEqDiff, Nat.reduceAdd, q72r31, hq3]
              exact fin _ hV3
          · rw [if_neg hdp]
            have e64 : decide ((deep : Int) ≥ 64) = false := dF (by omega)
            have hV3 := hV2.setp (RP s (j + 1) (many + 1) 0 0)
            have hp3 := hV3.gp
            have hpn3 : p < (M2.set p (RP s (j + 1) (many + 1) 0 0)).next := by
              have := hV3.ext.next; omega
            have fin : ∀ (r : Except Flt (VT × Nat × Nat)) (v : AV) (M4 : Mem), ValR p (M2.set p (RP s (j + 1) (many + 1) 0 0)) s r v M4 → ∃ k t ka kb, v = .agg [.int .i64 k, .str t, ka, kb] ∧ one ka = true ∧ one kb = true ∧ M4.get m.next = z26 ∧ ValR p m s r v (M4.set m.next (.cells 27 [.int .i64 k, .str t, ka, kb])) := by
              intro r v M4 h
              cases r with
              | ok x =>
                obtain ⟨T, a, b⟩ := x
                obtain ⟨v1, v2, v3⟩ := h
                have hV4 := hV3.call v2 v3
                obtain ⟨k, t, ka, kb, e, o1, o2⟩ := v1.ones
                exact ⟨k, t, ka, kb, e, o1, o2, hV4.gq, v1, (hV4.setq _).ext, (hV4.setq _).gp⟩
              | error x =>
                obtain ⟨w, a⟩ := x
                obtain ⟨⟨T, v1⟩, v2, v3, b, b', v4⟩ := h
                have hV4 := hV3.call v2 v4
                obtain ⟨k, t, ka, kb, e, o1, o2⟩ := v1.ones
                exact ⟨k, t, ka, kb, e, o1, o2, hV4.gq, ⟨T, v1⟩, (hV4.setq _).ext, v3, b, b', (hV4.setq _).gp⟩
            rcases hbr with h91 | h123
            · rw [if_pos h91]
              have b91 : ((c.toNat : Int) != 91) = false := bnF (by omega)
              have d91 : ((c.toNat : Int) == 91) = true := bqT (by omega)
              refine pre ?_
              simp only [go_sem, reduceIte, Nat.reduceEqDiff, Nat.reduceAdd, q72r9, a34, q72r11, a45]
              refine callW_ret (rdig_ok c M2) ?_
              simp only [go_sem, reduceIte, Nat.reduceEqDiff, Nat.reduceAdd, hd, q72r16]
              refine callW_ret (rsmall_ok c M2) ?_
              simp only [go_sem, reduceIte, Nat.reduceEqDiff, Nat.reduceAdd, hsm, q72r26, b91, q72r29, e64, q72r32, hp2, w32, q72r33, d91, q72r34]
              obtain ⟨v, M4, k1, k2⟩ := HL _ p (j + 1) (many + 1) deep (by omega) (by omega) (by omega) (by omega) hpn3 hp3
              refine callW_ret k1 ?_
              obtain ⟨k, t, ka, kb, rfl, o1, o2, g4, k3⟩ := fin _ _ _ k2
              simp only [go_sem, reduceIte, Nat.reduceEqDiff, Nat.reduceAdd, g4, o1, o2]
              exact k3
            · rw [if_neg (by omega)]
              have b91 : ((c.toNat : Int) != 91) = true := bnT (by omega)
              have b123 : ((c.toNat : Int) != 123) = false := bnF (by omega)
              have d91 : ((c.toNat : Int) == 91) = false := bqF (by omega)
              refine pre ?_
              simp only [go_sem, reduceIte, Nat.reduceEqDiff, Nat.reduceAdd, q72r9, a34, q72r11, a45]
              refine callW_ret (rdig_ok c M2) ?_
              simp only [go_sem, reduceIte, Nat.reduceEqDiff, Nat.reduceAdd, hd, q72r16]
              refine callW_ret (rsmall_ok c M2) ?_
              simp only [go_sem, reduceIte, Nat.reduceEqDiff, Nat.reduceAdd, hsm, q72r26, b91, b123, q72r29, e64, q72r32, hp2, w32, q72r33, d91, q72r35]
              obtain ⟨v, M4, k1, k2⟩ := HT _ p (j + 1) (many + 1) deep (by omega) (by omega) (by omega) (by omega) hpn3 hp3
              refine callW_ret k1 ?_
              obtain ⟨k, t, ka, kb, rfl, o1, o2, g4, k3⟩ := fin _ _ _ k2
              simp only [go_sem, reduceIte, Nat.reduceEqDiff, Nat.reduceAdd, g4, o1, o2]
              exact k3
        · rw [if_neg hbr]
          by_cases hnu : c.toNat = 45 ∨ isDig c = true
          · -- numbers
            rw [if_pos hnu]
            have hrun := rrun_ok (m := M2) (b := true) (by omega) (Nat.le_of_lt h1) hp2
            have er : runP true = isNum := rfl
            rw [er] at hrun
            have hV3 := hV2.setp (RP s (j + runN isNum (s.drop j)) (many + 1) 0 0)
            have hp3 := hV3.gp
            have hq3 := hV3.gq
            have hlt : ((s.drop j).takeWhile isNum).length < 2 ^ 61 := by
              rw [takeWhile_len]
              have := runN_le (p := isNum) (s := s.drop j)
              simp at this; omega
            have tail : ∀ M, M = M2.set p (RP s (j + runN isNum (s.drop j)) (many + 1) 0 0) → ∀ (g3 g4 g6 g7 g8 g9 g10 g11 g12 g13 g14 g15 g16 g17 g18 : AV),
                wc CS (.seq (.seq (.region q72r13) (.cond (.var 11) (.region q72r14) .skip)) (.seq (.region q72r15) .ret)) (blockQ 0 (seqQ CS (.seq (.region q72r32) (.seq (.seq (.region q72r33) (.cond (.var 18) (.seq (.region q72r34) .ret) .skip)) (.seq (.region q72r35) .ret))) (endsIn [.cell 2 true 4] (ValR p m s (if numS ((s.drop j).takeWhile isNum) = true then .ok (.node 3 ((s.drop j).takeWhile isNum) [] [], j + runN isNum (s.drop j), many + 1) else .error (3, j))) noPan)))
                  [.ptr p 0, .int .i64 deep, .ptr m.next 0, g3, .int .i64 j, .str ((s.drop j).takeWhile isNum), g6, g7, g8, g9, g10, g11, g12, g13, g14, g15, g16, g17, g18] M := by
              rintro M rfl g3 g4 g6 g7 g8 g9 g10 g11 g12 g13 g14 g15 g16 g17 g18
              simp only [go_sem, reduceIte, Nat.reduceEqDiff, Nat.reduceAdd, q72r13]
              refine callW_ret (rnumber_ok hlt _) ?_
              cases hnum : numS ((s.drop j).takeWhile isNum) with
              | true =>
                simp only [go_sem, reduceIte, Nat.reduceEqDiff, Nat.reduceAdd, q72r15, hq3]
                exact ⟨leaf_val, (hV3.setq _).ext, (hV3.setq _).gp⟩
              | false =>
                simp only [go_sem, reduceIte, Nat.reduceEqDiff, Nat.reduceAdd, q72r14]
                refine callW_ret (rfail_ok hp3 3 j) ?_
                have hV4 := hV2.setp (RP s (j + runN isNum (s.drop j)) (many + 1) 3 j)
                have hq4 := hV4.gq
                simp only [go_sem, reduceIte, Nat.reduceEqDiff, Nat.reduceAdd, q72r15, hq4]
                exact ⟨⟨_, leaf_val⟩, (hV4.setq _).ext, by decide, _, _, (hV4.setq _).gp⟩
            by_cases h45 : c.toNat = 45
            · have a45 : ((c.toNat : Int) == 45) = true := bqT (by omega)
              refine pre ?_
              simp only [go_sem, reduceIte, Nat.reduceEqDiff, Nat.reduceAdd, q72r9, a34, q72r11, a45, q72r12]
              refine callW_ret hrun ?_
              simp only [go_sem, reduceIte, Nat.reduceEqDiff, Nat.reduceAdd]
              have := tail _ rfl (.int .u8 c.toNat) .u .u (.bool false) (.bool false) (.bool false) (.bool true) .u .u .u .u .u .u .u .u
              simp only [go_sem, reduceIte, Nat.reduceEqDiff, Nat.reduceAdd] at this
              exact this
            · have a45 : ((c.toNat : Int) == 45) = false := bqF (by omega)
              have hd : isDig c = true := hnu.resolve_left h45
              refine pre ?_
              simp only [go_sem, reduceIte, Nat.reduceEqDiff, Nat.reduceAdd, q72r9, a34, q72r11, a45]
              refine callW_ret (rdig_ok c M2) ?_
              simp only [go_sem, reduceIte, Nat.reduceEqDiff, Nat.reduceAdd, hd, q72r12]
              refine callW_ret hrun ?_
              simp only [go_sem, reduceIte, Nat.reduceEqDiff, Nat.reduceAdd]
              have := tail _ rfl (.int .u8 c.toNat) .u .u (.bool false) (.bool false) (.bool false) (.bool true) .u .u .u .u .u .u .u .u
              simp only [go_sem, reduceIte, Nat.reduceEqDiff, Nat.reduceAdd] at this
              exact this
          · rw [if_neg hnu]
            have a45 : ((c.toNat : Int) == 45) = false := bqF (by omega)
            have hd : isDig c = false := by
              cases h : isDig c with
              | true => exact absurd (.inr h) hnu
              | false => rfl
            cases hsm : isSmall c with
            | false =>
              have htw : (s.drop j).takeWhile isSmall = [] := by rw [drop_at hc, List.takeWhile_cons, hsm]; rfl
              rw [htw, if_neg (by decide), if_neg (by decide)]
              refine pre ?_
              have b91 : ((c.toNat : Int) != 91) = true := bnT (by omega)
              have b123 : ((c.toNat : Int) != 123) = true := bnT (by omega)
              have hV3 := hV2.setp (RP s j (many + 1) 3 j)
              have hq3 := hV3.gq
              simp only [go_sem, reduceIte, Nat.reduceEqDiff, Nat.reduceAdd, q72r9, a34, q72r11, a45]
              refine callW_ret (rdig_ok c M2) ?_
              simp only [go_sem, reduceIte, Nat.reduceEqDiff, Nat.reduceAdd, hd, q72r16]
              refine callW_ret (rsmall_ok c M2) ?_
              simp only [go_sem, reduceIte, Nat.reduceEqDiff, Nat.reduceAdd, hsm, q72r26, b91, b123, q72r27]
              refine callW_ret (rfail_ok hp2 3 j) ?_
              simp only [go_sem, reduceIte, Nat.reduceEqDiff, Nat.reduceAdd, q72r28, hq3]
              exact ⟨⟨_, zero_val⟩, (hV3.setq _).ext, by decide, _, _, (hV3.setq _).gp⟩
            | true =>
              have hrun := rrun_ok (m := M2) (b := false) (by omega) (Nat.le_of_lt h1) hp2
              have er : runP false = isSmall := rfl
              rw [er] at hrun
              have hV3 := hV2.setp (RP s (j + runN isSmall (s.drop j)) (many + 1) 0 0)
              have hp3 := hV3.gp
              have hq3 := hV3.gq
              by_cases hnull : (s.drop j).takeWhile isSmall = tNull
              · rw [if_pos hnull]
                refine pre ?_
                simp only [go_sem, reduceIte, Nat.reduceEqDiff, Nat.reduceAdd, q72r9, a34, q72r11, a45]
                refine callW_ret (rdig_ok c M2) ?_
                simp only [go_sem, reduceIte, Nat.reduceEqDiff, Nat.reduceAdd, hd, q72r16]
                refine callW_ret (rsmall_ok c M2) ?_
                simp only [go_sem, reduceIte, Nat.reduceEqDiff, Nat.reduceAdd, hsm, q72r17]
                refine callW_ret hrun ?_
                have x1 : ((s.drop j).takeWhile isSmall == [110, 117, 108, 108]) = true := str_beq hnull
                simp only [go_sem, reduceIte, Nat.reduceEqDiff, Nat.reduceAdd, q72r18, q72r19, x1, q72r20, hq3]
                exact ⟨leaf_val, (hV3.setq _).ext, (hV3.setq _).gp⟩
              · rw [if_neg hnull]
                have x1 : ((s.drop j).takeWhile isSmall == [110, 117, 108, 108]) = false := str_bne hnull
                by_cases htr : (s.drop j).takeWhile isSmall = tTrue
                · rw [if_pos (.inl htr)]
                  refine pre ?_
                  simp only [go_sem, reduceIte, Nat.reduceEqDiff, Nat.reduceAdd, q72r9, a34, q72r11, a45]
                  refine callW_ret (rdig_ok c M2) ?_
                  simp only [go_sem, reduceIte, Nat.reduceEqDiff, Nat.reduceAdd, hd, q72r16]
                  refine callW_ret (rsmall_ok c M2) ?_
                  simp only [go_sem, reduceIte, Nat.reduceEqDiff, Nat.reduceAdd, hsm, q72r17]
                  refine callW_ret hrun ?_
                  have x2 : ((s.drop j).takeWhile isSmall == [116, 114, 117, 101]) = true := str_beq htr
                  simp only [go_sem, reduceIte, Nat.reduceEqDiff, Nat.reduceAdd, q72r18, q72r19, x1, q72r21, x2, q72r23, hq3]
                  exact ⟨leaf_val, (hV3.setq _).ext, (hV3.setq _).gp⟩
                · have x2 : ((s.drop j).takeWhile isSmall == [116, 114, 117, 101]) = false := str_bne htr
                  by_cases hfa : (s.drop j).takeWhile isSmall = tFalse
                  · rw [if_pos (.inr hfa)]
                    refine pre ?_
                    simp only [go_sem, reduceIte, Nat.reduceEqDiff, Nat.reduceAdd, q72r9, a34, q72r11, a45]
                    refine callW_ret (rdig_ok c M2) ?_
                    simp only [go_sem, reduceIte, Nat.reduceEqDiff, Nat.reduceAdd, hd, q72r16]
                    refine callW_ret (rsmall_ok c M2) ?_
                    simp only [go_sem, reduceIte, Nat.reduceEqDiff, Nat.reduceAdd, hsm, q72r17]
                    refine callW_ret hrun ?_
                    have x3 : ((s.drop j).takeWhile isSmall == [102, 97, 108, 115, 101]) = true := str_beq hfa
                    simp only [go_sem, reduceIte, Nat.reduceEqDiff, Nat.reduceAdd, q72r18, q72r19, x1, q72r21, x2, q72r22, x3, q72r23, hq3]
                    exact ⟨leaf_val, (hV3.setq _).ext, (hV3.setq _).gp⟩
                  · rw [if_neg (fun h => h.elim htr hfa)]
                    refine pre ?_
                    simp only [go_sem, reduceIte, Nat.reduceEqDiff, Nat.reduceAdd, q72r9, a34, q72r11, a45]
                    refine callW_ret (rdig_ok c M2) ?_
                    simp only [go_sem, reduceIte, Nat.reduceEqDiff, Nat.reduceAdd, hd, q72r16]
                    refine callW_ret (rsmall_ok c M2) ?_
                    simp only [go_sem, reduceIte, Nat.reduceEqDiff, Nat.reduceAdd, hsm, q72r17]
                    refine callW_ret hrun ?_
                    have x3 : ((s.drop j).takeWhile isSmall == [102, 97, 108, 115, 101]) = false := str_bne hfa
                    have hV4 := hV2.setp (RP s (j + runN isSmall (s.drop j)) (many + 1) 3 j)
                    have hq4 := hV4.gq
                    simp only [go_sem, reduceIte, Nat.reduceEqDiff, Nat.reduceAdd, q72r18, q72r19, x1, q72r21, x2, q72r22, x3, q72r24]
                    refine callW_ret (rfail_ok hp3 3 j) ?_
                    simp only [go_sem, reduceIte, Nat.reduceEqDiff, Nat.reduceAdd, q72r25, hq4]
                    exact ⟨⟨_, zero_val⟩, (hV4.setq _).ext, by decide, _, _, (hV4.setq _).gp⟩
end Go.Proofs.YtkjokjogdehonaaGreatDoor.Am.Q
namespace Go.Proofs.YtkjokjogdehonaaGreatDoor.Am.Q
open Go Go.Proofs Go.Proofs.YtkjokjogdehonaaGreatDoor.Am
def KidsOf (xs : List AV) (acc : List VT) : Prop := xs.length = acc.length ∧ ∀ i, i < acc.length → IsVal (xs.getD i .u) (acc.getD i VT.zero)
theorem KidsOf.nil : KidsOf [] [] := ⟨rfl, fun i hi => absurd hi (Nat.not_lt_zero _)⟩
theorem KidsOf.push {xs : List AV} {acc : List VT} {v : AV} {T : VT} (h : KidsOf xs acc) (hv : IsVal v T) : KidsOf (xs ++ [v]) (acc ++ [T]) := by
  refine ⟨by simp [h.1], fun i hi => ?_⟩
  by_cases e : i < acc.length
  · have := h.2 i e
    simpa [List.getD, List.getElem?_append_left e, List.getElem?_append_left (show i < xs.length by rw [h.1]; exact e)] using this
  · have : i = acc.length := by simp at hi; omega
    subst this
    simpa [List.getD, ← h.1] using hv
theorem KidsOf.first {xs : List AV} {acc : List VT} (h : KidsOf xs acc) : ((xs.length : Int) == 0) = decide (acc = []) := by
  rw [Bool.eq_iff_iff]
  simp only [beq_iff_eq, decide_eq_true_eq]
  have := h.1
  constructor
  · intro e; exact List.eq_nil_of_length_eq_zero (by omega)
  · intro e; rw [e] at this; simp only [List.length_nil] at this; omega
theorem val_good {k : Int} {t : List UInt8} {ka kb : AV} (h1 : one ka = true) (h2 : one kb = true) : [AV.agg [.int .i64 k, .str t, ka, kb]].all (fun y => y.cells.length == 4 && y.cells.all scal) = true := by
  rw [one_scal] at h1 h2
  simp [AV.cells, scal_int, scal_str, h1, h2]
theorem VSt.other {p q : Nat} {m M : Mem} {o oq : AObj} (h : VSt p q m M o oq) {i : Nat} (h1 : i ≠ p) (h2 : i ≠ q) (h3 : m.next ≤ i) (o' : AObj) : VSt p q m (M.set i o') o oq :=
  ⟨h.ext.set h3 _, by rw [get_set_other (Ne.symm h1)]; exact h.gp, by rw [get_set_other (Ne.symm h2)]; exact h.gq, h.ne, h.new, h.lt⟩
theorem VSt.same {p q : Nat} {m M M' : Mem} {o oq : AObj} (h : VSt p q m M o oq) (h1 : M'.get = M.get) (h2 : M'.next = M.next) (h3 : ExtB p m M') : VSt p q m M' o oq :=
  ⟨h3, by rw [h1]; exact h.gp, by rw [h1]; exact h.gq, h.ne, h.new, by rw [h2]; exact h.lt⟩
abbrev lObj (k : Int) (ka kb : AV) : AObj := .cells 27 [.int .i64 k, .str [], ka, kb]
theorem pGo_list {s : List UInt8} {f i many deep : Nat} {acc : List VT} : pGo s (f + 1) (.list acc) i many deep = (match nxt s i with
    | .error e => .error e
    | .ok (j, c) => if c.toNat = 93 then .ok (.node 5 [] [] acc, j + 1, many) else
      if acc ≠ [] ∧ c.toNat ≠ 44 then .error (3, j) else
        (match pGo s f .val (if acc = [] then j else j + 1) many (deep + 1) with
        | .error e => .error e
        | .ok (v, k, many') => pGo s f (.list (acc ++ [v])) k many' deep)) := rfl
theorem rlist_loop {s : List UInt8} (hs : s.length < 2 ^ 30) {m : Mem} {p r q deep : Nat} (hdeep : deep < 2 ^ 39) (hpn : p < m.next) (hr : m.next ≤ r) (hrq : r < q) {F : Nat} (HV : ∀ f, f < F → PVal s f) {R : Except Flt (VT × Nat × Nat)} {Q : AExit → List AV → Mem → Prop}
    (hx : ∀ M c, M.get q = .cells 27 c → M.get r = z26 → ValR p m s R (.agg c) M → ∀ g0 g1 g4 g5, Q (.exit 0) [g0, g1, .ptr r 0, .ptr q 0, g4, g5] M) :
    ∀ (f i many : Nat) (acc : List VT) (M : Mem) (kb : AV) (xs : List AV) (g4 g5 : AV), f ≤ F → 2 * (s.length - i) + 2 ≤ f → many ≤ 4096 → acc.length ≤ i → i ≤ s.length → VSt p q m M (RP s i many 0 0) (lObj 5 .nilSl kb) → M.get r = z26 → Mine m M 27 4 kb xs → KidsOf xs acc →
      R = pGo s f (.list acc) i many deep → wl CS [4, 5] q154l5 Q [.ptr p 0, .int .i64 deep, .ptr r 0, .ptr q 0, g4, g5] M := by
  intro f
  induction f with
  | zero => intro i many acc M kb xs g4 g5 _ hf; omega
  | succ f ih =>
    intro i many acc M kb xs g4 g5 hfF hf hmany hai hil hV hgr hm hk hR
    have hne := hV.ne
    have hgp := hV.gp
    have hgq := hV.gq
    have hsl := hm.sl
    have hkids : IsVal (.agg [.int .i64 5, .str [], .nilSl, kb]) (.node 5 [] [] acc) := .mk (.inl ⟨rfl, rfl⟩) hsl hk.1 hk.2
    have hrp : r ≠ p := by omega
    rw [pGo_list] at hR
    refine wl_step ?_
    have hmore := rmore_ok (m := M) (by omega) hgp (decide (acc = [])) 93
    simp only [go_sem, reduceIte, Nat.reduceEqDiff, Nat.reduceAdd, q154l5, q154r2, hgq, hsl.isLK, hsl.len, hk.first]
    refine callW_ret hmore ?_
    cases hc : s[skipN s i]? with
    | none =>
      rw [nxt_none hc] at hR
      simp only [moreR, nxt_none hc]
      have hV1 := hV.setp (RP s (skipN s i) many 4 s.length)
      simp only [go_sem, reduceIte, Nat.reduceEqDiff, Nat.reduceAdd]
      exact hx _ _ hV1.gq (by rw [get_set_other hrp]; exact hgr) (by rw [hR]; exact ⟨⟨_, hkids⟩, hV1.ext, by decide, _, _, hV1.gp⟩) _ _ _ _
    | some c =>
      have h1 := (List.getElem?_eq_some_iff.1 hc).1
      rw [nxt_some hc] at hR
      simp only [moreR, nxt_some hc]
      generalize hj : skipN s i = j at hR hc h1
      have hij : i ≤ j := hj ▸ skip_ge
      by_cases h93 : c.toNat = 93
      · rw [if_pos h93]
        simp only [if_pos h93] at hR
        have hV1 := hV.setp (RP s (j + 1) many 0 0)
        simp only [go_sem, reduceIte, Nat.reduceEqDiff, Nat.reduceAdd]
        exact hx _ _ hV1.gq (by rw [get_set_other hrp]; exact hgr) (by rw [hR]; exact ⟨hkids, hV1.ext, hV1.gp⟩) _ _ _ _
      · rw [if_neg h93]
        simp only [if_neg h93] at hR
        by_cases hbad : acc ≠ [] ∧ c.toNat ≠ 44
        · rw [if_neg (by simp [hbad.1]), if_pos hbad.2]
          rw [if_pos hbad] at hR
          have hV1 := hV.setp (RP s j many 3 j)
          simp only [go_sem, reduceIte, Nat.reduceEqDiff, Nat.reduceAdd]
          exact hx _ _ hV1.gq (by rw [get_set_other hrp]; exact hgr) (by rw [hR]; exact ⟨⟨_, hkids⟩, hV1.ext, by decide, _, _, hV1.gp⟩) _ _ _ _
        · rw [if_neg hbad] at hR
          have hmo : (if decide (acc = []) = true then (true, RP s j many 0 0) else if c.toNat ≠ 44 then (false, RP s j many 3 j) else (true, RP s (j + 1) many 0 0)) = (true, RP s (if acc = [] then j else j + 1) many 0 0) := by
            by_cases ha : acc = []
            · simp [ha]
            · have : c.toNat = 44 := by
                by_cases h : c.toNat = 44
                · exact h
                · exact absurd ⟨ha, h⟩ hbad
              simp [ha, this]
          rw [hmo]
          generalize ha : (if acc = [] then j else j + 1) = a at hR
          have hja : j ≤ a := by rw [← ha]; split <;> omega
          have hV1 := hV.setp (RP s a many 0 0)
          have hm1 := hm.ext ((ExtB.refl p M).setp (RP s a many 0 0))
          have hgr1 : (M.set p (RP s a many 0 0)).get r = z26 := by rw [get_set_other hrp]; exact hgr
          generalize hM1 : M.set p (RP s a many 0 0) = M1 at hV1 hm1 hgr1
          have hw := wrap_succ (i := deep) (by omega)
          obtain ⟨v, M2, k1, k2⟩ := HV f (by omega) M1 p a many (deep + 1) (by omega) hmany (by omega) (by have := hV1.ext.next; omega) hV1.gp
          simp only [go_sem, reduceIte, Nat.reduceEqDiff, Nat.reduceAdd, q154r3, hw]
          refine callW_ret k1 ?_
          -- what the value is
          have key : ∃ T o', IsVal v T ∧ ExtB p M1 M2 ∧ M2.get p = o' ∧ ((∃ w k j' n', pGo s f .val a many (deep + 1) = .error (w, k) ∧ o' = RP s j' n' w k ∧ w ≠ 0) ∨ ∃ k n', pGo s f .val a many (deep + 1) = .ok (T, k, n') ∧ o' = RP s k n' 0 0) := by
            cases hpv : pGo s f .val a many (deep + 1) with
            | error e =>
              obtain ⟨w, k⟩ := e
              rw [hpv] at k2
              obtain ⟨⟨T, x1⟩, x2, x3, j', n', x4⟩ := k2
              exact ⟨T, _, x1, x2, x4, .inl ⟨w, k, j', n', rfl, rfl, x3⟩⟩
            | ok e =>
              obtain ⟨T, k, n'⟩ := e
              rw [hpv] at k2
              obtain ⟨x1, x2, x3⟩ := k2
              exact ⟨T, _, x1, x2, x3, .inr ⟨k, n', rfl, rfl⟩⟩
          obtain ⟨T, o', x1, x2, x3, x4⟩ := key
          obtain ⟨k0, t0, ka0, kb0, rfl, o1, o2⟩ := x1.ones
          have hV2 := hV1.call x2 x3
          have hpn2 : p < M2.next := by have := hV2.ext.next; omega
          have hrn2 : r < M2.next := by have := hV2.lt; omega
          have hgr2 : M2.get r = z26 := by rw [x2.get r (by have := hV1.lt; omega) hrp]; exact hgr1
          have hV3 := (hV2.alloc hpn2 z26).other (i := M2.next) (by omega) (by have := hV2.lt; omega) (by have := hV2.ext.next; omega) (.cells 27 [.int .i64 k0, .str t0, ka0, kb0])
          have hm3 := (hm1.ext x2).ext (p := M2.next) ((((ExtB.refl M2.next M2).alloc z26).setp (.cells 27 [.int .i64 k0, .str t0, ka0, kb0])))
          have hgr3 : ((M2.alloc z26).set M2.next (.cells 27 [.int .i64 k0, .str t0, ka0, kb0])).get r = z26 := by rw [get_set_other (by omega), get_old (by omega)]; exact hgr2
          have hgk3 : ((M2.alloc z26).set M2.next (.cells 27 [.int .i64 k0, .str t0, ka0, kb0])).get M2.next = .cells 27 [.int .i64 k0, .str t0, ka0, kb0] := get_set_same
          have st3 : (M2.alloc z26).get M2.next = z26 := get_new
          simp only [go_sem, reduceIte, Nat.reduceEqDiff, Nat.reduceAdd, st3, o1, o2]
          generalize (M2.alloc z26).set M2.next (.cells 27 [.int .i64 k0, .str t0, ka0, kb0]) = M3 at hV3 hm3 hgr3 hgk3
          have hkl : acc.length < 2 ^ 30 := by omega
          obtain ⟨a', M4, n1, n2, n3, n4, n5, n6⟩ := hm3.append (bytes := 72) (ys := [.agg [.int .i64 k0, .str t0, ka0, kb0]]) hV3.ext.ntok (by rw [hk.1]; simp [roomMax]; omega) (val_good o1 o2)
          have hV4 := hV3.same n3 n4 (n5 p hV3.ext)
          have hgq3 := hV3.gq
          have hgq4 := hV4.gq
          simp only [go_sem, reduceIte, Nat.reduceEqDiff, Nat.reduceAdd, q154r4, hgq3, hgk3, o1, o2, elems, n1, hgq4, n2.sl.one, n2.sl.cells]
          have hV5 := hV4.setq (lObj 5 .nilSl a')
          have hgr5 : (M4.set q (lObj 5 .nilSl a')).get r = z26 := by rw [get_set_other (by omega), n3]; exact hgr3
          have hm5 := n2.ext (p := q) ((ExtB.refl q M4).setp (lObj 5 .nilSl a'))
          generalize M4.set q (lObj 5 .nilSl a') = M5 at hV5 hgr5 hm5
          have hk5 := hk.push x1
          rcases x4 with ⟨w, k, j', n', y1, y2, y3⟩ | ⟨k, n', y1, y2⟩
          · rw [y1] at hR
            subst y2
            have hgq5 := hV5.gq
            have hsl5 := hm5.sl
            refine wl_step ?_
            simp only [go_sem, reduceIte, Nat.reduceEqDiff, Nat.reduceAdd, q154l5, q154r2, hgq5, hsl5.isLK, hsl5.len]
            refine callW_ret (rmore_no (by omega) y3 hV5.gp _ 93) ?_
            have hV6 := hV5.setp (RP s (skipN s j') n' w k)
            simp only [go_sem, reduceIte, Nat.reduceEqDiff, Nat.reduceAdd]
            refine hx _ _ hV6.gq (by rw [get_set_other hrp]; exact hgr5) (by rw [hR]; exact ⟨⟨.node 5 [] [] (acc ++ [T]), .mk (.inl ⟨rfl, rfl⟩) hsl5 hk5.1 hk5.2⟩, hV6.ext, y3, _, _, hV6.gp⟩) _ _ _ _
          · rw [y1] at hR
            subst y2
            obtain ⟨g1, g2, g3⟩ := pGo_ok y1 hmany
            exact ih k n' (acc ++ [T]) M5 a' _ _ _ (by omega) (by omega) g3 (by simp; omega) g2 hV5 hgr5 hm5 hk5 hR
theorem rlist_step {s : List UInt8} (hs : s.length < 2 ^ 30) {F : Nat} (HV : ∀ f, f < F → PVal s f) : PList s F := by
  intro m p i many deep hf hil hmany hdeep hpn hp
  refine call_some (R := ValR p m s (pGo s F (.list []) i many deep)) xfok mixed q154at q154ok rfl ?_
  have hVr := VSt.begin (oq := z26) hpn hp
  have hgr := hVr.gq
  have hpr := hVr.gp
  have hlr := hVr.lt
  have er := hVr.ext
  have nr : (m.alloc z26).next = m.next + 1 := rfl
  have hVq : VSt p (m.next + 1) m (((m.alloc z26).alloc z26).set (m.next + 1) (lObj 5 .nilSl .nilSl)) (RP s i many 0 0) (lObj 5 .nilSl .nilSl) :=
    ⟨(er.alloc _).set (by omega) _, by rw [get_set_other (by omega), get_old (by omega)]; exact hpr, get_set_same, by omega, by omega, by simp [Mem.set, Mem.alloc]⟩
  have hgr2 : (((m.alloc z26).alloc z26).set (m.next + 1) (lObj 5 .nilSl .nilSl)).get m.next = z26 := by rw [get_set_other (by omega), get_old (by omega)]; exact hgr
  have st : ((m.alloc z26).alloc z26).get (m.next + 1) = z26 := get_new
  simp only [go_sem, reduceIte, Nat.reduceEqDiff, Nat.reduceAdd, q154, q154r0, q154r1, next_alloc, st]
  refine rlist_loop hs (m := m) (p := p) (r := m.next) (q := m.next + 1) (deep := deep) hdeep hpn (Nat.le_refl _) (by omega) HV (R := pGo s F (.list []) i many deep) (fun M c g1 g2 g3 a0 a1 a4 a5 => ?_) F i many [] _ .nilSl [] _ _ (Nat.le_refl _) hf hmany (by simp) hil hVq hgr2 .nil .nil rfl
  have hc : ∃ k t ka kb, c = [.int .i64 k, .str t, ka, kb] ∧ one ka = true ∧ one kb = true := by
    cases hR : pGo s F (.list []) i many deep with
    | ok x =>
      obtain ⟨T, a, b⟩ := x
      rw [hR] at g3
      obtain ⟨k, t, ka, kb, e, o1, o2⟩ := g3.1.ones
      injection e with e
      exact ⟨k, t, ka, kb, e, o1, o2⟩
    | error x =>
      obtain ⟨w, a⟩ := x
      rw [hR] at g3
      obtain ⟨⟨T, hT⟩, _⟩ := g3
      obtain ⟨k, t, ka, kb, e, o1, o2⟩ := hT.ones
      injection e with e
      exact ⟨k, t, ka, kb, e, o1, o2⟩
  obtain ⟨k, t, ka, kb, rfl, o1, o2⟩ := hc
  simp only [go_sem, reduceIte, Nat.reduceEqDiff, Nat.reduceAdd, q154r6, g1, g2, o1, o2]
  have hne : m.next ≠ p := by omega
  have up : ∀ {o : AObj}, M.get p = o → (M.set m.next (.cells 27 [.int .i64 k, .str t, ka, kb])).get p = o := fun h => by rw [get_set_other (Ne.symm hne)]; exact h
  cases hR : pGo s F (.list []) i many deep with
  | ok x =>
    obtain ⟨T, a, b⟩ := x
    rw [hR] at g3
    exact ⟨g3.1, g3.2.1.set (Nat.le_refl _) _, up g3.2.2⟩
  | error x =>
    obtain ⟨w, a⟩ := x
    rw [hR] at g3
    obtain ⟨h1, h2, h3, b, b', h4⟩ := g3
    exact ⟨h1, h2.set (Nat.le_refl _) _, h3, b, b', up h4⟩
end Go.Proofs.YtkjokjogdehonaaGreatDoor.Am.Q
namespace Go.Proofs.YtkjokjogdehonaaGreatDoor.Am.Q
open Go Go.Proofs Go.Proofs.YtkjokjogdehonaaGreatDoor.Am
theorem mine_keep {m0 m m' : Mem} {e e' : TypeId} {sz sz' bytes : Nat} {a a' b : AV} {xs ys zs : List AV} (h : Mine m0 m e sz a xs) (ha : appendV m e sz bytes a ys = some (a', m')) (hb : Mine m0 m e' sz' b zs) (hne : e ≠ e') : Mine m0 m' e' sz' b zs := by
  rcases h with ⟨rfl, rfl⟩ | ⟨t, rfl, h2, h3, h4, h5⟩
  · simp only [appendV] at ha
    split at ha
    · simp only [Option.some.injEq, Prod.mk.injEq] at ha
      obtain ⟨_, rfl⟩ := ha; exact hb
    · split at ha
      · simp only [Option.some.injEq, Prod.mk.injEq] at ha
        obtain ⟨_, rfl⟩ := ha
        exact hb.ext (p := 0) ((ExtB.refl 0 m).newTok e)
      · cases ha
  · simp only [appendV] at ha
    rw [if_pos trivial] at ha
    split at ha
    · simp only [Option.some.injEq, Prod.mk.injEq] at ha
      obtain ⟨_, rfl⟩ := ha; exact hb
    · split at ha
      · rw [if_pos ⟨h2, h3⟩] at ha
        simp only [Option.some.injEq, Prod.mk.injEq] at ha
        obtain ⟨_, rfl⟩ := ha
        rcases hb with hb | ⟨u', rfl, k2, k3, k4, k5⟩
        · exact .inl hb
        · have hu : u' ≠ t := by rintro rfl; exact hne (h3.symm.trans k3)
          have hnn : u' ≠ m.ntok := by omega
          refine .inr ⟨u', rfl, ?_, ?_, k4, ?_⟩
          · simp [Mem.newTok, Mem.killTok, hnn, hu, k2]
          · simp [Mem.newTok, Mem.killTok, hnn, k3]
          · simp only [Mem.newTok, Mem.killTok]; omega
      · cases ha
theorem str_good {t : List UInt8} : [AV.str t].all (fun y => y.cells.length == 1 && y.cells.all scal) = true := by simp [AV.cells, scal_str]
theorem pGo_tab {s : List UInt8} {f i many deep : Nat} {ks : List (List UInt8)} {acc : List VT} : pGo s (f + 1) (.tab ks acc) i many deep = (match nxt s i with
    | .error e => .error e
    | .ok (j, c) => if c.toNat = 125 then .ok (.node 6 [] ks acc, j + 1, many) else
      if acc ≠ [] ∧ c.toNat ≠ 44 then .error (3, j) else
        (match nxt s (if acc = [] then j else j + 1) with
        | .error e => .error e
        | .ok (a, q) => if q.toNat ≠ 34 then .error (3, a) else
          (match quote s a with
          | .error e => .error e
          | .ok (key, b) => if key ∈ ks then .error (7, a) else
            (match nxt s b with
            | .error e => .error e
            | .ok (d, o) => if o.toNat ≠ 58 then .error (3, d) else
              (match pGo s f .val (d + 1) many (deep + 1) with
              | .error e => .error e
              | .ok (v, k, many') => pGo s f (.tab (ks ++ [key]) (acc ++ [v])) k many' deep))))) := rfl
theorem rtab_loop {s : List UInt8} (hs : s.length < 2 ^ 30) {m : Mem} {p r q deep : Nat} (hdeep : deep < 2 ^ 39) (hpn : p < m.next) (hr : m.next ≤ r) (hrq : r < q) {F : Nat} (HV : ∀ f, f < F → PVal s f) {R : Except Flt (VT × Nat × Nat)} {Q : AExit → List AV → Mem → Prop}
    (hx : ∀ M c, M.get q = .cells 27 c → M.get r = z26 → ValR p m s R (.agg c) M → ∀ g0 g1 g4 g5 g6 g7 g8 g9 g10 g11 g12 g13 g14, Q (.exit 0) [g0, g1, .ptr r 0, .ptr q 0, g4, g5, g6, g7, g8, g9, g10, g11, g12, g13, g14] M) :
    ∀ (f i many : Nat) (ks : List (List UInt8)) (acc : List VT) (M : Mem) (ka kb : AV) (xs : List AV) (g4 g5 g6 g7 g8 g9 g10 g11 g12 g13 g14 : AV), f ≤ F → 2 * (s.length - i) + 2 ≤ f → many ≤ 4096 → acc.length ≤ i → ks.length ≤ i → i ≤ s.length → VSt p q m M (RP s i many 0 0) (lObj 6 ka kb) → M.get r = z26 → Mine m M 9 1 ka (ks.map .str) → Mine m M 27 4 kb xs → KidsOf xs acc →
      R = pGo s f (.tab ks acc) i many deep → wl CS [4, 5, 6, 7, 8, 9, 10, 11, 12, 13, 14] q155l20 Q [.ptr p 0, .int .i64 deep, .ptr r 0, .ptr q 0, g4, g5, g6, g7, g8, g9, g10, g11, g12, g13, g14] M := by
  intro f
  induction f with
  | zero => intro i many ks acc M ka kb xs g4 g5 g6 g7 g8 g9 g10 g11 g12 g13 g14 _ hf; omega
  | succ f ih =>
    intro i many ks acc M ka kb xs g4 g5 g6 g7 g8 g9 g10 g11 g12 g13 g14 hfF hf hmany hai hki hil hV hgr hma hm hk hR
    have hne := hV.ne
    have hgp := hV.gp
    have hgq := hV.gq
    have hsl := hm.sl
    have hsa := hma.sl
    have hkids : IsVal (.agg [.int .i64 6, .str [], ka, kb]) (.node 6 [] ks acc) := .mk hsa hsl hk.1 hk.2
    have hrp : r ≠ p := by omega
    have z0 : ((0 : Int) != 0) = false := rfl
    have z00 : ((0 : Int) == 0) = true := rfl
    have z4 : ((4 : Int) != 0) = true := rfl
    have z40 : ((4 : Int) == 0) = false := rfl
    have z3 : ((3 : Int) != 0) = true := rfl
    have z7 : ((7 : Int) != 0) = true := rfl
    rw [pGo_tab] at hR
    -- an end with a fault
    have bad : ∀ {M' : Mem} {w : Int} {k j' n' : Nat}, VSt p q m M' (RP s j' n' w k) (lObj 6 ka kb) → M'.get r = z26 → w ≠ 0 → R = .error (w, k) → ∀ g0 g1 g4 g5 g6 g7 g8 g9 g10 g11 g12 g13 g14, Q (.exit 0) [g0, g1, .ptr r 0, .ptr q 0, g4, g5, g6, g7, g8, g9, g10, g11, g12, g13, g14] M' := by
      intro M' w k j' n' h1 h2 h3 h4
      exact hx _ _ h1.gq h2 (by rw [h4]; exact ⟨⟨_, hkids⟩, h1.ext, h3, _, _, h1.gp⟩)
    refine wl_step ?_
    have hmore := rmore_ok (m := M) (by omega) hgp (decide (acc = [])) 125
    simp only [go_sem, reduceIte, Nat.reduceEqDiff, Nat.reduceAdd, q155l20, q155r2, hgq, hsl.isLK, hsl.len, hk.first]
    refine callW_ret hmore ?_
    cases hc : s[skipN s i]? with
    | none =>
      rw [nxt_none hc] at hR
      simp only [moreR, nxt_none hc]
      simp only [go_sem, reduceIte, Nat.reduceEqDiff, Nat.reduceAdd]
      exact bad (hV.setp _) (by rw [get_set_other hrp]; exact hgr) (by decide) hR _ _ _ _ _ _ _ _ _ _ _ _ _
    | some c =>
      have h1 := (List.getElem?_eq_some_iff.1 hc).1
      rw [nxt_some hc] at hR
      simp only [moreR, nxt_some hc]
      generalize hj : skipN s i = j at hR hc h1
      have hij : i ≤ j := hj ▸ skip_ge
      by_cases h93 : c.toNat = 125
      · rw [if_pos h93]
        simp only [if_pos h93] at hR
        have hV1 := hV.setp (RP s (j + 1) many 0 0)
        simp only [go_sem, reduceIte, Nat.reduceEqDiff, Nat.reduceAdd]
        exact hx _ _ hV1.gq (by rw [get_set_other hrp]; exact hgr) (by rw [hR]; exact ⟨hkids, hV1.ext, hV1.gp⟩) _ _ _ _ _ _ _ _ _ _ _ _ _
      · rw [if_neg h93]
        simp only [if_neg h93] at hR
        by_cases hbad : acc ≠ [] ∧ c.toNat ≠ 44
        · rw [if_neg (by simp [hbad.1]), if_pos hbad.2]
          rw [if_pos hbad] at hR
          simp only [go_sem, reduceIte, Nat.reduceEqDiff, Nat.reduceAdd]
          exact bad (hV.setp _) (by rw [get_set_other hrp]; exact hgr) (by decide) hR _ _ _ _ _ _ _ _ _ _ _ _ _
        · rw [if_neg hbad] at hR
          have hmo : (if decide (acc = []) = true then (true, RP s j many 0 0) else if c.toNat ≠ 44 then (false, RP s j many 3 j) else (true, RP s (j + 1) many 0 0)) = (true, RP s (if acc = [] then j else j + 1) many 0 0) := by
            by_cases ha : acc = []
            · simp [ha]
            · have : c.toNat = 44 := by
                by_cases h : c.toNat = 44
                · exact h
                · exact absurd ⟨ha, h⟩ hbad
              simp [ha, this]
          rw [hmo]
          generalize ha : (if acc = [] then j else j + 1) = a at hR
          have hja : j ≤ a := by rw [← ha]; split <;> omega
          have hV1 := hV.setp (RP s a many 0 0)
          have hm1 := hm.ext ((ExtB.refl p M).setp (RP s a many 0 0))
          have hma1 := hma.ext ((ExtB.refl p M).setp (RP s a many 0 0))
          have hgr1 : (M.set p (RP s a many 0 0)).get r = z26 := by rw [get_set_other hrp]; exact hgr
          generalize M.set p (RP s a many 0 0) = M1 at hV1 hm1 hma1 hgr1
          have hn1 := rnext_ok (m := M1) (by omega) hV1.gp
          simp only [go_sem, reduceIte, Nat.reduceEqDiff, Nat.reduceAdd, q155r3]
          refine callW_ret hn1 ?_
          cases hc1 : s[skipN s a]? with
          | none =>
            rw [nxt_none hc1] at hR
            simp only [rnextM, nxt_none hc1]
            simp only [go_sem, reduceIte, Nat.reduceEqDiff, Nat.reduceAdd, q155r4, q155r5, z4]
            exact bad (hV1.setp _) (by rw [get_set_other hrp]; exact hgr1) (by decide) hR _ _ _ _ _ _ _ _ _ _ _ _ _
          | some c1 =>
            have h2 := (List.getElem?_eq_some_iff.1 hc1).1
            rw [nxt_some hc1] at hR
            simp only [rnextM, nxt_some hc1]
            generalize hb : skipN s a = b at hR hc1 h2
            have hab : a ≤ b := hb ▸ skip_ge
            have hV2 := hV1.setp (RP s b many 0 0)
            have hm2 := hm1.ext ((ExtB.refl p M1).setp (RP s b many 0 0))
            have hma2 := hma1.ext ((ExtB.refl p M1).setp (RP s b many 0 0))
            have hgr2 : (M1.set p (RP s b many 0 0)).get r = z26 := by rw [get_set_other hrp]; exact hgr1
            generalize M1.set p (RP s b many 0 0) = M2 at hV2 hm2 hma2 hgr2
            have hgp2 := hV2.gp
            dsimp only at hR
            by_cases h34 : c1.toNat = 34
            · rw [if_neg (by omega)] at hR
              have a34 : ((c1.toNat : Int) != 34) = false := bnF (by omega)
              obtain ⟨v, M3, k1, k2⟩ := rquo_ok (m := M2) (by omega) h2 hgp2
              simp only [go_sem, reduceIte, Nat.reduceEqDiff, Nat.reduceAdd, q155r4, hgp2, q155r5, z0, q155r6, a34, q155r8]
              refine callW_ret k1 ?_
              cases hqu : quote s b with
              | error x =>
                obtain ⟨w, k⟩ := x
                rw [hqu] at k2 hR
                obtain ⟨t, j', rfl, k3, k4, k5⟩ := k2
                have hV3 := hV2.call k3 k4
                have hgp3 := hV3.gp
                have hgr3 : M3.get r = z26 := by rw [k3.get r (by have := hV2.lt; omega) hrp]; exact hgr2
                have zw : (w == 0) = false := by simp [k5]
                have zw2 : (w != 0) = true := by simp [k5]
                simp only [go_sem, reduceIte, Nat.reduceEqDiff, Nat.reduceAdd, q155r9, hgp3, zw, q155r11, zw2]
                exact bad hV3 hgr3 k5 hR _ _ _ _ _ _ _ _ _ _ _ _ _
              | ok x =>
                obtain ⟨key, d⟩ := x
                rw [hqu] at k2 hR
                obtain ⟨rfl, k3, k4⟩ := k2
                have hq1 := quote_ok hqu
                have hV3 := hV2.call k3 k4
                have hgp3 := hV3.gp
                have hgq3 := hV3.gq
                have hm3 := hm2.ext k3
                have hma3 := hma2.ext k3
                have hgr3 : M3.get r = z26 := by rw [k3.get r (by have := hV2.lt; omega) hrp]; exact hgr2
                dsimp only at hR
                simp only [go_sem, reduceIte, Nat.reduceEqDiff, Nat.reduceAdd, q155r9, hgp3, z00, hgq3]
                refine callW_ret (has_ok M3 hma3.sl (by omega)) ?_
                by_cases hin : key ∈ ks
                · rw [if_pos hin] at hR
                  simp only [go_sem, reduceIte, Nat.reduceEqDiff, Nat.reduceAdd, dT hin, q155r10]
                  refine callW_ret (rfail_ok hgp3 7 b) ?_
                  simp only [go_sem, reduceIte, Nat.reduceEqDiff, Nat.reduceAdd, q155r11, z7]
                  exact bad (hV3.setp _) (by rw [get_set_other hrp]; exact hgr3) (by decide) hR _ _ _ _ _ _ _ _ _ _ _ _ _
                · rw [if_neg hin] at hR
                  have hn3 := rnext_ok (m := M3) (by omega) hgp3
                  simp only [go_sem, reduceIte, Nat.reduceEqDiff, Nat.reduceAdd, dF hin, q155r11, hgp3, z0, q155r12]
                  refine callW_ret hn3 ?_
                  cases hc3 : s[skipN s d]? with
                  | none =>
                    rw [nxt_none hc3] at hR
                    simp only [rnextM, nxt_none hc3]
                    simp only [go_sem, reduceIte, Nat.reduceEqDiff, Nat.reduceAdd, q155r13, z40, q155r15, z4]
                    exact bad (hV3.setp _) (by rw [get_set_other hrp]; exact hgr3) (by decide) hR _ _ _ _ _ _ _ _ _ _ _ _ _
                  | some c3 =>
                    have h5 := (List.getElem?_eq_some_iff.1 hc3).1
                    rw [nxt_some hc3] at hR
                    simp only [rnextM, nxt_some hc3]
                    generalize he : skipN s d = e at hR hc3 h5
                    have hde : d ≤ e := he ▸ skip_ge
                    dsimp only at hR
                    by_cases h58 : c3.toNat = 58
                    · rw [if_neg (by omega)] at hR
                      have a58 : ((c3.toNat : Int) != 58) = false := bnF (by omega)
                      have hw := wrap_succ (i := e) (by omega)
                      have hwd := wrap_succ (i := deep) (by omega)
                      have hV4 := hV3.setp (RP s (e + 1) many 0 0)
                      have hm4 := hm3.ext ((ExtB.refl p M3).setp (RP s (e + 1) many 0 0))
                      have hma4 := hma3.ext ((ExtB.refl p M3).setp (RP s (e + 1) many 0 0))
                      have hgr4 : (M3.set p (RP s (e + 1) many 0 0)).get r = z26 := by rw [get_set_other hrp]; exact hgr3
                      simp only [go_sem, reduceIte, Nat.reduceEqDiff, Nat.reduceAdd, q155r13, z00, a58, q155r15, z0, q155r16, hw]
                      generalize M3.set p (RP s (e + 1) many 0 0) = M4 at hV4 hm4 hma4 hgr4
                      obtain ⟨v, M5, k1', k2'⟩ := HV f (by omega) M4 p (e + 1) many (deep + 1) (by omega) hmany (by omega) (by have := hV4.ext.next; omega) hV4.gp
                      simp only [go_sem, reduceIte, Nat.reduceEqDiff, Nat.reduceAdd, q155r17, hwd]
                      refine callW_ret k1' ?_
                      have keyv : ∃ T o', IsVal v T ∧ ExtB p M4 M5 ∧ M5.get p = o' ∧ ((∃ w k j' n', pGo s f .val (e + 1) many (deep + 1) = .error (w, k) ∧ o' = RP s j' n' w k ∧ w ≠ 0) ∨ ∃ k n', pGo s f .val (e + 1) many (deep + 1) = .ok (T, k, n') ∧ o' = RP s k n' 0 0) := by
                        cases hpv : pGo s f .val (e + 1) many (deep + 1) with
                        | error x =>
                          obtain ⟨w, k⟩ := x
                          rw [hpv] at k2'
                          obtain ⟨⟨T, x1⟩, x2, x3, j', n', x4⟩ := k2'
                          exact ⟨T, _, x1, x2, x4, .inl ⟨w, k, j', n', rfl, rfl, x3⟩⟩
                        | ok x =>
                          obtain ⟨T, k, n'⟩ := x
                          rw [hpv] at k2'
                          obtain ⟨x1, x2, x3⟩ := k2'
                          exact ⟨T, _, x1, x2, x3, .inr ⟨k, n', rfl, rfl⟩⟩
                      obtain ⟨T, o', x1, x2, x3, x4⟩ := keyv
                      obtain ⟨k0, t0, ka0, kb0, rfl, o1, o2⟩ := x1.ones
                      have hV5 := hV4.call x2 x3
                      have hpn5 : p < M5.next := by have := hV5.ext.next; omega
                      have hgr5 : M5.get r = z26 := by rw [x2.get r (by have := hV4.lt; omega) hrp]; exact hgr4
                      have hV6 := (hV5.alloc hpn5 z26).other (i := M5.next) (by omega) (by have := hV5.lt; omega) (by have := hV5.ext.next; omega) (.cells 27 [.int .i64 k0, .str t0, ka0, kb0])
                      have ext6 := (((ExtB.refl M5.next M5).alloc z26).setp (.cells 27 [.int .i64 k0, .str t0, ka0, kb0]))
                      have hm6 := (hm4.ext x2).ext ext6
                      have hma6 := (hma4.ext x2).ext ext6
                      have hgr6 : ((M5.alloc z26).set M5.next (.cells 27 [.int .i64 k0, .str t0, ka0, kb0])).get r = z26 := by rw [get_set_other (by have := hV5.lt; omega), get_old (by have := hV5.lt; omega)]; exact hgr5
                      have hgk6 : ((M5.alloc z26).set M5.next (.cells 27 [.int .i64 k0, .str t0, ka0, kb0])).get M5.next = .cells 27 [.int .i64 k0, .str t0, ka0, kb0] := get_set_same
                      have hqk : M5.next ≠ q := by have := hV5.lt; omega
                      have st6 : (M5.alloc z26).get M5.next = z26 := get_new
                      simp only [go_sem, reduceIte, Nat.reduceEqDiff, Nat.reduceAdd, st6, o1, o2]
                      generalize (M5.alloc z26).set M5.next (.cells 27 [.int .i64 k0, .str t0, ka0, kb0]) = M6 at hV6 hm6 hma6 hgr6 hgk6
                      -- the key
                      obtain ⟨ka', M7, n1, n2, n3, n4, n5, n6⟩ := hma6.append (bytes := 16) (ys := [.str key]) hV6.ext.ntok (by simp [roomMax]; omega) str_good
                      have hm7 := mine_keep hma6 n1 hm6 (by decide)
                      have hV7 := hV6.same n3 n4 (n5 p hV6.ext)
                      have hgq6 := hV6.gq
                      have hgq7 := hV7.gq
                      have n2' : Mine m M7 9 1 ka' ((ks ++ [key]).map .str) := by simpa using n2
                      have hV8 := hV7.setq (lObj 6 ka' kb)
                      have hgr8 : (M7.set q (lObj 6 ka' kb)).get r = z26 := by rw [get_set_other (by omega), n3]; exact hgr6
                      have hgk8 : (M7.set q (lObj 6 ka' kb)).get M5.next = .cells 27 [.int .i64 k0, .str t0, ka0, kb0] := by rw [get_set_other hqk, n3]; exact hgk6
                      have ext8 := (ExtB.refl q M7).setp (lObj 6 ka' kb)
                      have hm8 := hm7.ext ext8
                      have hma8 := n2'.ext ext8
                      simp only [go_sem, reduceIte, Nat.reduceEqDiff, Nat.reduceAdd, q155r18, hgq6, elems, n1, hgq7, n2'.sl.cells, n2'.sl.one]
                      generalize M7.set q (lObj 6 ka' kb) = M8 at hV8 hgr8 hgk8 hm8 hma8
                      -- the value
                      obtain ⟨kb', M9, l1, l2, l3, l4, l5, l6⟩ := hm8.append (bytes := 72) (ys := [.agg [.int .i64 k0, .str t0, ka0, kb0]]) hV8.ext.ntok (by rw [hk.1]; simp [roomMax]; omega) (val_good o1 o2)
                      have hma9 := mine_keep hm8 l1 hma8 (by decide)
                      have hV9 := hV8.same l3 l4 (l5 p hV8.ext)
                      have hgq8 := hV8.gq
                      have hgq9 := hV9.gq
                      simp only [go_sem, reduceIte, Nat.reduceEqDiff, Nat.reduceAdd, q155r19, hgq8, hgk8, o1, o2, elems, l1, hgq9, l2.sl.cells, l2.sl.one]
                      have hVa := hV9.setq (lObj 6 ka' kb')
                      have hgra : (M9.set q (lObj 6 ka' kb')).get r = z26 := by rw [get_set_other (by omega), l3]; exact hgr8
                      have exta := (ExtB.refl q M9).setp (lObj 6 ka' kb')
                      have hm10 := l2.ext exta
                      have hma10 := hma9.ext exta
                      generalize M9.set q (lObj 6 ka' kb') = M10 at hVa hgra hm10 hma10
                      have hk5 := hk.push x1
                      rcases x4 with ⟨w, k, j', n', y1, y2, y3⟩ | ⟨k, n', y1, y2⟩
                      · rw [y1] at hR
                        subst y2
                        have hgqa := hVa.gq
                        have hsla := hm10.sl
                        refine wl_step ?_
                        simp only [go_sem, reduceIte, Nat.reduceEqDiff, Nat.reduceAdd, q155l20, q155r2, hgqa, hsla.isLK, hsla.len]
                        refine callW_ret (rmore_no (by omega) y3 hVa.gp _ 125) ?_
                        have hVb := hVa.setp (RP s (skipN s j') n' w k)
                        simp only [go_sem, reduceIte, Nat.reduceEqDiff, Nat.reduceAdd]
                        refine hx _ _ hVb.gq (by rw [get_set_other hrp]; exact hgra) (by rw [hR]; exact ⟨⟨.node 6 [] (ks ++ [key]) (acc ++ [T]), .mk hma10.sl hsla hk5.1 hk5.2⟩, hVb.ext, y3, _, _, hVb.gp⟩) _ _ _ _ _ _ _ _ _ _ _ _ _
                      · rw [y1] at hR
                        subst y2
                        obtain ⟨g1, g2, g3⟩ := pGo_ok y1 hmany
                        exact ih k n' (ks ++ [key]) (acc ++ [T]) M10 ka' kb' _ _ _ _ _ _ _ _ _ _ _ _ (by omega) (by omega) g3 (by simp; omega) (by simp; omega) g2 hVa hgra hma10 hm10 hk5 hR
                    · rw [if_pos h58] at hR
                      have a58 : ((c3.toNat : Int) != 58) = true := bnT (by omega)
                      simp only [go_sem, reduceIte, Nat.reduceEqDiff, Nat.reduceAdd, q155r13, z00, a58, q155r14]
                      refine callW_ret (rfail_ok get_set_same 3 e) ?_
                      simp only [go_sem, reduceIte, Nat.reduceEqDiff, Nat.reduceAdd, q155r15, z3]
                      exact bad (hV3.setp _) (by rw [get_set_other hrp]; exact hgr3) (by decide) hR _ _ _ _ _ _ _ _ _ _ _ _ _
            · rw [if_pos h34] at hR
              have a34 : ((c1.toNat : Int) != 34) = true := bnT (by omega)
              simp only [go_sem, reduceIte, Nat.reduceEqDiff, Nat.reduceAdd, q155r4, hgp2, q155r5, z0, q155r6, a34, q155r7]
              refine callW_ret (rfail_ok hgp2 3 b) ?_
              simp only [go_sem, reduceIte, Nat.reduceEqDiff, Nat.reduceAdd]
              exact bad (hV2.setp _) (by rw [get_set_other hrp]; exact hgr2) (by decide) hR _ _ _ _ _ _ _ _ _ _ _ _ _
theorem rtab_step {s : List UInt8} (hs : s.length < 2 ^ 30) {F : Nat} (HV : ∀ f, f < F → PVal s f) : PTab s F := by
  intro m p i many deep hf hil hmany hdeep hpn hp
  refine call_some (R := ValR p m s (pGo s F (.tab [] []) i many deep)) xfok mixed q155at q155ok rfl ?_
  have hVr := VSt.begin (oq := z26) hpn hp
  have hgr := hVr.gq
  have hpr := hVr.gp
  have er := hVr.ext
  have nr : (m.alloc z26).next = m.next + 1 := rfl
  have hVq : VSt p (m.next + 1) m (((m.alloc z26).alloc z26).set (m.next + 1) (lObj 6 .nilSl .nilSl)) (RP s i many 0 0) (lObj 6 .nilSl .nilSl) :=
    ⟨(er.alloc _).set (by omega) _, by rw [get_set_other (by omega), get_old (by omega)]; exact hpr, get_set_same, by omega, by omega, by simp [Mem.set, Mem.alloc]⟩
  have hgr2 : (((m.alloc z26).alloc z26).set (m.next + 1) (lObj 6 .nilSl .nilSl)).get m.next = z26 := by rw [get_set_other (by omega), get_old (by omega)]; exact hgr
  have st : ((m.alloc z26).alloc z26).get (m.next + 1) = z26 := get_new
  simp only [go_sem, reduceIte, Nat.reduceEqDiff, Nat.reduceAdd, q155, q155r0, q155r1, next_alloc, st]
  refine rtab_loop hs (m := m) (p := p) (r := m.next) (q := m.next + 1) (deep := deep) hdeep hpn (Nat.le_refl _) (by omega) HV (R := pGo s F (.tab [] []) i many deep) (fun M c g1 g2 g3 a0 a1 a4 a5 a6 a7 a8 a9 a10 a11 a12 a13 a14 => ?_) F i many [] [] _ .nilSl .nilSl [] _ _ _ _ _ _ _ _ _ _ _ (Nat.le_refl _) hf hmany (by simp) (by simp) hil hVq hgr2 .nil .nil .nil rfl
  have hc : ∃ k t ka kb, c = [.int .i64 k, .str t, ka, kb] ∧ one ka = true ∧ one kb = true := by
    cases hR : pGo s F (.tab [] []) i many deep with
    | ok x =>
      obtain ⟨T, a, b⟩ := x
      rw [hR] at g3
      obtain ⟨k, t, ka, kb, e, o1, o2⟩ := g3.1.ones
      injection e with e
      exact ⟨k, t, ka, kb, e, o1, o2⟩
    | error x =>
      obtain ⟨w, a⟩ := x
      rw [hR] at g3
      obtain ⟨⟨T, hT⟩, _⟩ := g3
      obtain ⟨k, t, ka, kb, e, o1, o2⟩ := hT.ones
      injection e with e
      exact ⟨k, t, ka, kb, e, o1, o2⟩
  obtain ⟨k, t, ka, kb, rfl, o1, o2⟩ := hc
  simp only [go_sem, reduceIte, Nat.reduceEqDiff, Nat.reduceAdd, q155r21, g1, g2, o1, o2]
  have hne : m.next ≠ p := by omega
  have up : ∀ {o : AObj}, M.get p = o → (M.set m.next (.cells 27 [.int .i64 k, .str t, ka, kb])).get p = o := fun h => by rw [get_set_other (Ne.symm hne)]; exact h
  cases hR : pGo s F (.tab [] []) i many deep with
  | ok x =>
    obtain ⟨T, a, b⟩ := x
    rw [hR] at g3
    exact ⟨g3.1, g3.2.1.set (Nat.le_refl _) _, up g3.2.2⟩
  | error x =>
    obtain ⟨w, a⟩ := x
    rw [hR] at g3
    obtain ⟨h1, h2, h3, b, b', h4⟩ := g3
    exact ⟨h1, h2.set (Nat.le_refl _) _, h3, b, b', up h4⟩
theorem rval_all {s : List UInt8} (hs : s.length < 2 ^ 30) : ∀ F f, f ≤ F → PVal s f
  | 0, f, hf => by
    obtain rfl : f = 0 := by omega
    intro m p i many deep h; omega
  | F + 1, f, hf => by
    cases f with
    | zero => intro m p i many deep h; omega
    | succ f => exact rval_step (by omega) (rlist_step hs fun g hg => rval_all hs F g (by omega)) (rtab_step hs fun g hg => rval_all hs F g (by omega))
theorem rval_ok {s : List UInt8} (hs : s.length < 2 ^ 30) (f : Nat) : PVal s f := rval_all hs f f (Nat.le_refl _)
end Go.Proofs.YtkjokjogdehonaaGreatDoor.Am.Q
namespace Go.Proofs.YtkjokjogdehonaaGreatDoor.Am.Q
open Go Go.Proofs Go.Proofs.YtkjokjogdehonaaGreatDoor.Am
def uLo (f k : Nat) : Nat := if k = 1 ∧ f = 224 then 160 else if k = 1 ∧ f = 240 then 144 else 128
def uHi (f k : Nat) : Nat := if k = 1 ∧ f = 237 then 159 else if k = 1 ∧ f = 244 then 143 else 191
def uGood (f k c : Nat) : Bool := decide (uLo f k ≤ c) && decide (c ≤ uHi f k)
def uCnt (f n : Nat) : Nat → List UInt8 → Nat
  | k, [] => k
  | k, c :: r => if k < n ∧ uGood f k c.toNat = true then uCnt f n (k + 1) r else k
def uBase (n : Nat) : Nat := if n = 2 then 192 else if n = 3 then 224 else if n = 4 then 240 else 0
def uAcc (a : Nat) (l : List UInt8) : Nat := l.foldl (fun a b => a * 64 + (b.toNat - 128)) a
def uNext : List UInt8 → Bool × Nat × Nat
  | [] => (false, 0, 0)
  | c :: r => if uSize c.toNat = 0 then (false, 1, 65533) else if uCnt c.toNat (uSize c.toNat) 1 r < uSize c.toNat then (false, uCnt c.toNat (uSize c.toNat) 1 r, 65533) else
      (true, uSize c.toNat, uAcc (c.toNat - uBase (uSize c.toNat)) (r.take (uSize c.toNat - 1)))
def isTF : Nat → List UInt8 → Bool
  | _, [] => true
  | 0, _ :: _ => false
  | f + 1, c :: r => (uNext (c :: r)).1 && isTF f ((c :: r).drop (uNext (c :: r)).2.1)
def isT (s : List UInt8) : Bool := isTF s.length s
theorem rgood_ok (f c : UInt8) (k : Nat) (m : Mem) : CS 145 [.int .u8 f.toNat, .int .i64 k, .int .u8 c.toNat] m (.ret (.bool (uGood f.toNat k c.toNat))) m := by
  refine call_by xfok mixed q145at q145ok rfl ?_
  have fin : ∀ lo hi : Nat, uLo f.toNat k = lo → uHi f.toNat k = hi → ∀ {Q : Bool → Prop}, Q (uGood f.toNat k c.toNat) → (if decide ((c.toNat : Int) ≥ (lo : Int)) = true then Q (decide ((c.toNat : Int) ≤ (hi : Int))) else Q false) := by
    intro lo hi h1 h2 Q hQ
    unfold uGood at hQ
    rw [h1, h2] at hQ
    by_cases a : lo ≤ c.toNat
    · rw [if_pos (dT (by omega))]
      rw [dT a, Bool.true_and] at hQ
      by_cases b : c.toNat ≤ hi
      · rw [dT b] at hQ; rw [dT (by omega)]; exact hQ
      · rw [dF b] at hQ; rw [dF (by omega)]; exact hQ
    · rw [if_neg (by rw [dF (by omega)]; decide)]
      rw [dF a, Bool.false_and] at hQ; exact hQ
  have last : ∀ (lo hi : Nat), uLo f.toNat k = lo → uHi f.toNat k = hi → ∀ (g0 g1 g3 g6 g7 g8 g9 g10 g11 : AV), wc CS (.seq (.region q145r12) .ret) (endsIn [.var 3] (fun v' m1 => v' = AV.bool (uGood f.toNat k c.toNat) ∧ m1 = m) noPan) [g0, g1, .int .u8 c.toNat, g3, .int .u8 lo, .int .u8 hi, g6, g7, g8, g9, g10, g11] m := by
    intro lo hi h1 h2 g0 g1 g3 g6 g7 g8 g9 g10 g11
    have := fin lo hi h1 h2 (Q := fun b => b = uGood f.toNat k c.toNat) rfl
    by_cases a : decide ((c.toNat : Int) ≥ (lo : Int)) = true
    · rw [if_pos a] at this
      simp only [go_sem, reduceIte, Nat.reduceEqDiff, Nat.reduceAdd, q145r12, a, this]
    · rw [if_neg a] at this
      have a' : decide ((c.toNat : Int) ≥ (lo : Int)) = false := by simpa using a
      simp only [go_sem, reduceIte, Nat.reduceEqDiff, Nat.reduceAdd, q145r12, a', ← this]
  by_cases hk : k = 1
  · have e1 : ((k : Int) == 1) = true := bqT (by omega)
    by_cases h1 : f.toNat = 224
    · have a1 : ((f.toNat : Int) == 224) = true := bqT (by omega)
      simp only [go_sem, reduceIte, Nat.reduceEqDiff, Nat.reduceAdd, q145, q145r0, q145r1, q145r2, e1, q145r3, q145r4, a1, q145r5]
      rw [← wc_start]; exact last 160 191 (by simp [uLo, hk, h1]) (by simp [uHi, h1]) _ _ _ _ _ _ _ _ _
    · have a1 : ((f.toNat : Int) == 224) = false := bqF (by omega)
      by_cases h2 : f.toNat = 237
      · have a2 : ((f.toNat : Int) == 237) = true := bqT (by omega)
        simp only [go_sem, reduceIte, Nat.reduceEqDiff, Nat.reduceAdd, q145, q145r0, q145r1, q145r2, e1, q145r3, q145r4, a1, q145r6, a2, q145r7]
        rw [← wc_start]; exact last 128 159 (by simp [uLo, h2]) (by simp [uHi, hk, h2]) _ _ _ _ _ _ _ _ _
      · have a2 : ((f.toNat : Int) == 237) = false := bqF (by omega)
        by_cases h3 : f.toNat = 240
        · have a3 : ((f.toNat : Int) == 240) = true := bqT (by omega)
          simp only [go_sem, reduceIte, Nat.reduceEqDiff, Nat.reduceAdd, q145, q145r0, q145r1, q145r2, e1, q145r3, q145r4, a1, q145r6, a2, q145r8, a3, q145r9]
          rw [← wc_start]; exact last 144 191 (by simp [uLo, hk, h3]) (by simp [uHi, h3]) _ _ _ _ _ _ _ _ _
        · have a3 : ((f.toNat : Int) == 240) = false := bqF (by omega)
          by_cases h4 : f.toNat = 244
          · have a4 : ((f.toNat : Int) == 244) = true := bqT (by omega)
            simp only [go_sem, reduceIte, Nat.reduceEqDiff, Nat.reduceAdd, q145, q145r0, q145r1, q145r2, e1, q145r3, q145r4, a1, q145r6, a2, q145r8, a3, q145r10, a4, q145r11]
            rw [← wc_start]; exact last 128 143 (by simp [uLo, h4]) (by simp [uHi, hk, h4]) _ _ _ _ _ _ _ _ _
          · have a4 : ((f.toNat : Int) == 244) = false := bqF (by omega)
            simp only [go_sem, reduceIte, Nat.reduceEqDiff, Nat.reduceAdd, q145, q145r0, q145r1, q145r2, e1, q145r3, q145r4, a1, q145r6, a2, q145r8, a3, q145r10, a4]
            rw [← wc_start]; exact last 128 191 (by simp [uLo, h1, h3]) (by simp [uHi, h2, h4]) _ _ _ _ _ _ _ _ _
  · have e1 : ((k : Int) == 1) = false := bqF (by omega)
    simp only [go_sem, reduceIte, Nat.reduceEqDiff, Nat.reduceAdd, q145, q145r0, q145r1, q145r2, e1]
    rw [← wc_start]; exact last 128 191 (by simp [uLo, hk]) (by simp [uHi, hk]) _ _ _ _ _ _ _ _ _
theorem uSize_le (c : Nat) : uSize c ≤ 4 := by unfold uSize; split <;> (try split) <;> (try split) <;> (try split) <;> omega
theorem uCnt_ge {f n : Nat} : ∀ {r : List UInt8} {k : Nat}, k ≤ uCnt f n k r
  | [], k => Nat.le_refl k
  | c :: r, k => by
    simp only [uCnt]
    split
    · exact Nat.le_trans (Nat.le_succ k) uCnt_ge
    · exact Nat.le_refl k
theorem uCnt_le {f n : Nat} : ∀ {r : List UInt8} {k : Nat}, k ≤ n → uCnt f n k r ≤ n ∧ uCnt f n k r ≤ k + r.length
  | [], k, h => ⟨h, by simp [uCnt]⟩
  | c :: r, k, h => by
    simp only [uCnt]
    split
    · rename_i hc
      have := uCnt_le (f := f) (n := n) (r := r) (k := k + 1) (by omega)
      simp only [List.length_cons]; omega
    · simp only [List.length_cons]; omega
theorem rnext_cnt {c0 : UInt8} {s : List UInt8} {n : Nat} (hs : s.length < 2 ^ 61) (h0 : s[0]? = some c0) (hn : n ≤ 4) {m : Mem} {Q : AExit → List AV → Mem → Prop} {K : Nat}
    (hx : ∀ g1 g2 g3 g6 g7 g8 g9 g10 g11 g12 g13 g14 g15 g16, Q (.exit 0) [.str s, g1, g2, g3, .int .i64 n, .int .i64 K, g6, g7, g8, g9, g10, g11, g12, g13, g14, g15, g16] m) :
    ∀ (r : List UInt8) (k : Nat) (g1 g2 g3 g6 g7 g8 g9 g10 g11 g12 g13 g14 g15 g16 : AV), s.drop k = r → K = uCnt c0.toNat n k r →
      wl CS [1, 2, 3, 6, 7, 8, 9, 10, 11, 12, 13, 14, 15, 16] q66l9 Q [.str s, g1, g2, g3, .int .i64 n, .int .i64 k, g6, g7, g8, g9, g10, g11, g12, g13, g14, g15, g16] m := by
  intro r
  induction r with
  | nil =>
    intro k g1 g2 g3 g6 g7 g8 g9 g10 g11 g12 g13 g14 g15 g16 hr hK
    refine wl_step ?_
    have hl : s.length ≤ k := by have := congrArg List.length hr; simp at this; omega
    have e2 : decide ((k : Int) < (s.length : Nat)) = false := dF (by omega)
    simp only [uCnt] at hK
    subst hK
    by_cases h1 : K < n
    · have e1 : decide ((K : Int) < (n : Int)) = true := dT (by omega)
      simp only [go_sem, reduceIte, Nat.reduceEqDiff, Nat.reduceAdd, q66l9, q66r7, e1, e2]
      exact hx _ _ _ _ _ _ _ _ _ _ _ _ _ _
    · have e1 : decide ((K : Int) < (n : Int)) = false := dF (by omega)
      simp only [go_sem, reduceIte, Nat.reduceEqDiff, Nat.reduceAdd, q66l9, q66r7, e1]
      exact hx _ _ _ _ _ _ _ _ _ _ _ _ _ _
  | cons c r ih =>
    intro k g1 g2 g3 g6 g7 g8 g9 g10 g11 g12 g13 g14 g15 g16 hr hK
    refine wl_step ?_
    have hc : s[k]? = some c := by
      have := congrArg (·[0]?) hr
      simpa using this
    have hlt := (List.getElem?_eq_some_iff.1 hc).1
    have hr' : s.drop (k + 1) = r := by rw [← List.drop_drop, hr]; rfl
    have e2 : decide ((k : Int) < (s.length : Nat)) = true := dT (by omega)
    have i0 : idxSV (.str s) (.int .i64 0) = some (.int .u8 c0.toNat) := by have := idxS_at (k := .i64) h0; simpa using this
    have hw := wrap_succ (i := k) (by omega)
    simp only [uCnt] at hK
    by_cases h1 : k < n
    · have e1 : decide ((k : Int) < (n : Int)) = true := dT (by omega)
      simp only [go_sem, reduceIte, Nat.reduceEqDiff, Nat.reduceAdd, q66l9, q66r7, e1, e2, i0, idxS_at hc]
      refine callW_ret (rgood_ok c0 c k m) ?_
      cases hg : uGood c0.toNat k c.toNat with
      | true =>
        rw [if_pos ⟨h1, hg⟩] at hK
        simp only [go_sem, reduceIte, Nat.reduceEqDiff, Nat.reduceAdd, q66r8, hw]
        exact ih (k + 1) _ _ _ _ _ _ _ _ _ _ _ _ _ _ hr' hK
      | false =>
        rw [if_neg (by rw [hg]; simp)] at hK
        subst hK
        simp only [go_sem, reduceIte, Nat.reduceEqDiff, Nat.reduceAdd]
        exact hx _ _ _ _ _ _ _ _ _ _ _ _ _ _
    · have e1 : decide ((k : Int) < (n : Int)) = false := dF (by omega)
      rw [if_neg (by simp [h1])] at hK
      subst hK
      simp only [go_sem, reduceIte, Nat.reduceEqDiff, Nat.reduceAdd, q66l9, q66r7, e1]
      exact hx _ _ _ _ _ _ _ _ _ _ _ _ _ _
end Go.Proofs.YtkjokjogdehonaaGreatDoor.Am.Q
namespace Go.Proofs.YtkjokjogdehonaaGreatDoor.Am.Q
open Go Go.Proofs Go.Proofs.YtkjokjogdehonaaGreatDoor.Am
theorem uAcc_cons {a : Nat} {b : UInt8} {l : List UInt8} : uAcc a (b :: l) = uAcc (a * 64 + (b.toNat - 128)) l := by simp only [uAcc, List.foldl_cons]
theorem uLo_ge (f k : Nat) : 128 ≤ uLo f k := by unfold uLo; split; omega; split <;> omega
theorem uHi_le (f k : Nat) : uHi f k ≤ 191 := by unfold uHi; split; omega; split <;> omega
theorem uGood_ge {f k c : Nat} (h : uGood f k c = true) : 128 ≤ c ∧ c ≤ 191 := by
  simp only [uGood, Bool.and_eq_true, decide_eq_true_eq] at h
  have := uLo_ge f k
  have := uHi_le f k
  omega
theorem uBase_low {c : Nat} (h0 : ¬ uSize c = 0) : uBase (uSize c) ≤ c ∧ c - uBase (uSize c) < 128 := by
  by_cases a1 : c < 0x80
  · have : uSize c = 1 := if_pos a1
    rw [this]; simp [uBase]; omega
  · by_cases a2 : 0xC2 ≤ c ∧ c ≤ 0xDF
    · have : uSize c = 2 := by unfold uSize; rw [if_neg a1, if_pos a2]
      rw [this]; simp [uBase]; omega
    · by_cases a3 : 0xE0 ≤ c ∧ c ≤ 0xEF
      · have : uSize c = 3 := by unfold uSize; rw [if_neg a1, if_neg a2, if_pos a3]
        rw [this]; simp [uBase]; omega
      · by_cases a4 : 0xF0 ≤ c ∧ c ≤ 0xF4
        · have : uSize c = 4 := by unfold uSize; rw [if_neg a1, if_neg a2, if_neg a3, if_pos a4]
          rw [this]; simp [uBase]; omega
        · exact absurd (by unfold uSize; rw [if_neg a1, if_neg a2, if_neg a3, if_neg a4]) h0
theorem uCnt_good {f n : Nat} : ∀ {r : List UInt8} {k : Nat}, k ≤ n → ¬ uCnt f n k r < n → n - k ≤ r.length ∧ ∀ b ∈ r.take (n - k), 128 ≤ b.toNat ∧ b.toNat ≤ 191
  | [], k, h, hk => by
    simp only [uCnt] at hk
    have : n - k = 0 := by omega
    rw [this]; simp
  | c :: r, k, h, hk => by
    simp only [uCnt] at hk
    by_cases hc : k < n ∧ uGood f k c.toNat = true
    · rw [if_pos hc] at hk
      obtain ⟨h1, h2⟩ := uCnt_good (by omega) hk
      have e : n - k = (n - (k + 1)) + 1 := by omega
      refine ⟨by simp only [List.length_cons]; omega, ?_⟩
      rw [e, List.take_succ_cons]
      intro b hb
      rcases List.mem_cons.1 hb with rfl | hb
      · exact uGood_ge hc.2
      · exact h2 b hb
    · rw [if_neg hc] at hk
      have : n - k = 0 := by omega
      rw [this]; simp
theorem rnext_val {s : List UInt8} {n : Nat} (hs : s.length < 2 ^ 61) (hn : n ≤ 4) (hnl : n ≤ s.length) (hgood : ∀ b ∈ (s.drop 1).take (n - 1), 128 ≤ b.toNat ∧ b.toNat ≤ 191) {m : Mem} {Q : AExit → List AV → Mem → Prop} {x : Nat}
    (hx : ∀ g1 g2 g3 g5 g7 g8 g9 g10 g11 g12 g13 g14 g15 g16, Q (.exit 3) [.str s, g1, g2, g3, .int .i64 n, g5, .int .i32 x, g7, g8, g9, g10, g11, g12, g13, g14, g15, g16] m) :
    ∀ (d i a : Nat) (g1 g2 g3 g5 g8 g9 g10 g11 g12 g13 g14 g15 g16 : AV), 1 ≤ i → (i + d = n ∨ (n = 0 ∧ d = 0)) → a < 128 * 64 ^ (i - 1) → x = uAcc a ((s.drop i).take d) →
      wl CS [1, 2, 3, 5, 8, 9, 10, 11, 12, 13, 14, 15, 16] q66l24 Q [.str s, g1, g2, g3, .int .i64 n, g5, .int .i32 a, .int .i64 i, g8, g9, g10, g11, g12, g13, g14, g15, g16] m := by
  intro d
  induction d with
  | zero =>
    intro i a g1 g2 g3 g5 g8 g9 g10 g11 g12 g13 g14 g15 g16 hi hd ha hX
    refine wl_step ?_
    have e1 : decide ((i : Int) < (n : Int)) = false := dF (by omega)
    simp only [List.take_zero, uAcc, List.foldl_nil] at hX
    subst hX
    simp only [go_sem, reduceIte, Nat.reduceEqDiff, Nat.reduceAdd, q66l24, q66r21, e1]
    exact hx _ _ _ _ _ _ _ _ _ _ _ _ _ _
  | succ d ih =>
    intro i a g1 g2 g3 g5 g8 g9 g10 g11 g12 g13 g14 g15 g16 hi hd ha hX
    refine wl_step ?_
    have hin : i < n := by omega
    have e1 : decide ((i : Int) < (n : Int)) = true := dT (by omega)
    have hc : s[i]? = some s[i] := List.getElem?_eq_getElem (by omega)
    rw [take_drop_at hc] at hX
    have hb : 128 ≤ s[i].toNat ∧ s[i].toNat ≤ 191 := by
      refine hgood _ ?_
      refine List.mem_iff_getElem?.2 ⟨i - 1, ?_⟩
      rw [List.getElem?_take, if_pos (by omega), List.getElem?_drop, show 1 + (i - 1) = i by omega]
      exact hc
    have hp : (64 : Nat) ^ (i - 1) ≤ 64 ^ 2 := Nat.pow_le_pow_right (by omega) (by omega)
    have ha2 : a < 524288 := by omega
    have w1 : IntKind.i32.wrap ((a : Int) * 64) = ((a * 64 : Nat) : Int) := by rw [wrap_i32 (by omega)]; omega
    have w2 : IntKind.i32.wrap (s[i].toNat : Int) = (s[i].toNat : Int) := wrap_i32 (by omega)
    have w3 : IntKind.i32.wrap (((a * 64 : Nat) : Int) + (s[i].toNat : Int)) = ((a * 64 + s[i].toNat : Nat) : Int) := by rw [wrap_i32 (by omega)]; omega
    have w4 : IntKind.i32.wrap (((a * 64 + s[i].toNat : Nat) : Int) - 128) = ((a * 64 + (s[i].toNat - 128) : Nat) : Int) := by rw [wrap_i32 (by omega)]; omega
    have hw := wrap_succ (i := i) (by omega)
    simp only [go_sem, reduceIte, Nat.reduceEqDiff, Nat.reduceAdd, q66l24, q66r21, e1, q66r22, idxS_at hc, w1, w2, w3, w4, q66r23, hw]
    refine ih (i + 1) _ _ _ _ _ _ _ _ _ _ _ _ _ _ (by omega) (by omega) ?_ (by rw [hX, uAcc_cons])
    have e : i + 1 - 1 = (i - 1) + 1 := by omega
    rw [e, Nat.pow_succ]; omega
def errU (s : List UInt8) : Nat := if (uNext s).1 = true then 0 else 9
theorem rNext_ok {c : UInt8} {r : List UInt8} (hs : (c :: r).length < 2 ^ 61) (m : Mem) : CS 66 [.str (c :: r)] m (.ret (.tup [.int .i32 (uNext (c :: r)).2.2, .int .i64 (uNext (c :: r)).2.1, .int .i64 (errU (c :: r))])) m := by
  refine call_by xfok mixed q66at q66ok rfl ?_
  simp only [go_sem, reduceIte, Nat.reduceEqDiff, Nat.reduceAdd, q66, q66r0, q66r1, eq_nil, q66r3, idx_0]
  refine callW_ret (rsize_ok c m) ?_
  have hn4 := uSize_le c.toNat
  have hU : uNext (c :: r) = if uSize c.toNat = 0 then (false, 1, 65533) else if uCnt c.toNat (uSize c.toNat) 1 r < uSize c.toNat then (false, uCnt c.toNat (uSize c.toNat) 1 r, 65533) else
      (true, uSize c.toNat, uAcc (c.toNat - uBase (uSize c.toNat)) (r.take (uSize c.toNat - 1))) := rfl
  by_cases h0 : uSize c.toNat = 0
  · have e0 : ((uSize c.toNat : Int) == 0) = true := bqT (by omega)
    rw [if_pos h0] at hU
    simp only [go_sem, reduceIte, Nat.reduceEqDiff, Nat.reduceAdd, q66r4, e0, q66r5]
    simp only [errU, hU]; rfl
  · have e0 : ((uSize c.toNat : Int) == 0) = false := bqF (by omega)
    rw [if_neg h0] at hU
    simp only [go_sem, reduceIte, Nat.reduceEqDiff, Nat.reduceAdd, q66r4, e0, q66r6]
    refine rnext_cnt (c0 := c) hs rfl hn4 (K := uCnt c.toNat (uSize c.toNat) 1 r) (fun g1 g2 g3 g6 g7 g8 g9 g10 g11 g12 g13 g14 g15 g16 => ?_) r 1 _ _ _ _ _ _ _ _ _ _ _ _ _ _ rfl rfl
    by_cases hlt : uCnt c.toNat (uSize c.toNat) 1 r < uSize c.toNat
    · have e1 : decide (((uCnt c.toNat (uSize c.toNat) 1 r : Nat) : Int) < ((uSize c.toNat : Nat) : Int)) = true := dT (by omega)
      rw [if_pos hlt] at hU
      simp only [go_sem, reduceIte, Nat.reduceEqDiff, Nat.reduceAdd, q66r10, e1, q66r11]
      simp only [errU, hU]; simp
    · have e1 : decide (((uCnt c.toNat (uSize c.toNat) 1 r : Nat) : Int) < ((uSize c.toNat : Nat) : Int)) = false := dF (by omega)
      rw [if_neg hlt] at hU
      obtain ⟨hl, hg⟩ := uCnt_good (by omega) hlt
      have hc8 := c.toNat_lt
      have w0 : IntKind.i32.wrap (c.toNat : Int) = (c.toNat : Int) := wrap_i32 (by omega)
      have hlow := uBase_low h0
      have wb : ∀ b : Nat, b ≤ c.toNat → IntKind.i32.wrap ((c.toNat : Int) - (b : Int)) = ((c.toNat - b : Nat) : Int) := by
        intro b hb; rw [wrap_i32 (by omega)]; omega
      have w192 : 192 ≤ c.toNat → IntKind.i32.wrap ((c.toNat : Int) - 192) = ((c.toNat - 192 : Nat) : Int) := wb 192
      have w224 : 224 ≤ c.toNat → IntKind.i32.wrap ((c.toNat : Int) - 224) = ((c.toNat - 224 : Nat) : Int) := wb 224
      have w240 : 240 ≤ c.toNat → IntKind.i32.wrap ((c.toNat : Int) - 240) = ((c.toNat - 240 : Nat) : Int) := wb 240
      have rest : ∀ (a : Nat), a = c.toNat - uBase (uSize c.toNat) → ∀ (g1 g2 g3 g5 g7 g8 g9 g10 g11 g12 g13 g14 g15 g16 : AV), wc CS (.seq (.seq (.region q66r20) (.block 3 (.loop [1, 2, 3, 5, 8, 9, 10, 11, 12, 13, 14, 15, 16] q66l24))) (.seq (.region q66r25) .ret))
          (endsIn [.var 1, .var 2, .var 3] (fun v' m1 => v' = AV.tup [.int .i32 (uNext (c :: r)).2.2, .int .i64 (uNext (c :: r)).2.1, .int .i64 (errU (c :: r))] ∧ m1 = m) noPan) [.str (c :: r), g1, g2, g3, .int .i64 (uSize c.toNat), g5, .int .i32 a, g7, g8, g9, g10, g11, g12, g13, g14, g15, g16] m := by
        rintro a rfl g1 g2 g3 g5 g7 g8 g9 g10 g11 g12 g13 g14 g15 g16
        simp only [go_sem, reduceIte, Nat.reduceEqDiff, Nat.reduceAdd, q66r20]
        refine rnext_val (n := uSize c.toNat) hs hn4 (by simp only [List.length_cons]; omega) (by simpa using hg) (x := uAcc (c.toNat - uBase (uSize c.toNat)) (r.take (uSize c.toNat - 1))) (fun g1 g2 g3 g5 g7 g8 g9 g10 g11 g12 g13 g14 g15 g16 => ?_) (uSize c.toNat - 1) 1 _ _ _ _ _ _ _ _ _ _ _ _ _ _ (by omega) (by omega) (by simpa using hlow.2) rfl
        simp only [go_sem, reduceIte, Nat.reduceEqDiff, Nat.reduceAdd, q66r25]
        simp only [errU, hU]; simp
      have rest' : ∀ (a : Nat), a = c.toNat - uBase (uSize c.toNat) → ∀ (g1 g2 g3 g5 g7 g8 g9 g10 g11 g12 g13 g14 g15 g16 : AV), wo CS { r := q66r20, Q := seqQ CS (.block 3 (.loop [1, 2, 3, 5, 8, 9, 10, 11, 12, 13, 14, 15, 16] q66l24)) (seqQ CS (.seq (.region q66r25) .ret)
          (endsIn [.var 1, .var 2, .var 3] (fun v' m1 => v' = AV.tup [.int .i32 (uNext (c :: r)).2.2, .int .i64 (uNext (c :: r)).2.1, .int .i64 (errU (c :: r))] ∧ m1 = m) noPan)), fr := [.str (c :: r), g1, g2, g3, .int .i64 (uSize c.toNat), g5, .int .i32 a, g7, g8, g9, g10, g11, g12, g13, g14, g15, g16] } [.str (c :: r), g1, g2, g3, .int .i64 (uSize c.toNat), g5, .int .i32 a, g7, g8, g9, g10, g11, g12, g13, g14, g15, g16] (!q66r20.pairs.isEmpty) q66r20.ops [] [] m := by
        intro a ha g1 g2 g3 g5 g7 g8 g9 g10 g11 g12 g13 g14 g15 g16
        have := rest a ha g1 g2 g3 g5 g7 g8 g9 g10 g11 g12 g13 g14 g15 g16
        rw [wc_seq, wc_start] at this
        exact this
      have hsz : uSize c.toNat = 1 ∨ uSize c.toNat = 2 ∨ uSize c.toNat = 3 ∨ uSize c.toNat = 4 := by omega
      have hub : uBase (uSize c.toNat) = (if uSize c.toNat = 2 then 192 else if uSize c.toNat = 3 then 224 else if uSize c.toNat = 4 then 240 else 0) := rfl
      generalize uSize c.toNat = n at *
      rcases hsz with rfl | rfl | rfl | rfl
      · simp only [go_sem, reduceIte, Nat.reduceEqDiff, Nat.reduceAdd, q66r10, e1, q66r12, idx_0, w0, q66r13, q66r14, show (((1 : Nat) : Int) == 2) = false from rfl, q66r16, show (((1 : Nat) : Int) == 3) = false from rfl, q66r18, show (((1 : Nat) : Int) == 4) = false from rfl]
        exact rest' c.toNat (by simp [hub]) _ _ _ _ _ _ _ _ _ _ _ _ _ _
      · simp only [go_sem, reduceIte, Nat.reduceEqDiff, Nat.reduceAdd, q66r10, e1, q66r12, idx_0, w0, q66r13, q66r14, show (((2 : Nat) : Int) == 2) = true from rfl, q66r15, w192 (by simpa [hub] using hlow.1)]
        exact rest' _ (by simp [hub]) _ _ _ _ _ _ _ _ _ _ _ _ _ _
      · simp only [go_sem, reduceIte, Nat.reduceEqDiff, Nat.reduceAdd, q66r10, e1, q66r12, idx_0, w0, q66r13, q66r14, show (((3 : Nat) : Int) == 2) = false from rfl, q66r16, show (((3 : Nat) : Int) == 3) = true from rfl, q66r17, w224 (by simpa [hub] using hlow.1)]
        exact rest' _ (by simp [hub]) _ _ _ _ _ _ _ _ _ _ _ _ _ _
      · simp only [go_sem, reduceIte, Nat.reduceEqDiff, Nat.reduceAdd, q66r10, e1, q66r12, idx_0, w0, q66r13, q66r14, show (((4 : Nat) : Int) == 2) = false from rfl, q66r16, show (((4 : Nat) : Int) == 3) = false from rfl, q66r18, show (((4 : Nat) : Int) == 4) = true from rfl, q66r19, w240 (by simpa [hub] using hlow.1)]
        exact rest' _ (by simp [hub]) _ _ _ _ _ _ _ _ _ _ _ _ _ _
theorem uNext_pos {c : UInt8} {r : List UInt8} : 1 ≤ (uNext (c :: r)).2.1 ∧ (uNext (c :: r)).2.1 ≤ (c :: r).length := by
  have hU : uNext (c :: r) = if uSize c.toNat = 0 then (false, 1, 65533) else if uCnt c.toNat (uSize c.toNat) 1 r < uSize c.toNat then (false, uCnt c.toNat (uSize c.toNat) 1 r, 65533) else
      (true, uSize c.toNat, uAcc (c.toNat - uBase (uSize c.toNat)) (r.take (uSize c.toNat - 1))) := rfl
  rw [hU]
  split
  · simp
  · rename_i h0
    split
    · have h1 := uCnt_ge (f := c.toNat) (n := uSize c.toNat) (r := r) (k := 1)
      have h2 := (uCnt_le (f := c.toNat) (n := uSize c.toNat) (r := r) (k := 1) (by omega)).2
      simp only [List.length_cons]; omega
    · rename_i hlt
      have := (uCnt_good (by omega) hlt).1
      simp only [List.length_cons]; omega
theorem rtext_loop {m : Mem} {B : Bool} {Q : AExit → List AV → Mem → Prop} (hx : B = true → ∀ g0 g1 g2 g3 g4 g5, Q (.exit 0) [g0, g1, g2, g3, g4, g5] m) (hr : B = false → ∀ g0 g2 g3 g4 g5, Q .ret [g0, .bool false, g2, g3, g4, g5] m) :
    ∀ (f : Nat) (s : List UInt8) (g1 g2 g3 g4 g5 : AV), s.length ≤ f → s.length < 2 ^ 61 → B = isTF f s → wl CS [1, 2, 3, 4, 5] q71l6 Q [.str s, g1, g2, g3, g4, g5] m := by
  intro f
  induction f with
  | zero =>
    intro s g1 g2 g3 g4 g5 hf hs hB
    obtain rfl : s = [] := List.eq_nil_of_length_eq_zero (by omega)
    refine wl_step ?_
    have e1 : decide ((([] : List UInt8).length : Int) > 0) = false := by decide
    simp only [go_sem, reduceIte, Nat.reduceEqDiff, Nat.reduceAdd, q71l6, q71r1, e1]
    exact hx (by rw [hB]; rfl) _ _ _ _ _ _
  | succ f ih =>
    intro s g1 g2 g3 g4 g5 hf hs hB
    refine wl_step ?_
    cases s with
    | nil =>
      have e1 : decide ((([] : List UInt8).length : Int) > 0) = false := by decide
      simp only [go_sem, reduceIte, Nat.reduceEqDiff, Nat.reduceAdd, q71l6, q71r1, e1]
      exact hx (by rw [hB]; rfl) _ _ _ _ _ _
    | cons c r =>
      have e1 : decide (((c :: r).length : Int) > 0) = true := dT (by simp only [List.length_cons]; omega)
      have hB' : B = ((uNext (c :: r)).1 && isTF f ((c :: r).drop (uNext (c :: r)).2.1)) := hB
      simp only [go_sem, reduceIte, Nat.reduceEqDiff, Nat.reduceAdd, q71l6, q71r1, e1, q71r2]
      refine callW_ret (rNext_ok hs m) ?_
      obtain ⟨p1, p2⟩ := uNext_pos (c := c) (r := r)
      cases hu : (uNext (c :: r)).1 with
      | true =>
        have e2 : ((errU (c :: r) : Int) != 0) = false := bnF (by simp [errU, hu])
        have hsl := slice_from (s := c :: r) (kk := .i64) (k := (uNext (c :: r)).2.1) p2
        rw [hu, Bool.true_and] at hB'
        simp only [go_sem, reduceIte, Nat.reduceEqDiff, Nat.reduceAdd, q71r3, e2, q71r5, hsl]
        exact ih _ _ _ _ _ _ (by rw [List.length_drop]; omega) (by rw [List.length_drop]; omega) hB'
      | false =>
        have e2 : ((errU (c :: r) : Int) != 0) = true := bnT (by simp [errU, hu])
        rw [hu, Bool.false_and] at hB'
        simp only [go_sem, reduceIte, Nat.reduceEqDiff, Nat.reduceAdd, q71r3, e2, q71r4]
        exact hr hB' _ _ _ _ _
theorem rtext_ok {s : List UInt8} (hs : s.length < 2 ^ 61) (m : Mem) : CS 71 [.str s] m (.ret (.bool (isT s))) m := by
  refine call_by xfok mixed q71at q71ok rfl ?_
  simp only [go_sem, reduceIte, Nat.reduceEqDiff, Nat.reduceAdd, q71, q71r0]
  refine rtext_loop (B := isT s) (fun h g0 g1 g2 g3 g4 g5 => ?_) (fun h g0 g2 g3 g4 g5 => ?_) s.length s _ _ _ _ _ (Nat.le_refl _) hs rfl
  · simp only [go_sem, reduceIte, Nat.reduceEqDiff, Nat.reduceAdd, q71r7, h]
  · simp only [go_sem, reduceIte, Nat.reduceEqDiff, Nat.reduceAdd, h]
end Go.Proofs.YtkjokjogdehonaaGreatDoor.Am.Q
namespace Go.Proofs.YtkjokjogdehonaaGreatDoor.Am.Q
open Go Go.Proofs Go.Proofs.YtkjokjogdehonaaGreatDoor.Am
def parseT (s : List UInt8) : VT × Int × Nat :=
  if 65536 < s.length then (VT.zero, 5, 0) else if isT s = false then (VT.zero, 9, 0) else match parseS s with
    | .error (w, k) => (VT.zero, w, k)
    | .ok v => (v, 0, 0)
theorem extB_ext {p : Nat} {m m' : Mem} (h : ExtB p m m') (hp : m.next ≤ p) : Ext m m' :=
  ⟨fun i hi => h.get i hi (by omega), h.next, h.live, h.ntok, h.tty⟩
theorem ext_extB {p : Nat} {m m' : Mem} (h : Ext m m') : ExtB p m m' := ⟨fun i hi _ => h.get i hi, h.next, h.live, h.ntok, h.tty⟩
abbrev zFault : AObj := .cells 41 [.int .i64 0, .int .i64 0]
theorem rend_loop {p : Nat} {s : List UInt8} {many : Nat} {g1 g2 g4 : AV} {Q : AExit → List AV → Mem → Prop} (hs : s.length < 2 ^ 61) :
    ∀ (n i : Nat) (M : Mem) (g5 g6 g7 g8 g9 : AV), M.get p = RP s i many 0 0 → runN isBlk (s.drop i) = n → i ≤ s.length →
      (∀ g5 g6 g7 g8 g9, Q (.exit 0) [.str s, g1, g2, .ptr p 0, g4, g5, g6, g7, g8, g9] (M.set p (if i + n < s.length then RP s (i + n + 1) many 3 (i + n) else RP s (i + n) many 0 0))) → wl CS [5, 6, 7, 8, 9] q23l11 Q [.str s, g1, g2, .ptr p 0, g4, g5, g6, g7, g8, g9] M := by
  intro n
  induction n with
  | zero =>
    intro i M g5 g6 g7 g8 g9 hp hn hil hq
    refine wl_step ?_
    have z00 : ((0 : Int) == 0) = true := rfl
    have z30 : ((3 : Int) == 0) = false := rfl
    simp only [Nat.add_zero] at hq
    cases hc : s[i]? with
    | none =>
      have h1 := List.getElem?_eq_none_iff.1 hc
      have e1 : decide ((i : Int) < (s.length : Nat)) = false := dF (by omega)
      rw [if_neg (by omega), set_self hp] at hq
      simp only [go_sem, reduceIte, Nat.reduceEqDiff, Nat.reduceAdd, q23l11, q23r7, hp, e1]
      exact hq _ _ _ _ _
    | some c =>
      have h1 := (List.getElem?_eq_some_iff.1 hc).1
      have e1 : decide ((i : Int) < (s.length : Nat)) = true := dT (by omega)
      rw [drop_at hc, runN_cons] at hn
      have hb : ¬ isBlk c = true := by intro h; rw [if_pos h] at hn; omega
      rw [isBlk_iff] at hb
      rw [if_pos h1] at hq
      have e9 : ((c.toNat : Int) != 9) = true := bnT (by omega)
      have e10 : ((c.toNat : Int) != 10) = true := bnT (by omega)
      have e13 : ((c.toNat : Int) != 13) = true := bnT (by omega)
      have e32 : ((c.toNat : Int) != 32) = true := bnT (by omega)
      have hw := wrap_succ (i := i) (by omega)
      simp only [go_sem, reduceIte, Nat.reduceEqDiff, Nat.reduceAdd, q23l11, q23r7, hp, e1, z00, q23r8, idxS_at hc, e9, e10, e13, e32, q23r9]
      refine callW_ret (rfail_ok hp 3 i) ?_
      simp only [go_sem, reduceIte, Nat.reduceEqDiff, Nat.reduceAdd, q23r10, hw]
      refine wl_step ?_
      by_cases h2 : i + 1 < s.length
      · have e2 : decide (((i + 1 : Nat) : Int) < (s.length : Nat)) = true := dT (by omega)
        simp only [go_sem, reduceIte, Nat.reduceEqDiff, Nat.reduceAdd, q23l11, q23r7, e2, z30]
        exact hq _ _ _ _ _
      · have e2 : decide (((i + 1 : Nat) : Int) < (s.length : Nat)) = false := dF (by omega)
        simp only [go_sem, reduceIte, Nat.reduceEqDiff, Nat.reduceAdd, q23l11, q23r7, e2]
        exact hq _ _ _ _ _
  | succ n ih =>
    intro i M g5 g6 g7 g8 g9 hp hn hil hq
    refine wl_step ?_
    have z00 : ((0 : Int) == 0) = true := rfl
    have hi : i < s.length := by
      have := runN_le (p := isBlk) (s := s.drop i)
      simp at this; omega
    have hc : s[i]? = some s[i] := List.getElem?_eq_getElem hi
    rw [drop_at hc, runN_cons] at hn
    have hb : isBlk s[i] = true := by
      by_cases h : isBlk s[i] = true
      · exact h
      · rw [if_neg h] at hn; omega
    rw [if_pos hb] at hn
    rw [isBlk_iff] at hb
    have e1 : decide ((i : Int) < (s.length : Nat)) = true := dT (by omega)
    have hw := wrap_succ (i := i) (by omega)
    have fin : wl CS [5, 6, 7, 8, 9] q23l11 Q [.str s, g1, g2, .ptr p 0, g4, .u, .u, .u, .u, .u] (M.set p (RP s (i + 1) many 0 0)) := by
      refine ih (i + 1) _ _ _ _ _ _ get_set_same (by omega) (by omega) (fun g5 g6 g7 g8 g9 => ?_)
      rw [set_set, show i + 1 + n = i + (n + 1) by omega]
      exact hq _ _ _ _ _
    rcases hb with hb | hb | hb | hb
    · have e9 : ((s[i].toNat : Int) != 9) = false := bnF (by omega)
      simp only [go_sem, reduceIte, Nat.reduceEqDiff, Nat.reduceAdd, q23l11, q23r7, hp, e1, z00, q23r8, idxS_at hc, e9, q23r10, hw]
      exact fin
    · have e9 : ((s[i].toNat : Int) != 9) = true := bnT (by omega)
      have e10 : ((s[i].toNat : Int) != 10) = false := bnF (by omega)
      simp only [go_sem, reduceIte, Nat.reduceEqDiff, Nat.reduceAdd, q23l11, q23r7, hp, e1, z00, q23r8, idxS_at hc, e9, e10, q23r10, hw]
      exact fin
    · have e9 : ((s[i].toNat : Int) != 9) = true := bnT (by omega)
      have e10 : ((s[i].toNat : Int) != 10) = true := bnT (by omega)
      have e13 : ((s[i].toNat : Int) != 13) = false := bnF (by omega)
      simp only [go_sem, reduceIte, Nat.reduceEqDiff, Nat.reduceAdd, q23l11, q23r7, hp, e1, z00, q23r8, idxS_at hc, e9, e10, e13, q23r10, hw]
      exact fin
    · have e9 : ((s[i].toNat : Int) != 9) = true := bnT (by omega)
      have e10 : ((s[i].toNat : Int) != 10) = true := bnT (by omega)
      have e13 : ((s[i].toNat : Int) != 13) = true := bnT (by omega)
      have e32 : ((s[i].toNat : Int) != 32) = false := bnF (by omega)
      simp only [go_sem, reduceIte, Nat.reduceEqDiff, Nat.reduceAdd, q23l11, q23r7, hp, e1, z00, q23r8, idxS_at hc, e9, e10, e13, e32, q23r10, hw]
      exact fin
theorem rend_no {p : Nat} {s : List UInt8} {many i fat : Nat} {why : Int} {g1 g2 g4 : AV} {Q : AExit → List AV → Mem → Prop} (hw : why ≠ 0) {M : Mem} {g5 g6 g7 g8 g9 : AV} (hp : M.get p = RP s i many why fat)
    (hq : ∀ g5 g6 g7 g8 g9, Q (.exit 0) [.str s, g1, g2, .ptr p 0, g4, g5, g6, g7, g8, g9] M) : wl CS [5, 6, 7, 8, 9] q23l11 Q [.str s, g1, g2, .ptr p 0, g4, g5, g6, g7, g8, g9] M := by
  refine wl_step ?_
  have zw : (why == 0) = false := by simp [hw]
  cases h : decide ((i : Int) < (s.length : Nat)) with
  | true =>
    simp only [go_sem, reduceIte, Nat.reduceEqDiff, Nat.reduceAdd, q23l11, q23r7, hp, h, zw]
    exact hq _ _ _ _ _
  | false =>
    simp only [go_sem, reduceIte, Nat.reduceEqDiff, Nat.reduceAdd, q23l11, q23r7, hp, h]
    exact hq _ _ _ _ _
theorem pushH_true {m : Mem} {h : List Mem} : pushH true m h = m :: h := rfl
theorem rend_fault {M : Mem} {p a b : Nat} {s : List UInt8} {i many k : Nat} {w : Int} {R : AV → Mem → Prop} (hp : M.get p = RP s i many w k) (hw : w ≠ 0) (ha : M.get a = z26) (hb : M.get b = zFault) (hab : a ≠ b) (hpa : p ≠ a) (hpb : p ≠ b)
    (hR : R (.tup [.agg [.int .i64 0, .str [], .nilSl, .nilSl], .agg [.int .i64 w, .int .i64 k]]) ((M.set a z26).set b (.cells 41 [.int .i64 w, .int .i64 k]))) {g4 g5 g6 g7 g8 g9 : AV} :
    wc CS (.seq (.seq (.region q23r12) (.cond (.var 9) (.seq (.region q23r13) .ret) .skip)) (.seq (.region q23r14) .ret)) (endsIn [.cell 1 true 4, .cell 2 true 2] R noPan) [.str s, .ptr a 0, .ptr b 0, .ptr p 0, g4, g5, g6, g7, g8, g9] M := by
  have zw : (w != 0) = true := by simp [hw]
  have h1 : (M.set a z26).get b = zFault := by rw [get_set_other (Ne.symm hab)]; exact hb
  have h2 : ((M.set a z26).set b (.cells 41 [.int .i64 w, .int .i64 k])).get a = z26 := by rw [get_set_other hab]; exact get_set_same
  have hpart : part true 2 [AV.str s, .int .i64 i, .int .i64 many, .int .i64 w, .int .i64 k] 3 = some (.agg [.int .i64 w, .int .i64 k]) := rfl
  simp only [go_sem, reduceIte, Nat.reduceEqDiff, Nat.reduceAdd, q23r12, hp, zw, q23r13, pushH_true, ha, hpart, h1]
  have L : ∀ M' : Mem, M'.get p = RP s i many w k → M'.load true 2 (.ptr p 3) = some (.agg [.int .i64 w, .int .i64 k]) := by
    intro M' h; rw [load_ptr, h]; rfl
  refine ⟨?_, ?_⟩
  · intro q hq h1 h2
    simp only [List.mem_singleton] at hq
    subst hq
    intro _ m1 m2 e1 e2
    have e1' : some M = some m1 := e1
    have e2' : some (M.set a z26) = some m2 := e2
    injection e1' with e1'
    injection e2' with e2'
    subst e1'; subst e2'
    have key : ∀ M' : Mem, M'.get p = RP s i many w k → (evalP (Opd.ev [.ptr p 3, .agg [.int .i64 0, .str [], .nilSl, .nilSl]] [.str s, .ptr a 0, .ptr b 0, .ptr p 0, g4, g5, g6, g7, g8, .bool true]) M' (.load true 2 (.loc 0))).map (·.1) = some (.agg [.int .i64 w, .int .i64 k]) := by
      intro M' h
      simp only [evalP, ev_loc0, L M' h, Option.map_some]
    exact ⟨key _ hp, key _ (by rw [get_set_other hpa]; exact hp)⟩
  · simp only [go_sem, reduceIte, Nat.reduceEqDiff, Nat.reduceAdd, h2]
    exact hR
def ParR (s : List UInt8) (m : Mem) (v : AV) (m' : Mem) : Prop := ∃ a, v = .tup [a, .agg [.int .i64 (parseT s).2.1, .int .i64 (parseT s).2.2]] ∧ IsVal a (parseT s).1 ∧ Ext m m'
theorem rparse_ok {s : List UInt8} (hs : s.length < 2 ^ 61) (m : Mem) : ∃ v m', CS 23 [.str s] m (.ret v) m' ∧ ParR s m v m' := by
  refine call_some (R := ParR s m) xfok mixed q23at q23ok rfl ?_
  have g1 : ((m.alloc z26).alloc zFault).get m.next = z26 := by rw [get_old (by simp [Mem.alloc])]; exact get_new
  have g2 : ((m.alloc z26).alloc zFault).get (m.next + 1) = zFault := get_new
  have E2 : Ext m ((m.alloc z26).alloc zFault) := (Ext.alloc _ _).trans (Ext.alloc _ _)
  have n2 : ((m.alloc z26).alloc zFault).next = m.next + 2 := rfl
  by_cases hlen : 65536 < s.length
  · have e1 : decide ((s.length : Int) > 65536) = true := dT (by omega)
    have hT : parseT s = (VT.zero, 5, 0) := by simp [parseT, hlen]
    simp only [go_sem, reduceIte, Nat.reduceEqDiff, Nat.reduceAdd, q23, q23r0, q23r1, e1, q23r2, next_alloc, g1]
    have g3 : (((m.alloc z26).alloc zFault).set m.next z26).get (m.next + 1) = zFault := by rw [get_set_other (by omega)]; exact g2
    simp only [go_sem, reduceIte, Nat.reduceEqDiff, Nat.reduceAdd, g3]
    have g4 : ((((m.alloc z26).alloc zFault).set m.next z26).set (m.next + 1) (.cells 41 [.int .i64 5, .int .i64 0])).get m.next = z26 := by rw [get_set_other (by omega)]; exact get_set_same
    simp only [go_sem, reduceIte, Nat.reduceEqDiff, Nat.reduceAdd, g4]
    exact ⟨_, by rw [hT]; rfl, by rw [hT]; exact zero_val, (E2.set (Nat.le_refl _) _).set (by omega) _⟩
  · have e1 : decide ((s.length : Int) > 65536) = false := dF (by omega)
    simp only [go_sem, reduceIte, Nat.reduceEqDiff, Nat.reduceAdd, q23, q23r0, q23r1, e1, q23r3, next_alloc]
    refine callW_ret (rtext_ok hs _) ?_
    cases ht : isT s with
    | false =>
      have hT : parseT s = (VT.zero, 9, 0) := by simp [parseT, hlen, ht]
      simp only [go_sem, reduceIte, Nat.reduceEqDiff, Nat.reduceAdd, q23r4, g1]
      have g3 : (((m.alloc z26).alloc zFault).set m.next z26).get (m.next + 1) = zFault := by rw [get_set_other (by omega)]; exact g2
      simp only [go_sem, reduceIte, Nat.reduceEqDiff, Nat.reduceAdd, g3]
      have g4 : ((((m.alloc z26).alloc zFault).set m.next z26).set (m.next + 1) (.cells 41 [.int .i64 9, .int .i64 0])).get m.next = z26 := by rw [get_set_other (by omega)]; exact get_set_same
      simp only [go_sem, reduceIte, Nat.reduceEqDiff, Nat.reduceAdd, g4]
      exact ⟨_, by rw [hT]; rfl, by rw [hT]; exact zero_val, (E2.set (Nat.le_refl _) _).set (by omega) _⟩
    | true =>
      simp only [go_sem, reduceIte, Nat.reduceEqDiff, Nat.reduceAdd]
      generalize (m.alloc z26).alloc zFault = M2 at g1 g2 E2 n2
      have st : (M2.alloc (.cells 110 [.str [], .int .i64 0, .int .i64 0, .int .i64 0, .int .i64 0])).get M2.next = .cells 110 [.str [], .int .i64 0, .int .i64 0, .int .i64 0, .int .i64 0] := get_new
      simp only [go_sem, reduceIte, Nat.reduceEqDiff, Nat.reduceAdd, q23r5, st]
      have hp3 : ((M2.alloc (.cells 110 [.str [], .int .i64 0, .int .i64 0, .int .i64 0, .int .i64 0])).set M2.next (RP s 0 0 0 0)).get M2.next = RP s 0 0 0 0 := get_set_same
      have g13 : ((M2.alloc (.cells 110 [.str [], .int .i64 0, .int .i64 0, .int .i64 0, .int .i64 0])).set M2.next (RP s 0 0 0 0)).get m.next = z26 := by rw [get_set_other (by omega), get_old (by omega)]; exact g1
      have g23 : ((M2.alloc (.cells 110 [.str [], .int .i64 0, .int .i64 0, .int .i64 0, .int .i64 0])).set M2.next (RP s 0 0 0 0)).get (m.next + 1) = zFault := by rw [get_set_other (by omega), get_old (by omega)]; exact g2
      have E3 : Ext m ((M2.alloc (.cells 110 [.str [], .int .i64 0, .int .i64 0, .int .i64 0, .int .i64 0])).set M2.next (RP s 0 0 0 0)) := (E2.trans (Ext.alloc _ _)).set (by omega) _
      have n3 : ((M2.alloc (.cells 110 [.str [], .int .i64 0, .int .i64 0, .int .i64 0, .int .i64 0])).set M2.next (RP s 0 0 0 0)).next = M2.next + 1 := rfl
      generalize (M2.alloc (.cells 110 [.str [], .int .i64 0, .int .i64 0, .int .i64 0, .int .i64 0])).set M2.next (RP s 0 0 0 0) = M3 at hp3 g13 g23 E3 n3
      obtain ⟨v, M4, k1, k2⟩ := rval_ok (s := s) (by omega) (2 * s.length + 1) M3 M2.next 0 0 0 (by omega) (by omega) (by omega) (by omega) hp3
      have k1' : CS 72 [.ptr M2.next 0, .int .i64 0] M3 (.ret v) M4 := k1
      simp only [go_sem, reduceIte, Nat.reduceEqDiff, Nat.reduceAdd, q23r6]
      refine callW_ret k1' ?_
      have hpS : parseT s = (match parseS s with
        | .error (w, k) => (VT.zero, w, k)
        | .ok v => (v, 0, 0)) := by unfold parseT; rw [if_neg hlen, if_neg (by simp [ht])]
      have fin : ∀ (M : Mem) (i many : Nat) (w : Int) (k : Nat) (g4 g5 g6 g7 g8 g9 : AV), M.get M2.next = RP s i many w k → w ≠ 0 → M.get m.next = z26 → M.get (m.next + 1) = zFault → Ext m M → parseT s = (VT.zero, w, k) →
          wc CS (.seq (.seq (.region q23r12) (.cond (.var 9) (.seq (.region q23r13) .ret) .skip)) (.seq (.region q23r14) .ret)) (endsIn [.cell 1 true 4, .cell 2 true 2] (ParR s m) noPan) [.str s, .ptr m.next 0, .ptr (m.next + 1) 0, .ptr M2.next 0, g4, g5, g6, g7, g8, g9] M := by
        intro M i many w k g4 g5 g6 g7 g8 g9 h1 h2 h3 h4 h5 h6
        refine rend_fault h1 h2 h3 h4 (by omega) (by omega) (by omega) ?_
        exact ⟨_, by rw [h6], by rw [h6]; exact zero_val, (h5.set (Nat.le_refl _) _).set (by omega) _⟩
      -- the value is laid
      have lay : ∀ (k0 : Int) (t0 : List UInt8) (ka kb : AV), v = .agg [.int .i64 k0, .str t0, ka, kb] → one ka = true → one kb = true → ExtB M2.next M3 M4 → ∃ M5, (M4.alloc z26).set M4.next (.cells 27 [.int .i64 k0, .str t0, ka, kb]) = M5 ∧ M5.get M2.next = M4.get M2.next ∧ M5.get m.next = z26 ∧ M5.get (m.next + 1) = zFault ∧ M5.get M4.next = .cells 27 [.int .i64 k0, .str t0, ka, kb] ∧ Ext m M5 ∧ M2.next < M4.next := by
        intro k0 t0 ka kb hv o1 o2 hE
        have hn4 := hE.next
        refine ⟨_, rfl, by rw [get_set_other (by omega), get_old (by omega)], ?_, ?_, get_set_same, ?_, by omega⟩
        · rw [get_set_other (by omega), get_old (by omega), hE.get _ (by omega) (by omega)]; exact g13
        · rw [get_set_other (by omega), get_old (by omega), hE.get _ (by omega) (by omega)]; exact g23
        · have : ExtB M2.next m M4 := (ext_extB E3).trans hE
          exact ((extB_ext this (by omega)).trans (Ext.alloc _ _)).set (by omega) _
      have st4 : (M4.alloc z26).get M4.next = z26 := get_new
      cases hpg : pGo s (2 * s.length + 1) .val 0 0 0 with
      | error x =>
        obtain ⟨w, k⟩ := x
        rw [hpg] at k2
        obtain ⟨⟨T, x1⟩, x2, x3, j, many, x4⟩ := k2
        obtain ⟨k0, t0, ka, kb, hv, o1, o2⟩ := x1.ones
        obtain ⟨M5, e5, a1, a2, a3, a4, a5, a6⟩ := lay k0 t0 ka kb hv o1 o2 x2
        subst hv
        simp only [go_sem, reduceIte, Nat.reduceEqDiff, Nat.reduceAdd, st4, o1, o2]
        rw [e5]
        have hT : parseT s = (VT.zero, w, k) := by rw [hpS]; simp [parseS, hpg]
        have hp5 : M5.get M2.next = RP s j many w k := a1.trans x4
        refine rend_no x3 hp5 (fun g5 g6 g7 g8 g9 => ?_)
        simp only [go_sem, reduceIte, Nat.reduceEqDiff, Nat.reduceAdd]
        have := fin M5 j many w k (.ptr M4.next 0) g5 g6 g7 g8 g9 hp5 x3 a2 a3 a5 hT
        simp only [go_sem, reduceIte, Nat.reduceEqDiff, Nat.reduceAdd] at this
        exact this
      | ok x =>
        obtain ⟨T, j, many⟩ := x
        rw [hpg] at k2
        obtain ⟨x1, x2, x4⟩ := k2
        obtain ⟨k0, t0, ka, kb, hv, o1, o2⟩ := x1.ones
        obtain ⟨M5, e5, a1, a2, a3, a4, a5, a6⟩ := lay k0 t0 ka kb hv o1 o2 x2
        have hjl := (pGo_ok hpg (by omega)).2.1
        subst hv
        simp only [go_sem, reduceIte, Nat.reduceEqDiff, Nat.reduceAdd, st4, o1, o2]
        rw [e5]
        have hp5 : M5.get M2.next = RP s j many 0 0 := a1.trans x4
        refine rend_loop hs (runN isBlk (s.drop j)) j M5 _ _ _ _ _ hp5 rfl hjl (fun g5 g6 g7 g8 g9 => ?_)
        by_cases hlt : j + runN isBlk (s.drop j) < s.length
        · rw [if_pos hlt]
          have hT : parseT s = (VT.zero, 3, skipN s j) := by rw [hpS]; simp only [parseS, hpg]; rw [if_pos (show skipN s j < s.length from hlt)]
          simp only [go_sem, reduceIte, Nat.reduceEqDiff, Nat.reduceAdd]
          have := fin (M5.set M2.next (RP s (j + runN isBlk (s.drop j) + 1) many 3 (j + runN isBlk (s.drop j)))) _ many 3 (skipN s j) (.ptr M4.next 0) g5 g6 g7 g8 g9 get_set_same (by decide) (by rw [get_set_other (by omega)]; exact a2) (by rw [get_set_other (by omega)]; exact a3) (a5.set (by omega) _) hT
          simp only [go_sem, reduceIte, Nat.reduceEqDiff, Nat.reduceAdd] at this
          exact this
        · rw [if_neg hlt]
          have hT : parseT s = (T, 0, 0) := by rw [hpS]; simp only [parseS, hpg]; rw [if_neg (show ¬ skipN s j < s.length from hlt)]
          have b1 : (M5.set M2.next (RP s (j + runN isBlk (s.drop j)) many 0 0)).get m.next = z26 := by rw [get_set_other (by omega)]; exact a2
          have b2 : (M5.set M2.next (RP s (j + runN isBlk (s.drop j)) many 0 0)).get (m.next + 1) = zFault := by rw [get_set_other (by omega)]; exact a3
          have b3 : (M5.set M2.next (RP s (j + runN isBlk (s.drop j)) many 0 0)).get M4.next = .cells 27 [.int .i64 k0, .str t0, ka, kb] := by rw [get_set_other (by omega)]; exact a4
          have b4 : (M5.set M2.next (RP s (j + runN isBlk (s.drop j)) many 0 0)).get M2.next = RP s (j + runN isBlk (s.drop j)) many 0 0 := get_set_same
          have b5 : Ext m (M5.set M2.next (RP s (j + runN isBlk (s.drop j)) many 0 0)) := a5.set (by omega) _
          generalize M5.set M2.next (RP s (j + runN isBlk (s.drop j)) many 0 0) = M6 at b1 b2 b3 b4 b5
          have b6 : (M6.set m.next (.cells 27 [.int .i64 k0, .str t0, ka, kb])).get (m.next + 1) = zFault := by rw [get_set_other (by omega)]; exact b2
          have b7 : ((M6.set m.next (.cells 27 [.int .i64 k0, .str t0, ka, kb])).set (m.next + 1) zFault).get m.next = .cells 27 [.int .i64 k0, .str t0, ka, kb] := by rw [get_set_other (by omega)]; exact get_set_same
          simp only [go_sem, reduceIte, Nat.reduceEqDiff, Nat.reduceAdd, q23r12, b4, show ((0 : Int) != 0) = false from rfl, q23r14, b3, b1, o1, o2, b6, b7]
          exact ⟨_, by rw [hT]; rfl, by rw [hT]; exact x1, (b5.set (Nat.le_refl _) _).set (by omega) _⟩
end Go.Proofs.YtkjokjogdehonaaGreatDoor.Am.Q
