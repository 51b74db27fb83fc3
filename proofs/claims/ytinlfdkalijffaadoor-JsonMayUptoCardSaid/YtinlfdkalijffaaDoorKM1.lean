import Derived.Test.YtinlfdkalijffaaDoorKM0
set_option linter.unusedSimpArgs false
set_option linter.unusedVariables false
/-
  JSON, 26: the document's signs and texts.
-/
namespace Go.Proofs.YtinlfdkalijffaaDoor.Am.Q
open Go Go.Proofs Go.Proofs.YtinlfdkalijffaaDoor.Am

def uLo (f k : Nat) : Nat := if k = 1 ∧ f = 224 then 160 else if k = 1 ∧ f = 240 then 144 else 128
def uHi (f k : Nat) : Nat := if k = 1 ∧ f = 237 then 159 else if k = 1 ∧ f = 244 then 143 else 191
def uGood (f k c : Nat) : Bool := decide (uLo f k ≤ c) && decide (c ≤ uHi f k)
def uCnt (f n : Nat) : Nat → List UInt8 → Nat
  | k, [] => k
  | k, c :: r => if k < n ∧ uGood f k c.toNat = true then uCnt f n (k + 1) r else k
def uBase (n : Nat) : Nat := if n = 2 then 192 else if n = 3 then 224 else if n = 4 then 240 else 0
def uAcc (a : Nat) (l : List UInt8) : Nat := l.foldl (fun a b => a * 64 + (b.toNat - 128)) a
/-- Is the first sign good, how many bytes has it, which is it. -/
def uNext : List UInt8 → Bool × Nat × Nat
  | [] => (false, 0, 0)
  | c :: r => if uSize c.toNat = 0 then (false, 1, 65533) else if uCnt c.toNat (uSize c.toNat) 1 r < uSize c.toNat then (false, uCnt c.toNat (uSize c.toNat) 1 r, 65533) else
      (true, uSize c.toNat, uAcc (c.toNat - uBase (uSize c.toNat)) (r.take (uSize c.toNat - 1)))
def isTF : Nat → List UInt8 → Bool
  | _, [] => true
  | 0, _ :: _ => false
  | f + 1, c :: r => (uNext (c :: r)).1 && isTF f ((c :: r).drop (uNext (c :: r)).2.1)
def isT (s : List UInt8) : Bool := isTF s.length s

theorem rgood_ok (f c : UInt8) (k : Nat) (m : Mem) : CS 58 [.int .u8 f.toNat, .int .i64 k, .int .u8 c.toNat] m (.ret (.bool (uGood f.toNat k c.toNat))) m := by
  refine call_by xfok mixed q58at q58ok rfl ?_
  have fin : ∀ lo hi : Nat, uLo f.toNat k = lo → uHi f.toNat k = hi → ∀ {Q : Bool → Prop}, Q (uGood f.toNat k c.toNat) → (if decide ((c.toNat : Int) ≥ (lo : Int)) = true then Q (decide ((c.toNat : Int) ≤ (hi : Int))) else Q false) := by
    intro lo hi h1 h2 Q hQ
    unfold uGood at hQ
    rw [h1, h2] at hQ
    by_cases a : lo ≤ c.toNat
    · rw [if_pos (dT (by omega))]
      rw [dT a, Bool.true_and] at hQ
      by_cases b : c.toNat ≤ hi
      · rw [dT b] at hQ; rw [dT (by omega)]; exact hQ
      · rw [dF b] at hQ; rw [dF (by omega)]; exact hQ
    · rw [if_neg (by rw [dF (by omega)]; decide)]
      rw [dF a, Bool.false_and] at hQ; exact hQ
  have last : ∀ (lo hi : Nat), uLo f.toNat k = lo → uHi f.toNat k = hi → ∀ (g0 g1 g3 g6 g7 g8 g9 g10 g11 : AV), wc CS (.seq (.region q58r12) .ret) (endsIn [.var 3] (fun v' m1 => v' = AV.bool (uGood f.toNat k c.toNat) ∧ m1 = m) noPan) [g0, g1, .int .u8 c.toNat, g3, .int .u8 lo, .int .u8 hi, g6, g7, g8, g9, g10, g11] m := by
    intro lo hi h1 h2 g0 g1 g3 g6 g7 g8 g9 g10 g11
    have := fin lo hi h1 h2 (Q := fun b => b = uGood f.toNat k c.toNat) rfl
    by_cases a : decide ((c.toNat : Int) ≥ (lo : Int)) = true
    · rw [if_pos a] at this
      simp only [go_sem, reduceIte, Nat.reduceEqDiff, Nat.reduceAdd, q58r12, a, this]
    · rw [if_neg a] at this
      have a' : decide ((c.toNat : Int) ≥ (lo : Int)) = false := by simpa using a
      simp only [go_sem, reduceIte, Nat.reduceEqDiff, Nat.reduceAdd, q58r12, a', ← this]
  by_cases hk : k = 1
  · have e1 : ((k : Int) == 1) = true := bqT (by omega)
    by_cases h1 : f.toNat = 224
    · have a1 : ((f.toNat : Int) == 224) = true := bqT (by omega)
      simp only [go_sem, reduceIte, Nat.reduceEqDiff, Nat.reduceAdd, q58, q58r0, q58r1, q58r2, e1, q58r3, q58r4, a1, q58r5]
      rw [← wc_start]; exact last 160 191 (by simp [uLo, hk, h1]) (by simp [uHi, h1]) _ _ _ _ _ _ _ _ _
    · have a1 : ((f.toNat : Int) == 224) = false := bqF (by omega)
      by_cases h2 : f.toNat = 237
      · have a2 : ((f.toNat : Int) == 237) = true := bqT (by omega)
        simp only [go_sem, reduceIte, Nat.reduceEqDiff, Nat.reduceAdd, q58, q58r0, q58r1, q58r2, e1, q58r3, q58r4, a1, q58r6, a2, q58r7]
        rw [← wc_start]; exact last 128 159 (by simp [uLo, h2]) (by simp [uHi, hk, h2]) _ _ _ _ _ _ _ _ _
      · have a2 : ((f.toNat : Int) == 237) = false := bqF (by omega)
        by_cases h3 : f.toNat = 240
        · have a3 : ((f.toNat : Int) == 240) = true := bqT (by omega)
          simp only [go_sem, reduceIte, Nat.reduceEqDiff, Nat.reduceAdd, q58, q58r0, q58r1, q58r2, e1, q58r3, q58r4, a1, q58r6, a2, q58r8, a3, q58r9]
          rw [← wc_start]; exact last 144 191 (by simp [uLo, hk, h3]) (by simp [uHi, h3]) _ _ _ _ _ _ _ _ _
        · have a3 : ((f.toNat : Int) == 240) = false := bqF (by omega)
          by_cases h4 : f.toNat = 244
          · have a4 : ((f.toNat : Int) == 244) = true := bqT (by omega)
            simp only [go_sem, reduceIte, Nat.reduceEqDiff, Nat.reduceAdd, q58, q58r0, q58r1, q58r2, e1, q58r3, q58r4, a1, q58r6, a2, q58r8, a3, q58r10, a4, q58r11]
            rw [← wc_start]; exact last 128 143 (by simp [uLo, h4]) (by simp [uHi, hk, h4]) _ _ _ _ _ _ _ _ _
          · have a4 : ((f.toNat : Int) == 244) = false := bqF (by omega)
            simp only [go_sem, reduceIte, Nat.reduceEqDiff, Nat.reduceAdd, q58, q58r0, q58r1, q58r2, e1, q58r3, q58r4, a1, q58r6, a2, q58r8, a3, q58r10, a4]
            rw [← wc_start]; exact last 128 191 (by simp [uLo, h1, h3]) (by simp [uHi, h2, h4]) _ _ _ _ _ _ _ _ _
  · have e1 : ((k : Int) == 1) = false := bqF (by omega)
    simp only [go_sem, reduceIte, Nat.reduceEqDiff, Nat.reduceAdd, q58, q58r0, q58r1, q58r2, e1]
    rw [← wc_start]; exact last 128 191 (by simp [uLo, hk]) (by simp [uHi, hk]) _ _ _ _ _ _ _ _ _

theorem uSize_le (c : Nat) : uSize c ≤ 4 := by unfold uSize; split <;> (try split) <;> (try split) <;> (try split) <;> omega
theorem uCnt_ge {f n : Nat} : ∀ {r : List UInt8} {k : Nat}, k ≤ uCnt f n k r
  | [], k => Nat.le_refl k
  | c :: r, k => by
    simp only [uCnt]
    split
    · exact Nat.le_trans (Nat.le_succ k) uCnt_ge
    · exact Nat.le_refl k
theorem uCnt_le {f n : Nat} : ∀ {r : List UInt8} {k : Nat}, k ≤ n → uCnt f n k r ≤ n ∧ uCnt f n k r ≤ k + r.length
  | [], k, h => ⟨h, by simp [uCnt]⟩
  | c :: r, k, h => by
    simp only [uCnt]
    split
    · rename_i hc
      have := uCnt_le (f := f) (n := n) (r := r) (k := k + 1) (by omega)
      simp only [List.length_cons]; omega
    · simp only [List.length_cons]; omega

theorem rnext_cnt {c0 : UInt8} {s : List UInt8} {n : Nat} (hs : s.length < 2 ^ 61) (h0 : s[0]? = some c0) (hn : n ≤ 4) {m : Mem} {Q : AExit → List AV → Mem → Prop} {K : Nat}
    (hx : ∀ g1 g2 g3 g6 g7 g8 g9 g10 g11 g12 g13 g14 g15 g16, Q (.exit 0) [.str s, g1, g2, g3, .int .i64 n, .int .i64 K, g6, g7, g8, g9, g10, g11, g12, g13, g14, g15, g16] m) :
    ∀ (r : List UInt8) (k : Nat) (g1 g2 g3 g6 g7 g8 g9 g10 g11 g12 g13 g14 g15 g16 : AV), s.drop k = r → K = uCnt c0.toNat n k r →
      wl CS [1, 2, 3, 6, 7, 8, 9, 10, 11, 12, 13, 14, 15, 16] q37l9 Q [.str s, g1, g2, g3, .int .i64 n, .int .i64 k, g6, g7, g8, g9, g10, g11, g12, g13, g14, g15, g16] m := by
  intro r
  induction r with
  | nil =>
    intro k g1 g2 g3 g6 g7 g8 g9 g10 g11 g12 g13 g14 g15 g16 hr hK
    refine wl_step ?_
    have hl : s.length ≤ k := by have := congrArg List.length hr; simp at this; omega
    have e2 : decide ((k : Int) < (s.length : Nat)) = false := dF (by omega)
    simp only [uCnt] at hK
    subst hK
    by_cases h1 : K < n
    · have e1 : decide ((K : Int) < (n : Int)) = true := dT (by omega)
      simp only [go_sem, reduceIte, Nat.reduceEqDiff, Nat.reduceAdd, q37l9, q37r7, e1, e2]
      exact hx _ _ _ _ _ _ _ _ _ _ _ _ _ _
    · have e1 : decide ((K : Int) < (n : Int)) = false := dF (by omega)
      simp only [go_sem, reduceIte, Nat.reduceEqDiff, Nat.reduceAdd, q37l9, q37r7, e1]
      exact hx _ _ _ _ _ _ _ _ _ _ _ _ _ _
  | cons c r ih =>
    intro k g1 g2 g3 g6 g7 g8 g9 g10 g11 g12 g13 g14 g15 g16 hr hK
    refine wl_step ?_
    have hc : s[k]? = some c := by
      have := congrArg (·[0]?) hr
      simpa using this
    have hlt := (List.getElem?_eq_some_iff.1 hc).1
    have hr' : s.drop (k + 1) = r := by rw [← List.drop_drop, hr]; rfl
    have e2 : decide ((k : Int) < (s.length : Nat)) = true := dT (by omega)
    have i0 : idxSV (.str s) (.int .i64 0) = some (.int .u8 c0.toNat) := by have := idxS_at (k := .i64) h0; simpa using this
    have hw := wrap_succ (i := k) (by omega)
    simp only [uCnt] at hK
    by_cases h1 : k < n
    · have e1 : decide ((k : Int) < (n : Int)) = true := dT (by omega)
      simp only [go_sem, reduceIte, Nat.reduceEqDiff, Nat.reduceAdd, q37l9, q37r7, e1, e2, i0, idxS_at hc]
      refine callW_ret (rgood_ok c0 c k m) ?_
      cases hg : uGood c0.toNat k c.toNat with
      | true =>
        rw [if_pos ⟨h1, hg⟩] at hK
        simp only [go_sem, reduceIte, Nat.reduceEqDiff, Nat.reduceAdd, q37r8, hw]
        exact ih (k + 1) _ _ _ _ _ _ _ _ _ _ _ _ _ _ hr' hK
      | false =>
        rw [if_neg (by rw [hg]; simp)] at hK
        subst hK
        simp only [go_sem, reduceIte, Nat.reduceEqDiff, Nat.reduceAdd]
        exact hx _ _ _ _ _ _ _ _ _ _ _ _ _ _
    · have e1 : decide ((k : Int) < (n : Int)) = false := dF (by omega)
      rw [if_neg (by simp [h1])] at hK
      subst hK
      simp only [go_sem, reduceIte, Nat.reduceEqDiff, Nat.reduceAdd, q37l9, q37r7, e1]
      exact hx _ _ _ _ _ _ _ _ _ _ _ _ _ _
end Go.Proofs.YtinlfdkalijffaaDoor.Am.Q

/-
  JSON, 27: the document's Next and IsText.
-/
namespace Go.Proofs.YtinlfdkalijffaaDoor.Am.Q
open Go Go.Proofs Go.Proofs.YtinlfdkalijffaaDoor.Am

theorem uAcc_cons {a : Nat} {b : UInt8} {l : List UInt8} : uAcc a (b :: l) = uAcc (a * 64 + (b.toNat - 128)) l := by simp only [uAcc, List.foldl_cons]
theorem uLo_ge (f k : Nat) : 128 ≤ uLo f k := by unfold uLo; split; omega; split <;> omega
theorem uHi_le (f k : Nat) : uHi f k ≤ 191 := by unfold uHi; split; omega; split <;> omega
theorem uGood_ge {f k c : Nat} (h : uGood f k c = true) : 128 ≤ c ∧ c ≤ 191 := by
  simp only [uGood, Bool.and_eq_true, decide_eq_true_eq] at h
  have := uLo_ge f k
  have := uHi_le f k
  omega
theorem uBase_low {c : Nat} (h0 : ¬ uSize c = 0) : uBase (uSize c) ≤ c ∧ c - uBase (uSize c) < 128 := by
  by_cases a1 : c < 0x80
  · have : uSize c = 1 := if_pos a1
    rw [this]; simp [uBase]; omega
  · by_cases a2 : 0xC2 ≤ c ∧ c ≤ 0xDF
    · have : uSize c = 2 := by unfold uSize; rw [if_neg a1, if_pos a2]
      rw [this]; simp [uBase]; omega
    · by_cases a3 : 0xE0 ≤ c ∧ c ≤ 0xEF
      · have : uSize c = 3 := by unfold uSize; rw [if_neg a1, if_neg a2, if_pos a3]
        rw [this]; simp [uBase]; omega
      · by_cases a4 : 0xF0 ≤ c ∧ c ≤ 0xF4
        · have : uSize c = 4 := by unfold uSize; rw [if_neg a1, if_neg a2, if_neg a3, if_pos a4]
          rw [this]; simp [uBase]; omega
        · exact absurd (by unfold uSize; rw [if_neg a1, if_neg a2, if_neg a3, if_neg a4]) h0
theorem uCnt_good {f n : Nat} : ∀ {r : List UInt8} {k : Nat}, k ≤ n → ¬ uCnt f n k r < n → n - k ≤ r.length ∧ ∀ b ∈ r.take (n - k), 128 ≤ b.toNat ∧ b.toNat ≤ 191
  | [], k, h, hk => by
    simp only [uCnt] at hk
    have : n - k = 0 := by omega
    rw [this]; simp
  | c :: r, k, h, hk => by
    simp only [uCnt] at hk
    by_cases hc : k < n ∧ uGood f k c.toNat = true
    · rw [if_pos hc] at hk
      obtain ⟨h1, h2⟩ := uCnt_good (by omega) hk
      have e : n - k = (n - (k + 1)) + 1 := by omega
      refine ⟨by simp only [List.length_cons]; omega, ?_⟩
      rw [e, List.take_succ_cons]
      intro b hb
      rcases List.mem_cons.1 hb with rfl | hb
      · exact uGood_ge hc.2
      · exact h2 b hb
    · rw [if_neg hc] at hk
      have : n - k = 0 := by omega
      rw [this]; simp
theorem rnext_val {s : List UInt8} {n : Nat} (hs : s.length < 2 ^ 61) (hn : n ≤ 4) (hnl : n ≤ s.length) (hgood : ∀ b ∈ (s.drop 1).take (n - 1), 128 ≤ b.toNat ∧ b.toNat ≤ 191) {m : Mem} {Q : AExit → List AV → Mem → Prop} {x : Nat}
    (hx : ∀ g1 g2 g3 g5 g7 g8 g9 g10 g11 g12 g13 g14 g15 g16, Q (.exit 3) [.str s, g1, g2, g3, .int .i64 n, g5, .int .i32 x, g7, g8, g9, g10, g11, g12, g13, g14, g15, g16] m) :
    ∀ (d i a : Nat) (g1 g2 g3 g5 g8 g9 g10 g11 g12 g13 g14 g15 g16 : AV), 1 ≤ i → (i + d = n ∨ (n = 0 ∧ d = 0)) → a < 128 * 64 ^ (i - 1) → x = uAcc a ((s.drop i).take d) →
      wl CS [1, 2, 3, 5, 8, 9, 10, 11, 12, 13, 14, 15, 16] q37l24 Q [.str s, g1, g2, g3, .int .i64 n, g5, .int .i32 a, .int .i64 i, g8, g9, g10, g11, g12, g13, g14, g15, g16] m := by
  intro d
  induction d with
  | zero =>
    intro i a g1 g2 g3 g5 g8 g9 g10 g11 g12 g13 g14 g15 g16 hi hd ha hX
    refine wl_step ?_
    have e1 : decide ((i : Int) < (n : Int)) = false := dF (by omega)
    simp only [List.take_zero, uAcc, List.foldl_nil] at hX
    subst hX
    simp only [go_sem, reduceIte, Nat.reduceEqDiff, Nat.reduceAdd, q37l24, q37r21, e1]
    exact hx _ _ _ _ _ _ _ _ _ _ _ _ _ _
  | succ d ih =>
    intro i a g1 g2 g3 g5 g8 g9 g10 g11 g12 g13 g14 g15 g16 hi hd ha hX
    refine wl_step ?_
    have hin : i < n := by omega
    have e1 : decide ((i : Int) < (n : Int)) = true := dT (by omega)
    have hc : s[i]? = some s[i] := List.getElem?_eq_getElem (by omega)
    rw [take_drop_at hc] at hX
    have hb : 128 ≤ s[i].toNat ∧ s[i].toNat ≤ 191 := by
      refine hgood _ ?_
      refine List.mem_iff_getElem?.2 ⟨i - 1, ?_⟩
      rw [List.getElem?_take, if_pos (by omega), List.getElem?_drop, show 1 + (i - 1) = i by omega]
      exact hc
    have hp : (64 : Nat) ^ (i - 1) ≤ 64 ^ 2 := Nat.pow_le_pow_right (by omega) (by omega)
    have ha2 : a < 524288 := by omega
    have w1 : IntKind.i32.wrap ((a : Int) * 64) = ((a * 64 : Nat) : Int) := by rw [wrap_i32 (by omega)]; omega
    have w2 : IntKind.i32.wrap (s[i].toNat : Int) = (s[i].toNat : Int) := wrap_i32 (by omega)
    have w3 : IntKind.i32.wrap (((a * 64 : Nat) : Int) + (s[i].toNat : Int)) = ((a * 64 + s[i].toNat : Nat) : Int) := by rw [wrap_i32 (by omega)]; omega
    have w4 : IntKind.i32.wrap (((a * 64 + s[i].toNat : Nat) : Int) - 128) = ((a * 64 + (s[i].toNat - 128) : Nat) : Int) := by rw [wrap_i32 (by omega)]; omega
    have hw := wrap_succ (i := i) (by omega)
    simp only [go_sem, reduceIte, Nat.reduceEqDiff, Nat.reduceAdd, q37l24, q37r21, e1, q37r22, idxS_at hc, w1, w2, w3, w4, q37r23, hw]
    refine ih (i + 1) _ _ _ _ _ _ _ _ _ _ _ _ _ _ (by omega) (by omega) ?_ (by rw [hX, uAcc_cons])
    have e : i + 1 - 1 = (i - 1) + 1 := by omega
    rw [e, Nat.pow_succ]; omega

def errU (s : List UInt8) : Nat := if (uNext s).1 = true then 0 else 9
theorem rNext_ok {c : UInt8} {r : List UInt8} (hs : (c :: r).length < 2 ^ 61) (m : Mem) : CS 37 [.str (c :: r)] m (.ret (.tup [.int .i32 (uNext (c :: r)).2.2, .int .i64 (uNext (c :: r)).2.1, .int .i64 (errU (c :: r))])) m := by
  refine call_by xfok mixed q37at q37ok rfl ?_
  simp only [go_sem, reduceIte, Nat.reduceEqDiff, Nat.reduceAdd, q37, q37r0, q37r1, eq_nil, q37r3, idx_0]
  refine callW_ret (rsize_ok c m) ?_
  have hn4 := uSize_le c.toNat
  have hU : uNext (c :: r) = if uSize c.toNat = 0 then (false, 1, 65533) else if uCnt c.toNat (uSize c.toNat) 1 r < uSize c.toNat then (false, uCnt c.toNat (uSize c.toNat) 1 r, 65533) else
      (true, uSize c.toNat, uAcc (c.toNat - uBase (uSize c.toNat)) (r.take (uSize c.toNat - 1))) := rfl
  by_cases h0 : uSize c.toNat = 0
  · have e0 : ((uSize c.toNat : Int) == 0) = true := bqT (by omega)
    rw [if_pos h0] at hU
    simp only [go_sem, reduceIte, Nat.reduceEqDiff, Nat.reduceAdd, q37r4, e0, q37r5]
    simp only [errU, hU]; rfl
  · have e0 : ((uSize c.toNat : Int) == 0) = false := bqF (by omega)
    rw [if_neg h0] at hU
    simp only [go_sem, reduceIte, Nat.reduceEqDiff, Nat.reduceAdd, q37r4, e0, q37r6]
    refine rnext_cnt (c0 := c) hs rfl hn4 (K := uCnt c.toNat (uSize c.toNat) 1 r) (fun g1 g2 g3 g6 g7 g8 g9 g10 g11 g12 g13 g14 g15 g16 => ?_) r 1 _ _ _ _ _ _ _ _ _ _ _ _ _ _ rfl rfl
    by_cases hlt : uCnt c.toNat (uSize c.toNat) 1 r < uSize c.toNat
    · have e1 : decide (((uCnt c.toNat (uSize c.toNat) 1 r : Nat) : Int) < ((uSize c.toNat : Nat) : Int)) = true := dT (by omega)
      rw [if_pos hlt] at hU
      simp only [go_sem, reduceIte, Nat.reduceEqDiff, Nat.reduceAdd, q37r10, e1, q37r11]
      simp only [errU, hU]; simp
    · have e1 : decide (((uCnt c.toNat (uSize c.toNat) 1 r : Nat) : Int) < ((uSize c.toNat : Nat) : Int)) = false := dF (by omega)
      rw [if_neg hlt] at hU
      obtain ⟨hl, hg⟩ := uCnt_good (by omega) hlt
      have hc8 := c.toNat_lt
      have w0 : IntKind.i32.wrap (c.toNat : Int) = (c.toNat : Int) := wrap_i32 (by omega)
      have hlow := uBase_low h0
      have wb : ∀ b : Nat, b ≤ c.toNat → IntKind.i32.wrap ((c.toNat : Int) - (b : Int)) = ((c.toNat - b : Nat) : Int) := by
        intro b hb; rw [wrap_i32 (by omega)]; omega
      have w192 : 192 ≤ c.toNat → IntKind.i32.wrap ((c.toNat : Int) - 192) = ((c.toNat - 192 : Nat) : Int) := wb 192
      have w224 : 224 ≤ c.toNat → IntKind.i32.wrap ((c.toNat : Int) - 224) = ((c.toNat - 224 : Nat) : Int) := wb 224
      have w240 : 240 ≤ c.toNat → IntKind.i32.wrap ((c.toNat : Int) - 240) = ((c.toNat - 240 : Nat) : Int) := wb 240
      have rest : ∀ (a : Nat), a = c.toNat - uBase (uSize c.toNat) → ∀ (g1 g2 g3 g5 g7 g8 g9 g10 g11 g12 g13 g14 g15 g16 : AV), wc CS (.seq (.seq (.region q37r20) (.block 3 (.loop [1, 2, 3, 5, 8, 9, 10, 11, 12, 13, 14, 15, 16] q37l24))) (.seq (.region q37r25) .ret))
          (endsIn [.var 1, .var 2, .var 3] (fun v' m1 => v' = AV.tup [.int .i32 (uNext (c :: r)).2.2, .int .i64 (uNext (c :: r)).2.1, .int .i64 (errU (c :: r))] ∧ m1 = m) noPan) [.str (c :: r), g1, g2, g3, .int .i64 (uSize c.toNat), g5, .int .i32 a, g7, g8, g9, g10, g11, g12, g13, g14, g15, g16] m := by
        rintro a rfl g1 g2 g3 g5 g7 g8 g9 g10 g11 g12 g13 g14 g15 g16
        simp only [go_sem, reduceIte, Nat.reduceEqDiff, Nat.reduceAdd, q37r20]
        refine rnext_val (n := uSize c.toNat) hs hn4 (by simp only [List.length_cons]; omega) (by simpa using hg) (x := uAcc (c.toNat - uBase (uSize c.toNat)) (r.take (uSize c.toNat - 1))) (fun g1 g2 g3 g5 g7 g8 g9 g10 g11 g12 g13 g14 g15 g16 => ?_) (uSize c.toNat - 1) 1 _ _ _ _ _ _ _ _ _ _ _ _ _ _ (by omega) (by omega) (by simpa using hlow.2) rfl
        simp only [go_sem, reduceIte, Nat.reduceEqDiff, Nat.reduceAdd, q37r25]
        simp only [errU, hU]; simp
      have rest' : ∀ (a : Nat), a = c.toNat - uBase (uSize c.toNat) → ∀ (g1 g2 g3 g5 g7 g8 g9 g10 g11 g12 g13 g14 g15 g16 : AV), wo CS { r := q37r20, Q := seqQ CS (.block 3 (.loop [1, 2, 3, 5, 8, 9, 10, 11, 12, 13, 14, 15, 16] q37l24)) (seqQ CS (.seq (.region q37r25) .ret)
          (endsIn [.var 1, .var 2, .var 3] (fun v' m1 => v' = AV.tup [.int .i32 (uNext (c :: r)).2.2, .int .i64 (uNext (c :: r)).2.1, .int .i64 (errU (c :: r))] ∧ m1 = m) noPan)), fr := [.str (c :: r), g1, g2, g3, .int .i64 (uSize c.toNat), g5, .int .i32 a, g7, g8, g9, g10, g11, g12, g13, g14, g15, g16] } [.str (c :: r), g1, g2, g3, .int .i64 (uSize c.toNat), g5, .int .i32 a, g7, g8, g9, g10, g11, g12, g13, g14, g15, g16] (!q37r20.pairs.isEmpty) q37r20.ops [] [] m := by
        intro a ha g1 g2 g3 g5 g7 g8 g9 g10 g11 g12 g13 g14 g15 g16
        have := rest a ha g1 g2 g3 g5 g7 g8 g9 g10 g11 g12 g13 g14 g15 g16
        rw [wc_seq, wc_start] at this
        exact this
      have hsz : uSize c.toNat = 1 ∨ uSize c.toNat = 2 ∨ uSize c.toNat = 3 ∨ uSize c.toNat = 4 := by omega
      have hub : uBase (uSize c.toNat) = (if uSize c.toNat = 2 then 192 else if uSize c.toNat = 3 then 224 else if uSize c.toNat = 4 then 240 else 0) := rfl
      generalize uSize c.toNat = n at *
      rcases hsz with rfl | rfl | rfl | rfl
      · simp only [go_sem, reduceIte, Nat.reduceEqDiff, Nat.reduceAdd, q37r10, e1, q37r12, idx_0, w0, q37r13, q37r14, show (((1 : Nat) : Int) == 2) = false from rfl, q37r16, show (((1 : Nat) : Int) == 3) = false from rfl, q37r18, show (((1 : Nat) : Int) == 4) = false from rfl]
        exact rest' c.toNat (by simp [hub]) _ _ _ _ _ _ _ _ _ _ _ _ _ _
      · simp only [go_sem, reduceIte, Nat.reduceEqDiff, Nat.reduceAdd, q37r10, e1, q37r12, idx_0, w0, q37r13, q37r14, show (((2 : Nat) : Int) == 2) = true from rfl, q37r15, w192 (by simpa [hub] using hlow.1)]
        exact rest' _ (by simp [hub]) _ _ _ _ _ _ _ _ _ _ _ _ _ _
      · simp only [go_sem, reduceIte, Nat.reduceEqDiff, Nat.reduceAdd, q37r10, e1, q37r12, idx_0, w0, q37r13, q37r14, show (((3 : Nat) : Int) == 2) = false from rfl, q37r16, show (((3 : Nat) : Int) == 3) = true from rfl, q37r17, w224 (by simpa [hub] using hlow.1)]
        exact rest' _ (by simp [hub]) _ _ _ _ _ _ _ _ _ _ _ _ _ _
      · simp only [go_sem, reduceIte, Nat.reduceEqDiff, Nat.reduceAdd, q37r10, e1, q37r12, idx_0, w0, q37r13, q37r14, show (((4 : Nat) : Int) == 2) = false from rfl, q37r16, show (((4 : Nat) : Int) == 3) = false from rfl, q37r18, show (((4 : Nat) : Int) == 4) = true from rfl, q37r19, w240 (by simpa [hub] using hlow.1)]
        exact rest' _ (by simp [hub]) _ _ _ _ _ _ _ _ _ _ _ _ _ _

theorem uNext_pos {c : UInt8} {r : List UInt8} : 1 ≤ (uNext (c :: r)).2.1 ∧ (uNext (c :: r)).2.1 ≤ (c :: r).length := by
  have hU : uNext (c :: r) = if uSize c.toNat = 0 then (false, 1, 65533) else if uCnt c.toNat (uSize c.toNat) 1 r < uSize c.toNat then (false, uCnt c.toNat (uSize c.toNat) 1 r, 65533) else
      (true, uSize c.toNat, uAcc (c.toNat - uBase (uSize c.toNat)) (r.take (uSize c.toNat - 1))) := rfl
  rw [hU]
  split
  · simp
  · rename_i h0
    split
    · have h1 := uCnt_ge (f := c.toNat) (n := uSize c.toNat) (r := r) (k := 1)
      have h2 := (uCnt_le (f := c.toNat) (n := uSize c.toNat) (r := r) (k := 1) (by omega)).2
      simp only [List.length_cons]; omega
    · rename_i hlt
      have := (uCnt_good (by omega) hlt).1
      simp only [List.length_cons]; omega
theorem rtext_loop {m : Mem} {B : Bool} {Q : AExit → List AV → Mem → Prop} (hx : B = true → ∀ g0 g1 g2 g3 g4 g5, Q (.exit 0) [g0, g1, g2, g3, g4, g5] m) (hr : B = false → ∀ g0 g2 g3 g4 g5, Q .ret [g0, .bool false, g2, g3, g4, g5] m) :
    ∀ (f : Nat) (s : List UInt8) (g1 g2 g3 g4 g5 : AV), s.length ≤ f → s.length < 2 ^ 61 → B = isTF f s → wl CS [1, 2, 3, 4, 5] q21l6 Q [.str s, g1, g2, g3, g4, g5] m := by
  intro f
  induction f with
  | zero =>
    intro s g1 g2 g3 g4 g5 hf hs hB
    obtain rfl : s = [] := List.eq_nil_of_length_eq_zero (by omega)
    refine wl_step ?_
    have e1 : decide ((([] : List UInt8).length : Int) > 0) = false := by decide
    simp only [go_sem, reduceIte, Nat.reduceEqDiff, Nat.reduceAdd, q21l6, q21r1, e1]
    exact hx (by rw [hB]; rfl) _ _ _ _ _ _
  | succ f ih =>
    intro s g1 g2 g3 g4 g5 hf hs hB
    refine wl_step ?_
    cases s with
    | nil =>
      have e1 : decide ((([] : List UInt8).length : Int) > 0) = false := by decide
      simp only [go_sem, reduceIte, Nat.reduceEqDiff, Nat.reduceAdd, q21l6, q21r1, e1]
      exact hx (by rw [hB]; rfl) _ _ _ _ _ _
    | cons c r =>
      have e1 : decide (((c :: r).length : Int) > 0) = true := dT (by simp only [List.length_cons]; omega)
      have hB' : B = ((uNext (c :: r)).1 && isTF f ((c :: r).drop (uNext (c :: r)).2.1)) := hB
      simp only [go_sem, reduceIte, Nat.reduceEqDiff, Nat.reduceAdd, q21l6, q21r1, e1, q21r2]
      refine callW_ret (rNext_ok hs m) ?_
      obtain ⟨p1, p2⟩ := uNext_pos (c := c) (r := r)
      cases hu : (uNext (c :: r)).1 with
      | true =>
        have e2 : ((errU (c :: r) : Int) != 0) = false := bnF (by simp [errU, hu])
        have hsl := slice_from (s := c :: r) (kk := .i64) (k := (uNext (c :: r)).2.1) p2
        rw [hu, Bool.true_and] at hB'
        simp only [go_sem, reduceIte, Nat.reduceEqDiff, Nat.reduceAdd, q21r3, e2, q21r5, hsl]
        exact ih _ _ _ _ _ _ (by rw [List.length_drop]; omega) (by rw [List.length_drop]; omega) hB'
      | false =>
        have e2 : ((errU (c :: r) : Int) != 0) = true := bnT (by simp [errU, hu])
        rw [hu, Bool.false_and] at hB'
        simp only [go_sem, reduceIte, Nat.reduceEqDiff, Nat.reduceAdd, q21r3, e2, q21r4]
        exact hr hB' _ _ _ _ _
theorem rtext_ok {s : List UInt8} (hs : s.length < 2 ^ 61) (m : Mem) : CS 21 [.str s] m (.ret (.bool (isT s))) m := by
  refine call_by xfok mixed q21at q21ok rfl ?_
  simp only [go_sem, reduceIte, Nat.reduceEqDiff, Nat.reduceAdd, q21, q21r0]
  refine rtext_loop (B := isT s) (fun h g0 g1 g2 g3 g4 g5 => ?_) (fun h g0 g2 g3 g4 g5 => ?_) s.length s _ _ _ _ _ (Nat.le_refl _) hs rfl
  · simp only [go_sem, reduceIte, Nat.reduceEqDiff, Nat.reduceAdd, q21r7, h]
  · simp only [go_sem, reduceIte, Nat.reduceEqDiff, Nat.reduceAdd, h]
end Go.Proofs.YtinlfdkalijffaaDoor.Am.Q
