/- Part KR4 of a claim's texts, joined: what the claim needs of them. -/
import Derived.Test.YtinlfdkalijffaaDoorKR3
set_option linter.unusedSimpArgs false
set_option linter.unusedVariables false
namespace Go.Proofs.YtinlfdkalijffaaDoor.Am.Q
open Go Go.Proofs Go.Proofs.YtinlfdkalijffaaDoor.Am
def twS : List (List UInt8) → List (List UInt8) → Bool
  | _, [] => false
  | met, s :: r => decide (s ∈ met) || twS (met ++ [s]) r
theorem pdup_loop {m : Mem} {w : Nat} {a : AV} {ks : List (List UInt8)} (ha : SlOf 1 a (ks.map .str)) (hl : ks.length < 2 ^ 60) (hw : m.next ≤ w) {B : Bool} {Q : AExit → List AV → Mem → Prop}
    (hx : B = false → ∀ M, Ext m M → ∀ g0 g1 g2 g3 g4 g5 g6 g7 g8, Q (.exit 0) [g0, g1, g2, g3, g4, g5, g6, g7, g8] M) (hr : B = true → ∀ M, Ext m M → ∀ g0 g2 g3 g4 g5 g6 g7 g8, Q .ret [g0, .bool true, g2, g3, g4, g5, g6, g7, g8] M) :
    ∀ (r i : Nat) (M : Mem) (g0 g1 g3 g7 g8 : AV), i + r = ks.length → Ext m M → M.get w = .map (metOf (ks.take i)) → B = twS (ks.take i) (ks.drop i) →
      wl CS [0, 1, 3, 7, 8] q74l9 Q [g0, g1, .map w, g3, a, .int .i64 ks.length, .int .i64 i, g7, g8] M := by
  intro r
  induction r with
  | zero =>
    intro i M g0 g1 g3 g7 g8 hi hE hg hB
    refine wl_step ?_
    have e1 : decide ((i : Int) < (ks.length : Nat)) = false := dF (by omega)
    simp only [go_sem, reduceIte, Nat.reduceEqDiff, Nat.reduceAdd, q74l9, q74r3, e1]
    exact hx (by rw [hB, List.drop_of_length_le (by omega)]; rfl) _ hE _ _ _ _ _ _ _ _ _
  | succ r ih =>
    intro i M g0 g1 g3 g7 g8 hi hE hg hB
    refine wl_step ?_
    have hlt : i < ks.length := by omega
    have e1 : decide ((i : Int) < (ks.length : Nat)) = true := dT (by omega)
    have ea := ha.idx (k := .i64) (i := (i : Int)) (y := .str ks[i]) (by omega) (by simp [hlt])
    have hw1 := wrap_succ (i := i) (by omega)
    have hd : ks.drop i = ks[i] :: ks.drop (i + 1) := List.drop_eq_getElem_cons hlt
    have ht : ks.take (i + 1) = ks.take i ++ [ks[i]] := by rw [List.take_add_one, List.getElem?_eq_getElem hlt]; rfl
    rw [hd] at hB
    have hB' : B = (decide (ks[i] ∈ ks.take i) || twS (ks.take i ++ [ks[i]]) (ks.drop (i + 1))) := hB
    have kk : ∀ s, isKK .str (.str s) = true := fun _ => rfl
    by_cases hin : ks[i] ∈ ks.take i
    · rw [dT hin, Bool.true_or] at hB'
      simp only [go_sem, reduceIte, Nat.reduceEqDiff, Nat.reduceAdd, q74l9, q74r3, e1, q74r4, ea, q74r5, look_met hg, dT hin, kk, q74r6]
      exact hr hB' _ hE _ _ _ _ _ _ _ _
    · rw [dF hin, Bool.false_or] at hB'
      simp only [go_sem, reduceIte, Nat.reduceEqDiff, Nat.reduceAdd, q74l9, q74r3, e1, q74r4, ea, q74r5, look_met hg, dF hin, kk, q74r7, upd_met hg hin, q74r8, hw1]
      exact ih (i + 1) _ _ _ _ _ _ (by omega) (hE.set hw _) (by rw [ht]; exact get_set_same) (by rw [ht]; exact hB')
theorem pdup_ok {a : AV} {ks : List (List UInt8)} (ha : SlOf 1 a (ks.map .str)) (hl : ks.length < 2 ^ 60) (m : Mem) : ∃ v m', CS 74 [a] m (.ret v) m' ∧ v = .bool (twS [] ks) ∧ Ext m m' := by
  refine call_some (R := fun v m' => v = .bool (twS [] ks) ∧ Ext m m') xfok mixed q74at q74ok rfl ?_
  simp only [go_sem, reduceIte, Nat.reduceEqDiff, Nat.reduceAdd, q74, q74r0, q74r1, q74r2, ha.isLK, ha.len, List.length_map]
  refine pdup_loop (m := m) (B := twS [] ks) ha hl (Nat.le_refl _) (fun h M hE g0 g1 g2 g3 g4 g5 g6 g7 g8 => ?_) (fun h M hE g0 g2 g3 g4 g5 g6 g7 g8 => ?_) ks.length 0 _ _ _ _ _ _ (by omega) (Ext.alloc _ _) (by rw [List.take_zero]; exact get_new) (by rw [List.take_zero, List.drop_zero])
  · simp only [go_sem, reduceIte, Nat.reduceEqDiff, Nat.reduceAdd, q74r10, h]
    exact hE
  · simp only [go_sem, reduceIte, Nat.reduceEqDiff, Nat.reduceAdd, h]
    exact hE
theorem pnotext_ok {s : List UInt8} (hs : s.length < 2 ^ 60) (m : Mem) : ∃ v m', CS 76 [.str s] m (.ret v) m' ∧ v = .bool (!isT s) ∧ Ext m m' := by
  refine call_some (R := fun v m' => v = .bool (!isT s) ∧ Ext m m') xfok mixed q76at q76ok rfl ?_
  obtain ⟨v, M, h1, rfl, h2⟩ := ptext_ok hs m
  simp only [go_sem, reduceIte, Nat.reduceEqDiff, Nat.reduceAdd, q76, q76r0, q76r1]
  refine callW_ret h1 ?_
  simp only [go_sem, reduceIte, Nat.reduceEqDiff, Nat.reduceAdd]
  exact h2
def allT (ks : List (List UInt8)) : Bool := ks.all isT
theorem pbad_loop {m : Mem} {a : AV} {ks : List (List UInt8)} (ha : SlOf 1 a (ks.map .str)) (hl : ks.length < 2 ^ 60) (hks : ∀ k ∈ ks, k.length < 2 ^ 60) {B : Bool} {Q : AExit → List AV → Mem → Prop}
    (hx : B = true → ∀ M, Ext m M → ∀ g0 g1 g2 g3 g4 g5 g6 g7, Q (.exit 0) [g0, g1, g2, g3, g4, g5, g6, g7] M) (hr : B = false → ∀ M, Ext m M → ∀ (i : Nat) g0 g1 g3 g4 g5 g6 g7, Q .ret [g0, g1, .int .i64 i, g3, g4, g5, g6, g7] M) :
    ∀ (r i : Nat) (M : Mem) (g2 g3 g6 g7 : AV), i + r = ks.length → Ext m M → B = allT (ks.drop i) →
      wl CS [2, 3, 6, 7] q90l7 Q [a, .fn (.func 76) [] [], g2, g3, .int .i64 ks.length, .int .i64 i, g6, g7] M := by
  intro r
  induction r with
  | zero =>
    intro i M g2 g3 g6 g7 hi hE hB
    refine wl_step ?_
    have e1 : decide ((i : Int) < (ks.length : Nat)) = false := dF (by omega)
    simp only [go_sem, reduceIte, Nat.reduceEqDiff, Nat.reduceAdd, q90l7, q90r2, e1]
    exact hx (by rw [hB, List.drop_of_length_le (by omega)]; rfl) _ hE _ _ _ _ _ _ _ _
  | succ r ih =>
    intro i M g2 g3 g6 g7 hi hE hB
    refine wl_step ?_
    have hlt : i < ks.length := by omega
    have e1 : decide ((i : Int) < (ks.length : Nat)) = true := dT (by omega)
    have ea := ha.idx (k := .i64) (i := (i : Int)) (y := .str ks[i]) (by omega) (by simp [hlt])
    have hw1 := wrap_succ (i := i) (by omega)
    have hd : ks.drop i = ks[i] :: ks.drop (i + 1) := List.drop_eq_getElem_cons hlt
    rw [hd] at hB
    have hB' : B = (isT ks[i] && allT (ks.drop (i + 1))) := hB
    obtain ⟨v, M1, h1, rfl, h2⟩ := pnotext_ok (hks _ (List.getElem_mem hlt)) M
    simp only [go_sem, reduceIte, Nat.reduceEqDiff, Nat.reduceAdd, q90l7, q90r2, e1, q90r3, q90r4, ea]
    refine callW_ret h1 ?_
    cases ht : isT ks[i] with
    | true =>
      rw [ht, Bool.true_and] at hB'
      simp only [go_sem, reduceIte, Nat.reduceEqDiff, Nat.reduceAdd, q90r6, hw1]
      exact ih (i + 1) _ _ _ _ _ (by omega) (hE.trans h2) hB'
    | false =>
      rw [ht, Bool.false_and] at hB'
      simp only [go_sem, reduceIte, Nat.reduceEqDiff, Nat.reduceAdd, q90r5]
      exact hr hB' _ (hE.trans h2) i _ _ _ _ _ _ _
theorem pbad_ok {a : AV} {ks : List (List UInt8)} (ha : SlOf 1 a (ks.map .str)) (hl : ks.length < 2 ^ 60) (hks : ∀ k ∈ ks, k.length < 2 ^ 60) (m : Mem) : ∃ v m', CS 75 [a, .fn (.func 76) [] []] m (.ret v) m' ∧ v = .bool (!allT ks) ∧ Ext m m' := by
  have h90 : ∃ v m', CS 90 [a, .fn (.func 76) [] []] m (.ret v) m' ∧ (∃ n : Int, v = .int .i64 n ∧ decide (n ≥ 0) = !allT ks) ∧ Ext m m' := by
    refine call_some (R := fun v m' => (∃ n : Int, v = .int .i64 n ∧ decide (n ≥ 0) = !allT ks) ∧ Ext m m') xfok mixed q90at q90ok rfl ?_
    simp only [go_sem, reduceIte, Nat.reduceEqDiff, Nat.reduceAdd, q90, q90r0, q90r1, ha.isLK, ha.len, List.length_map]
    refine pbad_loop (m := m) (B := allT ks) ha hl hks (fun h M hE g0 g1 g2 g3 g4 g5 g6 g7 => ?_) (fun h M hE i g0 g1 g3 g4 g5 g6 g7 => ?_) ks.length 0 _ _ _ _ _ (by omega) (Ext.refl m) (by rw [List.drop_zero])
    · simp only [go_sem, reduceIte, Nat.reduceEqDiff, Nat.reduceAdd, q90r8]
      exact ⟨⟨_, rfl, by rw [h]; rfl⟩, hE⟩
    · simp only [go_sem, reduceIte, Nat.reduceEqDiff, Nat.reduceAdd]
      exact ⟨⟨_, rfl, by rw [h]; exact dT (by omega)⟩, hE⟩
  obtain ⟨v, M, h1, ⟨n, rfl, hn⟩, hE⟩ := h90
  refine call_some (R := fun v m' => v = .bool (!allT ks) ∧ Ext m m') xfok mixed q75at q75ok rfl ?_
  simp only [go_sem, reduceIte, Nat.reduceEqDiff, Nat.reduceAdd, q75, q75r0, q75r1]
  refine callW_ret h1 ?_
  simp only [go_sem, reduceIte, Nat.reduceEqDiff, Nat.reduceAdd, hn]
  exact hE
end Go.Proofs.YtinlfdkalijffaaDoor.Am.Q
namespace Go.Proofs.YtinlfdkalijffaaDoor.Am.Q
open Go Go.Proofs Go.Proofs.YtinlfdkalijffaaDoor.Am
theorem iqT {a b : Int} (h : a = b) : (a == b) = true := by simp [h]
theorem iqF {a b : Int} (h : a ≠ b) : (a == b) = false := by simp [h]
def bareS (keys : List (List UInt8)) (nk : Nat) : Bool := decide (keys.length = 0) && decide (nk = 0)
def oneS (k : Int) (t : List UInt8) (keys : List (List UInt8)) (nk : Nat) : Bool :=
  if k = 1 then bareS keys nk && (t == [])
  else if k = 2 then bareS keys nk && (t == tTrue || t == tFalse)
  else if k = 3 then bareS keys nk && numS t
  else if k = 4 then bareS keys nk && isT t
  else if k = 5 then (t == []) && decide (keys.length = 0)
  else if k = 6 then (t == []) && decide (keys.length = nk) && (!twS [] keys && allT keys)
  else false
def poneS (k : Int) (t : List UInt8) (keys : List (List UInt8)) (nk : Nat) : Bool := oneS k t keys nk && (decide (k ≠ 6) || decide (keys.length ≤ 4096))
section
variable {k : Int} {t : List UInt8} {ka kb : AV} {keys : List (List UInt8)} {xs : List AV}
theorem pone_ok (h1 : SlOf 1 ka (keys.map .str)) (h2 : SlOf 4 kb xs) (hl : keys.length < 2 ^ 47) (hx : xs.length < 2 ^ 47) (ht : t.length < 2 ^ 60) (hks : ∀ k ∈ keys, k.length < 2 ^ 60) (m : Mem) :
    ∃ v m', CS 55 [.agg [.int .i64 k, .str t, ka, kb]] m (.ret v) m' ∧ v = .bool (poneS k t keys xs.length) ∧ Ext m m' := by
  refine call_some (R := fun v m' => v = .bool (poneS k t keys xs.length) ∧ Ext m m') xfok mixed q55at q55ok rfl ?_
  have hg0 : (m.alloc (.cells 26 [.int .i64 k, .str t, ka, kb])).get m.next = .cells 26 [.int .i64 k, .str t, ka, kb] := get_new
  have E1 : Ext m (m.alloc (.cells 26 [.int .i64 k, .str t, ka, kb])) := Ext.alloc _ _
  have o1 := h1.one
  have o2 := h2.one
  simp only [go_sem, reduceIte, Nat.reduceEqDiff, Nat.reduceAdd, q55, q55r0, o1, o2]
  have nlt : m.next < (m.alloc (.cells 26 [.int .i64 k, .str t, ka, kb])).next := by rw [next_alloc]; omega
  generalize m.alloc (.cells 26 [.int .i64 k, .str t, ka, kb]) = M at hg0 E1 nlt
  have hw : IntKind.i64.wrap (((keys.length : Nat) : Int) + ((xs.length : Nat) : Int)) = ((keys.length + xs.length : Nat) : Int) := by rw [wrap_i64 (by omega)]; omega
  -- the kinds from 5 on
  have big : ¬ k < 5 → ∀ (g3 g4 g5 g6 g7 g8 g9 g10 : AV), wc CS (.seq (.seq (.region q55r3) (.block 0 (.seq (.region q55r4) (.cond (.var 5) (.seq (.region q55r5) .ret) (.seq (.region q55r6) (.cond (.var 6) (.seq (.region q55r7) .ret) (.seq (.region q55r8) (.cond (.var 7) (.seq (.region q55r9) .ret) (.seq (.region q55r10) (.cond (.var 8) (.seq (.region q55r11) .ret) (.seq (.region q55r12) (.cond (.var 9) (.seq (.region q55r13) .ret) (.seq (.region q55r14) (.cond (.var 10) (.seq (.region q55r15) .ret) .skip)))))))))))))) (.seq (.region q55r16) .ret))
      (endsIn [.var 2] (fun v m' => v = .bool (poneS k t keys xs.length) ∧ Ext m m') noPan) [.u, .ptr m.next 0, .u, g3, g4, g5, g6, g7, g8, g9, g10] M := by
    intro hk g3 g4 g5 g6 g7 g8 g9 g10
    have f1 : (k == 1) = false := iqF (by omega)
    have f2 : (k == 2) = false := iqF (by omega)
    have f3 : (k == 3) = false := iqF (by omega)
    have f4 : (k == 4) = false := iqF (by omega)
    by_cases k5 : k = 5
    · have f5 : (k == 5) = true := iqT k5
      have hS : poneS k t keys xs.length = ((t == []) && decide (keys.length = 0)) := by subst k5; simp [poneS, oneS]
      rw [hS]
      cases htt : (t == ([] : List UInt8)) with
      | false =>
        simp only [go_sem, reduceIte, Nat.reduceEqDiff, Nat.reduceAdd, q55r3, hg0, q55r4, f1, q55r6, f2, q55r8, f3, q55r10, f4, q55r12, f5, q55r13, htt, Bool.false_and]
        exact E1
      | true =>
        have e0 : (((keys.length : Nat) : Int) == 0) = decide (keys.length = 0) := by rw [Bool.eq_iff_iff]; simp
        simp only [go_sem, reduceIte, Nat.reduceEqDiff, Nat.reduceAdd, q55r3, hg0, q55r4, f1, q55r6, f2, q55r8, f3, q55r10, f4, q55r12, f5, q55r13, htt, h1.isLK, h1.len, List.length_map, e0]
        exact E1
    · have f5 : (k == 5) = false := iqF k5
      by_cases k6 : k = 6
      · have f6 : (k == 6) = true := iqT k6
        have hS : poneS k t keys xs.length = ((t == []) && decide (keys.length = xs.length) && (!twS [] keys && allT keys) && decide (keys.length ≤ 4096)) := by subst k6; simp [poneS, oneS]
        rw [hS]
        cases htt : (t == ([] : List UInt8)) with
        | false =>
          simp only [go_sem, reduceIte, Nat.reduceEqDiff, Nat.reduceAdd, q55r3, hg0, q55r4, f1, q55r6, f2, q55r8, f3, q55r10, f4, q55r12, f5, q55r14, f6, q55r15, htt, Bool.false_and]
          exact E1
        | true =>
          by_cases hlen : keys.length = xs.length
          · have e1 : (((keys.length : Nat) : Int) == ((xs.length : Nat) : Int)) = true := iqT (by omega)
            rw [dT hlen]
            by_cases h40 : keys.length ≤ 4096
            · have e2 : decide (((keys.length : Nat) : Int) ≤ 4096) = true := dT (by omega)
              rw [dT h40]
              obtain ⟨v1, M1, c1, rfl, x1⟩ := pdup_ok h1 (by omega) M
              have hg1 : M1.get m.next = .cells 26 [.int .i64 k, .str t, ka, kb] := by rw [x1.get _ nlt]; exact hg0
              simp only [go_sem, reduceIte, Nat.reduceEqDiff, Nat.reduceAdd, q55r3, hg0, q55r4, f1, q55r6, f2, q55r8, f3, q55r10, f4, q55r12, f5, q55r14, f6, q55r15, htt, h1.isLK, h1.len, h2.isLK, h2.len, List.length_map, e1, e2]
              refine callW_ret c1 ?_
              cases htw : twS [] keys with
              | true =>
                simp only [go_sem, reduceIte, Nat.reduceEqDiff, Nat.reduceAdd, Bool.false_and, Bool.and_false]
                exact E1.trans x1
              | false =>
                obtain ⟨v2, M2, c2, rfl, x2⟩ := pbad_ok h1 (by omega) hks M1
                simp only [go_sem, reduceIte, Nat.reduceEqDiff, Nat.reduceAdd, hg1]
                refine callW_ret c2 ?_
                cases hal : allT keys with
                | true =>
                  simp only [go_sem, reduceIte, Nat.reduceEqDiff, Nat.reduceAdd]
                  exact (E1.trans x1).trans x2
                | false =>
                  simp only [go_sem, reduceIte, Nat.reduceEqDiff, Nat.reduceAdd, Bool.false_and, Bool.and_false]
                  exact (E1.trans x1).trans x2
            · have e2 : decide (((keys.length : Nat) : Int) ≤ 4096) = false := dF (by omega)
              rw [dF h40]
              simp only [go_sem, reduceIte, Nat.reduceEqDiff, Nat.reduceAdd, q55r3, hg0, q55r4, f1, q55r6, f2, q55r8, f3, q55r10, f4, q55r12, f5, q55r14, f6, q55r15, htt, h1.isLK, h1.len, h2.isLK, h2.len, List.length_map, e1, e2, Bool.and_false]
              exact E1
          · have e1 : (((keys.length : Nat) : Int) == ((xs.length : Nat) : Int)) = false := iqF (by omega)
            rw [dF hlen]
            simp only [go_sem, reduceIte, Nat.reduceEqDiff, Nat.reduceAdd, q55r3, hg0, q55r4, f1, q55r6, f2, q55r8, f3, q55r10, f4, q55r12, f5, q55r14, f6, q55r15, htt, h1.isLK, h1.len, h2.isLK, h2.len, List.length_map, e1, Bool.false_and, Bool.and_false]
            exact E1
      · have f6 : (k == 6) = false := iqF k6
        have hS : poneS k t keys xs.length = false := by
          simp only [poneS, oneS]
          rw [if_neg (by omega), if_neg (by omega), if_neg (by omega), if_neg (by omega), if_neg k5, if_neg k6]; rfl
        rw [hS]
        simp only [go_sem, reduceIte, Nat.reduceEqDiff, Nat.reduceAdd, q55r3, hg0, q55r4, f1, q55r6, f2, q55r8, f3, q55r10, f4, q55r12, f5, q55r14, f6, q55r16]
        exact E1
  by_cases k5 : k < 5
  · have e5 : decide (k < 5) = true := dT k5
    by_cases hb : keys.length + xs.length = 0
    · have eb : decide (((keys.length + xs.length : Nat) : Int) > 0) = false := dF (by omega)
      have hbare : bareS keys xs.length = true := by simp only [bareS, Bool.and_eq_true, decide_eq_true_eq]; omega
      have n6 : k ≠ 6 := by omega
      by_cases k1 : k = 1
      · have f1 : (k == 1) = true := iqT k1
        have hS : poneS k t keys xs.length = (t == []) := by simp only [poneS, oneS, if_pos k1, hbare, dT n6, Bool.true_or, Bool.and_true, Bool.true_and]
        simp only [go_sem, reduceIte, Nat.reduceEqDiff, Nat.reduceAdd, q55r1, hg0, e5, h1.isLK, h1.len, h2.isLK, h2.len, List.length_map, hw, eb, q55r3, q55r4, f1, q55r5, hS]
        exact E1
      · have f1 : (k == 1) = false := iqF k1
        by_cases k2 : k = 2
        · have f2 : (k == 2) = true := iqT k2
          have hS : poneS k t keys xs.length = (t == tTrue || t == tFalse) := by simp only [poneS, oneS, if_neg k1, if_pos k2, hbare, dT n6, Bool.true_or, Bool.and_true, Bool.true_and]
          have d1 : (t == ([116, 114, 117, 101] : List UInt8)) = (t == tTrue) := rfl
          have d2 : (t == ([102, 97, 108, 115, 101] : List UInt8)) = (t == tFalse) := rfl
          cases ht1 : (t == tTrue) with
          | true =>
            simp only [go_sem, reduceIte, Nat.reduceEqDiff, Nat.reduceAdd, q55r1, hg0, e5, h1.isLK, h1.len, h2.isLK, h2.len, List.length_map, hw, eb, q55r3, q55r4, f1, q55r6, f2, q55r7, d1, ht1, hS, Bool.true_or]
            exact E1
          | false =>
            simp only [go_sem, reduceIte, Nat.reduceEqDiff, Nat.reduceAdd, q55r1, hg0, e5, h1.isLK, h1.len, h2.isLK, h2.len, List.length_map, hw, eb, q55r3, q55r4, f1, q55r6, f2, q55r7, d1, d2, ht1, hS, Bool.false_or]
            exact E1
        · have f2 : (k == 2) = false := iqF k2
          by_cases k3 : k = 3
          · have f3 : (k == 3) = true := iqT k3
            have hS : poneS k t keys xs.length = numS t := by simp only [poneS, oneS, if_neg k1, if_neg k2, if_pos k3, hbare, dT n6, Bool.true_or, Bool.and_true, Bool.true_and]
            simp only [go_sem, reduceIte, Nat.reduceEqDiff, Nat.reduceAdd, q55r1, hg0, e5, h1.isLK, h1.len, h2.isLK, h2.len, List.length_map, hw, eb, q55r3, q55r4, f1, q55r6, f2, q55r8, f3, q55r9]
            refine callW_ret (pnumber_ok ht M) ?_
            simp only [go_sem, reduceIte, Nat.reduceEqDiff, Nat.reduceAdd, hS]
            exact E1
          · have f3 : (k == 3) = false := iqF k3
            by_cases k4 : k = 4
            · have f4 : (k == 4) = true := iqT k4
              have hS : poneS k t keys xs.length = isT t := by simp only [poneS, oneS, if_neg k1, if_neg k2, if_neg k3, if_pos k4, hbare, dT n6, Bool.true_or, Bool.and_true, Bool.true_and]
              obtain ⟨v2, M2, c2, rfl, x2⟩ := ptext_ok ht M
              simp only [go_sem, reduceIte, Nat.reduceEqDiff, Nat.reduceAdd, q55r1, hg0, e5, h1.isLK, h1.len, h2.isLK, h2.len, List.length_map, hw, eb, q55r3, q55r4, f1, q55r6, f2, q55r8, f3, q55r10, f4, q55r11]
              refine callW_ret c2 ?_
              simp only [go_sem, reduceIte, Nat.reduceEqDiff, Nat.reduceAdd, hS]
              exact E1.trans x2
            · have f4 : (k == 4) = false := iqF k4
              have f5 : (k == 5) = false := iqF (by omega)
              have f6 : (k == 6) = false := iqF n6
              have hS : poneS k t keys xs.length = false := by
                simp only [poneS, oneS, if_neg k1, if_neg k2, if_neg k3, if_neg k4, if_neg n6, Bool.false_and]
                rw [if_neg (by omega), Bool.false_and]
              simp only [go_sem, reduceIte, Nat.reduceEqDiff, Nat.reduceAdd, q55r1, hg0, e5, h1.isLK, h1.len, h2.isLK, h2.len, List.length_map, hw, eb, q55r3, q55r4, f1, q55r6, f2, q55r8, f3, q55r10, f4, q55r12, f5, q55r14, f6, q55r16, hS]
              exact E1
    · have eb : decide (((keys.length + xs.length : Nat) : Int) > 0) = true := dT (by omega)
      have hbare : bareS keys xs.length = false := by simp only [bareS, Bool.and_eq_false_iff, decide_eq_false_iff_not]; omega
      have hS : poneS k t keys xs.length = false := by
        have n5 : ¬ k = 5 := by omega
        have n6 : ¬ k = 6 := by omega
        simp only [poneS, oneS, hbare, Bool.false_and, if_neg n5, if_neg n6, ite_self]
      simp only [go_sem, reduceIte, Nat.reduceEqDiff, Nat.reduceAdd, q55r1, hg0, e5, h1.isLK, h1.len, h2.isLK, h2.len, List.length_map, hw, eb, q55r2, hS]
      exact E1
  · have e5 : decide (k < 5) = false := dF k5
    have := big k5 (.bool false) .u .u .u .u .u .u .u
    simp only [go_sem, reduceIte, Nat.reduceEqDiff, Nat.reduceAdd, q55r1, hg0, e5] at this ⊢
    exact this
end
end Go.Proofs.YtinlfdkalijffaaDoor.Am.Q
namespace Go.Proofs.YtinlfdkalijffaaDoor.Am.Q
open Go Go.Proofs Go.Proofs.YtinlfdkalijffaaDoor.Am
section
variable {k : Int} {t : List UInt8} {ka kb : AV} {keys : List (List UInt8)} {xs : List AV}
end
end Go.Proofs.YtinlfdkalijffaaDoor.Am.Q
namespace Go.Proofs.YtinlfdkalijffaaDoor.Am.Q
open Go Go.Proofs Go.Proofs.YtinlfdkalijffaaDoor.Am
mutual
def nodesT : VT → Nat
  | .node _ _ _ l => 1 + nodesL l
def nodesL : List VT → Nat
  | [] => 0
  | v :: r => nodesT v + nodesL r
end
mutual
def goodT : Nat → VT → Bool
  | d, .node k t ks l => oneS k t ks l.length && ((decide (k < 5) || decide (d < 64)) && goodL (d + 1) l)
def goodL : Nat → List VT → Bool
  | _, [] => true
  | d, v :: r => goodT d v && goodL d r
end
def mayT (T : VT) : Bool := goodT 0 T && decide (nodesT T ≤ 4096)
inductive Fit : VT → Prop where
  | mk {k : Int} {t : List UInt8} {keys : List (List UInt8)} {kids : List VT} : keys.length < 2 ^ 21 → kids.length < 2 ^ 21 → t.length < 2 ^ 21 → (∀ x ∈ keys, x.length < 2 ^ 21) → (∀ i, i < kids.length → Fit (kids.getD i VT.zero)) → Fit (.node k t keys kids)
theorem nodesL_ge : ∀ {l : List VT}, l.length ≤ nodesL l
  | [] => by simp [nodesL]
  | .node k t ks c :: r => by
    have := nodesL_ge (l := r)
    simp only [nodesL, nodesT, List.length_cons]; omega
theorem oneS_kids {k : Int} {t : List UInt8} {ks : List (List UInt8)} {n : Nat} (h : oneS k t ks n = true) (hn : n ≠ 0) : k = 5 ∨ k = 6 := by
  have hb : bareS ks n = false := by simp [bareS, hn]
  unfold oneS at h
  simp only [hb, Bool.false_and] at h
  split at h
  · cases h
  · split at h
    · cases h
    · split at h
      · cases h
      · split at h
        · cases h
        · split at h
          · exact .inl ‹_›
          · split at h
            · exact .inr ‹_›
            · cases h
theorem oneS_tab {t : List UInt8} {ks : List (List UInt8)} {n : Nat} (h : oneS 6 t ks n = true) : ks.length = n := by
  simp [oneS] at h; exact h.1.2
abbrev CP (left : Nat) : AObj := .cells 67 [.int .i64 left, .bool false]
def CntR (c : Nat) (P : Prop) (F : Nat) (M : Mem) : Prop := (P ∧ M.get c = CP F) ∨ (¬ P ∧ ∃ l, M.get c = .cells 67 [l, .bool true])
def PCount (T : VT) : Prop := ∀ (m : Mem) (c : Nat) (a : AV) (deep left : Nat), IsVal a T → deep ≤ 64 → left ≤ 4096 → c < m.next → m.get c = CP left →
  ∃ v m', CS 33 [.ptr c 0, a, .int .i64 deep] m (.ret v) m' ∧ ExtB c m m' ∧ CntR c (goodT deep T = true ∧ nodesT T ≤ left) (left - nodesT T) m'
theorem pcount_loop {m : Mem} {c q : Nat} {k : Int} {t : List UInt8} {ka kb : AV} {xs : List AV} {kids : List VT} (h2 : SlOf 4 kb xs) (hxl : xs.length = kids.length) (hx2 : ∀ i, i < kids.length → IsVal (xs.getD i .u) (kids.getD i VT.zero)) (hlen : kids.length < 2 ^ 47)
    (hq : q < m.next) (hqc : q ≠ c) (hc : c < m.next) (hgq : m.get q = .cells 26 [.int .i64 k, .str t, ka, kb]) {deep : Nat} (hdeep : kids.length ≠ 0 → deep < 64) (ih : ∀ i, i < kids.length → PCount (kids.getD i VT.zero)) {P : Prop} {F : Nat} {Q : AExit → List AV → Mem → Prop}
    (hx : ∀ M, ExtB c m M → CntR c P F M → ∀ g0 g1 g2 g3 g4 g5 g6, Q (.exit 0) [g0, g1, g2, g3, g4, g5, g6] M) :
    ∀ (r i rem : Nat) (M : Mem) (g1 g5 g6 : AV), i + r = kids.length → rem ≤ 4096 → ExtB c m M → M.get c = CP rem → (P ↔ (goodL (deep + 1) (kids.drop i) = true ∧ nodesL (kids.drop i) ≤ rem)) → (P → F = rem - nodesL (kids.drop i)) →
      wl CS [1, 5, 6] q33l8 Q [.ptr c 0, g1, .int .i64 deep, .ptr q 0, .int .i64 i, g5, g6] M := by
  intro r
  induction r with
  | zero =>
    intro i rem M g1 g5 g6 hi hrem hE hgc hP hF
    refine wl_step ?_
    have e1 : decide ((i : Int) < (xs.length : Nat)) = false := dF (by omega)
    have hgq' : M.get q = .cells 26 [.int .i64 k, .str t, ka, kb] := by rw [hE.get q hq hqc]; exact hgq
    have hd : kids.drop i = [] := List.drop_of_length_le (by omega)
    rw [hd] at hP hF
    simp only [go_sem, reduceIte, Nat.reduceEqDiff, Nat.reduceAdd, q33l8, q33r5, hgq', h2.isLK, h2.len, e1]
    have hp : P := hP.2 ⟨by simp [goodL], by simp [nodesL]⟩
    exact hx _ hE (.inl ⟨hp, by rw [hgc, hF hp]; simp [nodesL]⟩) _ _ _ _ _ _ _
  | succ r ihr =>
    intro i rem M g1 g5 g6 hi hrem hE hgc hP hF
    refine wl_step ?_
    have e1 : decide ((i : Int) < (xs.length : Nat)) = true := dT (by omega)
    have hi1 : i < kids.length := by omega
    have hgq' : M.get q = .cells 26 [.int .i64 k, .str t, ka, kb] := by rw [hE.get q hq hqc]; exact hgq
    have hxi := hx2 i hi1
    have ea := h2.idx (k := .i64) (i := (i : Int)) (y := xs.getD i .u) (by omega) (by simp [List.getD, show i < xs.length by omega])
    obtain ⟨k1, t1, a1, b1, e2, _⟩ := hxi.shape
    rw [e2] at ea hxi
    have hw := wrap_succ (i := i) (by omega)
    have hwd := wrap_succ (i := deep) (by have := hdeep (by omega); omega)
    have hd : kids.drop i = kids.getD i VT.zero :: kids.drop (i + 1) := by
      rw [List.drop_eq_getElem_cons hi1, show kids.getD i VT.zero = kids[i] by simp [List.getD, hi1]]
    rw [hd] at hP hF
    obtain ⟨v, M2, c1, c2, c3⟩ := ih i hi1 M c _ (deep + 1) rem hxi (by have := hdeep (by omega); omega) hrem (Nat.lt_of_lt_of_le hc hE.next) hgc
    simp only [go_sem, reduceIte, Nat.reduceEqDiff, Nat.reduceAdd, q33l8, q33r5, hgq', h2.isLK, h2.len, e1, hgc, q33r6, ea, hwd]
    refine callW_ret c1 ?_
    have hE2 := hE.trans c2
    rcases c3 with ⟨p1, p2⟩ | ⟨p1, l, p2⟩
    · simp only [go_sem, reduceIte, Nat.reduceEqDiff, Nat.reduceAdd, q33r7, hw]
      refine ihr (i + 1) (rem - nodesT (kids.getD i VT.zero)) M2 _ _ _ (by omega) (by omega) hE2 p2 ?_ ?_
      · rw [hP]
        simp only [goodL, nodesL, Bool.and_eq_true]
        constructor
        · rintro ⟨⟨_, y1⟩, y2⟩; exact ⟨y1, by omega⟩
        · rintro ⟨y1, y2⟩; exact ⟨⟨p1.1, y1⟩, by omega⟩
      · intro hp
        rw [hF hp]; simp only [nodesL]; omega
    · have hgq2 : M2.get q = .cells 26 [.int .i64 k, .str t, ka, kb] := by rw [hE2.get q hq hqc]; exact hgq
      have hnp : ¬ P := by
        intro hp
        have := hP.1 hp
        simp only [goodL, nodesL, Bool.and_eq_true] at this
        exact p1 ⟨this.1.1, by omega⟩
      simp only [go_sem, reduceIte, Nat.reduceEqDiff, Nat.reduceAdd, q33r7, hw]
      refine wl_step ?_
      by_cases hlast : i + 1 < kids.length
      · have e3 : decide (((i + 1 : Nat) : Int) < (xs.length : Nat)) = true := dT (by omega)
        simp only [go_sem, reduceIte, Nat.reduceEqDiff, Nat.reduceAdd, q33l8, q33r5, hgq2, h2.isLK, h2.len, e3, p2]
        exact hx _ hE2 (.inr ⟨hnp, l, p2⟩) _ _ _ _ _ _ _
      · have e3 : decide (((i + 1 : Nat) : Int) < (xs.length : Nat)) = false := dF (by omega)
        simp only [go_sem, reduceIte, Nat.reduceEqDiff, Nat.reduceAdd, q33l8, q33r5, hgq2, h2.isLK, h2.len, e3]
        exact hx _ hE2 (.inr ⟨hnp, l, p2⟩) _ _ _ _ _ _ _
end Go.Proofs.YtinlfdkalijffaaDoor.Am.Q
namespace Go.Proofs.YtinlfdkalijffaaDoor.Am.Q
open Go Go.Proofs Go.Proofs.YtinlfdkalijffaaDoor.Am
theorem pcount_all {T : VT} (hf : Fit T) : PCount T := by
  induction hf with
  | @mk k t keys kids f1 f2 f3 f4 _ ih =>
    intro m c a deep left ha hdeep hleft hc hgc
    cases ha with
    | @mk _ _ ka kb _ _ xs h1 h2 hxl hx2 =>
    refine call_some (R := fun _ m' => ExtB c m m' ∧ CntR c (goodT deep (.node k t keys kids) = true ∧ nodesT (.node k t keys kids) ≤ left) (left - nodesT (.node k t keys kids)) m') xfok mixed q33at q33ok rfl ?_
    have hP : (goodT deep (.node k t keys kids) = true ∧ nodesT (.node k t keys kids) ≤ left) ↔ (oneS k t keys kids.length = true ∧ (k < 5 ∨ deep < 64) ∧ goodL (deep + 1) kids = true ∧ 1 + nodesL kids ≤ left) := by
      simp only [goodT, nodesT, Bool.and_eq_true, Bool.or_eq_true, decide_eq_true_eq, and_assoc]
    have hF : left - nodesT (.node k t keys kids) = left - 1 - nodesL kids := by simp only [nodesT]; omega
    rw [hF]
    generalize hPe : (goodT deep (.node k t keys kids) = true ∧ nodesT (.node k t keys kids) ≤ left) = P at hP
    have g0 : (m.alloc (.cells 26 [.int .i64 k, .str t, ka, kb])).get m.next = .cells 26 [.int .i64 k, .str t, ka, kb] := get_new
    have gc0 : (m.alloc (.cells 26 [.int .i64 k, .str t, ka, kb])).get c = CP left := by rw [get_old (by omega)]; exact hgc
    have n0 : (m.alloc (.cells 26 [.int .i64 k, .str t, ka, kb])).next = m.next + 1 := rfl
    have E0 : ExtB c m (m.alloc (.cells 26 [.int .i64 k, .str t, ka, kb])) := (ExtB.refl c m).alloc _
    have o1 := h1.one
    have o2 := h2.one
    simp only [go_sem, reduceIte, Nat.reduceEqDiff, Nat.reduceAdd, q33, q33r0, o1, o2]
    generalize m.alloc (.cells 26 [.int .i64 k, .str t, ka, kb]) = M0 at g0 gc0 n0 E0
    simp only [go_sem, reduceIte, Nat.reduceEqDiff, Nat.reduceAdd, q33r1, gc0]
    -- behind a fault
    have badend : ∀ (M : Mem) (l : Int) (g1 g5 g6 : AV), ExtB c m M → M.get c = .cells 67 [.int .i64 l, .bool false] → M.get m.next = .cells 26 [.int .i64 k, .str t, ka, kb] → ¬ P →
        wc CS (.seq (.region q33r3) (.seq (.region q33r4) (.block 0 (.loop [1, 5, 6] q33l8)))) (endsIn [] (fun _ m' => ExtB c m m' ∧ CntR c P (left - 1 - nodesL kids) m') noPan) [.ptr c 0, g1, .int .i64 deep, .ptr m.next 0, .u, g5, g6] M := by
      intro M l g1 g5 g6 hE hg hv hn
      have hv2 : (M.set c (.cells 67 [.int .i64 l, .bool true])).get m.next = .cells 26 [.int .i64 k, .str t, ka, kb] := by rw [get_set_other (by omega)]; exact hv
      have hg2 : (M.set c (.cells 67 [.int .i64 l, .bool true])).get c = .cells 67 [.int .i64 l, .bool true] := get_set_same
      have hE2 : ExtB c m (M.set c (.cells 67 [.int .i64 l, .bool true])) := hE.setp _
      simp only [go_sem, reduceIte, Nat.reduceEqDiff, Nat.reduceAdd, q33r3, hg, q33r4]
      generalize M.set c (.cells 67 [.int .i64 l, .bool true]) = M2 at hv2 hg2 hE2
      refine wl_step ?_
      by_cases hz : 0 < xs.length
      · have e3 : decide ((0 : Int) < (xs.length : Nat)) = true := dT (by omega)
        simp only [go_sem, reduceIte, Nat.reduceEqDiff, Nat.reduceAdd, q33l8, q33r5, hv2, h2.isLK, h2.len, e3, hg2]
        exact ⟨hE2, .inr ⟨hn, _, hg2⟩⟩
      · have e3 : decide ((0 : Int) < (xs.length : Nat)) = false := dF (by omega)
        simp only [go_sem, reduceIte, Nat.reduceEqDiff, Nat.reduceAdd, q33l8, q33r5, hv2, h2.isLK, h2.len, e3]
        exact ⟨hE2, .inr ⟨hn, _, hg2⟩⟩
    by_cases hl0 : left = 0
    · have w0 : IntKind.i64.wrap ((left : Int) - 1) = -1 := by rw [hl0]; rfl
      have e0 : decide ((-1 : Int) < 0) = true := rfl
      have hn : ¬ P := fun h => by have := hP.1 h; omega
      have := badend (M0.set c (.cells 67 [.int .i64 (-1), .bool false])) (-1) .u (.bool true) .u (E0.setp _) get_set_same (by rw [get_set_other (by omega)]; exact g0) hn
      simp only [go_sem, reduceIte, Nat.reduceEqDiff, Nat.reduceAdd, w0, q33r2, e0, q33l8] at this ⊢
      exact this
    · have w0 : IntKind.i64.wrap ((left : Int) - 1) = ((left - 1 : Nat) : Int) := by rw [wrap_i64 (by omega)]; omega
      have e0 : decide (((left - 1 : Nat) : Int) < 0) = false := dF (by omega)
      have gc1 : (M0.set c (CP (left - 1))).get c = CP (left - 1) := get_set_same
      have g1 : (M0.set c (CP (left - 1))).get m.next = .cells 26 [.int .i64 k, .str t, ka, kb] := by rw [get_set_other (by omega)]; exact g0
      have E1 : ExtB c m (M0.set c (CP (left - 1))) := E0.setp _
      have n1 : (M0.set c (CP (left - 1))).next = m.next + 1 := n0
      simp only [go_sem, reduceIte, Nat.reduceEqDiff, Nat.reduceAdd, w0, q33r2, e0]
      generalize M0.set c (CP (left - 1)) = M1 at gc1 g1 E1 n1
      obtain ⟨v, M2, c1, rfl, c2⟩ := pone_ok (k := k) (t := t) h1 h2 (by omega) (by omega) (by omega) (fun x hx => by have := f4 x hx; omega) M1
      have gc2 : M2.get c = CP (left - 1) := by rw [c2.get c (by omega)]; exact gc1
      have g2 : M2.get m.next = .cells 26 [.int .i64 k, .str t, ka, kb] := by rw [c2.get _ (by omega)]; exact g1
      have E2 : ExtB c m M2 := E1.trans (ext_extB c2)
      have n2 : m.next < M2.next := by have := c2.next; omega
      simp only [go_sem, reduceIte, Nat.reduceEqDiff, Nat.reduceAdd, g1, gc1]
      refine callW_ret c1 ?_
      rw [hxl]
      cases hone : poneS k t keys kids.length with
      | false =>
        have hn : ¬ P := by
          intro h
          obtain ⟨p1, _, _, p4⟩ := hP.1 h
          have hge := nodesL_ge (l := kids)
          have : decide (k ≠ 6) = false ∧ decide (keys.length ≤ 4096) = false := by
            simpa [poneS, p1] using hone
          have k6 : k = 6 := by simpa using this.1
          have hk := this.2
          simp only [decide_eq_false_iff_not] at hk
          subst k6
          have := oneS_tab p1
          omega
        have := badend M2 _ .u (.bool true) .u E2 gc2 g2 hn
        simp only [go_sem, reduceIte, Nat.reduceEqDiff, Nat.reduceAdd, q33l8] at this ⊢
        exact this
      | true =>
        have hone' : oneS k t keys kids.length = true := by
          simp only [poneS, Bool.and_eq_true] at hone; exact hone.1
        have fin : (k < 5 ∨ deep < 64) → ∀ g1 g5 g6, wc CS (.seq (.region q33r4) (.block 0 (.loop [1, 5, 6] q33l8))) (endsIn [] (fun _ m' => ExtB c m m' ∧ CntR c P (left - 1 - nodesL kids) m') noPan) [.ptr c 0, g1, .int .i64 deep, .ptr m.next 0, .u, g5, g6] M2 := by
          intro hd y1 y5 y6
          simp only [go_sem, reduceIte, Nat.reduceEqDiff, Nat.reduceAdd, q33r4]
          refine pcount_loop (m := M2) (P := P) (F := left - 1 - nodesL kids) h2 hxl hx2 (by omega) n2 (by omega) (by omega) g2 (fun hk0 => ?_) ih (fun M hE hC z0 z1 z2 z3 z4 z5 z6 => ?_) kids.length 0 (left - 1) M2 _ _ _ (by omega) (by omega) (ExtB.refl c M2) gc2 ?_ (fun _ => by rw [List.drop_zero])
          · rcases oneS_kids hone' hk0 with e | e <;> omega
          · simp only [go_sem, reduceIte, Nat.reduceEqDiff, Nat.reduceAdd]
            exact ⟨E2.trans hE, hC⟩
          · rw [List.drop_zero, hP]
            constructor
            · rintro ⟨_, _, y3, y4⟩; exact ⟨y3, by omega⟩
            · rintro ⟨y3, y4⟩; exact ⟨hone', hd, y3, by omega⟩
        by_cases k5 : k < 5
        · have e5 : decide (k ≥ 5) = false := dF (by omega)
          have := fin (.inl k5) .u (.bool false) .u
          simp only [go_sem, reduceIte, Nat.reduceEqDiff, Nat.reduceAdd, g2, e5, q33l8] at this ⊢
          exact this
        · have e5 : decide (k ≥ 5) = true := dT (by omega)
          by_cases d64 : deep = 64
          · have e6 : ((deep : Int) == 64) = true := bqT (by omega)
            have hn : ¬ P := fun h => by have := hP.1 h; omega
            have := badend M2 _ .u (.bool true) .u E2 gc2 g2 hn
            simp only [go_sem, reduceIte, Nat.reduceEqDiff, Nat.reduceAdd, g2, e5, e6, q33l8] at this ⊢
            exact this
          · have e6 : ((deep : Int) == 64) = false := bqF (by omega)
            have := fin (.inr (by omega)) .u (.bool false) .u
            simp only [go_sem, reduceIte, Nat.reduceEqDiff, Nat.reduceAdd, g2, e5, e6, q33l8] at this ⊢
            exact this
theorem pmay_ok {T : VT} (hf : Fit T) {a : AV} (ha : IsVal a T) (m : Mem) : ∃ v m', CS 18 [a] m (.ret v) m' ∧ v = .bool (mayT T) ∧ Ext m m' := by
  refine call_some (R := fun v m' => v = .bool (mayT T) ∧ Ext m m') xfok mixed q18at q18ok rfl ?_
  obtain ⟨k, t, ka, kb, rfl, o1, o2⟩ := ha.ones
  have g0 : ((m.alloc (.cells 26 [.int .i64 k, .str t, ka, kb])).alloc (CP 4096)).get m.next = .cells 26 [.int .i64 k, .str t, ka, kb] := by rw [get_old (by simp [Mem.alloc])]; exact get_new
  have g1 : ((m.alloc (.cells 26 [.int .i64 k, .str t, ka, kb])).alloc (CP 4096)).get (m.next + 1) = CP 4096 := get_new
  have E : Ext m ((m.alloc (.cells 26 [.int .i64 k, .str t, ka, kb])).alloc (CP 4096)) := (Ext.alloc _ _).trans (Ext.alloc _ _)
  have n0 : ((m.alloc (.cells 26 [.int .i64 k, .str t, ka, kb])).alloc (CP 4096)).next = m.next + 2 := rfl
  simp only [go_sem, reduceIte, Nat.reduceEqDiff, Nat.reduceAdd, q18, q18r0, o1, o2, q18r1, next_alloc, q18r2]
  generalize (m.alloc (.cells 26 [.int .i64 k, .str t, ka, kb])).alloc (CP 4096) = M at g0 g1 E n0
  obtain ⟨v, M2, c1, c2, c3⟩ := pcount_all hf M (m.next + 1) _ 0 4096 ha (by omega) (by omega) (by omega) g1
  have c1' : CS 33 [.ptr (m.next + 1) 0, .agg [.int .i64 k, .str t, ka, kb], .int .i64 0] M (.ret v) M2 := c1
  simp only [go_sem, reduceIte, Nat.reduceEqDiff, Nat.reduceAdd, g0]
  refine callW_ret c1' ?_
  have E2 : Ext m M2 := extB_ext ((ext_extB (p := m.next + 1) E).trans c2) (by omega)
  rcases c3 with ⟨p1, p2⟩ | ⟨p1, l, p2⟩
  · have hS : mayT T = true := by simp only [mayT, Bool.and_eq_true, decide_eq_true_eq]; exact p1
    simp only [go_sem, reduceIte, Nat.reduceEqDiff, Nat.reduceAdd, q18r3, p2, hS]
    exact E2
  · have hS : mayT T = false := by
      cases h : mayT T with
      | false => rfl
      | true => simp only [mayT, Bool.and_eq_true, decide_eq_true_eq] at h; exact absurd h p1
    simp only [go_sem, reduceIte, Nat.reduceEqDiff, Nat.reduceAdd, q18r3, p2, hS]
    exact E2
end Go.Proofs.YtinlfdkalijffaaDoor.Am.Q
namespace Go.Proofs.YtinlfdkalijffaaDoor.Am.Q
open Go Go.Proofs Go.Proofs.YtinlfdkalijffaaDoor.Am
theorem oneS_keys {k : Int} {t : List UInt8} {ks : List (List UInt8)} {n : Nat} (h : oneS k t ks n = true) : ks.length = 0 ∨ ks.length = n := by
  unfold oneS bareS at h
  split at h
  · exact .inl (of_decide_eq_true (Bool.and_eq_true _ _ |>.mp (Bool.and_eq_true _ _ |>.mp h).1).1)
  · split at h
    · exact .inl (of_decide_eq_true (Bool.and_eq_true _ _ |>.mp (Bool.and_eq_true _ _ |>.mp h).1).1)
    · split at h
      · exact .inl (of_decide_eq_true (Bool.and_eq_true _ _ |>.mp (Bool.and_eq_true _ _ |>.mp h).1).1)
      · split at h
        · exact .inl (of_decide_eq_true (Bool.and_eq_true _ _ |>.mp (Bool.and_eq_true _ _ |>.mp h).1).1)
        · split at h
          · exact .inl (of_decide_eq_true (Bool.and_eq_true _ _ |>.mp h).2)
          · split at h
            · exact .inr (of_decide_eq_true (Bool.and_eq_true _ _ |>.mp (Bool.and_eq_true _ _ |>.mp h).1).2)
            · cases h
end Go.Proofs.YtinlfdkalijffaaDoor.Am.Q
namespace Go.Proofs.YtinlfdkalijffaaDoor.Am.Q
open Go Go.Proofs Go.Proofs.YtinlfdkalijffaaDoor.Am
theorem peq_loop (m : Mem) {a b : AV} {l l' : List (List UInt8)} (ha : SlOf 1 a (l.map .str)) (hb : SlOf 1 b (l'.map .str)) (hl : l.length = l'.length) (hlen : l.length < 2 ^ 60) {Q : AExit → List AV → Mem → Prop}
    (hx : l = l' → ∀ g0 g1 g2 g3 g4 g5 g6 g7 g8, Q (.exit 0) [g0, g1, g2, g3, g4, g5, g6, g7, g8] m) (hr : l ≠ l' → ∀ g0 g1 g3 g4 g5 g6 g7 g8, Q .ret [g0, g1, .bool false, g3, g4, g5, g6, g7, g8] m) :
    ∀ (n i : Nat) (g2 g3 g4 g7 g8 : AV), i + n = l.length → l.take i = l'.take i → wl CS [2, 3, 4, 7, 8] q35l9 Q [a, b, g2, g3, g4, .int .i64 l.length, .int .i64 i, g7, g8] m := by
  intro n
  induction n with
  | zero =>
    intro i g2 g3 g4 g7 g8 hi hs
    refine wl_step ?_
    have h1 : decide ((i : Int) < (l.length : Nat)) = false := dF (by omega)
    simp only [go_sem, reduceIte, Nat.reduceEqDiff, Nat.reduceAdd, q35l9, q35r4, h1]
    refine hx ?_ _ _ _ _ _ _ _ _ _
    rw [List.take_of_length_le (by omega), List.take_of_length_le (by omega)] at hs
    exact hs
  | succ n ih =>
    intro i g2 g3 g4 g7 g8 hi hs
    refine wl_step ?_
    have h1 : decide ((i : Int) < (l.length : Nat)) = true := dT (by omega)
    have hi1 : i < l.length := by omega
    have hi2 : i < l'.length := by omega
    have ea := ha.idx (k := .i64) (i := (i : Int)) (y := .str l[i]) (by omega) (by simp [hi1])
    have eb := hb.idx (k := .i64) (i := (i : Int)) (y := .str l'[i]) (by omega) (by simp [hi2])
    have hw := wrap_succ (i := i) (by omega)
    by_cases he : l[i] = l'[i]
    · have e2 : (l[i] == l'[i]) = true := by simp [he]
      have e3 : (l[i] != l'[i]) = false := by simp [he]
      simp only [go_sem, reduceIte, Nat.reduceEqDiff, Nat.reduceAdd, q35l9, q35r4, h1, q35r5, q35r6, ea, eb, e2, e3, q35r8, hw]
      refine ih (i + 1) _ _ _ _ _ (by omega) ?_
      rw [List.take_add_one, List.take_add_one, hs, List.getElem?_eq_getElem hi1, List.getElem?_eq_getElem hi2, he]
    · have e2 : (l[i] == l'[i]) = false := by simp [he]
      have e3 : (l[i] != l'[i]) = true := by simp [he]
      simp only [go_sem, reduceIte, Nat.reduceEqDiff, Nat.reduceAdd, q35l9, q35r4, h1, q35r5, q35r6, ea, eb, e2, e3, q35r7]
      exact hr (fun e => he (by subst e; rfl)) _ _ _ _ _ _ _ _
theorem peq_ok {a b : AV} {l l' : List (List UInt8)} (ha : SlOf 1 a (l.map .str)) (hb : SlOf 1 b (l'.map .str)) (hlen : l.length < 2 ^ 60) (m : Mem) {r : Bool} (hr : r = true ↔ l = l') : CS 35 [a, b] m (.ret (.bool r)) m := by
  refine call_by xfok mixed q35at q35ok rfl ?_
  by_cases hl : l.length = l'.length
  · have e1 : (((l.length : Nat) : Int) != ((l'.length : Nat) : Int)) = false := bnF (by omega)
    simp only [go_sem, reduceIte, Nat.reduceEqDiff, Nat.reduceAdd, q35, q35r0, q35r1, ha.isLK, ha.len, hb.isLK, hb.len, List.length_map, e1, q35r3]
    refine peq_loop m ha hb hl hlen (fun h g0 g1 g2 g3 g4 g5 g6 g7 g8 => ?_) (fun h g0 g1 g3 g4 g5 g6 g7 g8 => ?_) l.length 0 _ _ _ _ _ (by omega) (by simp)
    · obtain rfl : r = true := hr.2 h
      simp only [go_sem, reduceIte, Nat.reduceEqDiff, Nat.reduceAdd, q35r10]
    · obtain rfl : r = false := by
        cases r with
        | false => rfl
        | true => exact absurd (hr.1 rfl) h
      simp only [go_sem, reduceIte, Nat.reduceEqDiff, Nat.reduceAdd]
  · have e1 : (((l.length : Nat) : Int) != ((l'.length : Nat) : Int)) = true := bnT (by omega)
    obtain rfl : r = false := by
      cases r with
      | false => rfl
      | true => exact absurd (congrArg List.length (hr.1 rfl)) hl
    simp only [go_sem, reduceIte, Nat.reduceEqDiff, Nat.reduceAdd, q35, q35r0, q35r1, ha.isLK, ha.len, hb.isLK, hb.len, List.length_map, e1, q35r2]
def PSame (T U : VT) : Prop := ∀ (m : Mem) (a b : AV) (r : Bool), IsVal a T → IsVal b U → (r = true ↔ T = U) → ∃ v m', CS 20 [a, b] m (.ret v) m' ∧ v = .bool r ∧ Ext m m'
theorem peqf_loop {m : Mem} {kb kb' : AV} {xs ys : List AV} {kids kids' : List VT} (hb : SlOf 4 kb xs) (hb' : SlOf 4 kb' ys) (hxl : xs.length = kids.length) (hyl : ys.length = kids'.length)
    (hx2 : ∀ i, i < kids.length → IsVal (xs.getD i .u) (kids.getD i VT.zero)) (hy2 : ∀ i, i < kids'.length → IsVal (ys.getD i .u) (kids'.getD i VT.zero)) (hl : kids.length = kids'.length) (hlen : kids.length < 2 ^ 47)
    (ih : ∀ i, i < kids.length → ∀ U, PSame (kids.getD i VT.zero) U) {Q : AExit → List AV → Mem → Prop}
    (hx : kids = kids' → ∀ M, Ext m M → ∀ g0 g1 g2 g3 g4 g5 g6 g7 g8 g9 g10 g11 g12, Q (.exit 0) [g0, g1, g2, g3, g4, g5, g6, g7, g8, g9, g10, g11, g12] M) (hr : kids ≠ kids' → ∀ M, Ext m M → ∀ g0 g1 g2 g4 g5 g6 g7 g8 g9 g10 g11 g12, Q .ret [g0, g1, g2, .bool false, g4, g5, g6, g7, g8, g9, g10, g11, g12] M) :
    ∀ (n i : Nat) (M : Mem) (g0 g3 g4 g5 g6 g7 g11 g12 : AV), i + n = kids.length → Ext m M → (∀ j, j < i → kids.getD j VT.zero = kids'.getD j VT.zero) → wl CS [0, 3, 4, 5, 6, 7, 11, 12] q36l10 Q [g0, kb', .fn (.func 20) [] [], g3, g4, g5, g6, g7, kb, .int .i64 xs.length, .int .i64 i, g11, g12] M := by
  intro n
  induction n with
  | zero =>
    intro i M g0 g3 g4 g5 g6 g7 g11 g12 hi hE hs
    refine wl_step ?_
    have h1 : decide ((i : Int) < (xs.length : Nat)) = false := dF (by omega)
    simp only [go_sem, reduceIte, Nat.reduceEqDiff, Nat.reduceAdd, q36l10, q36r4, h1]
    exact hx (getD_ext hl fun j hj => hs j (by omega)) _ hE _ _ _ _ _ _ _ _ _ _ _ _ _
  | succ n ihn =>
    intro i M g0 g3 g4 g5 g6 g7 g11 g12 hi hE hs
    refine wl_step ?_
    have h1 : decide ((i : Int) < (xs.length : Nat)) = true := dT (by omega)
    have hi1 : i < kids.length := by omega
    have hw := wrap_succ (i := i) (by omega)
    have hxi := hx2 i hi1
    have hyi := hy2 i (by omega)
    have ea := hb.idx (k := .i64) (i := (i : Int)) (y := xs.getD i .u) (by omega) (by simp [List.getD, show i < xs.length by omega])
    have eb := hb'.idx (k := .i64) (i := (i : Int)) (y := ys.getD i .u) (by omega) (by simp [List.getD, show i < ys.length by omega])
    obtain ⟨k1, t1, a1, b1, e1, o1, o2⟩ := hxi.ones
    obtain ⟨k2, t2, a2, b2, e2, o3, o4⟩ := hyi.ones
    rw [e1] at ea hxi
    rw [e2] at eb hyi
    have s1 : (M.alloc z26).get M.next = z26 := get_new
    have s2 : ((M.alloc z26).set M.next (.cells 26 [.int .i64 k1, .str t1, a1, b1])).get M.next = .cells 26 [.int .i64 k1, .str t1, a1, b1] := get_set_same
    have n1 : ((M.alloc z26).set M.next (.cells 26 [.int .i64 k1, .str t1, a1, b1])).next = M.next + 1 := rfl
    have E1 : Ext m ((M.alloc z26).set M.next (.cells 26 [.int .i64 k1, .str t1, a1, b1])) := (hE.trans (Ext.alloc _ _)).set (by have := hE.next; omega) _
    simp only [go_sem, reduceIte, Nat.reduceEqDiff, Nat.reduceAdd, q36l10, q36r4, h1, q36r5, ea, s1, o1, o2]
    generalize (M.alloc z26).set M.next (.cells 26 [.int .i64 k1, .str t1, a1, b1]) = M1 at s2 n1 E1
    have s3 : (M1.alloc z26).get M1.next = z26 := get_new
    have s4 : ((M1.alloc z26).set M1.next (.cells 26 [.int .i64 k2, .str t2, a2, b2])).get M1.next = .cells 26 [.int .i64 k2, .str t2, a2, b2] := get_set_same
    have s5 : ((M1.alloc z26).set M1.next (.cells 26 [.int .i64 k2, .str t2, a2, b2])).get M.next = .cells 26 [.int .i64 k1, .str t1, a1, b1] := by rw [get_set_other (by omega), get_old (by omega)]; exact s2
    have E2 : Ext m ((M1.alloc z26).set M1.next (.cells 26 [.int .i64 k2, .str t2, a2, b2])) := (E1.trans (Ext.alloc _ _)).set (by have := E1.next; omega) _
    simp only [go_sem, reduceIte, Nat.reduceEqDiff, Nat.reduceAdd, q36r6, eb, s3, o3, o4]
    generalize (M1.alloc z26).set M1.next (.cells 26 [.int .i64 k2, .str t2, a2, b2]) = M2 at s4 s5 E2
    by_cases he : kids.getD i VT.zero = kids'.getD i VT.zero
    · obtain ⟨v, M3, c1, rfl, c2⟩ := ih i hi1 _ M2 _ _ true hxi hyi ⟨fun _ => he, fun _ => rfl⟩
      simp only [go_sem, reduceIte, Nat.reduceEqDiff, Nat.reduceAdd, q36r7, s4, s5]
      refine callW_ret c1 ?_
      simp only [go_sem, reduceIte, Nat.reduceEqDiff, Nat.reduceAdd, q36r9, hw]
      refine ihn (i + 1) _ _ _ _ _ _ _ _ _ (by omega) (E2.trans c2) fun j hj => ?_
      by_cases hji : j = i
      · subst hji; exact he
      · exact hs j (by omega)
    · obtain ⟨v, M3, c1, rfl, c2⟩ := ih i hi1 _ M2 _ _ false hxi hyi ⟨(fun h => by cases h), fun h => absurd h he⟩
      simp only [go_sem, reduceIte, Nat.reduceEqDiff, Nat.reduceAdd, q36r7, s4, s5]
      refine callW_ret c1 ?_
      simp only [go_sem, reduceIte, Nat.reduceEqDiff, Nat.reduceAdd, q36r8]
      exact hr (fun e => he (by rw [e])) _ (E2.trans c2) _ _ _ _ _ _ _ _ _ _ _ _
theorem psame {T : VT} (hs : Small T) : ∀ U, PSame T U := by
  induction hs with
  | @mk k t keys kids s1 s2 _ ih =>
    intro U m a b r ha hb hr
    cases ha with
    | @mk _ _ ka kb _ _ xs h1 h2 hxl hx2 =>
    cases hb with
    | @mk k' t' ka' kb' keys' kids' ys h1' h2' hyl hy2 =>
    rw [VT.ext_kids] at hr
    refine call_some (R := fun v m' => v = .bool r ∧ Ext m m') xfok mixed q20at q20ok rfl ?_
    have o1 := h1.one
    have o2 := h2.one
    have o3 := h1'.one
    have o4 := h2'.one
    have g0 : ((m.alloc (.cells 26 [.int .i64 k, .str t, ka, kb])).alloc (.cells 26 [.int .i64 k', .str t', ka', kb'])).get m.next = .cells 26 [.int .i64 k, .str t, ka, kb] := by rw [get_old (by simp [Mem.alloc])]; exact get_new
    have g1 : ((m.alloc (.cells 26 [.int .i64 k, .str t, ka, kb])).alloc (.cells 26 [.int .i64 k', .str t', ka', kb'])).get (m.next + 1) = .cells 26 [.int .i64 k', .str t', ka', kb'] := get_new
    have E : Ext m ((m.alloc (.cells 26 [.int .i64 k, .str t, ka, kb])).alloc (.cells 26 [.int .i64 k', .str t', ka', kb'])) := (Ext.alloc _ _).trans (Ext.alloc _ _)
    simp only [go_sem, reduceIte, Nat.reduceEqDiff, Nat.reduceAdd, q20, q20r0, o1, o2, o3, o4, next_alloc]
    generalize (m.alloc (.cells 26 [.int .i64 k, .str t, ka, kb])).alloc (.cells 26 [.int .i64 k', .str t', ka', kb']) = M at g0 g1 E
    have no : ¬ (k = k' ∧ t = t' ∧ keys = keys' ∧ kids = kids') → r = false := by
      intro h
      cases r with
      | false => rfl
      | true => exact absurd (hr.1 rfl) h
    by_cases hk : k = k'
    · have e1 : (k == k') = true := iqT hk
      by_cases ht : t = t'
      · have e2 : (t == t') = true := str_beq ht
        by_cases hks : keys = keys'
        · simp only [go_sem, reduceIte, Nat.reduceEqDiff, Nat.reduceAdd, q20r1, g0, g1, e1, e2]
          refine callW_ret (peq_ok h1 h1' (by omega) M (r := true) ⟨fun _ => hks, fun _ => rfl⟩) ?_
          have h36 : ∃ v m', CS 36 [kb, kb', .fn (.func 20) [] []] M (.ret v) m' ∧ v = .bool r ∧ Ext M m' := by
            refine call_some (R := fun v m' => v = .bool r ∧ Ext M m') xfok mixed q36at q36ok rfl ?_
            by_cases hl : kids.length = kids'.length
            · have e3 : (((xs.length : Nat) : Int) != ((ys.length : Nat) : Int)) = false := bnF (by omega)
              simp only [go_sem, reduceIte, Nat.reduceEqDiff, Nat.reduceAdd, q36, q36r0, q36r1, h2.isLK, h2.len, h2'.isLK, h2'.len, e3, q36r3]
              refine peqf_loop (m := M) h2 h2' hxl hyl hx2 hy2 hl (by omega) ih (fun h M' hE z0 z1 z2 z3 z4 z5 z6 z7 z8 z9 z10 z11 z12 => ?_) (fun h M' hE z0 z1 z2 z4 z5 z6 z7 z8 z9 z10 z11 z12 => ?_) kids.length 0 M _ _ _ _ _ _ _ _ (by omega) (Ext.refl M) (fun j hj => by omega)
              · obtain rfl : r = true := hr.2 ⟨hk, ht, hks, h⟩
                simp only [go_sem, reduceIte, Nat.reduceEqDiff, Nat.reduceAdd, q36r11]
                exact hE
              · rw [no (fun h' => h h'.2.2.2)]
                simp only [go_sem, reduceIte, Nat.reduceEqDiff, Nat.reduceAdd]
                exact hE
            · have e3 : (((xs.length : Nat) : Int) != ((ys.length : Nat) : Int)) = true := bnT (by omega)
              rw [no (fun h' => hl (by rw [h'.2.2.2]))]
              simp only [go_sem, reduceIte, Nat.reduceEqDiff, Nat.reduceAdd, q36, q36r0, q36r1, h2.isLK, h2.len, h2'.isLK, h2'.len, e3, q36r2]
              exact Ext.refl M
          obtain ⟨v, M2, c1, rfl, c2⟩ := h36
          simp only [go_sem, reduceIte, Nat.reduceEqDiff, Nat.reduceAdd, g0, g1]
          refine callW_ret c1 ?_
          simp only [go_sem, reduceIte, Nat.reduceEqDiff, Nat.reduceAdd]
          exact E.trans c2
        · rw [no (fun h => hks h.2.2.1)]
          simp only [go_sem, reduceIte, Nat.reduceEqDiff, Nat.reduceAdd, q20r1, g0, g1, e1, e2]
          refine callW_ret (peq_ok h1 h1' (by omega) M (r := false) ⟨(fun h => by cases h), fun h => absurd h hks⟩) ?_
          simp only [go_sem, reduceIte, Nat.reduceEqDiff, Nat.reduceAdd]
          exact E
      · have e2 : (t == t') = false := str_bne ht
        rw [no (fun h => ht h.2.1)]
        simp only [go_sem, reduceIte, Nat.reduceEqDiff, Nat.reduceAdd, q20r1, g0, g1, e1, e2]
        exact E
    · have e1 : (k == k') = false := iqF hk
      rw [no (fun h => hk h.1)]
      simp only [go_sem, reduceIte, Nat.reduceEqDiff, Nat.reduceAdd, q20r1, g0, g1, e1]
      exact E
end Go.Proofs.YtinlfdkalijffaaDoor.Am.Q
namespace Go.Proofs.YtinlfdkalijffaaDoor.Am.Q
open Go Go.Proofs Go.Proofs.YtinlfdkalijffaaDoor.Am
structure KeepG (p : Nat) (M M' : Mem) : Prop where
  get : ∀ i, i < M.next → i ≠ p → M'.get i = M.get i
  next : M.next ≤ M'.next
theorem KeepG.refl (p : Nat) (M : Mem) : KeepG p M M := ⟨fun _ _ _ => rfl, Nat.le_refl _⟩
theorem KeepG.trans {p : Nat} {a b c : Mem} (h : KeepG p a b) (k : KeepG p b c) : KeepG p a c := ⟨fun i hi hp => (k.get i (Nat.lt_of_lt_of_le hi h.next) hp).trans (h.get i hi hp), Nat.le_trans h.next k.next⟩
theorem KeepG.of_ext {p : Nat} {M M' : Mem} (h : Ext M M') : KeepG p M M' := ⟨fun i hi _ => h.get i hi, h.next⟩
theorem KeepG.setp {p : Nat} {M M' : Mem} (h : KeepG p M M') (o : AObj) : KeepG p M (M'.set p o) := ⟨fun i hi hp => by rw [get_set_other hp]; exact h.get i hi hp, h.next⟩
theorem mine_app2 {mb m : Mem} {a : AV} {xs : List UInt8} (h : Mine mb m 5 1 a (bytesAV xs)) (hm : mb.ntok ≤ m.ntok) (hx : xs.length < 2 ^ 43) {l : List UInt8} (hl : l.length < 2 ^ 43) : ∃ v m', appendV m 5 1 1 a (bytesAV l) = some (v, m') ∧ App mb m xs l v m' ∧ m'.next = m.next := by
  obtain ⟨a', M2, n1, n2, n3, n4, n5, n6⟩ := h.append (bytes := 1) (ys := bytesAV l) hm (by rw [bytes_len, bytes_len]; simp [roomMax]; omega) (bytes_good l)
  rw [bytes_append] at n2
  exact ⟨a', M2, n1, ⟨n2, n3, n5, n6⟩, n4⟩
def BSt (p : Nat) (mb M : Mem) (out : List UInt8) : Prop := ∃ a b, M.get p = .cells 60 [a, b] ∧ (a = .nilPtr ∨ a = .ptr p 0) ∧ Mine mb M 5 1 b (bytesAV out) ∧ ExtB p mb M ∧ p < M.next
theorem BSt.ext {p : Nat} {mb M M' : Mem} {out : List UInt8} (h : BSt p mb M out) (k : Ext M M') : BSt p mb M' out := by
  obtain ⟨a, b, h1, h2, h3, h4, h5⟩ := h
  exact ⟨a, b, by rw [k.get p h5]; exact h1, h2, h3.ext (ext_extB (p := p) k), h4.trans (ext_extB k), Nat.lt_of_lt_of_le h5 k.next⟩
theorem copy_ok {p : Nat} {mb M : Mem} {out : List UInt8} (h : BSt p mb M out) : ∃ v M', CS 73 [.ptr p 0] M (.ret v) M' ∧ ∃ b, M'.get p = .cells 60 [.ptr p 0, b] ∧ Mine mb M' 5 1 b (bytesAV out) ∧ ExtB p mb M' ∧ p < M'.next ∧ KeepG p M M' := by
  obtain ⟨a, b, h1, h2, h3, h4, h5⟩ := h
  refine call_some (R := fun _ M' => ∃ b, M'.get p = .cells 60 [.ptr p 0, b] ∧ Mine mb M' 5 1 b (bytesAV out) ∧ ExtB p mb M' ∧ p < M'.next ∧ KeepG p M M') xfok mixed q73at q73ok rfl ?_
  rcases h2 with rfl | rfl
  · have c1 : convPV M (.ptr p 0) = some (.ptr p 0) := by simp [convPV, h1]
    have c2 : convUV M [(60, 2, 0)] (.ptr p 0) = some (.ptr p 0) := by simp [convUV, h1]
    have s0 : eqSafeB M .nilPtr .nilPtr = true := rfl
    have s1 : eqV (.leaf .ptr) .nilPtr .nilPtr = some true := rfl
    simp only [go_sem, reduceIte, Nat.reduceEqDiff, Nat.reduceAdd, q73, q73r0, h1, s0, s1, show (true != false) = true from rfl, q73r1, c1, c2]
    exact ⟨b, rfl, h3.ext ((ExtB.refl p M).setp _), h4.setp _, h5, (KeepG.refl p M).setp _⟩
  · have s0 : eqSafeB M (.ptr p 0) .nilPtr = true := rfl
    have s1 : eqV (.leaf .ptr) (.ptr p 0) .nilPtr = some false := rfl
    have s2 : eqSafeB M (.ptr p 0) (.ptr p 0) = true := by simp [eqSafeB, h1, isCells]
    have s3 : eqV (.leaf .ptr) (.ptr p 0) (.ptr p 0) = some true := by simp [eqV, eqL]
    simp only [go_sem, reduceIte, Nat.reduceEqDiff, Nat.reduceAdd, q73, q73r0, h1, s0, s1, show (false != false) = false from rfl, q73r2, s2, s3, show (true != true) = false from rfl]
    exact ⟨b, rfl, h3, h4, h5, KeepG.refl p M⟩
theorem wbyte_k {p : Nat} {mb M : Mem} {out : List UInt8} (h : BSt p mb M out) (hl : out.length < 2 ^ 42) (c : UInt8) : ∃ v M', CS 53 [.ptr p 0, .int .u8 c.toNat] M (.ret v) M' ∧ BSt p mb M' (out ++ [c]) ∧ KeepG p M M' := by
  obtain ⟨v, M1, c1, b, h1, h3, h4, h5, h6⟩ := copy_ok h
  obtain ⟨v2, M2, n1, n2, n3⟩ := mine_app2 h3 h4.ntok (by omega) (l := [c]) (by simp)
  have n1' : appendV M1 5 1 1 b [.int .u8 c.toNat] = some (v2, M2) := n1
  have h2 : M2.get p = .cells 60 [.ptr p 0, b] := by rw [n2.get]; exact h1
  refine call_some (R := fun _ M' => BSt p mb M' (out ++ [c]) ∧ KeepG p M M') xfok mixed q53at q53ok rfl ?_
  simp only [go_sem, reduceIte, Nat.reduceEqDiff, Nat.reduceAdd, q53, q53r0, q53r1]
  refine callW_ret c1 ?_
  simp only [go_sem, reduceIte, Nat.reduceEqDiff, Nat.reduceAdd, q53r2, h1, elems, n1', h2, n2.mine.sl.one, n2.mine.sl.cells, q53r3]
  refine ⟨⟨_, _, get_set_same, .inr rfl, n2.mine.ext ((ExtB.refl p M2).setp _), (n2.ext p h4).setp _, by show _ < M2.next; omega⟩, (h6.trans ⟨fun i _ _ => by rw [n2.get], by omega⟩).setp _⟩
theorem wbyte_ok {p : Nat} {mb M : Mem} {out : List UInt8} (h : BSt p mb M out) (hl : out.length < 2 ^ 42) (c : UInt8) : ∃ v M', CS 53 [.ptr p 0, .int .u8 c.toNat] M (.ret v) M' ∧ BSt p mb M' (out ++ [c]) := by
  obtain ⟨v, M', h1, h2, _⟩ := wbyte_k h hl c
  exact ⟨v, M', h1, h2⟩
theorem wstr_k {p : Nat} {mb M : Mem} {out : List UInt8} (h : BSt p mb M out) (hl : out.length < 2 ^ 42) {l : List UInt8} (hll : l.length < 2 ^ 42) : ∃ v M', CS 51 [.ptr p 0, .str l] M (.ret v) M' ∧ BSt p mb M' (out ++ l) ∧ KeepG p M M' := by
  obtain ⟨v, M1, c1, b, h1, h3, h4, h5, h6⟩ := copy_ok h
  obtain ⟨v2, M2, n1, n2, n3⟩ := mine_app2 h3 h4.ntok (by omega) (l := l) (by omega)
  have h2 : M2.get p = .cells 60 [.ptr p 0, b] := by rw [n2.get]; exact h1
  refine call_some (R := fun _ M' => BSt p mb M' (out ++ l) ∧ KeepG p M M') xfok mixed q51at q51ok rfl ?_
  simp only [go_sem, reduceIte, Nat.reduceEqDiff, Nat.reduceAdd, q51, q51r0, q51r1]
  refine callW_ret c1 ?_
  simp only [go_sem, reduceIte, Nat.reduceEqDiff, Nat.reduceAdd, q51r2, h1, elems, n1, h2, n2.mine.sl.one, n2.mine.sl.cells, q51r3]
  refine ⟨⟨_, _, get_set_same, .inr rfl, n2.mine.ext ((ExtB.refl p M2).setp _), (n2.ext p h4).setp _, by show _ < M2.next; omega⟩, (h6.trans ⟨fun i _ _ => by rw [n2.get], by omega⟩).setp _⟩
theorem wstr_ok {p : Nat} {mb M : Mem} {out : List UInt8} (h : BSt p mb M out) (hl : out.length < 2 ^ 42) {l : List UInt8} (hll : l.length < 2 ^ 42) : ∃ v M', CS 51 [.ptr p 0, .str l] M (.ret v) M' ∧ BSt p mb M' (out ++ l) := by
  obtain ⟨v, M', h1, h2, _⟩ := wstr_k h hl hll
  exact ⟨v, M', h1, h2⟩
theorem blen_ok {p : Nat} {mb M : Mem} {out : List UInt8} (h : BSt p mb M out) : CS 30 [.ptr p 0] M (.ret (.int .i64 out.length)) M := by
  obtain ⟨a, b, h1, _, h3, _, _⟩ := h
  refine call_by xfok mixed q30at q30ok rfl ?_
  simp only [go_sem, reduceIte, Nat.reduceEqDiff, Nat.reduceAdd, q30, q30r0, q30r1, h1, h3.sl.isLK, h3.sl.len, bytes_len]
theorem bstr_ok {p : Nat} {mb M : Mem} {out : List UInt8} (h : BSt p mb M out) (hne : out ≠ []) (hl : out.length < 2 ^ 42) : ∃ v M', CS 31 [.ptr p 0] M (.ret v) M' ∧ v = .str out ∧ ExtB p mb M' := by
  obtain ⟨a, b, h1, _, h3, h4, _⟩ := h
  refine call_some (R := fun v M' => v = .str out ∧ ExtB p mb M') xfok mixed q31at q31ok rfl ?_
  have hsl := h3.sl
  rcases h3 with ⟨_, h⟩ | ⟨t, rfl, k1, k2, k3, k4⟩
  · cases out with
    | nil => exact absurd rfl hne
    | cons c r => simp [bytesAV] at h
  · cases hout : bytesAV out with
    | nil => cases out with
      | nil => exact absurd rfl hne
      | cons c r => simp [bytesAV] at hout
    | cons x r =>
      have hub := unbytes_bytes out
      have hlen : (x :: r).length = out.length := by rw [← hout, bytes_len]
      rw [hout] at hub h1 hsl
      have s1 : sliceDataV M (.sl (.tok t) 1 (x :: r)) = some (.bptr (M.tty t) (x :: r), M.killTok t) := by
        simp only [sliceDataV]; rw [if_pos ⟨trivial, k1, by rw [hub]; rfl⟩]
      have g2 : (M.killTok t).get p = .cells 60 [a, .sl (.tok t) 1 (x :: r)] := h1
      have s2 : unsafeStrV 5 (.bptr (M.tty t) (x :: r)) (.int .i64 ((x :: r).length : Nat)) = some (.str out) := by
        simp only [unsafeStrV]; rw [if_pos ⟨k2, trivial, by rw [hlen]; simp [roomMax]; omega⟩, hub]
      simp only [go_sem, reduceIte, Nat.reduceEqDiff, Nat.reduceAdd, q31, q31r0, q31r1, h1, s1, g2, hsl.isLK, hsl.len, s2, pushH_true]
      refine ⟨?_, ?_⟩
      · intro q hq _ _
        simp only [List.mem_singleton] at hq
        subst hq
        intro _ m1 m2 e1 e2
        have e1' : some M = some m1 := e1
        have e2' : some (M.killTok t) = some m2 := e2
        injection e1' with e1'
        injection e2' with e2'
        subst e1'; subst e2'
        have key : ∀ (M' : Mem) (env fr : List AV), M'.get p = .cells 60 [a, .sl (.tok t) 1 (x :: r)] → (evalP (Opd.ev (.ptr p 1 :: env) fr) M' (.load false 1 (.loc 0))).map (·.1) = some (.sl (.tok t) 1 (x :: r)) := by
          intro M' env fr h
          have L : M'.load false 1 (.ptr p 1) = some (.sl (.tok t) 1 (x :: r)) := by rw [load_ptr, h]; rfl
          simp only [evalP, ev_loc0, L, Option.map_some]
        exact ⟨key _ _ _ h1, key _ _ _ g2⟩
      · simp only [go_sem, reduceIte, Nat.reduceEqDiff, Nat.reduceAdd]
        exact h4.killTok k3
end Go.Proofs.YtinlfdkalijffaaDoor.Am.Q
namespace Go.Proofs.YtinlfdkalijffaaDoor.Am.Q
open Go Go.Proofs Go.Proofs.YtinlfdkalijffaaDoor.Am
def sevF : List UInt8 := [8, 9, 10, 12, 13, 34, 92]
def sevT : List UInt8 := [98, 116, 110, 102, 114, 34, 92]
def hexs : List UInt8 := [48, 49, 50, 51, 52, 53, 54, 55, 56, 57, 97, 98, 99, 100, 101, 102]
def escB (c : UInt8) : List UInt8 :=
  match sevF.findIdx? (· == c) with
  | some k => [92, sevT.getD k 0]
  | none => if c.toNat < 32 ∨ c.toNat = 127 then [92, 117, 48, 48, hexs.getD (c.toNat / 16) 0, hexs.getD (c.toNat % 16) 0] else [c]
def quotS (s : List UInt8) : List UInt8 := [34] ++ (s.flatMap escB ++ [34])
theorem escB_len (c : UInt8) : (escB c).length ≤ 6 ∧ 1 ≤ (escB c).length := by
  unfold escB; split
  · simp
  · split <;> simp
theorem esc_at {k : Nat} {c : UInt8} (h : sevF[k]? = some c) : escB c = [92, sevT.getD k 0] := by
  have hk : k < 7 := (List.getElem?_eq_some_iff.1 h).1
  have key : ∀ j : Fin 7, escB (sevF.getD j.val 0) = [92, sevT.getD j.val 0] := by decide +kernel
  have := key ⟨k, hk⟩
  rw [show sevF.getD k 0 = c by simp [List.getD, h]] at this
  exact this
theorem esc_none {c : UInt8} (h : c ∉ sevF) : escB c = if c.toNat < 32 ∨ c.toNat = 127 then [92, 117, 48, 48, hexs.getD (c.toNat / 16) 0, hexs.getD (c.toNat % 16) 0] else [c] := by
  unfold escB
  rw [List.findIdx?_eq_none_iff.2 (fun x hx => by
    simp only [beq_eq_false_iff_ne, ne_eq]
    rintro rfl; exact h hx)]
theorem hexs_at {n : Nat} (h : n < 16) {k : IntKind} : idxSV (.str [48, 49, 50, 51, 52, 53, 54, 55, 56, 57, 97, 98, 99, 100, 101, 102]) (.int k (n : Int)) = some (.int .u8 (hexs.getD n 0).toNat) := by
  refine idxS_at (s := hexs) ?_
  rw [List.getElem?_eq_getElem (show n < hexs.length from h)]
  simp [List.getD, show n < hexs.length from h]
theorem flat_len (l : List UInt8) : (l.flatMap escB).length ≤ 6 * l.length := by
  induction l with
  | nil => simp
  | cons c l ih => have := (escB_len c).1; simp only [List.flatMap_cons, List.length_append, List.length_cons]; omega
end Go.Proofs.YtinlfdkalijffaaDoor.Am.Q
namespace Go.Proofs.YtinlfdkalijffaaDoor.Am.Q
open Go Go.Proofs Go.Proofs.YtinlfdkalijffaaDoor.Am
theorem byte_all {P : UInt8 → Bool} (h : ∀ n : Fin 256, P (UInt8.ofNat n.val) = true) (c : UInt8) : P c = true := by
  have := h ⟨c.toNat, c.toNat_lt⟩
  simpa using this
theorem fA (c : UInt8) (h : c ∈ sevF) : ∃ k : Nat, k < 7 ∧ sevF[k]? = some c ∧ indexB c escT = (k : Int) ∧ c.toNat ≠ 47 := by
  have := byte_all (P := fun c => decide (c ∈ sevF → ∃ k : Fin 7, sevF[k.val]? = some c ∧ indexB c escT = (k.val : Int) ∧ c.toNat ≠ 47)) (by decide +kernel) c
  obtain ⟨k, h1, h2, h3⟩ := (of_decide_eq_true this) h
  exact ⟨k.val, k.isLt, h1, h2, h3⟩
theorem fB (c : UInt8) (h : c ∉ sevF) : decide (indexB c escT ≥ 0) = false ∨ (decide (indexB c escT ≥ 0) = true ∧ c.toNat = 47) := by
  have := byte_all (P := fun c => decide (c ∉ sevF → (decide (indexB c escT ≥ 0) = false ∨ (decide (indexB c escT ≥ 0) = true ∧ c.toNat = 47)))) (by decide +kernel) c
  exact (of_decide_eq_true this) h
theorem escL_at {k : Nat} (h : k < 7) {kk : IntKind} : idxSV (.str [98, 116, 110, 102, 114, 34, 92, 47]) (.int kk (k : Int)) = some (.int .u8 (sevT.getD k 0).toNat) := by
  refine idxS_at (s := escL) ?_
  have key : ∀ j : Fin 7, escL[j.val]? = some (sevT.getD j.val 0) := by decide
  exact key ⟨k, h⟩
theorem and15 {x : Nat} (hx : x < 256) : IntKind.u8.wrap (((@HAnd.hAnd (BitVec 8) (BitVec 8) (BitVec 8) (@instHAndOfAndOp (BitVec IntKind.u8.bits) (@BitVec.instAndOp IntKind.u8.bits)) (BitVec.ofInt 8 (x : Int)) (BitVec.ofInt 8 15)).toNat : Nat) : Int) = ((x % 16 : Nat) : Int) := by
  have h : ∀ y : Fin 256, IntKind.u8.wrap (((@HAnd.hAnd (BitVec 8) (BitVec 8) (BitVec 8) (@instHAndOfAndOp (BitVec IntKind.u8.bits) (@BitVec.instAndOp IntKind.u8.bits)) (BitVec.ofInt 8 ((y.val : Nat) : Int)) (BitVec.ofInt 8 15)).toNat : Nat) : Int) = ((y.val % 16 : Nat) : Int) := by decide +kernel
  exact h ⟨x, hx⟩
theorem shr4 {n : Nat} : (n : Int).fdiv (2 ^ min (Int.toNat 4) 8) = ((n / 16 : Nat) : Int) := by
  show (n : Int).fdiv ((16 : Nat) : Int) = _
  rw [Int.fdiv_eq_ediv_of_nonneg _ (by omega)]; rfl
theorem le0_4 : ((0 : Int) ≤ 4) = True := by simp
theorem pquot_loop {m : Mem} {p : Nat} {s : List UInt8} (hs : s.length < 2 ^ 38) {Q : AExit → List AV → Mem → Prop}
    (hx : ∀ M, BSt p m M (34 :: s.flatMap escB) → ∀ g0 g1 g3 g4 g5 g6 g7 g8 g9 g10, Q (.exit 0) [g0, g1, .ptr p 0, g3, g4, g5, g6, g7, g8, g9, g10] M) :
    ∀ (r i : Nat) (M : Mem) (g1 g3 g4 g5 g8 g9 g10 : AV), i + r = s.length → BSt p m M (34 :: (s.take i).flatMap escB) →
      wl CS [1, 3, 4, 5, 8, 9, 10] q52l17 Q [.str s, g1, .ptr p 0, g3, g4, g5, .int .i64 s.length, .int .i64 i, g8, g9, g10] M := by
  intro r
  induction r with
  | zero =>
    intro i M g1 g3 g4 g5 g8 g9 g10 hi hB
    refine wl_step ?_
    have e1 : decide ((i : Int) < (s.length : Nat)) = false := dF (by omega)
    rw [List.take_of_length_le (by omega)] at hB
    simp only [go_sem, reduceIte, Nat.reduceEqDiff, Nat.reduceAdd, q52l17, q52r4, e1]
    exact hx _ hB _ _ _ _ _ _ _ _ _ _
  | succ r ih =>
    intro i M g1 g3 g4 g5 g8 g9 g10 hi hB
    refine wl_step ?_
    have hlt : i < s.length := by omega
    have e1 : decide ((i : Int) < (s.length : Nat)) = true := dT (by omega)
    have hc : s[i]? = some s[i] := List.getElem?_eq_getElem hlt
    have hw := wrap_succ (i := i) (by omega)
    have ht : (34 :: (s.take (i + 1)).flatMap escB : List UInt8) = (34 :: (s.take i).flatMap escB) ++ escB s[i] := by rw [List.take_add_one, hc, List.flatMap_append]; simp only [Option.toList_some, List.flatMap_cons, List.flatMap_nil, List.append_nil, List.cons_append]
    have hlen : (34 :: (s.take i).flatMap escB : List UInt8).length + 10 < 2 ^ 42 := by have := flat_len (s.take i); rw [List.length_take] at this; simp only [List.length_cons]; omega
    generalize hout : (34 :: (s.take i).flatMap escB : List UInt8) = out at hB ht hlen
    have hcl := (s[i]).toNat_lt
    generalize s[i] = c at *
    have next : ∀ (M2 : Mem), BSt p m M2 (out ++ escB c) → ∀ g1 g3 g4 g5 g8 g9 g10, wl CS [1, 3, 4, 5, 8, 9, 10] q52l17 Q [.str s, g1, .ptr p 0, g3, g4, g5, .int .i64 s.length, .int .i64 (i + 1 : Nat), g8, g9, g10] M2 := by
      intro M2 hA z1 z3 z4 z5 z8 z9 z10
      exact ih (i + 1) M2 _ _ _ _ _ _ _ (by omega) (by rw [ht]; exact hA)
    simp only [go_sem, reduceIte, Nat.reduceEqDiff, Nat.reduceAdd, q52l17, q52r4, e1, q52r5, q52r6, idxS_at hc, q52r7]
    refine callW_ret (index_byte_ok escT c M) ?_
    by_cases hin : c ∈ sevF
    · obtain ⟨k, hk, hk1, hk2, hk3⟩ := fA c hin
      have e2 : decide ((k : Int) ≥ 0) = true := dT (by omega)
      have e3 : ((c.toNat : Int) != 47) = true := bnT (by omega)
      have he := esc_at hk1
      rw [hk2]
      obtain ⟨v1, M1, c1, B1⟩ := wbyte_ok hB (by omega) 92
      obtain ⟨v2, M2, c2, B2⟩ := wbyte_ok B1 (by rw [List.length_append, List.length_singleton]; omega) (sevT.getD k 0)
      have c1' : CS 53 [.ptr p 0, .int .u8 92] M (.ret v1) M1 := c1
      simp only [go_sem, reduceIte, Nat.reduceEqDiff, Nat.reduceAdd, q52r8, e2, e3, q52r9]
      refine callW_ret c1' ?_
      simp only [go_sem, reduceIte, Nat.reduceEqDiff, Nat.reduceAdd, q52r10, escL_at hk]
      refine callW_ret c2 ?_
      simp only [go_sem, reduceIte, Nat.reduceEqDiff, Nat.reduceAdd, q52r16, hw]
      exact next M2 (by rw [he]; simpa using B2) _ _ _ _ _ _ _
    · have he := esc_none hin
      have rest : ∀ {Q' : AExit → List AV → Mem → Prop}, (∀ M2, BSt p m M2 (out ++ escB c) → ∀ a1 a3 a4 a5 a8 a9 a10, Q' .normal [.str s, a1, .ptr p 0, a3, a4, a5, .int .i64 s.length, .int .i64 i, a8, a9, a10] M2) → ∀ (g1 g3 g5 g8 g9 g10 : AV), wc CS (.seq (.region q52r11) (.cond (.var 10) (.seq (.region q52r12) (.seq (.region q52r13) (.region q52r14))) (.region q52r15)))
          Q' [.str s, g1, .ptr p 0, g3, .int .u8 c.toNat, g5, .int .i64 s.length, .int .i64 i, g8, g9, g10] M := by
        intro Q' hq z1 z3 z5 z8 z9 z10
        have hexcase : (c.toNat < 32 ∨ c.toNat = 127) → wc CS (.seq (.region q52r12) (.seq (.region q52r13) (.region q52r14)))
          Q' [.str s, z1, .ptr p 0, z3, .int .u8 c.toNat, z5, .int .i64 s.length, .int .i64 i, z8, z9, .bool true] M := by
          intro h
          rw [if_pos h] at he
          obtain ⟨v1, M1, c1, B1⟩ := wstr_ok hB (by omega) (l := [92, 117, 48, 48]) (by simp)
          obtain ⟨v2, M2, c2, B2⟩ := wbyte_ok B1 (by rw [List.length_append]; simp only [List.length_cons, List.length_nil]; omega) (hexs.getD (c.toNat / 16) 0)
          obtain ⟨v3, M3, c3, B3⟩ := wbyte_ok B2 (by rw [List.length_append, List.length_append]; simp only [List.length_cons, List.length_nil]; omega) (hexs.getD (c.toNat % 16) 0)
          have hc16 : c.toNat / 16 < 16 := by omega
          simp only [go_sem, reduceIte, Nat.reduceEqDiff, Nat.reduceAdd, q52r12]
          refine callW_ret c1 ?_
          simp only [go_sem, reduceIte, Nat.reduceEqDiff, Nat.reduceAdd, q52r13, le0_4, shr4, hexs_at hc16]
          refine callW_ret c2 ?_
          simp only [go_sem, reduceIte, Nat.reduceEqDiff, Nat.reduceAdd, q52r14, and15 hcl, hexs_at (Nat.mod_lt c.toNat (by omega : 16 > 0))]
          refine callW_ret c3 ?_
          simp only [go_sem, reduceIte, Nat.reduceEqDiff, Nat.reduceAdd]
          exact hq _ (by rw [he]; simpa using B3) _ _ _ _ _ _ _
        by_cases h32 : c.toNat < 32
        · have e5 : decide ((c.toNat : Int) < 32) = true := dT (by omega)
          have := hexcase (.inl h32)
          simp only [go_sem, reduceIte, Nat.reduceEqDiff, Nat.reduceAdd, q52r11, e5] at this ⊢
          exact this
        · have e5 : decide ((c.toNat : Int) < 32) = false := dF (by omega)
          by_cases h127 : c.toNat = 127
          · have e6 : ((c.toNat : Int) == 127) = true := bqT (by omega)
            have := hexcase (.inr h127)
            simp only [go_sem, reduceIte, Nat.reduceEqDiff, Nat.reduceAdd, q52r11, e5, e6] at this ⊢
            exact this
          · have e6 : ((c.toNat : Int) == 127) = false := bqF (by omega)
            rw [if_neg (by omega)] at he
            obtain ⟨v1, M1, c1, B1⟩ := wbyte_ok hB (by omega) c
            simp only [go_sem, reduceIte, Nat.reduceEqDiff, Nat.reduceAdd, q52r11, e5, e6, q52r15]
            refine callW_ret c1 ?_
            simp only [go_sem, reduceIte, Nat.reduceEqDiff, Nat.reduceAdd]
            exact hq _ (by rw [he]; exact B1) _ _ _ _ _ _ _
      rcases fB c hin with e2 | ⟨e2, h47⟩
      · simp only [go_sem, reduceIte, Nat.reduceEqDiff, Nat.reduceAdd, q52r8, e2]
        rw [← wc_start]
        refine rest (fun M2 hA a1 a3 a4 a5 a8 a9 a10 => ?_) _ _ _ _ _ _
        simp only [go_sem, reduceIte, Nat.reduceEqDiff, Nat.reduceAdd, q52r16, hw]
        exact next M2 hA _ _ _ _ _ _ _
      · have e3 : ((c.toNat : Int) != 47) = false := bnF (by omega)
        simp only [go_sem, reduceIte, Nat.reduceEqDiff, Nat.reduceAdd, q52r8, e2, e3]
        rw [← wc_start]
        refine rest (fun M2 hA a1 a3 a4 a5 a8 a9 a10 => ?_) _ _ _ _ _ _
        simp only [go_sem, reduceIte, Nat.reduceEqDiff, Nat.reduceAdd, q52r16, hw]
        exact next M2 hA _ _ _ _ _ _ _
theorem pquoted_ok {s : List UInt8} (hs : s.length < 2 ^ 38) (m : Mem) : ∃ v m', CS 52 [.str s] m (.ret v) m' ∧ v = .str (quotS s) ∧ Ext m m' := by
  refine call_some (R := fun v m' => v = .str (quotS s) ∧ Ext m m') xfok mixed q52at q52ok rfl ?_
  have hl := flat_len s
  have B0 : BSt m.next m (m.alloc (.cells 60 [.nilPtr, .nilSl])) [] := ⟨_, _, get_new, .inl rfl, .nil, (ExtB.refl m.next m).alloc _, by rw [next_alloc]; omega⟩
  simp only [go_sem, reduceIte, Nat.reduceEqDiff, Nat.reduceAdd, q52, q52r0, q52r1, q52r2]
  generalize m.alloc (.cells 60 [.nilPtr, .nilSl]) = M0 at B0
  obtain ⟨v1, M1, c1, B1⟩ := wbyte_ok B0 (by simp) 34
  have c1' : CS 53 [.ptr m.next 0, .int .u8 34] M0 (.ret v1) M1 := c1
  refine callW_ret c1' ?_
  simp only [go_sem, reduceIte, Nat.reduceEqDiff, Nat.reduceAdd, q52r3]
  refine pquot_loop (m := m) (p := m.next) hs (fun M2 B2 z0 z1 z3 z4 z5 z6 z7 z8 z9 z10 => ?_) s.length 0 M1 _ _ _ _ _ _ _ (by omega) B1
  obtain ⟨v3, M3, c3, B3⟩ := wbyte_ok B2 (by simp only [List.length_cons]; omega) 34
  have c3' : CS 53 [.ptr m.next 0, .int .u8 34] M2 (.ret v3) M3 := c3
  simp only [go_sem, reduceIte, Nat.reduceEqDiff, Nat.reduceAdd, q52r18]
  refine callW_ret c3' ?_
  obtain ⟨v4, M4, c4, rfl, h4⟩ := bstr_ok B3 (by simp) (by rw [List.length_append]; simp only [List.length_cons, List.length_nil]; omega)
  simp only [go_sem, reduceIte, Nat.reduceEqDiff, Nat.reduceAdd, q52r19]
  refine callW_ret c4 ?_
  simp only [go_sem, reduceIte, Nat.reduceEqDiff, Nat.reduceAdd]
  exact ⟨by simp [quotS], extB_ext h4 (Nat.le_refl _)⟩
end Go.Proofs.YtinlfdkalijffaaDoor.Am.Q
