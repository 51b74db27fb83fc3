import Derived.Test.YtinlfdkalijffaaDoorKM4
set_option linter.unusedSimpArgs false
set_option linter.unusedVariables false
/-
  JSON, 45: which values may be: the keys of a table.
-/
namespace Go.Proofs.YtinlfdkalijffaaDoor.Am.Q
open Go Go.Proofs Go.Proofs.YtinlfdkalijffaaDoor.Am

/-- Does a text stand twice, or among those that are met. -/
def twS : List (List UInt8) → List (List UInt8) → Bool
  | _, [] => false
  | met, s :: r => decide (s ∈ met) || twS (met ++ [s]) r
theorem pdup_loop {m : Mem} {w : Nat} {a : AV} {ks : List (List UInt8)} (ha : SlOf 1 a (ks.map .str)) (hl : ks.length < 2 ^ 60) (hw : m.next ≤ w) {B : Bool} {Q : AExit → List AV → Mem → Prop}
    (hx : B = false → ∀ M, Ext m M → ∀ g0 g1 g2 g3 g4 g5 g6 g7 g8, Q (.exit 0) [g0, g1, g2, g3, g4, g5, g6, g7, g8] M) (hr : B = true → ∀ M, Ext m M → ∀ g0 g2 g3 g4 g5 g6 g7 g8, Q .ret [g0, .bool true, g2, g3, g4, g5, g6, g7, g8] M) :
    ∀ (r i : Nat) (M : Mem) (g0 g1 g3 g7 g8 : AV), i + r = ks.length → Ext m M → M.get w = .map (metOf (ks.take i)) → B = twS (ks.take i) (ks.drop i) →
      wl CS [0, 1, 3, 7, 8] q74l9 Q [g0, g1, .map w, g3, a, .int .i64 ks.length, .int .i64 i, g7, g8] M := by
  intro r
  induction r with
  | zero =>
    intro i M g0 g1 g3 g7 g8 hi hE hg hB
    refine wl_step ?_
    have e1 : decide ((i : Int) < (ks.length : Nat)) = false := dF (by omega)
    simp only [go_sem, reduceIte, Nat.reduceEqDiff, Nat.reduceAdd, q74l9, q74r3, e1]
    exact hx (by rw [hB, List.drop_of_length_le (by omega)]; rfl) _ hE _ _ _ _ _ _ _ _ _
  | succ r ih =>
    intro i M g0 g1 g3 g7 g8 hi hE hg hB
    refine wl_step ?_
    have hlt : i < ks.length := by omega
    have e1 : decide ((i : Int) < (ks.length : Nat)) = true := dT (by omega)
    have ea := ha.idx (k := .i64) (i := (i : Int)) (y := .str ks[i]) (by omega) (by simp [hlt])
    have hw1 := wrap_succ (i := i) (by omega)
    have hd : ks.drop i = ks[i] :: ks.drop (i + 1) := List.drop_eq_getElem_cons hlt
    have ht : ks.take (i + 1) = ks.take i ++ [ks[i]] := by rw [List.take_add_one, List.getElem?_eq_getElem hlt]; rfl
    rw [hd] at hB
    have hB' : B = (decide (ks[i] ∈ ks.take i) || twS (ks.take i ++ [ks[i]]) (ks.drop (i + 1))) := hB
    have kk : ∀ s, isKK .str (.str s) = true := fun _ => rfl
    by_cases hin : ks[i] ∈ ks.take i
    · rw [dT hin, Bool.true_or] at hB'
      simp only [go_sem, reduceIte, Nat.reduceEqDiff, Nat.reduceAdd, q74l9, q74r3, e1, q74r4, ea, q74r5, look_met hg, dT hin, kk, q74r6]
      exact hr hB' _ hE _ _ _ _ _ _ _ _
    · rw [dF hin, Bool.false_or] at hB'
      simp only [go_sem, reduceIte, Nat.reduceEqDiff, Nat.reduceAdd, q74l9, q74r3, e1, q74r4, ea, q74r5, look_met hg, dF hin, kk, q74r7, upd_met hg hin, q74r8, hw1]
      exact ih (i + 1) _ _ _ _ _ _ (by omega) (hE.set hw _) (by rw [ht]; exact get_set_same) (by rw [ht]; exact hB')
theorem pdup_ok {a : AV} {ks : List (List UInt8)} (ha : SlOf 1 a (ks.map .str)) (hl : ks.length < 2 ^ 60) (m : Mem) : ∃ v m', CS 74 [a] m (.ret v) m' ∧ v = .bool (twS [] ks) ∧ Ext m m' := by
  refine call_some (R := fun v m' => v = .bool (twS [] ks) ∧ Ext m m') xfok mixed q74at q74ok rfl ?_
  simp only [go_sem, reduceIte, Nat.reduceEqDiff, Nat.reduceAdd, q74, q74r0, q74r1, q74r2, ha.isLK, ha.len, List.length_map]
  refine pdup_loop (m := m) (B := twS [] ks) ha hl (Nat.le_refl _) (fun h M hE g0 g1 g2 g3 g4 g5 g6 g7 g8 => ?_) (fun h M hE g0 g2 g3 g4 g5 g6 g7 g8 => ?_) ks.length 0 _ _ _ _ _ _ (by omega) (Ext.alloc _ _) (by rw [List.take_zero]; exact get_new) (by rw [List.take_zero, List.drop_zero])
  · simp only [go_sem, reduceIte, Nat.reduceEqDiff, Nat.reduceAdd, q74r10, h]
    exact hE
  · simp only [go_sem, reduceIte, Nat.reduceEqDiff, Nat.reduceAdd, h]
    exact hE

theorem pnotext_ok {s : List UInt8} (hs : s.length < 2 ^ 60) (m : Mem) : ∃ v m', CS 76 [.str s] m (.ret v) m' ∧ v = .bool (!isT s) ∧ Ext m m' := by
  refine call_some (R := fun v m' => v = .bool (!isT s) ∧ Ext m m') xfok mixed q76at q76ok rfl ?_
  obtain ⟨v, M, h1, rfl, h2⟩ := ptext_ok hs m
  simp only [go_sem, reduceIte, Nat.reduceEqDiff, Nat.reduceAdd, q76, q76r0, q76r1]
  refine callW_ret h1 ?_
  simp only [go_sem, reduceIte, Nat.reduceEqDiff, Nat.reduceAdd]
  exact h2
def allT (ks : List (List UInt8)) : Bool := ks.all isT
theorem pbad_loop {m : Mem} {a : AV} {ks : List (List UInt8)} (ha : SlOf 1 a (ks.map .str)) (hl : ks.length < 2 ^ 60) (hks : ∀ k ∈ ks, k.length < 2 ^ 60) {B : Bool} {Q : AExit → List AV → Mem → Prop}
    (hx : B = true → ∀ M, Ext m M → ∀ g0 g1 g2 g3 g4 g5 g6 g7, Q (.exit 0) [g0, g1, g2, g3, g4, g5, g6, g7] M) (hr : B = false → ∀ M, Ext m M → ∀ (i : Nat) g0 g1 g3 g4 g5 g6 g7, Q .ret [g0, g1, .int .i64 i, g3, g4, g5, g6, g7] M) :
    ∀ (r i : Nat) (M : Mem) (g2 g3 g6 g7 : AV), i + r = ks.length → Ext m M → B = allT (ks.drop i) →
      wl CS [2, 3, 6, 7] q90l7 Q [a, .fn (.func 76) [] [], g2, g3, .int .i64 ks.length, .int .i64 i, g6, g7] M := by
  intro r
  induction r with
  | zero =>
    intro i M g2 g3 g6 g7 hi hE hB
    refine wl_step ?_
    have e1 : decide ((i : Int) < (ks.length : Nat)) = false := dF (by omega)
    simp only [go_sem, reduceIte, Nat.reduceEqDiff, Nat.reduceAdd, q90l7, q90r2, e1]
    exact hx (by rw [hB, List.drop_of_length_le (by omega)]; rfl) _ hE _ _ _ _ _ _ _ _
  | succ r ih =>
    intro i M g2 g3 g6 g7 hi hE hB
    refine wl_step ?_
    have hlt : i < ks.length := by omega
    have e1 : decide ((i : Int) < (ks.length : Nat)) = true := dT (by omega)
    have ea := ha.idx (k := .i64) (i := (i : Int)) (y := .str ks[i]) (by omega) (by simp [hlt])
    have hw1 := wrap_succ (i := i) (by omega)
    have hd : ks.drop i = ks[i] :: ks.drop (i + 1) := List.drop_eq_getElem_cons hlt
    rw [hd] at hB
    have hB' : B = (isT ks[i] && allT (ks.drop (i + 1))) := hB
    obtain ⟨v, M1, h1, rfl, h2⟩ := pnotext_ok (hks _ (List.getElem_mem hlt)) M
    simp only [go_sem, reduceIte, Nat.reduceEqDiff, Nat.reduceAdd, q90l7, q90r2, e1, q90r3, q90r4, ea]
    refine callW_ret h1 ?_
    cases ht : isT ks[i] with
    | true =>
      rw [ht, Bool.true_and] at hB'
      simp only [go_sem, reduceIte, Nat.reduceEqDiff, Nat.reduceAdd, q90r6, hw1]
      exact ih (i + 1) _ _ _ _ _ (by omega) (hE.trans h2) hB'
    | false =>
      rw [ht, Bool.false_and] at hB'
      simp only [go_sem, reduceIte, Nat.reduceEqDiff, Nat.reduceAdd, q90r5]
      exact hr hB' _ (hE.trans h2) i _ _ _ _ _ _ _
theorem pbad_ok {a : AV} {ks : List (List UInt8)} (ha : SlOf 1 a (ks.map .str)) (hl : ks.length < 2 ^ 60) (hks : ∀ k ∈ ks, k.length < 2 ^ 60) (m : Mem) : ∃ v m', CS 75 [a, .fn (.func 76) [] []] m (.ret v) m' ∧ v = .bool (!allT ks) ∧ Ext m m' := by
  have h90 : ∃ v m', CS 90 [a, .fn (.func 76) [] []] m (.ret v) m' ∧ (∃ n : Int, v = .int .i64 n ∧ decide (n ≥ 0) = !allT ks) ∧ Ext m m' := by
    refine call_some (R := fun v m' => (∃ n : Int, v = .int .i64 n ∧ decide (n ≥ 0) = !allT ks) ∧ Ext m m') xfok mixed q90at q90ok rfl ?_
    simp only [go_sem, reduceIte, Nat.reduceEqDiff, Nat.reduceAdd, q90, q90r0, q90r1, ha.isLK, ha.len, List.length_map]
    refine pbad_loop (m := m) (B := allT ks) ha hl hks (fun h M hE g0 g1 g2 g3 g4 g5 g6 g7 => ?_) (fun h M hE i g0 g1 g3 g4 g5 g6 g7 => ?_) ks.length 0 _ _ _ _ _ (by omega) (Ext.refl m) (by rw [List.drop_zero])
    · simp only [go_sem, reduceIte, Nat.reduceEqDiff, Nat.reduceAdd, q90r8]
      exact ⟨⟨_, rfl, by rw [h]; rfl⟩, hE⟩
    · simp only [go_sem, reduceIte, Nat.reduceEqDiff, Nat.reduceAdd]
      exact ⟨⟨_, rfl, by rw [h]; exact dT (by omega)⟩, hE⟩
  obtain ⟨v, M, h1, ⟨n, rfl, hn⟩, hE⟩ := h90
  refine call_some (R := fun v m' => v = .bool (!allT ks) ∧ Ext m m') xfok mixed q75at q75ok rfl ?_
  simp only [go_sem, reduceIte, Nat.reduceEqDiff, Nat.reduceAdd, q75, q75r0, q75r1]
  refine callW_ret h1 ?_
  simp only [go_sem, reduceIte, Nat.reduceEqDiff, Nat.reduceAdd, hn]
  exact hE
end Go.Proofs.YtinlfdkalijffaaDoor.Am.Q

/-
  JSON, 46: which values may be: one value, but for its kids.
-/
namespace Go.Proofs.YtinlfdkalijffaaDoor.Am.Q
open Go Go.Proofs Go.Proofs.YtinlfdkalijffaaDoor.Am

theorem iqT {a b : Int} (h : a = b) : (a == b) = true := by simp [h]
theorem iqF {a b : Int} (h : a ≠ b) : (a == b) = false := by simp [h]
def bareS (keys : List (List UInt8)) (nk : Nat) : Bool := decide (keys.length = 0) && decide (nk = 0)
def oneS (k : Int) (t : List UInt8) (keys : List (List UInt8)) (nk : Nat) : Bool :=
  if k = 1 then bareS keys nk && (t == [])
  else if k = 2 then bareS keys nk && (t == tTrue || t == tFalse)
  else if k = 3 then bareS keys nk && numS t
  else if k = 4 then bareS keys nk && isT t
  else if k = 5 then (t == []) && decide (keys.length = 0)
  else if k = 6 then (t == []) && decide (keys.length = nk) && (!twS [] keys && allT keys)
  else false
def poneS (k : Int) (t : List UInt8) (keys : List (List UInt8)) (nk : Nat) : Bool := oneS k t keys nk && (decide (k ≠ 6) || decide (keys.length ≤ 4096))

section
variable {k : Int} {t : List UInt8} {ka kb : AV} {keys : List (List UInt8)} {xs : List AV}
theorem pone_ok (h1 : SlOf 1 ka (keys.map .str)) (h2 : SlOf 4 kb xs) (hl : keys.length < 2 ^ 47) (hx : xs.length < 2 ^ 47) (ht : t.length < 2 ^ 60) (hks : ∀ k ∈ keys, k.length < 2 ^ 60) (m : Mem) :
    ∃ v m', CS 55 [.agg [.int .i64 k, .str t, ka, kb]] m (.ret v) m' ∧ v = .bool (poneS k t keys xs.length) ∧ Ext m m' := by
  refine call_some (R := fun v m' => v = .bool (poneS k t keys xs.length) ∧ Ext m m') xfok mixed q55at q55ok rfl ?_
  have hg0 : (m.alloc (.cells 26 [.int .i64 k, .str t, ka, kb])).get m.next = .cells 26 [.int .i64 k, .str t, ka, kb] := get_new
  have E1 : Ext m (m.alloc (.cells 26 [.int .i64 k, .str t, ka, kb])) := Ext.alloc _ _
  have o1 := h1.one
  have o2 := h2.one
  simp only [go_sem, reduceIte, Nat.reduceEqDiff, Nat.reduceAdd, q55, q55r0, o1, o2]
  have nlt : m.next < (m.alloc (.cells 26 [.int .i64 k, .str t, ka, kb])).next := by rw [next_alloc]; omega
  generalize m.alloc (.cells 26 [.int .i64 k, .str t, ka, kb]) = M at hg0 E1 nlt
  have hw : IntKind.i64.wrap (((keys.length : Nat) : Int) + ((xs.length : Nat) : Int)) = ((keys.length + xs.length : Nat) : Int) := by rw [wrap_i64 (by omega)]; omega
  -- the kinds from 5 on
  have big : ¬ k < 5 → ∀ (g3 g4 g5 g6 g7 g8 g9 g10 : AV), wc CS (.seq (.seq (.region q55r3) (.block 0 (.seq (.region q55r4) (.cond (.var 5) (.seq (.region q55r5) .ret) (.seq (.region q55r6) (.cond (.var 6) (.seq (.region q55r7) .ret) (.seq (.region q55r8) (.cond (.var 7) (.seq (.region q55r9) .ret) (.seq (.region q55r10) (.cond (.var 8) (.seq (.region q55r11) .ret) (.seq (.region q55r12) (.cond (.var 9) (.seq (.region q55r13) .ret) (.seq (.region q55r14) (.cond (.var 10) (.seq (.region q55r15) .ret) .skip)))))))))))))) (.seq (.region q55r16) .ret))
      (endsIn [.var 2] (fun v m' => v = .bool (poneS k t keys xs.length) ∧ Ext m m') noPan) [.u, .ptr m.next 0, .u, g3, g4, g5, g6, g7, g8, g9, g10] M := by
    intro hk g3 g4 g5 g6 g7 g8 g9 g10
    have f1 : (k == 1) = false := iqF (by omega)
    have f2 : (k == 2) = false := iqF (by omega)
    have f3 : (k == 3) = false := iqF (by omega)
    have f4 : (k == 4) = false := iqF (by omega)
    by_cases k5 : k = 5
    · have f5 : (k == 5) = true := iqT k5
      have hS : poneS k t keys xs.length = ((t == []) && decide (keys.length = 0)) := by subst k5; simp [poneS, oneS]
      rw [hS]
      cases htt : (t == ([] : List UInt8)) with
      | false =>
        simp only [go_sem, reduceIte, Nat.reduceEqDiff, Nat.reduceAdd, q55r3, hg0, q55r4, f1, q55r6, f2, q55r8, f3, q55r10, f4, q55r12, f5, q55r13, htt, Bool.false_and]
        exact E1
      | true =>
        have e0 : (((keys.length : Nat) : Int) == 0) = decide (keys.length = 0) := by rw [Bool.eq_iff_iff]; simp
        simp only [go_sem, reduceIte, Nat.reduceEqDiff, Nat.reduceAdd, q55r3, hg0, q55r4, f1, q55r6, f2, q55r8, f3, q55r10, f4, q55r12, f5, q55r13, htt, h1.isLK, h1.len, List.length_map, e0]
        exact E1
    · have f5 : (k == 5) = false := iqF k5
      by_cases k6 : k = 6
      · have f6 : (k == 6) = true := iqT k6
        have hS : poneS k t keys xs.length = ((t == []) && decide (keys.length = xs.length) && (!twS [] keys && allT keys) && decide (keys.length ≤ 4096)) := by subst k6; simp [poneS, oneS]
        rw [hS]
        cases htt : (t == ([] : List UInt8)) with
        | false =>
          simp only [go_sem, reduceIte, Nat.reduceEqDiff, Nat.reduceAdd, q55r3, hg0, q55r4, f1, q55r6, f2, q55r8, f3, q55r10, f4, q55r12, f5, q55r14, f6, q55r15, htt, Bool.false_and]
          exact E1
        | true =>
          by_cases hlen : keys.length = xs.length
          · have e1 : (((keys.length : Nat) : Int) == ((xs.length : Nat) : Int)) = true := iqT (by omega)
            rw [dT hlen]
            by_cases h40 : keys.length ≤ 4096
            · have e2 : decide (((keys.length : Nat) : Int) ≤ 4096) = true := dT (by omega)
              rw [dT h40]
              obtain ⟨v1, M1, c1, rfl, x1⟩ := pdup_ok h1 (by omega) M
              have hg1 : M1.get m.next = .cells 26 [.int .i64 k, .str t, ka, kb] := by rw [x1.get _ nlt]; exact hg0
              simp only [go_sem, reduceIte, Nat.reduceEqDiff, Nat.reduceAdd, q55r3, hg0, q55r4, f1, q55r6, f2, q55r8, f3, q55r10, f4, q55r12, f5, q55r14, f6, q55r15, htt, h1.isLK, h1.len, h2.isLK, h2.len, List.length_map, e1, e2]
              refine callW_ret c1 ?_
              cases htw : twS [] keys with
              | true =>
                simp only [go_sem, reduceIte, Nat.reduceEqDiff, Nat.reduceAdd, Bool.false_and, Bool.and_false]
                exact E1.trans x1
              | false =>
                obtain ⟨v2, M2, c2, rfl, x2⟩ := pbad_ok h1 (by omega) hks M1
                simp only [go_sem, reduceIte, Nat.reduceEqDiff, Nat.reduceAdd, hg1]
                refine callW_ret c2 ?_
                cases hal : allT keys with
                | true =>
                  simp only [go_sem, reduceIte, Nat.reduceEqDiff, Nat.reduceAdd]
                  exact (E1.trans x1).trans x2
                | false =>
                  simp only [go_sem, reduceIte, Nat.reduceEqDiff, Nat.reduceAdd, Bool.false_and, Bool.and_false]
                  exact (E1.trans x1).trans x2
            · have e2 : decide (((keys.length : Nat) : Int) ≤ 4096) = false := dF (by omega)
              rw [dF h40]
              simp only [go_sem, reduceIte, Nat.reduceEqDiff, Nat.reduceAdd, q55r3, hg0, q55r4, f1, q55r6, f2, q55r8, f3, q55r10, f4, q55r12, f5, q55r14, f6, q55r15, htt, h1.isLK, h1.len, h2.isLK, h2.len, List.length_map, e1, e2, Bool.and_false]
              exact E1
          · have e1 : (((keys.length : Nat) : Int) == ((xs.length : Nat) : Int)) = false := iqF (by omega)
            rw [dF hlen]
            simp only [go_sem, reduceIte, Nat.reduceEqDiff, Nat.reduceAdd, q55r3, hg0, q55r4, f1, q55r6, f2, q55r8, f3, q55r10, f4, q55r12, f5, q55r14, f6, q55r15, htt, h1.isLK, h1.len, h2.isLK, h2.len, List.length_map, e1, Bool.false_and, Bool.and_false]
            exact E1
      · have f6 : (k == 6) = false := iqF k6
        have hS : poneS k t keys xs.length = false := by
          simp only [poneS, oneS]
          rw [if_neg (by omega), if_neg (by omega), if_neg (by omega), if_neg (by omega), if_neg k5, if_neg k6]; rfl
        rw [hS]
        simp only [go_sem, reduceIte, Nat.reduceEqDiff, Nat.reduceAdd, q55r3, hg0, q55r4, f1, q55r6, f2, q55r8, f3, q55r10, f4, q55r12, f5, q55r14, f6, q55r16]
        exact E1
  by_cases k5 : k < 5
  · have e5 : decide (k < 5) = true := dT k5
    by_cases hb : keys.length + xs.length = 0
    · have eb : decide (((keys.length + xs.length : Nat) : Int) > 0) = false := dF (by omega)
      have hbare : bareS keys xs.length = true := by simp only [bareS, Bool.and_eq_true, decide_eq_true_eq]; omega
      have n6 : k ≠ 6 := by omega
      by_cases k1 : k = 1
      · have f1 : (k == 1) = true := iqT k1
        have hS : poneS k t keys xs.length = (t == []) := by simp only [poneS, oneS, if_pos k1, hbare, dT n6, Bool.true_or, Bool.and_true, Bool.true_and]
        simp only [go_sem, reduceIte, Nat.reduceEqDiff, Nat.reduceAdd, q55r1, hg0, e5, h1.isLK, h1.len, h2.isLK, h2.len, List.length_map, hw, eb, q55r3, q55r4, f1, q55r5, hS]
        exact E1
      · have f1 : (k == 1) = false := iqF k1
        by_cases k2 : k = 2
        · have f2 : (k == 2) = true := iqT k2
          have hS : poneS k t keys xs.length = (t == tTrue || t == tFalse) := by simp only [poneS, oneS, if_neg k1, if_pos k2, hbare, dT n6, Bool.true_or, Bool.and_true, Bool.true_and]
          have d1 : (t == ([116, 114, 117, 101] : List UInt8)) = (t == tTrue) := rfl
          have d2 : (t == ([102, 97, 108, 115, 101] : List UInt8)) = (t == tFalse) := rfl
          cases ht1 : (t == tTrue) with
          | true =>
            simp only [go_sem, reduceIte, Nat.reduceEqDiff, Nat.reduceAdd, q55r1, hg0, e5, h1.isLK, h1.len, h2.isLK, h2.len, List.length_map, hw, eb, q55r3, q55r4, f1, q55r6, f2, q55r7, d1, ht1, hS, Bool.true_or]
            exact E1
          | false =>
            simp only [go_sem, reduceIte, Nat.reduceEqDiff, Nat.reduceAdd, q55r1, hg0, e5, h1.isLK, h1.len, h2.isLK, h2.len, List.length_map, hw, eb, q55r3, q55r4, f1, q55r6, f2, q55r7, d1, d2, ht1, hS, Bool.false_or]
            exact E1
        · have f2 : (k == 2) = false := iqF k2
          by_cases k3 : k = 3
          · have f3 : (k == 3) = true := iqT k3
            have hS : poneS k t keys xs.length = numS t := by simp only [poneS, oneS, if_neg k1, if_neg k2, if_pos k3, hbare, dT n6, Bool.true_or, Bool.and_true, Bool.true_and]
            simp only [go_sem, reduceIte, Nat.reduceEqDiff, Nat.reduceAdd, q55r1, hg0, e5, h1.isLK, h1.len, h2.isLK, h2.len, List.length_map, hw, eb, q55r3, q55r4, f1, q55r6, f2, q55r8, f3, q55r9]
            refine callW_ret (pnumber_ok ht M) ?_
            simp only [go_sem, reduceIte, Nat.reduceEqDiff, Nat.reduceAdd, hS]
            exact E1
          · have f3 : (k == 3) = false := iqF k3
            by_cases k4 : k = 4
            · have f4 : (k == 4) = true := iqT k4
              have hS : poneS k t keys xs.length = isT t := by simp only [poneS, oneS, if_neg k1, if_neg k2, if_neg k3, if_pos k4, hbare, dT n6, Bool.true_or, Bool.and_true, Bool.true_and]
              obtain ⟨v2, M2, c2, rfl, x2⟩ := ptext_ok ht M
              simp only [go_sem, reduceIte, Nat.reduceEqDiff, Nat.reduceAdd, q55r1, hg0, e5, h1.isLK, h1.len, h2.isLK, h2.len, List.length_map, hw, eb, q55r3, q55r4, f1, q55r6, f2, q55r8, f3, q55r10, f4, q55r11]
              refine callW_ret c2 ?_
              simp only [go_sem, reduceIte, Nat.reduceEqDiff, Nat.reduceAdd, hS]
              exact E1.trans x2
            · have f4 : (k == 4) = false := iqF k4
              have f5 : (k == 5) = false := iqF (by omega)
              have f6 : (k == 6) = false := iqF n6
              have hS : poneS k t keys xs.length = false := by
                simp only [poneS, oneS, if_neg k1, if_neg k2, if_neg k3, if_neg k4, if_neg n6, Bool.false_and]
                rw [if_neg (by omega), Bool.false_and]
              simp only [go_sem, reduceIte, Nat.reduceEqDiff, Nat.reduceAdd, q55r1, hg0, e5, h1.isLK, h1.len, h2.isLK, h2.len, List.length_map, hw, eb, q55r3, q55r4, f1, q55r6, f2, q55r8, f3, q55r10, f4, q55r12, f5, q55r14, f6, q55r16, hS]
              exact E1
    · have eb : decide (((keys.length + xs.length : Nat) : Int) > 0) = true := dT (by omega)
      have hbare : bareS keys xs.length = false := by simp only [bareS, Bool.and_eq_false_iff, decide_eq_false_iff_not]; omega
      have hS : poneS k t keys xs.length = false := by
        have n5 : ¬ k = 5 := by omega
        have n6 : ¬ k = 6 := by omega
        simp only [poneS, oneS, hbare, Bool.false_and, if_neg n5, if_neg n6, ite_self]
      simp only [go_sem, reduceIte, Nat.reduceEqDiff, Nat.reduceAdd, q55r1, hg0, e5, h1.isLK, h1.len, h2.isLK, h2.len, List.length_map, hw, eb, q55r2, hS]
      exact E1
  · have e5 : decide (k < 5) = false := dF k5
    have := big k5 (.bool false) .u .u .u .u .u .u .u
    simp only [go_sem, reduceIte, Nat.reduceEqDiff, Nat.reduceAdd, q55r1, hg0, e5] at this ⊢
    exact this
end
end Go.Proofs.YtinlfdkalijffaaDoor.Am.Q

/-
  JSON, 47: which values may be: one value, but for its kids, by the document.
-/
namespace Go.Proofs.YtinlfdkalijffaaDoor.Am.Q
open Go Go.Proofs Go.Proofs.YtinlfdkalijffaaDoor.Am

def refB : List (List UInt8) → List (List UInt8) → Bool
  | _, [] => true
  | met, s :: r => if isT s = true then (if s ∈ met then false else refB (met ++ [s]) r) else false
theorem refB_eq : ∀ {ks met : List (List UInt8)}, refB met ks = (!twS met ks && allT ks)
  | [], _ => rfl
  | s :: r, met => by
    have ih := refB_eq (ks := r) (met := met ++ [s])
    have ea : allT (s :: r) = (isT s && allT r) := rfl
    simp only [refB, twS, ea]
    cases ht : isT s with
    | false => simp
    | true =>
      by_cases hin : s ∈ met
      · simp [hin]
      · simp [hin, ih]
theorem slice_upto {a : AV} {ks : List (List UInt8)} (ha : SlOf 1 a (ks.map .str)) {i : Nat} (hi : i ≤ ks.length) : ∃ b, sliceSl a none (some (.int .i64 (i : Int))) none = some b ∧ SlOf 1 b ((ks.take i).map .str) ∧ szOk 1 a = true := by
  rcases ha with ⟨rfl, h⟩ | ⟨o, rfl⟩
  · have : ks = [] := by simpa using h
    subst this
    obtain rfl : i = 0 := by simpa using hi
    exact ⟨.nilSl, by simp [sliceSl, boundV], .inl ⟨rfl, rfl⟩, rfl⟩
  · refine ⟨.sl (ownOf o i ks.length) 1 ((ks.take i).map .str), ?_, .inr ⟨_, rfl⟩, by simp [szOk]⟩
    simp only [sliceSl, boundV, List.length_map]
    rw [if_pos ⟨by omega, by omega⟩]
    simp [List.map_take]

section
variable {k : Int} {t : List UInt8} {ka kb : AV} {keys : List (List UInt8)} {xs : List AV}
theorem rone_loop {M : Mem} {p : Nat} (hg : M.get p = .cells 26 [.int .i64 k, .str t, ka, kb]) (h1 : SlOf 1 ka (keys.map .str)) (hl : keys.length < 2 ^ 47) (hks : ∀ k ∈ keys, k.length < 2 ^ 60) {B : Bool} {Q : AExit → List AV → Mem → Prop}
    (hx : B = true → ∀ g0 g2 g3 g4 g5 g6 g7 g8 g9 g10 g11 g12 g13, Q (.exit 1) [g0, .ptr p 0, g2, g3, g4, g5, g6, g7, g8, g9, g10, g11, g12, g13] M) (hr : B = false → ∀ g0 g1 g3 g4 g5 g6 g7 g8 g9 g10 g11 g12 g13, Q .ret [g0, g1, .bool false, g3, g4, g5, g6, g7, g8, g9, g10, g11, g12, g13] M) :
    ∀ (r i : Nat) (g0 g2 g3 g5 g6 g7 g8 g9 g10 g11 g12 g13 : AV), i + r = keys.length → B = refB (keys.take i) (keys.drop i) →
      wl CS [0, 2, 3, 5, 6, 7, 8, 9, 10, 11, 12, 13] q56l19 Q [g0, .ptr p 0, g2, g3, .int .i64 i, g5, g6, g7, g8, g9, g10, g11, g12, g13] M := by
  intro r
  induction r with
  | zero =>
    intro i g0 g2 g3 g5 g6 g7 g8 g9 g10 g11 g12 g13 hi hB
    refine wl_step ?_
    have e1 : decide ((i : Int) < (keys.length : Nat)) = false := dF (by omega)
    simp only [go_sem, reduceIte, Nat.reduceEqDiff, Nat.reduceAdd, q56l19, q56r15, hg, h1.isLK, h1.len, List.length_map, e1]
    exact hx (by rw [hB, List.drop_of_length_le (by omega)]; rfl) _ _ _ _ _ _ _ _ _ _ _ _ _
  | succ r ih =>
    intro i g0 g2 g3 g5 g6 g7 g8 g9 g10 g11 g12 g13 hi hB
    refine wl_step ?_
    have hlt : i < keys.length := by omega
    have e1 : decide ((i : Int) < (keys.length : Nat)) = true := dT (by omega)
    have ea := h1.idx (k := .i64) (i := (i : Int)) (y := .str keys[i]) (by omega) (by simp [hlt])
    have hw1 := wrap_succ (i := i) (by omega)
    have hd : keys.drop i = keys[i] :: keys.drop (i + 1) := List.drop_eq_getElem_cons hlt
    have ht : keys.take (i + 1) = keys.take i ++ [keys[i]] := by rw [List.take_add_one, List.getElem?_eq_getElem hlt]; rfl
    rw [hd] at hB
    have hB' : B = if isT keys[i] = true then (if keys[i] ∈ keys.take i then false else refB (keys.take i ++ [keys[i]]) (keys.drop (i + 1))) else false := hB
    have hkl := hks _ (List.getElem_mem hlt)
    simp only [go_sem, reduceIte, Nat.reduceEqDiff, Nat.reduceAdd, q56l19, q56r15, hg, h1.isLK, h1.len, List.length_map, e1, q56r16, ea]
    refine callW_ret (rtext_ok (by omega) M) ?_
    cases hT : isT keys[i] with
    | false =>
      rw [if_neg (by rw [hT]; simp)] at hB'
      simp only [go_sem, reduceIte, Nat.reduceEqDiff, Nat.reduceAdd, q56r17]
      exact hr hB' _ _ _ _ _ _ _ _ _ _ _ _ _
    | true =>
      rw [if_pos hT] at hB'
      obtain ⟨b, s1, s2, s3⟩ := slice_upto h1 (i := i) (by omega)
      simp only [go_sem, reduceIte, Nat.reduceEqDiff, Nat.reduceAdd, hg, s1, s3, ea]
      refine callW_ret (has_ok M s2 (by rw [List.length_take]; omega)) ?_
      by_cases hin : keys[i] ∈ keys.take i
      · rw [if_pos hin] at hB'
        simp only [go_sem, reduceIte, Nat.reduceEqDiff, Nat.reduceAdd, dT hin, q56r17]
        exact hr hB' _ _ _ _ _ _ _ _ _ _ _ _ _
      · rw [if_neg hin] at hB'
        simp only [go_sem, reduceIte, Nat.reduceEqDiff, Nat.reduceAdd, dF hin, q56r18, hw1]
        exact ih (i + 1) _ _ _ _ _ _ _ _ _ _ _ _ (by omega) (by rw [ht]; exact hB')
theorem rone_ok (h1 : SlOf 1 ka (keys.map .str)) (h2 : SlOf 4 kb xs) (hl : keys.length < 2 ^ 47) (hx : xs.length < 2 ^ 47) (ht : t.length < 2 ^ 60) (hks : ∀ k ∈ keys, k.length < 2 ^ 60) (m : Mem) :
    ∃ v m', CS 56 [.agg [.int .i64 k, .str t, ka, kb]] m (.ret v) m' ∧ v = .bool (oneS k t keys xs.length) ∧ Ext m m' := by
  refine call_some (R := fun v m' => v = .bool (oneS k t keys xs.length) ∧ Ext m m') xfok mixed q56at q56ok rfl ?_
  have hg0 : (m.alloc (.cells 26 [.int .i64 k, .str t, ka, kb])).get m.next = .cells 26 [.int .i64 k, .str t, ka, kb] := get_new
  have E1 : Ext m (m.alloc (.cells 26 [.int .i64 k, .str t, ka, kb])) := Ext.alloc _ _
  have o1 := h1.one
  have o2 := h2.one
  have nlt : m.next < (m.alloc (.cells 26 [.int .i64 k, .str t, ka, kb])).next := by rw [next_alloc]; omega
  simp only [go_sem, reduceIte, Nat.reduceEqDiff, Nat.reduceAdd, q56, q56r0, o1, o2]
  generalize m.alloc (.cells 26 [.int .i64 k, .str t, ka, kb]) = M at hg0 E1 nlt
  have e0 : (((keys.length : Nat) : Int) == 0) = decide (keys.length = 0) := by rw [Bool.eq_iff_iff]; simp
  have e0' : (((xs.length : Nat) : Int) == 0) = decide (xs.length = 0) := by rw [Bool.eq_iff_iff]; simp
  -- behind bare
  have sw : wc CS (.seq (.seq (.region q56r2) (.block 0 (.seq (.region q56r3) (.cond (.var 6) (.seq (.region q56r4) .ret) (.seq (.region q56r5) (.cond (.var 7) (.seq (.region q56r6) .ret) (.seq (.region q56r7) (.cond (.var 8) (.seq (.region q56r8) .ret) (.seq (.region q56r9) (.cond (.var 9) (.seq (.region q56r10) .ret) (.seq (.region q56r11) (.cond (.var 10) (.seq (.region q56r12) .ret) (.seq (.region q56r13) (.cond (.var 11) (.seq (.seq (.region q56r14) (.block 1 (.loop [0, 2, 3, 5, 6, 7, 8, 9, 10, 11, 12, 13] q56l19))) (.seq (.region q56r20) .ret)) .skip)))))))))))))) (.seq (.region q56r21) .ret))
      (endsIn [.var 2] (fun v m' => v = .bool (oneS k t keys xs.length) ∧ Ext m m') noPan) [.u, .ptr m.next 0, .u, .bool (bareS keys xs.length), .u, .u, .u, .u, .u, .u, .u, .u, .u, .u] M := by
    by_cases k1 : k = 1
    · have f1 : (k == 1) = true := iqT k1
      have hS : oneS k t keys xs.length = (bareS keys xs.length && (t == [])) := by simp only [oneS, if_pos k1]
      rw [hS]
      cases hb : bareS keys xs.length with
      | false =>
        simp only [go_sem, reduceIte, Nat.reduceEqDiff, Nat.reduceAdd, q56r2, hg0, q56r3, f1, q56r4, Bool.false_and]
        exact E1
      | true =>
        simp only [go_sem, reduceIte, Nat.reduceEqDiff, Nat.reduceAdd, q56r2, hg0, q56r3, f1, q56r4]
        exact E1
    have f1 : (k == 1) = false := iqF k1
    by_cases k2 : k = 2
    · have f2 : (k == 2) = true := iqT k2
      have hS : oneS k t keys xs.length = (bareS keys xs.length && (t == tTrue || t == tFalse)) := by simp only [oneS, if_neg k1, if_pos k2]
      rw [hS]
      have d1 : (t == ([116, 114, 117, 101] : List UInt8)) = (t == tTrue) := rfl
      have d2 : (t == ([102, 97, 108, 115, 101] : List UInt8)) = (t == tFalse) := rfl
      cases hb : bareS keys xs.length with
      | false =>
        simp only [go_sem, reduceIte, Nat.reduceEqDiff, Nat.reduceAdd, q56r2, hg0, q56r3, f1, q56r5, f2, q56r6, Bool.false_and]
        exact E1
      | true =>
        cases ht1 : (t == tTrue) with
        | true =>
          simp only [go_sem, reduceIte, Nat.reduceEqDiff, Nat.reduceAdd, q56r2, hg0, q56r3, f1, q56r5, f2, q56r6, d1, ht1, Bool.true_or]
          exact E1
        | false =>
          simp only [go_sem, reduceIte, Nat.reduceEqDiff, Nat.reduceAdd, q56r2, hg0, q56r3, f1, q56r5, f2, q56r6, d1, d2, ht1, Bool.false_or]
          exact E1
    have f2 : (k == 2) = false := iqF k2
    by_cases k3 : k = 3
    · have f3 : (k == 3) = true := iqT k3
      have hS : oneS k t keys xs.length = (bareS keys xs.length && numS t) := by simp only [oneS, if_neg k1, if_neg k2, if_pos k3]
      rw [hS]
      cases hb : bareS keys xs.length with
      | false =>
        simp only [go_sem, reduceIte, Nat.reduceEqDiff, Nat.reduceAdd, q56r2, hg0, q56r3, f1, q56r5, f2, q56r7, f3, q56r8, Bool.false_and]
        exact E1
      | true =>
        simp only [go_sem, reduceIte, Nat.reduceEqDiff, Nat.reduceAdd, q56r2, hg0, q56r3, f1, q56r5, f2, q56r7, f3, q56r8]
        refine callW_ret (rnumber_ok (by omega) M) ?_
        simp only [go_sem, reduceIte, Nat.reduceEqDiff, Nat.reduceAdd]
        exact E1
    have f3 : (k == 3) = false := iqF k3
    by_cases k4 : k = 4
    · have f4 : (k == 4) = true := iqT k4
      have hS : oneS k t keys xs.length = (bareS keys xs.length && isT t) := by simp only [oneS, if_neg k1, if_neg k2, if_neg k3, if_pos k4]
      rw [hS]
      cases hb : bareS keys xs.length with
      | false =>
        simp only [go_sem, reduceIte, Nat.reduceEqDiff, Nat.reduceAdd, q56r2, hg0, q56r3, f1, q56r5, f2, q56r7, f3, q56r9, f4, q56r10, Bool.false_and]
        exact E1
      | true =>
        simp only [go_sem, reduceIte, Nat.reduceEqDiff, Nat.reduceAdd, q56r2, hg0, q56r3, f1, q56r5, f2, q56r7, f3, q56r9, f4, q56r10]
        refine callW_ret (rtext_ok (by omega) M) ?_
        simp only [go_sem, reduceIte, Nat.reduceEqDiff, Nat.reduceAdd]
        exact E1
    have f4 : (k == 4) = false := iqF k4
    by_cases k5 : k = 5
    · have f5 : (k == 5) = true := iqT k5
      have hS : oneS k t keys xs.length = ((t == []) && decide (keys.length = 0)) := by simp only [oneS, if_neg k1, if_neg k2, if_neg k3, if_neg k4, if_pos k5]
      rw [hS]
      by_cases h0 : keys.length = 0
      · rw [dT h0] at e0 ⊢
        simp only [go_sem, reduceIte, Nat.reduceEqDiff, Nat.reduceAdd, q56r2, hg0, q56r3, f1, q56r5, f2, q56r7, f3, q56r9, f4, q56r11, f5, q56r12, h1.isLK, h1.len, List.length_map, e0]
        exact E1
      · rw [dF h0] at e0 ⊢
        simp only [go_sem, reduceIte, Nat.reduceEqDiff, Nat.reduceAdd, q56r2, hg0, q56r3, f1, q56r5, f2, q56r7, f3, q56r9, f4, q56r11, f5, q56r12, h1.isLK, h1.len, List.length_map, e0, Bool.and_false]
        exact E1
    have f5 : (k == 5) = false := iqF k5
    by_cases k6 : k = 6
    · have f6 : (k == 6) = true := iqT k6
      have hS : oneS k t keys xs.length = ((t == []) && decide (keys.length = xs.length) && (!twS [] keys && allT keys)) := by simp only [oneS, if_neg k1, if_neg k2, if_neg k3, if_neg k4, if_neg k5, if_pos k6]
      rw [hS]
      simp only [go_sem, reduceIte, Nat.reduceEqDiff, Nat.reduceAdd, q56r2, hg0, q56r3, f1, q56r5, f2, q56r7, f3, q56r9, f4, q56r11, f5, q56r13, f6, q56r14]
      refine rone_loop hg0 h1 hl hks (B := !twS [] keys && allT keys) (fun h g0 g2 g3 g4 g5 g6 g7 g8 g9 g10 g11 g12 g13 => ?_) (fun h g0 g1 g3 g4 g5 g6 g7 g8 g9 g10 g11 g12 g13 => ?_) keys.length 0 _ _ _ _ _ _ _ _ _ _ _ _ (by omega) (by rw [← refB_eq]; rfl)
      · rw [h]
        by_cases hlen : keys.length = xs.length
        · have e1 : (((keys.length : Nat) : Int) == ((xs.length : Nat) : Int)) = true := iqT (by omega)
          rw [dT hlen]
          simp only [go_sem, reduceIte, Nat.reduceEqDiff, Nat.reduceAdd, q56r20, hg0, h1.isLK, h1.len, h2.isLK, h2.len, List.length_map, e1]
          exact E1
        · have e1 : (((keys.length : Nat) : Int) == ((xs.length : Nat) : Int)) = false := iqF (by omega)
          rw [dF hlen]
          simp only [go_sem, reduceIte, Nat.reduceEqDiff, Nat.reduceAdd, q56r20, hg0, h1.isLK, h1.len, h2.isLK, h2.len, List.length_map, e1, Bool.and_false]
          exact E1
      · rw [h]
        simp only [go_sem, reduceIte, Nat.reduceEqDiff, Nat.reduceAdd, Bool.and_false]
        exact E1
    have f6 : (k == 6) = false := iqF k6
    have hS : oneS k t keys xs.length = false := by simp only [oneS, if_neg k1, if_neg k2, if_neg k3, if_neg k4, if_neg k5, if_neg k6]
    rw [hS]
    simp only [go_sem, reduceIte, Nat.reduceEqDiff, Nat.reduceAdd, q56r2, hg0, q56r3, f1, q56r5, f2, q56r7, f3, q56r9, f4, q56r11, f5, q56r13, f6, q56r21]
    exact E1
  by_cases h0 : keys.length = 0
  · have hb : bareS keys xs.length = decide (xs.length = 0) := by simp only [bareS, dT h0, Bool.true_and]
    rw [dT h0] at e0
    rw [hb] at sw
    simp only [go_sem, reduceIte, Nat.reduceEqDiff, Nat.reduceAdd, q56r1, hg0, h1.isLK, h1.len, h2.isLK, h2.len, List.length_map, e0, e0'] at sw ⊢
    exact sw
  · have hb : bareS keys xs.length = false := by simp only [bareS, dF h0, Bool.false_and]
    rw [dF h0] at e0
    rw [hb] at sw
    simp only [go_sem, reduceIte, Nat.reduceEqDiff, Nat.reduceAdd, q56r1, hg0, h1.isLK, h1.len, h2.isLK, h2.len, List.length_map, e0, e0'] at sw ⊢
    exact sw
end
end Go.Proofs.YtinlfdkalijffaaDoor.Am.Q

/-
  JSON, 48: which values may be: the program's count.
-/
namespace Go.Proofs.YtinlfdkalijffaaDoor.Am.Q
open Go Go.Proofs Go.Proofs.YtinlfdkalijffaaDoor.Am

mutual
def nodesT : VT → Nat
  | .node _ _ _ l => 1 + nodesL l
def nodesL : List VT → Nat
  | [] => 0
  | v :: r => nodesT v + nodesL r
end
mutual
def goodT : Nat → VT → Bool
  | d, .node k t ks l => oneS k t ks l.length && ((decide (k < 5) || decide (d < 64)) && goodL (d + 1) l)
def goodL : Nat → List VT → Bool
  | _, [] => true
  | d, v :: r => goodT d v && goodL d r
end
def mayT (T : VT) : Bool := goodT 0 T && decide (nodesT T ≤ 4096)
inductive Fit : VT → Prop where
  | mk {k : Int} {t : List UInt8} {keys : List (List UInt8)} {kids : List VT} : keys.length < 2 ^ 21 → kids.length < 2 ^ 21 → t.length < 2 ^ 21 → (∀ x ∈ keys, x.length < 2 ^ 21) → (∀ i, i < kids.length → Fit (kids.getD i VT.zero)) → Fit (.node k t keys kids)
theorem nodesL_ge : ∀ {l : List VT}, l.length ≤ nodesL l
  | [] => by simp [nodesL]
  | .node k t ks c :: r => by
    have := nodesL_ge (l := r)
    simp only [nodesL, nodesT, List.length_cons]; omega
theorem oneS_kids {k : Int} {t : List UInt8} {ks : List (List UInt8)} {n : Nat} (h : oneS k t ks n = true) (hn : n ≠ 0) : k = 5 ∨ k = 6 := by
  have hb : bareS ks n = false := by simp [bareS, hn]
  unfold oneS at h
  simp only [hb, Bool.false_and] at h
  split at h
  · cases h
  · split at h
    · cases h
    · split at h
      · cases h
      · split at h
        · cases h
        · split at h
          · exact .inl ‹_›
          · split at h
            · exact .inr ‹_›
            · cases h
theorem oneS_tab {t : List UInt8} {ks : List (List UInt8)} {n : Nat} (h : oneS 6 t ks n = true) : ks.length = n := by
  simp [oneS] at h; exact h.1.2

abbrev CP (left : Nat) : AObj := .cells 67 [.int .i64 left, .bool false]
def CntR (c : Nat) (P : Prop) (F : Nat) (M : Mem) : Prop := (P ∧ M.get c = CP F) ∨ (¬ P ∧ ∃ l, M.get c = .cells 67 [l, .bool true])
def PCount (T : VT) : Prop := ∀ (m : Mem) (c : Nat) (a : AV) (deep left : Nat), IsVal a T → deep ≤ 64 → left ≤ 4096 → c < m.next → m.get c = CP left →
  ∃ v m', CS 33 [.ptr c 0, a, .int .i64 deep] m (.ret v) m' ∧ ExtB c m m' ∧ CntR c (goodT deep T = true ∧ nodesT T ≤ left) (left - nodesT T) m'

theorem pcount_loop {m : Mem} {c q : Nat} {k : Int} {t : List UInt8} {ka kb : AV} {xs : List AV} {kids : List VT} (h2 : SlOf 4 kb xs) (hxl : xs.length = kids.length) (hx2 : ∀ i, i < kids.length → IsVal (xs.getD i .u) (kids.getD i VT.zero)) (hlen : kids.length < 2 ^ 47)
    (hq : q < m.next) (hqc : q ≠ c) (hc : c < m.next) (hgq : m.get q = .cells 26 [.int .i64 k, .str t, ka, kb]) {deep : Nat} (hdeep : kids.length ≠ 0 → deep < 64) (ih : ∀ i, i < kids.length → PCount (kids.getD i VT.zero)) {P : Prop} {F : Nat} {Q : AExit → List AV → Mem → Prop}
    (hx : ∀ M, ExtB c m M → CntR c P F M → ∀ g0 g1 g2 g3 g4 g5 g6, Q (.exit 0) [g0, g1, g2, g3, g4, g5, g6] M) :
    ∀ (r i rem : Nat) (M : Mem) (g1 g5 g6 : AV), i + r = kids.length → rem ≤ 4096 → ExtB c m M → M.get c = CP rem → (P ↔ (goodL (deep + 1) (kids.drop i) = true ∧ nodesL (kids.drop i) ≤ rem)) → (P → F = rem - nodesL (kids.drop i)) →
      wl CS [1, 5, 6] q33l8 Q [.ptr c 0, g1, .int .i64 deep, .ptr q 0, .int .i64 i, g5, g6] M := by
  intro r
  induction r with
  | zero =>
    intro i rem M g1 g5 g6 hi hrem hE hgc hP hF
    refine wl_step ?_
    have e1 : decide ((i : Int) < (xs.length : Nat)) = false := dF (by omega)
    have hgq' : M.get q = .cells 26 [.int .i64 k, .str t, ka, kb] := by rw [hE.get q hq hqc]; exact hgq
    have hd : kids.drop i = [] := List.drop_of_length_le (by omega)
    rw [hd] at hP hF
    simp only [go_sem, reduceIte, Nat.reduceEqDiff, Nat.reduceAdd, q33l8, q33r5, hgq', h2.isLK, h2.len, e1]
    have hp : P := hP.2 ⟨by simp [goodL], by simp [nodesL]⟩
    exact hx _ hE (.inl ⟨hp, by rw [hgc, hF hp]; simp [nodesL]⟩) _ _ _ _ _ _ _
  | succ r ihr =>
    intro i rem M g1 g5 g6 hi hrem hE hgc hP hF
    refine wl_step ?_
    have e1 : decide ((i : Int) < (xs.length : Nat)) = true := dT (by omega)
    have hi1 : i < kids.length := by omega
    have hgq' : M.get q = .cells 26 [.int .i64 k, .str t, ka, kb] := by rw [hE.get q hq hqc]; exact hgq
    have hxi := hx2 i hi1
    have ea := h2.idx (k := .i64) (i := (i : Int)) (y := xs.getD i .u) (by omega) (by simp [List.getD, show i < xs.length by omega])
    obtain ⟨k1, t1, a1, b1, e2, _⟩ := hxi.shape
    rw [e2] at ea hxi
    have hw := wrap_succ (i := i) (by omega)
    have hwd := wrap_succ (i := deep) (by have := hdeep (by omega); omega)
    have hd : kids.drop i = kids.getD i VT.zero :: kids.drop (i + 1) := by
      rw [List.drop_eq_getElem_cons hi1, show kids.getD i VT.zero = kids[i] by simp [List.getD, hi1]]
    rw [hd] at hP hF
    obtain ⟨v, M2, c1, c2, c3⟩ := ih i hi1 M c _ (deep + 1) rem hxi (by have := hdeep (by omega); omega) hrem (Nat.lt_of_lt_of_le hc hE.next) hgc
    simp only [go_sem, reduceIte, Nat.reduceEqDiff, Nat.reduceAdd, q33l8, q33r5, hgq', h2.isLK, h2.len, e1, hgc, q33r6, ea, hwd]
    refine callW_ret c1 ?_
    have hE2 := hE.trans c2
    rcases c3 with ⟨p1, p2⟩ | ⟨p1, l, p2⟩
    · simp only [go_sem, reduceIte, Nat.reduceEqDiff, Nat.reduceAdd, q33r7, hw]
      refine ihr (i + 1) (rem - nodesT (kids.getD i VT.zero)) M2 _ _ _ (by omega) (by omega) hE2 p2 ?_ ?_
      · rw [hP]
        simp only [goodL, nodesL, Bool.and_eq_true]
        constructor
        · rintro ⟨⟨_, y1⟩, y2⟩; exact ⟨y1, by omega⟩
        · rintro ⟨y1, y2⟩; exact ⟨⟨p1.1, y1⟩, by omega⟩
      · intro hp
        rw [hF hp]; simp only [nodesL]; omega
    · have hgq2 : M2.get q = .cells 26 [.int .i64 k, .str t, ka, kb] := by rw [hE2.get q hq hqc]; exact hgq
      have hnp : ¬ P := by
        intro hp
        have := hP.1 hp
        simp only [goodL, nodesL, Bool.and_eq_true] at this
        exact p1 ⟨this.1.1, by omega⟩
      simp only [go_sem, reduceIte, Nat.reduceEqDiff, Nat.reduceAdd, q33r7, hw]
      refine wl_step ?_
      by_cases hlast : i + 1 < kids.length
      · have e3 : decide (((i + 1 : Nat) : Int) < (xs.length : Nat)) = true := dT (by omega)
        simp only [go_sem, reduceIte, Nat.reduceEqDiff, Nat.reduceAdd, q33l8, q33r5, hgq2, h2.isLK, h2.len, e3, p2]
        exact hx _ hE2 (.inr ⟨hnp, l, p2⟩) _ _ _ _ _ _ _
      · have e3 : decide (((i + 1 : Nat) : Int) < (xs.length : Nat)) = false := dF (by omega)
        simp only [go_sem, reduceIte, Nat.reduceEqDiff, Nat.reduceAdd, q33l8, q33r5, hgq2, h2.isLK, h2.len, e3]
        exact hx _ hE2 (.inr ⟨hnp, l, p2⟩) _ _ _ _ _ _ _
end Go.Proofs.YtinlfdkalijffaaDoor.Am.Q

/-
  JSON, 49: which values may be: the program's May.
-/
namespace Go.Proofs.YtinlfdkalijffaaDoor.Am.Q
open Go Go.Proofs Go.Proofs.YtinlfdkalijffaaDoor.Am

theorem pcount_all {T : VT} (hf : Fit T) : PCount T := by
  induction hf with
  | @mk k t keys kids f1 f2 f3 f4 _ ih =>
    intro m c a deep left ha hdeep hleft hc hgc
    cases ha with
    | @mk _ _ ka kb _ _ xs h1 h2 hxl hx2 =>
    refine call_some (R := fun _ m' => ExtB c m m' ∧ CntR c (goodT deep (.node k t keys kids) = true ∧ nodesT (.node k t keys kids) ≤ left) (left - nodesT (.node k t keys kids)) m') xfok mixed q33at q33ok rfl ?_
    have hP : (goodT deep (.node k t keys kids) = true ∧ nodesT (.node k t keys kids) ≤ left) ↔ (oneS k t keys kids.length = true ∧ (k < 5 ∨ deep < 64) ∧ goodL (deep + 1) kids = true ∧ 1 + nodesL kids ≤ left) := by
      simp only [goodT, nodesT, Bool.and_eq_true, Bool.or_eq_true, decide_eq_true_eq, and_assoc]
    have hF : left - nodesT (.node k t keys kids) = left - 1 - nodesL kids := by simp only [nodesT]; omega
    rw [hF]
    generalize hPe : (goodT deep (.node k t keys kids) = true ∧ nodesT (.node k t keys kids) ≤ left) = P at hP
    have g0 : (m.alloc (.cells 26 [.int .i64 k, .str t, ka, kb])).get m.next = .cells 26 [.int .i64 k, .str t, ka, kb] := get_new
    have gc0 : (m.alloc (.cells 26 [.int .i64 k, .str t, ka, kb])).get c = CP left := by rw [get_old (by omega)]; exact hgc
    have n0 : (m.alloc (.cells 26 [.int .i64 k, .str t, ka, kb])).next = m.next + 1 := rfl
    have E0 : ExtB c m (m.alloc (.cells 26 [.int .i64 k, .str t, ka, kb])) := (ExtB.refl c m).alloc _
    have o1 := h1.one
    have o2 := h2.one
    simp only [go_sem, reduceIte, Nat.reduceEqDiff, Nat.reduceAdd, q33, q33r0, o1, o2]
    generalize m.alloc (.cells 26 [.int .i64 k, .str t, ka, kb]) = M0 at g0 gc0 n0 E0
    simp only [go_sem, reduceIte, Nat.reduceEqDiff, Nat.reduceAdd, q33r1, gc0]
    -- behind a fault
    have badend : ∀ (M : Mem) (l : Int) (g1 g5 g6 : AV), ExtB c m M → M.get c = .cells 67 [.int .i64 l, .bool false] → M.get m.next = .cells 26 [.int .i64 k, .str t, ka, kb] → ¬ P →
        wc CS (.seq (.region q33r3) (.seq (.region q33r4) (.block 0 (.loop [1, 5, 6] q33l8)))) (endsIn [] (fun _ m' => ExtB c m m' ∧ CntR c P (left - 1 - nodesL kids) m') noPan) [.ptr c 0, g1, .int .i64 deep, .ptr m.next 0, .u, g5, g6] M := by
      intro M l g1 g5 g6 hE hg hv hn
      have hv2 : (M.set c (.cells 67 [.int .i64 l, .bool true])).get m.next = .cells 26 [.int .i64 k, .str t, ka, kb] := by rw [get_set_other (by omega)]; exact hv
      have hg2 : (M.set c (.cells 67 [.int .i64 l, .bool true])).get c = .cells 67 [.int .i64 l, .bool true] := get_set_same
      have hE2 : ExtB c m (M.set c (.cells 67 [.int .i64 l, .bool true])) := hE.setp _
      simp only [go_sem, reduceIte, Nat.reduceEqDiff, Nat.reduceAdd, q33r3, hg, q33r4]
      generalize M.set c (.cells 67 [.int .i64 l, .bool true]) = M2 at hv2 hg2 hE2
      refine wl_step ?_
      by_cases hz : 0 < xs.length
      · have e3 : decide ((0 : Int) < (xs.length : Nat)) = true := dT (by omega)
        simp only [go_sem, reduceIte, Nat.reduceEqDiff, Nat.reduceAdd, q33l8, q33r5, hv2, h2.isLK, h2.len, e3, hg2]
        exact ⟨hE2, .inr ⟨hn, _, hg2⟩⟩
      · have e3 : decide ((0 : Int) < (xs.length : Nat)) = false := dF (by omega)
        simp only [go_sem, reduceIte, Nat.reduceEqDiff, Nat.reduceAdd, q33l8, q33r5, hv2, h2.isLK, h2.len, e3]
        exact ⟨hE2, .inr ⟨hn, _, hg2⟩⟩
    by_cases hl0 : left = 0
    · have w0 : IntKind.i64.wrap ((left : Int) - 1) = -1 := by rw [hl0]; rfl
      have e0 : decide ((-1 : Int) < 0) = true := rfl
      have hn : ¬ P := fun h => by have := hP.1 h; omega
      have := badend (M0.set c (.cells 67 [.int .i64 (-1), .bool false])) (-1) .u (.bool true) .u (E0.setp _) get_set_same (by rw [get_set_other (by omega)]; exact g0) hn
      simp only [go_sem, reduceIte, Nat.reduceEqDiff, Nat.reduceAdd, w0, q33r2, e0, q33l8] at this ⊢
      exact this
    · have w0 : IntKind.i64.wrap ((left : Int) - 1) = ((left - 1 : Nat) : Int) := by rw [wrap_i64 (by omega)]; omega
      have e0 : decide (((left - 1 : Nat) : Int) < 0) = false := dF (by omega)
      have gc1 : (M0.set c (CP (left - 1))).get c = CP (left - 1) := get_set_same
      have g1 : (M0.set c (CP (left - 1))).get m.next = .cells 26 [.int .i64 k, .str t, ka, kb] := by rw [get_set_other (by omega)]; exact g0
      have E1 : ExtB c m (M0.set c (CP (left - 1))) := E0.setp _
      have n1 : (M0.set c (CP (left - 1))).next = m.next + 1 := n0
      simp only [go_sem, reduceIte, Nat.reduceEqDiff, Nat.reduceAdd, w0, q33r2, e0]
      generalize M0.set c (CP (left - 1)) = M1 at gc1 g1 E1 n1
      obtain ⟨v, M2, c1, rfl, c2⟩ := pone_ok (k := k) (t := t) h1 h2 (by omega) (by omega) (by omega) (fun x hx => by have := f4 x hx; omega) M1
      have gc2 : M2.get c = CP (left - 1) := by rw [c2.get c (by omega)]; exact gc1
      have g2 : M2.get m.next = .cells 26 [.int .i64 k, .str t, ka, kb] := by rw [c2.get _ (by omega)]; exact g1
      have E2 : ExtB c m M2 := E1.trans (ext_extB c2)
      have n2 : m.next < M2.next := by have := c2.next; omega
      simp only [go_sem, reduceIte, Nat.reduceEqDiff, Nat.reduceAdd, g1, gc1]
      refine callW_ret c1 ?_
      rw [hxl]
      cases hone : poneS k t keys kids.length with
      | false =>
        have hn : ¬ P := by
          intro h
          obtain ⟨p1, _, _, p4⟩ := hP.1 h
          have hge := nodesL_ge (l := kids)
          have : decide (k ≠ 6) = false ∧ decide (keys.length ≤ 4096) = false := by
            simpa [poneS, p1] using hone
          have k6 : k = 6 := by simpa using this.1
          have hk := this.2
          simp only [decide_eq_false_iff_not] at hk
          subst k6
          have := oneS_tab p1
          omega
        have := badend M2 _ .u (.bool true) .u E2 gc2 g2 hn
        simp only [go_sem, reduceIte, Nat.reduceEqDiff, Nat.reduceAdd, q33l8] at this ⊢
        exact this
      | true =>
        have hone' : oneS k t keys kids.length = true := by
          simp only [poneS, Bool.and_eq_true] at hone; exact hone.1
        have fin : (k < 5 ∨ deep < 64) → ∀ g1 g5 g6, wc CS (.seq (.region q33r4) (.block 0 (.loop [1, 5, 6] q33l8))) (endsIn [] (fun _ m' => ExtB c m m' ∧ CntR c P (left - 1 - nodesL kids) m') noPan) [.ptr c 0, g1, .int .i64 deep, .ptr m.next 0, .u, g5, g6] M2 := by
          intro hd y1 y5 y6
          simp only [go_sem, reduceIte, Nat.reduceEqDiff, Nat.reduceAdd, q33r4]
          refine pcount_loop (m := M2) (P := P) (F := left - 1 - nodesL kids) h2 hxl hx2 (by omega) n2 (by omega) (by omega) g2 (fun hk0 => ?_) ih (fun M hE hC z0 z1 z2 z3 z4 z5 z6 => ?_) kids.length 0 (left - 1) M2 _ _ _ (by omega) (by omega) (ExtB.refl c M2) gc2 ?_ (fun _ => by rw [List.drop_zero])
          · rcases oneS_kids hone' hk0 with e | e <;> omega
          · simp only [go_sem, reduceIte, Nat.reduceEqDiff, Nat.reduceAdd]
            exact ⟨E2.trans hE, hC⟩
          · rw [List.drop_zero, hP]
            constructor
            · rintro ⟨_, _, y3, y4⟩; exact ⟨y3, by omega⟩
            · rintro ⟨y3, y4⟩; exact ⟨hone', hd, y3, by omega⟩
        by_cases k5 : k < 5
        · have e5 : decide (k ≥ 5) = false := dF (by omega)
          have := fin (.inl k5) .u (.bool false) .u
          simp only [go_sem, reduceIte, Nat.reduceEqDiff, Nat.reduceAdd, g2, e5, q33l8] at this ⊢
          exact this
        · have e5 : decide (k ≥ 5) = true := dT (by omega)
          by_cases d64 : deep = 64
          · have e6 : ((deep : Int) == 64) = true := bqT (by omega)
            have hn : ¬ P := fun h => by have := hP.1 h; omega
            have := badend M2 _ .u (.bool true) .u E2 gc2 g2 hn
            simp only [go_sem, reduceIte, Nat.reduceEqDiff, Nat.reduceAdd, g2, e5, e6, q33l8] at this ⊢
            exact this
          · have e6 : ((deep : Int) == 64) = false := bqF (by omega)
            have := fin (.inr (by omega)) .u (.bool false) .u
            simp only [go_sem, reduceIte, Nat.reduceEqDiff, Nat.reduceAdd, g2, e5, e6, q33l8] at this ⊢
            exact this
theorem pmay_ok {T : VT} (hf : Fit T) {a : AV} (ha : IsVal a T) (m : Mem) : ∃ v m', CS 18 [a] m (.ret v) m' ∧ v = .bool (mayT T) ∧ Ext m m' := by
  refine call_some (R := fun v m' => v = .bool (mayT T) ∧ Ext m m') xfok mixed q18at q18ok rfl ?_
  obtain ⟨k, t, ka, kb, rfl, o1, o2⟩ := ha.ones
  have g0 : ((m.alloc (.cells 26 [.int .i64 k, .str t, ka, kb])).alloc (CP 4096)).get m.next = .cells 26 [.int .i64 k, .str t, ka, kb] := by rw [get_old (by simp [Mem.alloc])]; exact get_new
  have g1 : ((m.alloc (.cells 26 [.int .i64 k, .str t, ka, kb])).alloc (CP 4096)).get (m.next + 1) = CP 4096 := get_new
  have E : Ext m ((m.alloc (.cells 26 [.int .i64 k, .str t, ka, kb])).alloc (CP 4096)) := (Ext.alloc _ _).trans (Ext.alloc _ _)
  have n0 : ((m.alloc (.cells 26 [.int .i64 k, .str t, ka, kb])).alloc (CP 4096)).next = m.next + 2 := rfl
  simp only [go_sem, reduceIte, Nat.reduceEqDiff, Nat.reduceAdd, q18, q18r0, o1, o2, q18r1, next_alloc, q18r2]
  generalize (m.alloc (.cells 26 [.int .i64 k, .str t, ka, kb])).alloc (CP 4096) = M at g0 g1 E n0
  obtain ⟨v, M2, c1, c2, c3⟩ := pcount_all hf M (m.next + 1) _ 0 4096 ha (by omega) (by omega) (by omega) g1
  have c1' : CS 33 [.ptr (m.next + 1) 0, .agg [.int .i64 k, .str t, ka, kb], .int .i64 0] M (.ret v) M2 := c1
  simp only [go_sem, reduceIte, Nat.reduceEqDiff, Nat.reduceAdd, g0]
  refine callW_ret c1' ?_
  have E2 : Ext m M2 := extB_ext ((ext_extB (p := m.next + 1) E).trans c2) (by omega)
  rcases c3 with ⟨p1, p2⟩ | ⟨p1, l, p2⟩
  · have hS : mayT T = true := by simp only [mayT, Bool.and_eq_true, decide_eq_true_eq]; exact p1
    simp only [go_sem, reduceIte, Nat.reduceEqDiff, Nat.reduceAdd, q18r3, p2, hS]
    exact E2
  · have hS : mayT T = false := by
      cases h : mayT T with
      | false => rfl
      | true => simp only [mayT, Bool.and_eq_true, decide_eq_true_eq] at h; exact absurd h p1
    simp only [go_sem, reduceIte, Nat.reduceEqDiff, Nat.reduceAdd, q18r3, p2, hS]
    exact E2
end Go.Proofs.YtinlfdkalijffaaDoor.Am.Q

/-
  JSON, 50: which values may be: the document's May.
-/
namespace Go.Proofs.YtinlfdkalijffaaDoor.Am.Q
open Go Go.Proofs Go.Proofs.YtinlfdkalijffaaDoor.Am

theorem oneS_keys {k : Int} {t : List UInt8} {ks : List (List UInt8)} {n : Nat} (h : oneS k t ks n = true) : ks.length = 0 ∨ ks.length = n := by
  unfold oneS bareS at h
  split at h
  · exact .inl (of_decide_eq_true (Bool.and_eq_true _ _ |>.mp (Bool.and_eq_true _ _ |>.mp h).1).1)
  · split at h
    · exact .inl (of_decide_eq_true (Bool.and_eq_true _ _ |>.mp (Bool.and_eq_true _ _ |>.mp h).1).1)
    · split at h
      · exact .inl (of_decide_eq_true (Bool.and_eq_true _ _ |>.mp (Bool.and_eq_true _ _ |>.mp h).1).1)
      · split at h
        · exact .inl (of_decide_eq_true (Bool.and_eq_true _ _ |>.mp (Bool.and_eq_true _ _ |>.mp h).1).1)
        · split at h
          · exact .inl (of_decide_eq_true (Bool.and_eq_true _ _ |>.mp h).2)
          · split at h
            · exact .inr (of_decide_eq_true (Bool.and_eq_true _ _ |>.mp (Bool.and_eq_true _ _ |>.mp h).1).2)
            · cases h

def RCount (T : VT) : Prop := ∀ (m : Mem) (a : AV) (deep left : Nat), IsVal a T → deep ≤ 64 → left ≤ 4096 →
  ∃ v m', CS 34 [a, .int .i64 deep, .int .i64 left] m (.ret v) m' ∧ Ext m m' ∧ ∃ n : Nat, v = .int .i64 n ∧ n ≤ 4097 ∧ ((goodT deep T = true ∧ nodesT T ≤ left) → n = nodesT T) ∧ (¬ (goodT deep T = true ∧ nodesT T ≤ left) → left < n)
theorem rcount_loop {m : Mem} {q : Nat} {k : Int} {t : List UInt8} {ka kb : AV} {xs : List AV} {kids : List VT} (h2 : SlOf 4 kb xs) (hxl : xs.length = kids.length) (hx2 : ∀ i, i < kids.length → IsVal (xs.getD i .u) (kids.getD i VT.zero)) (hlen : kids.length < 2 ^ 47)
    (hq : q < m.next) (hgq : m.get q = .cells 26 [.int .i64 k, .str t, ka, kb]) {deep left : Nat} (hleft : left ≤ 4096) (hdeep : kids.length ≠ 0 → deep < 64) (ih : ∀ i, i < kids.length → RCount (kids.getD i VT.zero)) {P : Prop} {F : Nat} {Q : AExit → List AV → Mem → Prop}
    (hx : ∀ M (n : Nat), Ext m M → n ≤ 8193 → (P → n = F) → (¬ P → left < n) → ∀ g0 g1 g2 g3 g4 g6 g7 g8, Q (.exit 0) [g0, g1, g2, g3, g4, .int .i64 n, g6, g7, g8] M) :
    ∀ (r i n : Nat) (M : Mem) (g0 g4 g7 g8 : AV), i + r = kids.length → n ≤ 8193 → Ext m M → (P ↔ (goodL (deep + 1) (kids.drop i) = true ∧ n + nodesL (kids.drop i) ≤ left)) → (P → F = n + nodesL (kids.drop i)) →
      wl CS [0, 4, 7, 8] q34l8 Q [g0, .int .i64 deep, .int .i64 left, .ptr q 0, g4, .int .i64 n, .int .i64 i, g7, g8] M := by
  intro r
  induction r with
  | zero =>
    intro i n M g0 g4 g7 g8 hi hn hE hP hF
    refine wl_step ?_
    have e1 : decide ((i : Int) < (xs.length : Nat)) = false := dF (by omega)
    have hgq' : M.get q = .cells 26 [.int .i64 k, .str t, ka, kb] := by rw [hE.get q hq]; exact hgq
    have hd : kids.drop i = [] := List.drop_of_length_le (by omega)
    rw [hd] at hP hF
    simp only [goodL, nodesL, true_and, Nat.add_zero] at hP hF
    simp only [go_sem, reduceIte, Nat.reduceEqDiff, Nat.reduceAdd, q34l8, q34r5, hgq', h2.isLK, h2.len, e1]
    exact hx _ _ hE hn (fun h => (hF h).symm) (fun h => by have := mt hP.2 h; omega) _ _ _ _ _ _ _ _
  | succ r ihr =>
    intro i n M g0 g4 g7 g8 hi hn hE hP hF
    refine wl_step ?_
    have e1 : decide ((i : Int) < (xs.length : Nat)) = true := dT (by omega)
    have hi1 : i < kids.length := by omega
    have hgq' : M.get q = .cells 26 [.int .i64 k, .str t, ka, kb] := by rw [hE.get q hq]; exact hgq
    have hxi := hx2 i hi1
    have ea := h2.idx (k := .i64) (i := (i : Int)) (y := xs.getD i .u) (by omega) (by simp [List.getD, show i < xs.length by omega])
    obtain ⟨k1, t1, a1, b1, e2, _⟩ := hxi.shape
    rw [e2] at ea hxi
    have hw := wrap_succ (i := i) (by omega)
    have hwd := wrap_succ (i := deep) (by have := hdeep (by omega); omega)
    have hd : kids.drop i = kids.getD i VT.zero :: kids.drop (i + 1) := by
      rw [List.drop_eq_getElem_cons hi1, show kids.getD i VT.zero = kids[i] by simp [List.getD, hi1]]
    rw [hd] at hP hF
    simp only [goodL, nodesL, Bool.and_eq_true] at hP hF
    by_cases hnl : n ≤ left
    · have e3 : decide ((n : Int) ≤ (left : Int)) = true := dT (by omega)
      have hwl : IntKind.i64.wrap ((left : Int) - (n : Int)) = ((left - n : Nat) : Int) := by rw [wrap_i64 (by omega)]; omega
      obtain ⟨v, M2, c1, c2, x, rfl, c3, c4, c5⟩ := ih i hi1 M _ (deep + 1) (left - n) hxi (by have := hdeep (by omega); omega) (by omega)
      have hwn : IntKind.i64.wrap ((n : Int) + (x : Int)) = ((n + x : Nat) : Int) := by rw [wrap_i64 (by omega)]; omega
      simp only [go_sem, reduceIte, Nat.reduceEqDiff, Nat.reduceAdd, q34l8, q34r5, hgq', h2.isLK, h2.len, e1, e3, q34r6, ea, hwd, hwl]
      refine callW_ret c1 ?_
      simp only [go_sem, reduceIte, Nat.reduceEqDiff, Nat.reduceAdd, hwn, q34r7, hw]
      refine ihr (i + 1) (n + x) M2 _ _ _ _ (by omega) (by omega) (hE.trans c2) ?_ ?_
      · rw [hP]
        constructor
        · rintro ⟨⟨y0, y1⟩, y2⟩
          have := c4 ⟨y0, by omega⟩
          exact ⟨y1, by omega⟩
        · rintro ⟨y1, y2⟩
          by_cases hk : goodT (deep + 1) (kids.getD i VT.zero) = true ∧ nodesT (kids.getD i VT.zero) ≤ left - n
          · have := c4 hk
            exact ⟨⟨hk.1, y1⟩, by omega⟩
          · have := c5 hk
            omega
      · intro hp
        have h1 := hP.1 hp
        have := c4 ⟨h1.1.1, by omega⟩
        rw [hF hp]; omega
    · have e3 : decide ((n : Int) ≤ (left : Int)) = false := dF (by omega)
      simp only [go_sem, reduceIte, Nat.reduceEqDiff, Nat.reduceAdd, q34l8, q34r5, hgq', h2.isLK, h2.len, e1, e3]
      exact hx _ _ hE hn (fun h => by have := hP.1 h; omega) (fun _ => by omega) _ _ _ _ _ _ _ _
theorem rcount_all {T : VT} (hf : Fit T) : RCount T := by
  induction hf with
  | @mk k t keys kids f1 f2 f3 f4 _ ih =>
    intro m a deep left ha hdeep hleft
    cases ha with
    | @mk _ _ ka kb _ _ xs h1 h2 hxl hx2 =>
    have hP : (goodT deep (.node k t keys kids) = true ∧ 1 + nodesL kids ≤ left) ↔ (oneS k t keys kids.length = true ∧ (k < 5 ∨ deep < 64) ∧ goodL (deep + 1) kids = true ∧ 1 + nodesL kids ≤ left) := by
      simp only [goodT, Bool.and_eq_true, Bool.or_eq_true, decide_eq_true_eq, and_assoc]
    have hF : nodesT (.node k t keys kids) = 1 + nodesL kids := by simp only [nodesT]
    rw [hF]
    generalize hPe : (goodT deep (.node k t keys kids) = true ∧ 1 + nodesL kids ≤ left) = P at hP
    have key : ∃ v m', CS 34 [.agg [.int .i64 k, .str t, ka, kb], .int .i64 deep, .int .i64 left] m (.ret v) m' ∧ Ext m m' ∧ ∃ n : Nat, v = .int .i64 n ∧ n ≤ 4097 ∧ (P → n = 1 + nodesL kids) ∧ (¬ P → left < n) := by
      refine call_some (R := fun v m' => Ext m m' ∧ ∃ n : Nat, v = .int .i64 n ∧ n ≤ 4097 ∧ (P → n = 1 + nodesL kids) ∧ (¬ P → left < n)) xfok mixed q34at q34ok rfl ?_
      have g0 : (m.alloc (.cells 26 [.int .i64 k, .str t, ka, kb])).get m.next = .cells 26 [.int .i64 k, .str t, ka, kb] := get_new
      have n0 : (m.alloc (.cells 26 [.int .i64 k, .str t, ka, kb])).next = m.next + 1 := rfl
      have E0 : Ext m (m.alloc (.cells 26 [.int .i64 k, .str t, ka, kb])) := Ext.alloc _ _
      have o1 := h1.one
      have o2 := h2.one
      have hge := nodesL_ge (l := kids)
      simp only [go_sem, reduceIte, Nat.reduceEqDiff, Nat.reduceAdd, q34, q34r0, o1, o2]
      generalize m.alloc (.cells 26 [.int .i64 k, .str t, ka, kb]) = M0 at g0 n0 E0
      by_cases hl0 : left = 0
      · have e0 : decide ((left : Int) ≤ 0) = true := dT (by omega)
        have hn : ¬ P := fun h => by have := hP.1 h; omega
        simp only [go_sem, reduceIte, Nat.reduceEqDiff, Nat.reduceAdd, q34r1, e0, q34r2]
        exact ⟨E0, 4097, rfl, by omega, fun h => absurd h hn, fun _ => by omega⟩
      · have e0 : decide ((left : Int) ≤ 0) = false := dF (by omega)
        by_cases hk1 : kids.length > 4096
        · have e1 : decide ((xs.length : Int) > 4096) = true := dT (by omega)
          have hn : ¬ P := fun h => by have := hP.1 h; omega
          simp only [go_sem, reduceIte, Nat.reduceEqDiff, Nat.reduceAdd, q34r1, e0, g0, h2.isLK, h2.len, e1, q34r2]
          exact ⟨E0, 4097, rfl, by omega, fun h => absurd h hn, fun _ => by omega⟩
        · have e1 : decide ((xs.length : Int) > 4096) = false := dF (by omega)
          by_cases hk2 : keys.length > 4096
          · have e2 : decide ((keys.length : Int) > 4096) = true := dT (by omega)
            have hn : ¬ P := by
              intro h
              rcases oneS_keys (hP.1 h).1 with e | e <;> omega
            simp only [go_sem, reduceIte, Nat.reduceEqDiff, Nat.reduceAdd, q34r1, e0, g0, h1.isLK, h1.len, h2.isLK, h2.len, List.length_map, e1, e2, q34r2]
            exact ⟨E0, 4097, rfl, by omega, fun h => absurd h hn, fun _ => by omega⟩
          · have e2 : decide ((keys.length : Int) > 4096) = false := dF (by omega)
            obtain ⟨v, M2, c1, rfl, c2⟩ := rone_ok (k := k) (t := t) h1 h2 (by omega) (by omega) (by omega) (fun x hx => by have := f4 x hx; omega) M0
            have g2 : M2.get m.next = .cells 26 [.int .i64 k, .str t, ka, kb] := by rw [c2.get _ (by omega)]; exact g0
            have E2 := E0.trans c2
            have n2 : m.next < M2.next := by have := c2.next; omega
            simp only [go_sem, reduceIte, Nat.reduceEqDiff, Nat.reduceAdd, q34r1, e0, g0, h1.isLK, h1.len, h2.isLK, h2.len, List.length_map, e1, e2]
            refine callW_ret c1 ?_
            rw [hxl]
            cases hone : oneS k t keys kids.length with
            | false =>
              have hn : ¬ P := fun h => by have := (hP.1 h).1; rw [hone] at this; cases this
              simp only [go_sem, reduceIte, Nat.reduceEqDiff, Nat.reduceAdd, q34r2]
              exact ⟨E2, 4097, rfl, by omega, fun h => absurd h hn, fun _ => by omega⟩
            | true =>
              have fin : (k < 5 ∨ deep < 64) → ∀ g4 g7 g8, wc CS (.seq (.region q34r3) (.seq (.seq (.region q34r4) (.block 0 (.loop [0, 4, 7, 8] q34l8))) (.seq (.region q34r9) .ret))) (endsIn [.var 4] (fun v m' => Ext m m' ∧ ∃ n : Nat, v = .int .i64 n ∧ n ≤ 4097 ∧ (P → n = 1 + nodesL kids) ∧ (¬ P → left < n)) noPan) [.u, .int .i64 deep, .int .i64 left, .ptr m.next 0, g4, .u, .u, g7, g8] M2 := by
                intro hd y4 y7 y8
                simp only [go_sem, reduceIte, Nat.reduceEqDiff, Nat.reduceAdd, q34r3, q34r4]
                refine rcount_loop (m := M2) (P := P) (F := 1 + nodesL kids) h2 hxl hx2 (by omega) n2 g2 hleft (fun hk0 => ?_) ih (fun M n hE hn hA hB z0 z1 z2 z3 z4 z6 z7 z8 => ?_) kids.length 0 1 M2 _ _ _ _ (by omega) (by omega) (Ext.refl M2) ?_ (fun _ => by rw [List.drop_zero])
                · rcases oneS_kids hone hk0 with e | e <;> omega
                · simp only [go_sem, reduceIte, Nat.reduceEqDiff, Nat.reduceAdd, q34r9, minV_of]
                  refine ⟨E2.trans hE, ?_⟩
                  by_cases h40 : (4097 : Int) < (n : Int)
                  · rw [if_pos h40]
                    exact ⟨4097, rfl, by omega, fun h => by have := hA h; have := hP.1 h; omega, fun _ => by omega⟩
                  · rw [if_neg h40]
                    exact ⟨n, rfl, by omega, hA, hB⟩
                · rw [List.drop_zero, hP]
                  constructor
                  · rintro ⟨_, _, y3, y4⟩; exact ⟨y3, by omega⟩
                  · rintro ⟨y3, y4⟩; exact ⟨hone, hd, y3, by omega⟩
              by_cases hk56 : k = 5 ∨ k = 6
              · by_cases d64 : 64 ≤ deep
                · have e6 : decide ((deep : Int) ≥ 64) = true := dT (by omega)
                  have hn : ¬ P := fun h => by have := hP.1 h; omega
                  by_cases k5 : k = 5
                  · have f5 : (k == 5) = true := iqT k5
                    simp only [go_sem, reduceIte, Nat.reduceEqDiff, Nat.reduceAdd, g2, f5, e6, q34r2]
                    exact ⟨E2, 4097, rfl, by omega, fun h => absurd h hn, fun _ => by omega⟩
                  · have f5 : (k == 5) = false := iqF k5
                    have f6 : (k == 6) = true := iqT (by omega)
                    simp only [go_sem, reduceIte, Nat.reduceEqDiff, Nat.reduceAdd, g2, f5, f6, e6, q34r2]
                    exact ⟨E2, 4097, rfl, by omega, fun h => absurd h hn, fun _ => by omega⟩
                · have e6 : decide ((deep : Int) ≥ 64) = false := dF (by omega)
                  have := fin (.inr (by omega)) .u (.bool false) .u
                  by_cases k5 : k = 5
                  · have f5 : (k == 5) = true := iqT k5
                    simp only [go_sem, reduceIte, Nat.reduceEqDiff, Nat.reduceAdd, g2, f5, e6] at this ⊢
                    exact this
                  · have f5 : (k == 5) = false := iqF k5
                    have f6 : (k == 6) = true := iqT (by omega)
                    simp only [go_sem, reduceIte, Nat.reduceEqDiff, Nat.reduceAdd, g2, f5, f6, e6] at this ⊢
                    exact this
              · have f5 : (k == 5) = false := iqF (by omega)
                have f6 : (k == 6) = false := iqF (by omega)
                have hlt : k < 5 := by
                  unfold oneS at hone
                  by_cases j1 : k = 1
                  · omega
                  · by_cases j2 : k = 2
                    · omega
                    · by_cases j3 : k = 3
                      · omega
                      · by_cases j4 : k = 4
                        · omega
                        · rw [if_neg j1, if_neg j2, if_neg j3, if_neg j4, if_neg (by omega), if_neg (by omega)] at hone
                          cases hone
                have := fin (.inl hlt) .u (.bool false) .u
                simp only [go_sem, reduceIte, Nat.reduceEqDiff, Nat.reduceAdd, g2, f5, f6] at this ⊢
                exact this
    exact key
theorem rmay_ok {T : VT} (hf : Fit T) {a : AV} (ha : IsVal a T) (m : Mem) : ∃ v m', CS 19 [a] m (.ret v) m' ∧ v = .bool (mayT T) ∧ Ext m m' := by
  refine call_some (R := fun v m' => v = .bool (mayT T) ∧ Ext m m') xfok mixed q19at q19ok rfl ?_
  obtain ⟨k, t, ka, kb, rfl, o1, o2⟩ := ha.ones
  have g0 : (m.alloc (.cells 26 [.int .i64 k, .str t, ka, kb])).get m.next = .cells 26 [.int .i64 k, .str t, ka, kb] := get_new
  have E : Ext m (m.alloc (.cells 26 [.int .i64 k, .str t, ka, kb])) := Ext.alloc _ _
  simp only [go_sem, reduceIte, Nat.reduceEqDiff, Nat.reduceAdd, q19, q19r0, o1, o2, q19r1]
  generalize m.alloc (.cells 26 [.int .i64 k, .str t, ka, kb]) = M at g0 E
  obtain ⟨v, M2, c1, c2, n, rfl, c3, c4, c5⟩ := rcount_all hf M _ 0 4096 ha (by omega) (by omega)
  have c1' : CS 34 [.agg [.int .i64 k, .str t, ka, kb], .int .i64 0, .int .i64 4096] M (.ret (.int .i64 n)) M2 := c1
  simp only [go_sem, reduceIte, Nat.reduceEqDiff, Nat.reduceAdd, g0]
  refine callW_ret c1' ?_
  have E2 : Ext m M2 := E.trans c2
  by_cases hp : goodT 0 T = true ∧ nodesT T ≤ 4096
  · have hS : mayT T = true := by simp only [mayT, Bool.and_eq_true, decide_eq_true_eq]; exact hp
    have e : decide ((n : Int) ≤ 4096) = true := dT (by have := c4 hp; omega)
    simp only [go_sem, reduceIte, Nat.reduceEqDiff, Nat.reduceAdd, e, hS]
    exact E2
  · have hS : mayT T = false := by
      cases h : mayT T with
      | false => rfl
      | true => simp only [mayT, Bool.and_eq_true, decide_eq_true_eq] at h; exact absurd h hp
    have e : decide ((n : Int) ≤ 4096) = false := dF (by have := c5 hp; omega)
    simp only [go_sem, reduceIte, Nat.reduceEqDiff, Nat.reduceAdd, e, hS]
    exact E2
end Go.Proofs.YtinlfdkalijffaaDoor.Am.Q
