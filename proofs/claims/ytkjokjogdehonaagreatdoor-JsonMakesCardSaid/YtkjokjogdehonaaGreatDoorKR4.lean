/- Part KR4 of a claim's texts, joined: what the claim needs of them. -/
import Derived.Test.YtkjokjogdehonaaGreatDoorKR3
set_option linter.unusedSimpArgs false
set_option linter.unusedVariables false
namespace Go.Proofs.YtkjokjogdehonaaGreatDoor.Am.Q
open Go Go.Proofs Go.Proofs.YtkjokjogdehonaaGreatDoor.Am
def twS : List (List UInt8) → List (List UInt8) → Bool
  | _, [] => false
  | met, s :: r => decide (s ∈ met) || twS (met ++ [s]) r
def allT (ks : List (List UInt8)) : Bool := ks.all isT
end Go.Proofs.YtkjokjogdehonaaGreatDoor.Am.Q
namespace Go.Proofs.YtkjokjogdehonaaGreatDoor.Am.Q
open Go Go.Proofs Go.Proofs.YtkjokjogdehonaaGreatDoor.Am
theorem iqT {a b : Int} (h : a = b) : (a == b) = true := by simp [h]
theorem iqF {a b : Int} (h : a ≠ b) : (a == b) = false := by simp [h]
def bareS (keys : List (List UInt8)) (nk : Nat) : Bool := decide (keys.length = 0) && decide (nk = 0)
def oneS (k : Int) (t : List UInt8) (keys : List (List UInt8)) (nk : Nat) : Bool :=
  if k = 1 then bareS keys nk && (t == [])
  else if k = 2 then bareS keys nk && (t == tTrue || t == tFalse)
  else if k = 3 then bareS keys nk && numS t
  else if k = 4 then bareS keys nk && isT t
  else if k = 5 then (t == []) && decide (keys.length = 0)
  else if k = 6 then (t == []) && decide (keys.length = nk) && (!twS [] keys && allT keys)
  else false
section
variable {k : Int} {t : List UInt8} {ka kb : AV} {keys : List (List UInt8)} {xs : List AV}
end
end Go.Proofs.YtkjokjogdehonaaGreatDoor.Am.Q
namespace Go.Proofs.YtkjokjogdehonaaGreatDoor.Am.Q
open Go Go.Proofs Go.Proofs.YtkjokjogdehonaaGreatDoor.Am
def refB : List (List UInt8) → List (List UInt8) → Bool
  | _, [] => true
  | met, s :: r => if isT s = true then (if s ∈ met then false else refB (met ++ [s]) r) else false
theorem refB_eq : ∀ {ks met : List (List UInt8)}, refB met ks = (!twS met ks && allT ks)
  | [], _ => rfl
  | s :: r, met => by
    have ih := refB_eq (ks := r) (met := met ++ [s])
    have ea : allT (s :: r) = (isT s && allT r) := rfl
    simp only [refB, twS, ea]
    cases ht : isT s with
    | false => simp
    | true =>
      by_cases hin : s ∈ met
      · simp [hin]
      · simp [hin, ih]
theorem slice_upto {a : AV} {ks : List (List UInt8)} (ha : SlOf 1 a (ks.map .str)) {i : Nat} (hi : i ≤ ks.length) : ∃ b, sliceSl a none (some (.int .i64 (i : Int))) none = some b ∧ SlOf 1 b ((ks.take i).map .str) ∧ szOk 1 a = true := by
  rcases ha with ⟨rfl, h⟩ | ⟨o, rfl⟩
  · have : ks = [] := by simpa using h
    subst this
    obtain rfl : i = 0 := by simpa using hi
    exact ⟨.nilSl, by simp [sliceSl, boundV], .inl ⟨rfl, rfl⟩, rfl⟩
  · refine ⟨.sl (ownOf o i ks.length) 1 ((ks.take i).map .str), ?_, .inr ⟨_, rfl⟩, by simp [szOk]⟩
    simp only [sliceSl, boundV, List.length_map]
    rw [if_pos ⟨by omega, by omega⟩]
    simp [List.map_take]
section
variable {k : Int} {t : List UInt8} {ka kb : AV} {keys : List (List UInt8)} {xs : List AV}
theorem rone_loop {M : Mem} {p : Nat} (hg : M.get p = .cells 27 [.int .i64 k, .str t, ka, kb]) (h1 : SlOf 1 ka (keys.map .str)) (hl : keys.length < 2 ^ 47) (hks : ∀ k ∈ keys, k.length < 2 ^ 60) {B : Bool} {Q : AExit → List AV → Mem → Prop}
    (hx : B = true → ∀ g0 g2 g3 g4 g5 g6 g7 g8 g9 g10 g11 g12 g13, Q (.exit 1) [g0, .ptr p 0, g2, g3, g4, g5, g6, g7, g8, g9, g10, g11, g12, g13] M) (hr : B = false → ∀ g0 g1 g3 g4 g5 g6 g7 g8 g9 g10 g11 g12 g13, Q .ret [g0, g1, .bool false, g3, g4, g5, g6, g7, g8, g9, g10, g11, g12, g13] M) :
    ∀ (r i : Nat) (g0 g2 g3 g5 g6 g7 g8 g9 g10 g11 g12 g13 : AV), i + r = keys.length → B = refB (keys.take i) (keys.drop i) →
      wl CS [0, 2, 3, 5, 6, 7, 8, 9, 10, 11, 12, 13] q157l19 Q [g0, .ptr p 0, g2, g3, .int .i64 i, g5, g6, g7, g8, g9, g10, g11, g12, g13] M := by
  intro r
  induction r with
  | zero =>
    intro i g0 g2 g3 g5 g6 g7 g8 g9 g10 g11 g12 g13 hi hB
    refine wl_step ?_
    have e1 : decide ((i : Int) < (keys.length : Nat)) = false := dF (by omega)
    simp only [go_sem, reduceIte, Nat.reduceEqDiff, Nat.reduceAdd, q157l19, q157r15, hg, h1.isLK, h1.len, List.length_map, e1]
    exact hx (by rw [hB, List.drop_of_length_le (by omega)]; rfl) _ _ _ _ _ _ _ _ _ _ _ _ _
  | succ r ih =>
    intro i g0 g2 g3 g5 g6 g7 g8 g9 g10 g11 g12 g13 hi hB
    refine wl_step ?_
    have hlt : i < keys.length := by omega
    have e1 : decide ((i : Int) < (keys.length : Nat)) = true := dT (by omega)
    have ea := h1.idx (k := .i64) (i := (i : Int)) (y := .str keys[i]) (by omega) (by simp [hlt])
    have hw1 := wrap_succ (i := i) (by omega)
    have hd : keys.drop i = keys[i] :: keys.drop (i + 1) := List.drop_eq_getElem_cons hlt
    have ht : keys.take (i + 1) = keys.take i ++ [keys[i]] := by rw [List.take_add_one, List.getElem?_eq_getElem hlt]; rfl
    rw [hd] at hB
    have hB' : B = if isT keys[i] = true then (if keys[i] ∈ keys.take i then false else refB (keys.take i ++ [keys[i]]) (keys.drop (i + 1))) else false := hB
    have hkl := hks _ (List.getElem_mem hlt)
    simp only [go_sem, reduceIte, Nat.reduceEqDiff, Nat.reduceAdd, q157l19, q157r15, hg, h1.isLK, h1.len, List.length_map, e1, q157r16, ea]
    refine callW_ret (rtext_ok (by omega) M) ?_
    cases hT : isT keys[i] with
    | false =>
      rw [if_neg (by rw [hT]; simp)] at hB'
      simp only [go_sem, reduceIte, Nat.reduceEqDiff, Nat.reduceAdd, q157r17]
      exact hr hB' _ _ _ _ _ _ _ _ _ _ _ _ _
    | true =>
      rw [if_pos hT] at hB'
      obtain ⟨b, s1, s2, s3⟩ := slice_upto h1 (i := i) (by omega)
      simp only [go_sem, reduceIte, Nat.reduceEqDiff, Nat.reduceAdd, hg, s1, s3, ea]
      refine callW_ret (has_ok M s2 (by rw [List.length_take]; omega)) ?_
      by_cases hin : keys[i] ∈ keys.take i
      · rw [if_pos hin] at hB'
        simp only [go_sem, reduceIte, Nat.reduceEqDiff, Nat.reduceAdd, dT hin, q157r17]
        exact hr hB' _ _ _ _ _ _ _ _ _ _ _ _ _
      · rw [if_neg hin] at hB'
        simp only [go_sem, reduceIte, Nat.reduceEqDiff, Nat.reduceAdd, dF hin, q157r18, hw1]
        exact ih (i + 1) _ _ _ _ _ _ _ _ _ _ _ _ (by omega) (by rw [ht]; exact hB')
theorem rone_ok (h1 : SlOf 1 ka (keys.map .str)) (h2 : SlOf 4 kb xs) (hl : keys.length < 2 ^ 47) (hx : xs.length < 2 ^ 47) (ht : t.length < 2 ^ 60) (hks : ∀ k ∈ keys, k.length < 2 ^ 60) (m : Mem) :
    ∃ v m', CS 157 [.agg [.int .i64 k, .str t, ka, kb]] m (.ret v) m' ∧ v = .bool (oneS k t keys xs.length) ∧ Ext m m' := by
  refine call_some (R := fun v m' => v = .bool (oneS k t keys xs.length) ∧ Ext m m') xfok mixed q157at q157ok rfl ?_
  have hg0 : (m.alloc (.cells 27 [.int .i64 k, .str t, ka, kb])).get m.next = .cells 27 [.int .i64 k, .str t, ka, kb] := get_new
  have E1 : Ext m (m.alloc (.cells 27 [.int .i64 k, .str t, ka, kb])) := Ext.alloc _ _
  have o1 := h1.one
  have o2 := h2.one
  have nlt : m.next < (m.alloc (.cells 27 [.int .i64 k, .str t, ka, kb])).next := by rw [next_alloc]; omega
  simp only [go_sem, reduceIte, Nat.reduceEqDiff, Nat.reduceAdd, q157, q157r0, o1, o2]
  generalize m.alloc (.cells 27 [.int .i64 k, .str t, ka, kb]) = M at hg0 E1 nlt
  have e0 : (((keys.length : Nat) : Int) == 0) = decide (keys.length = 0) := by rw [Bool.eq_iff_iff]; simp
  have e0' : (((xs.length : Nat) : Int) == 0) = decide (xs.length = 0) := by rw [Bool.eq_iff_iff]; simp
  -- behind bare
  have sw : wc CS (.seq (.seq (.region q157r2) (.block 0 (.seq (.region q157r3) (.cond (.var 6) (.seq (.region q157r4) .ret) (.seq (.region q157r5) (.cond (.var 7) (.seq (.region q157r6) .ret) (.seq (.region q157r7) (.cond (.var 8) (.seq (.region q157r8) .ret) (.seq (.region q157r9) (.cond (.var 9) (.seq (.region q157r10) .ret) (.seq (.region q157r11) (.cond (.var 10) (.seq (.region q157r12) .ret) (.seq (.region q157r13) (.cond (.var 11) (.seq (.seq (.region q157r14) (.block 1 (.loop [0, 2, 3, 5, 6, 7, 8, 9, 10, 11, 12, 13] q157l19))) (.seq (.region q157r20) .ret)) .skip)))))))))))))) (.seq (.region q157r21) .ret))
      (endsIn [.var 2] (fun v m' => v = .bool (oneS k t keys xs.length) ∧ Ext m m') noPan) [.u, .ptr m.next 0, .u, .bool (bareS keys xs.length), .u, .u, .u, .u, .u, .u, .u, .u, .u, .u] M := by
    by_cases k1 : k = 1
    · have f1 : (k == 1) = true := iqT k1
      have hS : oneS k t keys xs.length = (bareS keys xs.length && (t == [])) := by simp only [oneS, if_pos k1]
      rw [hS]
      cases hb : bareS keys xs.length with
      | false =>
        simp only [go_sem, reduceIte, Nat.reduceEqDiff, Nat.reduceAdd, q157r2, hg0, q157r3, f1, q157r4, Bool.false_and]
        exact E1
      | true =>
        simp only [go_sem, reduceIte, Nat.reduceEqDiff, Nat.reduceAdd, q157r2, hg0, q157r3, f1, q157r4]
        exact E1
    have f1 : (k == 1) = false := iqF k1
    by_cases k2 : k = 2
    · have f2 : (k == 2) = true := iqT k2
      have hS : oneS k t keys xs.length = (bareS keys xs.length && (t == tTrue || t == tFalse)) := by simp only [oneS, if_neg k1, if_pos k2]
      rw [hS]
      have d1 : (t == ([116, 114, 117, 101] : List UInt8)) = (t == tTrue) := rfl
      have d2 : (t == ([102, 97, 108, 115, 101] : List UInt8)) = (t == tFalse) := rfl
      cases hb : bareS keys xs.length with
      | false =>
        simp only [go_sem, reduceIte, Nat.reduceEqDiff, Nat.reduceAdd, q157r2, hg0, q157r3, f1, q157r5, f2, q157r6, Bool.false_and]
        exact E1
      | true =>
        cases ht1 : (t == tTrue) with
        | true =>
          simp only [go_sem, reduceIte, Nat.reduceEqDiff, Nat.reduceAdd, q157r2, hg0, q157r3, f1, q157r5, f2, q157r6, d1, ht1, Bool.true_or]
          exact E1
        | false =>
          simp only [go_sem, reduceIte, Nat.reduceEqDiff, Nat.reduceAdd, q157r2, hg0, q157r3, f1, q157r5, f2, q157r6, d1, d2, ht1, Bool.false_or]
          exact E1
    have f2 : (k == 2) = false := iqF k2
    by_cases k3 : k = 3
    · have f3 : (k == 3) = true := iqT k3
      have hS : oneS k t keys xs.length = (bareS keys xs.length && numS t) := by simp only [oneS, if_neg k1, if_neg k2, if_pos k3]
      rw [hS]
      cases hb : bareS keys xs.length with
      | false =>
        simp only [go_sem, reduceIte, Nat.reduceEqDiff, Nat.reduceAdd, q157r2, hg0, q157r3, f1, q157r5, f2, q157r7, f3, q157r8, Bool.false_and]
        exact E1
      | true =>
        simp only [go_sem, reduceIte, Nat.reduceEqDiff, Nat.reduceAdd, q157r2, hg0, q157r3, f1, q157r5, f2, q157r7, f3, q157r8]
        refine callW_ret (rnumber_ok (by omega) M) ?_
        simp only [go_sem, reduceIte, Nat.reduceEqDiff, Nat.reduceAdd]
        exact E1
    have f3 : (k == 3) = false := iqF k3
    by_cases k4 : k = 4
    · have f4 : (k == 4) = true := iqT k4
      have hS : oneS k t keys xs.length = (bareS keys xs.length && isT t) := by simp only [oneS, if_neg k1, if_neg k2, if_neg k3, if_pos k4]
      rw [hS]
      cases hb : bareS keys xs.length with
      | false =>
        simp only [go_sem, reduceIte, Nat.reduceEqDiff, Nat.reduceAdd, q157r2, hg0, q157r3, f1, q157r5, f2, q157r7, f3, q157r9, f4, q157r10, Bool.false_and]
        exact E1
      | true =>
        simp only [go_sem, reduceIte, Nat.reduceEqDiff, Nat.reduceAdd, q157r2, hg0, q157r3, f1, q157r5, f2, q157r7, f3, q157r9, f4, q157r10]
        refine callW_ret (rtext_ok (by omega) M) ?_
        simp only [go_sem, reduceIte, Nat.reduceEqDiff, Nat.reduceAdd]
        exact E1
    have f4 : (k == 4) = false := iqF k4
    by_cases k5 : k = 5
    · have f5 : (k == 5) = true := iqT k5
      have hS : oneS k t keys xs.length = ((t == []) && decide (keys.length = 0)) := by simp only [oneS, if_neg k1, if_neg k2, if_neg k3, if_neg k4, if_pos k5]
      rw [hS]
      by_cases h0 : keys.length = 0
      · rw [dT h0] at e0 ⊢
        simp only [go_sem, reduceIte, Nat.reduceEqDiff, Nat.reduceAdd, q157r2, hg0, q157r3, f1, q157r5, f2, q157r7, f3, q157r9, f4, q157r11, f5, q157r12, h1.isLK, h1.len, List.length_map, e0]
        exact E1
      · rw [dF h0] at e0 ⊢
        simp only [go_sem, reduceIte, Nat.reduceEqDiff, Nat.reduceAdd, q157r2, hg0, q157r3, f1, q157r5, f2, q157r7, f3, q157r9, f4, q157r11, f5, q157r12, h1.isLK, h1.len, List.length_map, e0, Bool.and_false]
        exact E1
    have f5 : (k == 5) = false := iqF k5
    by_cases k6 : k = 6
    · have f6 : (k == 6) = true := iqT k6
      have hS : oneS k t keys xs.length = ((t == []) && decide (keys.length = xs.length) && (!twS [] keys && allT keys)) := by simp only [oneS, if_neg k1, if_neg k2, if_neg k3, if_neg k4, if_neg k5, if_pos k6]
      rw [hS]
      simp only [go_sem, reduceIte, Nat.reduceEqDiff, Nat.reduceAdd, q157r2, hg0, q157r3, f1, q157r5, f2, q157r7, f3, q157r9, f4, q157r11, f5, q157r13, f6, q157r14]
      refine rone_loop hg0 h1 hl hks (B := !twS [] keys && allT keys) (fun h g0 g2 g3 g4 g5 g6 g7 g8 g9 g10 g11 g12 g13 => ?_) (fun h g0 g1 g3 g4 g5 g6 g7 g8 g9 g10 g11 g12 g13 => ?_) keys.length 0 _ _ _ _ _ _ _ _ _ _ _ _ (by omega) (by rw [← refB_eq]; rfl)
      · rw [h]
        by_cases hlen : keys.length = xs.length
        · have e1 : (((keys.length : Nat) : Int) == ((xs.length : Nat) : Int)) = true := iqT (by omega)
          rw [dT hlen]
          simp only [go_sem, reduceIte, Nat.reduceEqDiff, Nat.reduceAdd, q157r20, hg0, h1.isLK, h1.len, h2.isLK, h2.len, List.length_map, e1]
          exact E1
        · have e1 : (((keys.length : Nat) : Int) == ((xs.length : Nat) : Int)) = false := iqF (by omega)
          rw [dF hlen]
          simp only [go_sem, reduceIte, Nat.reduceEqDiff, Nat.reduceAdd, q157r20, hg0, h1.isLK, h1.len, h2.isLK, h2.len, List.length_map, e1, Bool.and_false]
          exact E1
      · rw [h]
        simp only [go_sem, reduceIte, Nat.reduceEqDiff, Nat.reduceAdd, Bool.and_false]
        exact E1
    have f6 : (k == 6) = false := iqF k6
    have hS : oneS k t keys xs.length = false := by simp only [oneS, if_neg k1, if_neg k2, if_neg k3, if_neg k4, if_neg k5, if_neg k6]
    rw [hS]
    simp only [go_sem, reduceIte, Nat.reduceEqDiff, Nat.reduceAdd, q157r2, hg0, q157r3, f1, q157r5, f2, q157r7, f3, q157r9, f4, q157r11, f5, q157r13, f6, q157r21]
    exact E1
  by_cases h0 : keys.length = 0
  · have hb : bareS keys xs.length = decide (xs.length = 0) := by simp only [bareS, dT h0, Bool.true_and]
    rw [dT h0] at e0
    rw [hb] at sw
    simp only [go_sem, reduceIte, Nat.reduceEqDiff, Nat.reduceAdd, q157r1, hg0, h1.isLK, h1.len, h2.isLK, h2.len, List.length_map, e0, e0'] at sw ⊢
    exact sw
  · have hb : bareS keys xs.length = false := by simp only [bareS, dF h0, Bool.false_and]
    rw [dF h0] at e0
    rw [hb] at sw
    simp only [go_sem, reduceIte, Nat.reduceEqDiff, Nat.reduceAdd, q157r1, hg0, h1.isLK, h1.len, h2.isLK, h2.len, List.length_map, e0, e0'] at sw ⊢
    exact sw
end
end Go.Proofs.YtkjokjogdehonaaGreatDoor.Am.Q
namespace Go.Proofs.YtkjokjogdehonaaGreatDoor.Am.Q
open Go Go.Proofs Go.Proofs.YtkjokjogdehonaaGreatDoor.Am
mutual
def nodesT : VT → Nat
  | .node _ _ _ l => 1 + nodesL l
def nodesL : List VT → Nat
  | [] => 0
  | v :: r => nodesT v + nodesL r
end
mutual
def goodT : Nat → VT → Bool
  | d, .node k t ks l => oneS k t ks l.length && ((decide (k < 5) || decide (d < 64)) && goodL (d + 1) l)
def goodL : Nat → List VT → Bool
  | _, [] => true
  | d, v :: r => goodT d v && goodL d r
end
def mayT (T : VT) : Bool := goodT 0 T && decide (nodesT T ≤ 4096)
inductive Fit : VT → Prop where
  | mk {k : Int} {t : List UInt8} {keys : List (List UInt8)} {kids : List VT} : keys.length < 2 ^ 21 → kids.length < 2 ^ 21 → t.length < 2 ^ 21 → (∀ x ∈ keys, x.length < 2 ^ 21) → (∀ i, i < kids.length → Fit (kids.getD i VT.zero)) → Fit (.node k t keys kids)
theorem nodesL_ge : ∀ {l : List VT}, l.length ≤ nodesL l
  | [] => by simp [nodesL]
  | .node k t ks c :: r => by
    have := nodesL_ge (l := r)
    simp only [nodesL, nodesT, List.length_cons]; omega
theorem oneS_kids {k : Int} {t : List UInt8} {ks : List (List UInt8)} {n : Nat} (h : oneS k t ks n = true) (hn : n ≠ 0) : k = 5 ∨ k = 6 := by
  have hb : bareS ks n = false := by simp [bareS, hn]
  unfold oneS at h
  simp only [hb, Bool.false_and] at h
  split at h
  · cases h
  · split at h
    · cases h
    · split at h
      · cases h
      · split at h
        · cases h
        · split at h
          · exact .inl ‹_›
          · split at h
            · exact .inr ‹_›
            · cases h
end Go.Proofs.YtkjokjogdehonaaGreatDoor.Am.Q
namespace Go.Proofs.YtkjokjogdehonaaGreatDoor.Am.Q
open Go Go.Proofs Go.Proofs.YtkjokjogdehonaaGreatDoor.Am
end Go.Proofs.YtkjokjogdehonaaGreatDoor.Am.Q
namespace Go.Proofs.YtkjokjogdehonaaGreatDoor.Am.Q
open Go Go.Proofs Go.Proofs.YtkjokjogdehonaaGreatDoor.Am
theorem oneS_keys {k : Int} {t : List UInt8} {ks : List (List UInt8)} {n : Nat} (h : oneS k t ks n = true) : ks.length = 0 ∨ ks.length = n := by
  unfold oneS bareS at h
  split at h
  · exact .inl (of_decide_eq_true (Bool.and_eq_true _ _ |>.mp (Bool.and_eq_true _ _ |>.mp h).1).1)
  · split at h
    · exact .inl (of_decide_eq_true (Bool.and_eq_true _ _ |>.mp (Bool.and_eq_true _ _ |>.mp h).1).1)
    · split at h
      · exact .inl (of_decide_eq_true (Bool.and_eq_true _ _ |>.mp (Bool.and_eq_true _ _ |>.mp h).1).1)
      · split at h
        · exact .inl (of_decide_eq_true (Bool.and_eq_true _ _ |>.mp (Bool.and_eq_true _ _ |>.mp h).1).1)
        · split at h
          · exact .inl (of_decide_eq_true (Bool.and_eq_true _ _ |>.mp h).2)
          · split at h
            · exact .inr (of_decide_eq_true (Bool.and_eq_true _ _ |>.mp (Bool.and_eq_true _ _ |>.mp h).1).2)
            · cases h
def RCount (T : VT) : Prop := ∀ (m : Mem) (a : AV) (deep left : Nat), IsVal a T → deep ≤ 64 → left ≤ 4096 →
  ∃ v m', CS 75 [a, .int .i64 deep, .int .i64 left] m (.ret v) m' ∧ Ext m m' ∧ ∃ n : Nat, v = .int .i64 n ∧ n ≤ 4097 ∧ ((goodT deep T = true ∧ nodesT T ≤ left) → n = nodesT T) ∧ (¬ (goodT deep T = true ∧ nodesT T ≤ left) → left < n)
theorem rcount_loop {m : Mem} {q : Nat} {k : Int} {t : List UInt8} {ka kb : AV} {xs : List AV} {kids : List VT} (h2 : SlOf 4 kb xs) (hxl : xs.length = kids.length) (hx2 : ∀ i, i < kids.length → IsVal (xs.getD i .u) (kids.getD i VT.zero)) (hlen : kids.length < 2 ^ 47)
    (hq : q < m.next) (hgq : m.get q = .cells 27 [.int .i64 k, .str t, ka, kb]) {deep left : Nat} (hleft : left ≤ 4096) (hdeep : kids.length ≠ 0 → deep < 64) (ih : ∀ i, i < kids.length → RCount (kids.getD i VT.zero)) {P : Prop} {F : Nat} {Q : AExit → List AV → Mem → Prop}
    (hx : ∀ M (n : Nat), Ext m M → n ≤ 8193 → (P → n = F) → (¬ P → left < n) → ∀ g0 g1 g2 g3 g4 g6 g7 g8, Q (.exit 0) [g0, g1, g2, g3, g4, .int .i64 n, g6, g7, g8] M) :
    ∀ (r i n : Nat) (M : Mem) (g0 g4 g7 g8 : AV), i + r = kids.length → n ≤ 8193 → Ext m M → (P ↔ (goodL (deep + 1) (kids.drop i) = true ∧ n + nodesL (kids.drop i) ≤ left)) → (P → F = n + nodesL (kids.drop i)) →
      wl CS [0, 4, 7, 8] q75l8 Q [g0, .int .i64 deep, .int .i64 left, .ptr q 0, g4, .int .i64 n, .int .i64 i, g7, g8] M := by
  intro r
  induction r with
  | zero =>
    intro i n M g0 g4 g7 g8 hi hn hE hP hF
    refine wl_step ?_
    have e1 : decide ((i : Int) < (xs.length : Nat)) = false := dF (by omega)
    have hgq' : M.get q = .cells 27 [.int .i64 k, .str t, ka, kb] := by rw [hE.get q hq]; exact hgq
    have hd : kids.drop i = [] := List.drop_of_length_le (by omega)
    rw [hd] at hP hF
    simp only [goodL, nodesL, true_and, Nat.add_zero] at hP hF
    simp only [go_sem, reduceIte, Nat.reduceEqDiff, Nat.reduceAdd, q75l8, q75r5, hgq', h2.isLK, h2.len, e1]
    exact hx _ _ hE hn (fun h => (hF h).symm) (fun h => by have := mt hP.2 h; omega) _ _ _ _ _ _ _ _
  | succ r ihr =>
    intro i n M g0 g4 g7 g8 hi hn hE hP hF
    refine wl_step ?_
    have e1 : decide ((i : Int) < (xs.length : Nat)) = true := dT (by omega)
    have hi1 : i < kids.length := by omega
    have hgq' : M.get q = .cells 27 [.int .i64 k, .str t, ka, kb] := by rw [hE.get q hq]; exact hgq
    have hxi := hx2 i hi1
    have ea := h2.idx (k := .i64) (i := (i : Int)) (y := xs.getD i .u) (by omega) (by simp [List.getD, show i < xs.length by omega])
    obtain ⟨k1, t1, a1, b1, e2, _⟩ := hxi.shape
    rw [e2] at ea hxi
    have hw := wrap_succ (i := i) (by omega)
    have hwd := wrap_succ (i := deep) (by have := hdeep (by omega); omega)
    have hd : kids.drop i = kids.getD i VT.zero :: kids.drop (i + 1) := by
      rw [List.drop_eq_getElem_cons hi1, show kids.getD i VT.zero = kids[i] by simp [List.getD, hi1]]
    rw [hd] at hP hF
    simp only [goodL, nodesL, Bool.and_eq_true] at hP hF
    by_cases hnl : n ≤ left
    · have e3 : decide ((n : Int) ≤ (left : Int)) = true := dT (by omega)
      have hwl : IntKind.i64.wrap ((left : Int) - (n : Int)) = ((left - n : Nat) : Int) := by rw [wrap_i64 (by omega)]; omega
      obtain ⟨v, M2, c1, c2, x, rfl, c3, c4, c5⟩ := ih i hi1 M _ (deep + 1) (left - n) hxi (by have := hdeep (by omega); omega) (by omega)
      have hwn : IntKind.i64.wrap ((n : Int) + (x : Int)) = ((n + x : Nat) : Int) := by rw [wrap_i64 (by omega)]; omega
      simp only [go_sem, reduceIte, Nat.reduceEqDiff, Nat.reduceAdd, q75l8, q75r5, hgq', h2.isLK, h2.len, e1, e3, q75r6, ea, hwd, hwl]
      refine callW_ret c1 ?_
      simp only [go_sem, reduceIte, Nat.reduceEqDiff, Nat.reduceAdd, hwn, q75r7, hw]
      refine ihr (i + 1) (n + x) M2 _ _ _ _ (by omega) (by omega) (hE.trans c2) ?_ ?_
      · rw [hP]
        constructor
        · rintro ⟨⟨y0, y1⟩, y2⟩
          have := c4 ⟨y0, by omega⟩
          exact ⟨y1, by omega⟩
        · rintro ⟨y1, y2⟩
          by_cases hk : goodT (deep + 1) (kids.getD i VT.zero) = true ∧ nodesT (kids.getD i VT.zero) ≤ left - n
          · have := c4 hk
            exact ⟨⟨hk.1, y1⟩, by omega⟩
          · have := c5 hk
            omega
      · intro hp
        have h1 := hP.1 hp
        have := c4 ⟨h1.1.1, by omega⟩
        rw [hF hp]; omega
    · have e3 : decide ((n : Int) ≤ (left : Int)) = false := dF (by omega)
      simp only [go_sem, reduceIte, Nat.reduceEqDiff, Nat.reduceAdd, q75l8, q75r5, hgq', h2.isLK, h2.len, e1, e3]
      exact hx _ _ hE hn (fun h => by have := hP.1 h; omega) (fun _ => by omega) _ _ _ _ _ _ _ _
theorem rcount_all {T : VT} (hf : Fit T) : RCount T := by
  induction hf with
  | @mk k t keys kids f1 f2 f3 f4 _ ih =>
    intro m a deep left ha hdeep hleft
    cases ha with
    | @mk _ _ ka kb _ _ xs h1 h2 hxl hx2 =>
    have hP : (goodT deep (.node k t keys kids) = true ∧ 1 + nodesL kids ≤ left) ↔ (oneS k t keys kids.length = true ∧ (k < 5 ∨ deep < 64) ∧ goodL (deep + 1) kids = true ∧ 1 + nodesL kids ≤ left) := by
      simp only [goodT, Bool.and_eq_true, Bool.or_eq_true, decide_eq_true_eq, and_assoc]
    have hF : nodesT (.node k t keys kids) = 1 + nodesL kids := by simp only [nodesT]
    rw [hF]
    generalize hPe : (goodT deep (.node k t keys kids) = true ∧ 1 + nodesL kids ≤ left) = P at hP
    have key : ∃ v m', CS 75 [.agg [.int .i64 k, .str t, ka, kb], .int .i64 deep, .int .i64 left] m (.ret v) m' ∧ Ext m m' ∧ ∃ n : Nat, v = .int .i64 n ∧ n ≤ 4097 ∧ (P → n = 1 + nodesL kids) ∧ (¬ P → left < n) := by
      refine call_some (R := fun v m' => Ext m m' ∧ ∃ n : Nat, v = .int .i64 n ∧ n ≤ 4097 ∧ (P → n = 1 + nodesL kids) ∧ (¬ P → left < n)) xfok mixed q75at q75ok rfl ?_
      have g0 : (m.alloc (.cells 27 [.int .i64 k, .str t, ka, kb])).get m.next = .cells 27 [.int .i64 k, .str t, ka, kb] := get_new
      have n0 : (m.alloc (.cells 27 [.int .i64 k, .str t, ka, kb])).next = m.next + 1 := rfl
      have E0 : Ext m (m.alloc (.cells 27 [.int .i64 k, .str t, ka, kb])) := Ext.alloc _ _
      have o1 := h1.one
      have o2 := h2.one
      have hge := nodesL_ge (l := kids)
      simp only [go_sem, reduceIte, Nat.reduceEqDiff, Nat.reduceAdd, q75, q75r0, o1, o2]
      generalize m.alloc (.cells 27 [.int .i64 k, .str t, ka, kb]) = M0 at g0 n0 E0
      by_cases hl0 : left = 0
      · have e0 : decide ((left : Int) ≤ 0) = true := dT (by omega)
        have hn : ¬ P := fun h => by have := hP.1 h; omega
        simp only [go_sem, reduceIte, Nat.reduceEqDiff, Nat.reduceAdd, q75r1, e0, q75r2]
        exact ⟨E0, 4097, rfl, by omega, fun h => absurd h hn, fun _ => by omega⟩
      · have e0 : decide ((left : Int) ≤ 0) = false := dF (by omega)
        by_cases hk1 : kids.length > 4096
        · have e1 : decide ((xs.length : Int) > 4096) = true := dT (by omega)
          have hn : ¬ P := fun h => by have := hP.1 h; omega
          simp only [go_sem, reduceIte, Nat.reduceEqDiff, Nat.reduceAdd, q75r1, e0, g0, h2.isLK, h2.len, e1, q75r2]
          exact ⟨E0, 4097, rfl, by omega, fun h => absurd h hn, fun _ => by omega⟩
        · have e1 : decide ((xs.length : Int) > 4096) = false := dF (by omega)
          by_cases hk2 : keys.length > 4096
          · have e2 : decide ((keys.length : Int) > 4096) = true := dT (by omega)
            have hn : ¬ P := by
              intro h
              rcases oneS_keys (hP.1 h).1 with e | e <;> omega
            simp only [go_sem, reduceIte, Nat.reduceEqDiff, Nat.reduceAdd, q75r1, e0, g0, h1.isLK, h1.len, h2.isLK, h2.len, List.length_map, e1, e2, q75r2]
            exact ⟨E0, 4097, rfl, by omega, fun h => absurd h hn, fun _ => by omega⟩
          · have e2 : decide ((keys.length : Int) > 4096) = false := dF (by omega)
            obtain ⟨v, M2, c1, rfl, c2⟩ := rone_ok (k := k) (t := t) h1 h2 (by omega) (by omega) (by omega) (fun x hx => by have := f4 x hx; omega) M0
            have g2 : M2.get m.next = .cells 27 [.int .i64 k, .str t, ka, kb] := by rw [c2.get _ (by omega)]; exact g0
            have E2 := E0.trans c2
            have n2 : m.next < M2.next := by have := c2.next; omega
            simp only [go_sem, reduceIte, Nat.reduceEqDiff, Nat.reduceAdd, q75r1, e0, g0, h1.isLK, h1.len, h2.isLK, h2.len, List.length_map, e1, e2]
            refine callW_ret c1 ?_
            rw [hxl]
            cases hone : oneS k t keys kids.length with
            | false =>
              have hn : ¬ P := fun h => by have := (hP.1 h).1; rw [hone] at this; cases this
              simp only [go_sem, reduceIte, Nat.reduceEqDiff, Nat.reduceAdd, q75r2]
              exact ⟨E2, 4097, rfl, by omega, fun h => absurd h hn, fun _ => by omega⟩
            | true =>
              have fin : (k < 5 ∨ deep < 64) → ∀ g4 g7 g8, wc CS (.seq (.region q75r3) (.seq (.seq (.region q75r4) (.block 0 (.loop [0, 4, 7, 8] q75l8))) (.seq (.region q75r9) .ret))) (endsIn [.var 4] (fun v m' => Ext m m' ∧ ∃ n : Nat, v = .int .i64 n ∧ n ≤ 4097 ∧ (P → n = 1 + nodesL kids) ∧ (¬ P → left < n)) noPan) [.u, .int .i64 deep, .int .i64 left, .ptr m.next 0, g4, .u, .u, g7, g8] M2 := by
                intro hd y4 y7 y8
                simp only [go_sem, reduceIte, Nat.reduceEqDiff, Nat.reduceAdd, q75r3, q75r4]
                refine rcount_loop (m := M2) (P := P) (F := 1 + nodesL kids) h2 hxl hx2 (by omega) n2 g2 hleft (fun hk0 => ?_) ih (fun M n hE hn hA hB z0 z1 z2 z3 z4 z6 z7 z8 => ?_) kids.length 0 1 M2 _ _ _ _ (by omega) (by omega) (Ext.refl M2) ?_ (fun _ => by rw [List.drop_zero])
                · rcases oneS_kids hone hk0 with e | e <;> omega
                · simp only [go_sem, reduceIte, Nat.reduceEqDiff, Nat.reduceAdd, q75r9, minV_of]
                  refine ⟨E2.trans hE, ?_⟩
                  by_cases h40 : (4097 : Int) < (n : Int)
                  · rw [if_pos h40]
                    exact ⟨4097, rfl, by omega, fun h => by have := hA h; have := hP.1 h; omega, fun _ => by omega⟩
                  · rw [if_neg h40]
                    exact ⟨n, rfl, by omega, hA, hB⟩
                · rw [List.drop_zero, hP]
                  constructor
                  · rintro ⟨_, _, y3, y4⟩; exact ⟨y3, by omega⟩
                  · rintro ⟨y3, y4⟩; exact ⟨hone, hd, y3, by omega⟩
              by_cases hk56 : k = 5 ∨ k = 6
              · by_cases d64 : 64 ≤ deep
                · have e6 : decide ((deep : Int) ≥ 64) = true := dT (by omega)
                  have hn : ¬ P := fun h => by have := hP.1 h; omega
                  by_cases k5 : k = 5
                  · have f5 : (k == 5) = true := iqT k5
                    simp only [go_sem, reduceIte, Nat.reduceEqDiff, Nat.reduceAdd, g2, f5, e6, q75r2]
                    exact ⟨E2, 4097, rfl, by omega, fun h => absurd h hn, fun _ => by omega⟩
                  · have f5 : (k == 5) = false := iqF k5
                    have f6 : (k == 6) = true := iqT (by omega)
                    simp only [go_sem, reduceIte, Nat.reduceEqDiff, Nat.reduceAdd, g2, f5, f6, e6, q75r2]
                    exact ⟨E2, 4097, rfl, by omega, fun h => absurd h hn, fun _ => by omega⟩
                · have e6 : decide ((deep : Int) ≥ 64) = false := dF (by omega)
                  have := fin (.inr (by omega)) .u (.bool false) .u
                  by_cases k5 : k = 5
                  · have f5 : (k == 5) = true := iqT k5
                    simp only [go_sem, reduceIte, Nat.reduceEqDiff, Nat.reduceAdd, g2, f5, e6] at this ⊢
                    exact this
                  · have f5 : (k == 5) = false := iqF k5
                    have f6 : (k == 6) = true := iqT (by omega)
                    simp only [go_sem, reduceIte, Nat.reduceEqDiff, Nat.reduceAdd, g2, f5, f6, e6] at this ⊢
                    exact this
              · have f5 : (k == 5) = false := iqF (by omega)
                have f6 : (k == 6) = false := iqF (by omega)
                have hlt : k < 5 := by
                  unfold oneS at hone
                  by_cases j1 : k = 1
                  · omega
                  · by_cases j2 : k = 2
                    · omega
                    · by_cases j3 : k = 3
                      · omega
                      · by_cases j4 : k = 4
                        · omega
                        · rw [if_neg j1, if_neg j2, if_neg j3, if_neg j4, if_neg (by omega), if_neg (by omega)] at hone
                          cases hone
                have := fin (.inl hlt) .u (.bool false) .u
                simp only [go_sem, reduceIte, Nat.reduceEqDiff, Nat.reduceAdd, g2, f5, f6] at this ⊢
                exact this
    exact key
theorem rmay_ok {T : VT} (hf : Fit T) {a : AV} (ha : IsVal a T) (m : Mem) : ∃ v m', CS 26 [a] m (.ret v) m' ∧ v = .bool (mayT T) ∧ Ext m m' := by
  refine call_some (R := fun v m' => v = .bool (mayT T) ∧ Ext m m') xfok mixed q26at q26ok rfl ?_
  obtain ⟨k, t, ka, kb, rfl, o1, o2⟩ := ha.ones
  have g0 : (m.alloc (.cells 27 [.int .i64 k, .str t, ka, kb])).get m.next = .cells 27 [.int .i64 k, .str t, ka, kb] := get_new
  have E : Ext m (m.alloc (.cells 27 [.int .i64 k, .str t, ka, kb])) := Ext.alloc _ _
  simp only [go_sem, reduceIte, Nat.reduceEqDiff, Nat.reduceAdd, q26, q26r0, o1, o2, q26r1]
  generalize m.alloc (.cells 27 [.int .i64 k, .str t, ka, kb]) = M at g0 E
  obtain ⟨v, M2, c1, c2, n, rfl, c3, c4, c5⟩ := rcount_all hf M _ 0 4096 ha (by omega) (by omega)
  have c1' : CS 75 [.agg [.int .i64 k, .str t, ka, kb], .int .i64 0, .int .i64 4096] M (.ret (.int .i64 n)) M2 := c1
  simp only [go_sem, reduceIte, Nat.reduceEqDiff, Nat.reduceAdd, g0]
  refine callW_ret c1' ?_
  have E2 : Ext m M2 := E.trans c2
  by_cases hp : goodT 0 T = true ∧ nodesT T ≤ 4096
  · have hS : mayT T = true := by simp only [mayT, Bool.and_eq_true, decide_eq_true_eq]; exact hp
    have e : decide ((n : Int) ≤ 4096) = true := dT (by have := c4 hp; omega)
    simp only [go_sem, reduceIte, Nat.reduceEqDiff, Nat.reduceAdd, e, hS]
    exact E2
  · have hS : mayT T = false := by
      cases h : mayT T with
      | false => rfl
      | true => simp only [mayT, Bool.and_eq_true, decide_eq_true_eq] at h; exact absurd h hp
    have e : decide ((n : Int) ≤ 4096) = false := dF (by have := c5 hp; omega)
    simp only [go_sem, reduceIte, Nat.reduceEqDiff, Nat.reduceAdd, e, hS]
    exact E2
end Go.Proofs.YtkjokjogdehonaaGreatDoor.Am.Q
namespace Go.Proofs.YtkjokjogdehonaaGreatDoor.Am.Q
open Go Go.Proofs Go.Proofs.YtkjokjogdehonaaGreatDoor.Am
end Go.Proofs.YtkjokjogdehonaaGreatDoor.Am.Q
namespace Go.Proofs.YtkjokjogdehonaaGreatDoor.Am.Q
open Go Go.Proofs Go.Proofs.YtkjokjogdehonaaGreatDoor.Am
structure KeepG (p : Nat) (M M' : Mem) : Prop where
  get : ∀ i, i < M.next → i ≠ p → M'.get i = M.get i
  next : M.next ≤ M'.next
theorem KeepG.refl (p : Nat) (M : Mem) : KeepG p M M := ⟨fun _ _ _ => rfl, Nat.le_refl _⟩
theorem KeepG.trans {p : Nat} {a b c : Mem} (h : KeepG p a b) (k : KeepG p b c) : KeepG p a c := ⟨fun i hi hp => (k.get i (Nat.lt_of_lt_of_le hi h.next) hp).trans (h.get i hi hp), Nat.le_trans h.next k.next⟩
theorem KeepG.setp {p : Nat} {M M' : Mem} (h : KeepG p M M') (o : AObj) : KeepG p M (M'.set p o) := ⟨fun i hi hp => by rw [get_set_other hp]; exact h.get i hi hp, h.next⟩
theorem mine_app2 {mb m : Mem} {a : AV} {xs : List UInt8} (h : Mine mb m 5 1 a (bytesAV xs)) (hm : mb.ntok ≤ m.ntok) (hx : xs.length < 2 ^ 43) {l : List UInt8} (hl : l.length < 2 ^ 43) : ∃ v m', appendV m 5 1 1 a (bytesAV l) = some (v, m') ∧ App mb m xs l v m' ∧ m'.next = m.next := by
  obtain ⟨a', M2, n1, n2, n3, n4, n5, n6⟩ := h.append (bytes := 1) (ys := bytesAV l) hm (by rw [bytes_len, bytes_len]; simp [roomMax]; omega) (bytes_good l)
  rw [bytes_append] at n2
  exact ⟨a', M2, n1, ⟨n2, n3, n5, n6⟩, n4⟩
def BSt (p : Nat) (mb M : Mem) (out : List UInt8) : Prop := ∃ a b, M.get p = .cells 183 [a, b] ∧ (a = .nilPtr ∨ a = .ptr p 0) ∧ Mine mb M 5 1 b (bytesAV out) ∧ ExtB p mb M ∧ p < M.next
theorem BSt.ext {p : Nat} {mb M M' : Mem} {out : List UInt8} (h : BSt p mb M out) (k : Ext M M') : BSt p mb M' out := by
  obtain ⟨a, b, h1, h2, h3, h4, h5⟩ := h
  exact ⟨a, b, by rw [k.get p h5]; exact h1, h2, h3.ext (ext_extB (p := p) k), h4.trans (ext_extB k), Nat.lt_of_lt_of_le h5 k.next⟩
theorem copy_ok {p : Nat} {mb M : Mem} {out : List UInt8} (h : BSt p mb M out) : ∃ v M', CS 218 [.ptr p 0] M (.ret v) M' ∧ ∃ b, M'.get p = .cells 183 [.ptr p 0, b] ∧ Mine mb M' 5 1 b (bytesAV out) ∧ ExtB p mb M' ∧ p < M'.next ∧ KeepG p M M' := by
  obtain ⟨a, b, h1, h2, h3, h4, h5⟩ := h
  refine call_some (R := fun _ M' => ∃ b, M'.get p = .cells 183 [.ptr p 0, b] ∧ Mine mb M' 5 1 b (bytesAV out) ∧ ExtB p mb M' ∧ p < M'.next ∧ KeepG p M M') xfok mixed q218at q218ok rfl ?_
  rcases h2 with rfl | rfl
  · have c1 : convPV M (.ptr p 0) = some (.ptr p 0) := by simp [convPV, h1]
    have c2 : convUV M [(183, 2, 0)] (.ptr p 0) = some (.ptr p 0) := by simp [convUV, h1]
    have s0 : eqSafeB M .nilPtr .nilPtr = true := rfl
    have s1 : eqV (.leaf .ptr) .nilPtr .nilPtr = some true := rfl
    simp only [go_sem, reduceIte, Nat.reduceEqDiff, Nat.reduceAdd, q218, q218r0, h1, s0, s1, show (true != false) = true from rfl, q218r1, c1, c2]
    exact ⟨b, rfl, h3.ext ((ExtB.refl p M).setp _), h4.setp _, h5, (KeepG.refl p M).setp _⟩
  · have s0 : eqSafeB M (.ptr p 0) .nilPtr = true := rfl
    have s1 : eqV (.leaf .ptr) (.ptr p 0) .nilPtr = some false := rfl
    have s2 : eqSafeB M (.ptr p 0) (.ptr p 0) = true := by simp [eqSafeB, h1, isCells]
    have s3 : eqV (.leaf .ptr) (.ptr p 0) (.ptr p 0) = some true := by simp [eqV, eqL]
    simp only [go_sem, reduceIte, Nat.reduceEqDiff, Nat.reduceAdd, q218, q218r0, h1, s0, s1, show (false != false) = false from rfl, q218r2, s2, s3, show (true != true) = false from rfl]
    exact ⟨b, rfl, h3, h4, h5, KeepG.refl p M⟩
theorem wbyte_k {p : Nat} {mb M : Mem} {out : List UInt8} (h : BSt p mb M out) (hl : out.length < 2 ^ 42) (c : UInt8) : ∃ v M', CS 139 [.ptr p 0, .int .u8 c.toNat] M (.ret v) M' ∧ BSt p mb M' (out ++ [c]) ∧ KeepG p M M' := by
  obtain ⟨v, M1, c1, b, h1, h3, h4, h5, h6⟩ := copy_ok h
  obtain ⟨v2, M2, n1, n2, n3⟩ := mine_app2 h3 h4.ntok (by omega) (l := [c]) (by simp)
  have n1' : appendV M1 5 1 1 b [.int .u8 c.toNat] = some (v2, M2) := n1
  have h2 : M2.get p = .cells 183 [.ptr p 0, b] := by rw [n2.get]; exact h1
  refine call_some (R := fun _ M' => BSt p mb M' (out ++ [c]) ∧ KeepG p M M') xfok mixed q139at q139ok rfl ?_
  simp only [go_sem, reduceIte, Nat.reduceEqDiff, Nat.reduceAdd, q139, q139r0, q139r1]
  refine callW_ret c1 ?_
  simp only [go_sem, reduceIte, Nat.reduceEqDiff, Nat.reduceAdd, q139r2, h1, elems, n1', h2, n2.mine.sl.one, n2.mine.sl.cells, q139r3]
  refine ⟨⟨_, _, get_set_same, .inr rfl, n2.mine.ext ((ExtB.refl p M2).setp _), (n2.ext p h4).setp _, by show _ < M2.next; omega⟩, (h6.trans ⟨fun i _ _ => by rw [n2.get], by omega⟩).setp _⟩
theorem wbyte_ok {p : Nat} {mb M : Mem} {out : List UInt8} (h : BSt p mb M out) (hl : out.length < 2 ^ 42) (c : UInt8) : ∃ v M', CS 139 [.ptr p 0, .int .u8 c.toNat] M (.ret v) M' ∧ BSt p mb M' (out ++ [c]) := by
  obtain ⟨v, M', h1, h2, _⟩ := wbyte_k h hl c
  exact ⟨v, M', h1, h2⟩
theorem wstr_k {p : Nat} {mb M : Mem} {out : List UInt8} (h : BSt p mb M out) (hl : out.length < 2 ^ 42) {l : List UInt8} (hll : l.length < 2 ^ 42) : ∃ v M', CS 141 [.ptr p 0, .str l] M (.ret v) M' ∧ BSt p mb M' (out ++ l) ∧ KeepG p M M' := by
  obtain ⟨v, M1, c1, b, h1, h3, h4, h5, h6⟩ := copy_ok h
  obtain ⟨v2, M2, n1, n2, n3⟩ := mine_app2 h3 h4.ntok (by omega) (l := l) (by omega)
  have h2 : M2.get p = .cells 183 [.ptr p 0, b] := by rw [n2.get]; exact h1
  refine call_some (R := fun _ M' => BSt p mb M' (out ++ l) ∧ KeepG p M M') xfok mixed q141at q141ok rfl ?_
  simp only [go_sem, reduceIte, Nat.reduceEqDiff, Nat.reduceAdd, q141, q141r0, q141r1]
  refine callW_ret c1 ?_
  simp only [go_sem, reduceIte, Nat.reduceEqDiff, Nat.reduceAdd, q141r2, h1, elems, n1, h2, n2.mine.sl.one, n2.mine.sl.cells, q141r3]
  refine ⟨⟨_, _, get_set_same, .inr rfl, n2.mine.ext ((ExtB.refl p M2).setp _), (n2.ext p h4).setp _, by show _ < M2.next; omega⟩, (h6.trans ⟨fun i _ _ => by rw [n2.get], by omega⟩).setp _⟩
theorem wstr_ok {p : Nat} {mb M : Mem} {out : List UInt8} (h : BSt p mb M out) (hl : out.length < 2 ^ 42) {l : List UInt8} (hll : l.length < 2 ^ 42) : ∃ v M', CS 141 [.ptr p 0, .str l] M (.ret v) M' ∧ BSt p mb M' (out ++ l) := by
  obtain ⟨v, M', h1, h2, _⟩ := wstr_k h hl hll
  exact ⟨v, M', h1, h2⟩
theorem bstr_ok {p : Nat} {mb M : Mem} {out : List UInt8} (h : BSt p mb M out) (hne : out ≠ []) (hl : out.length < 2 ^ 42) : ∃ v M', CS 137 [.ptr p 0] M (.ret v) M' ∧ v = .str out ∧ ExtB p mb M' := by
  obtain ⟨a, b, h1, _, h3, h4, _⟩ := h
  refine call_some (R := fun v M' => v = .str out ∧ ExtB p mb M') xfok mixed q137at q137ok rfl ?_
  have hsl := h3.sl
  rcases h3 with ⟨_, h⟩ | ⟨t, rfl, k1, k2, k3, k4⟩
  · cases out with
    | nil => exact absurd rfl hne
    | cons c r => simp [bytesAV] at h
  · cases hout : bytesAV out with
    | nil => cases out with
      | nil => exact absurd rfl hne
      | cons c r => simp [bytesAV] at hout
    | cons x r =>
      have hub := unbytes_bytes out
      have hlen : (x :: r).length = out.length := by rw [← hout, bytes_len]
      rw [hout] at hub h1 hsl
      have s1 : sliceDataV M (.sl (.tok t) 1 (x :: r)) = some (.bptr (M.tty t) (x :: r), M.killTok t) := by
        simp only [sliceDataV]; rw [if_pos ⟨trivial, k1, by rw [hub]; rfl⟩]
      have g2 : (M.killTok t).get p = .cells 183 [a, .sl (.tok t) 1 (x :: r)] := h1
      have s2 : unsafeStrV 5 (.bptr (M.tty t) (x :: r)) (.int .i64 ((x :: r).length : Nat)) = some (.str out) := by
        simp only [unsafeStrV]; rw [if_pos ⟨k2, trivial, by rw [hlen]; simp [roomMax]; omega⟩, hub]
      simp only [go_sem, reduceIte, Nat.reduceEqDiff, Nat.reduceAdd, q137, q137r0, q137r1, h1, s1, g2, hsl.isLK, hsl.len, s2, pushH_true]
      refine ⟨?_, ?_⟩
      · intro q hq _ _
        simp only [List.mem_singleton] at hq
        subst hq
        intro _ m1 m2 e1 e2
        have e1' : some M = some m1 := e1
        have e2' : some (M.killTok t) = some m2 := e2
        injection e1' with e1'
        injection e2' with e2'
        subst e1'; subst e2'
        have key : ∀ (M' : Mem) (env fr : List AV), M'.get p = .cells 183 [a, .sl (.tok t) 1 (x :: r)] → (evalP (Opd.ev (.ptr p 1 :: env) fr) M' (.load false 1 (.loc 0))).map (·.1) = some (.sl (.tok t) 1 (x :: r)) := by
          intro M' env fr h
          have L : M'.load false 1 (.ptr p 1) = some (.sl (.tok t) 1 (x :: r)) := by rw [load_ptr, h]; rfl
          simp only [evalP, ev_loc0, L, Option.map_some]
        exact ⟨key _ _ _ h1, key _ _ _ g2⟩
      · simp only [go_sem, reduceIte, Nat.reduceEqDiff, Nat.reduceAdd]
        exact h4.killTok k3
end Go.Proofs.YtkjokjogdehonaaGreatDoor.Am.Q
namespace Go.Proofs.YtkjokjogdehonaaGreatDoor.Am.Q
open Go Go.Proofs Go.Proofs.YtkjokjogdehonaaGreatDoor.Am
def sevF : List UInt8 := [8, 9, 10, 12, 13, 34, 92]
def sevT : List UInt8 := [98, 116, 110, 102, 114, 34, 92]
def hexs : List UInt8 := [48, 49, 50, 51, 52, 53, 54, 55, 56, 57, 97, 98, 99, 100, 101, 102]
def escB (c : UInt8) : List UInt8 :=
  match sevF.findIdx? (· == c) with
  | some k => [92, sevT.getD k 0]
  | none => if c.toNat < 32 ∨ c.toNat = 127 then [92, 117, 48, 48, hexs.getD (c.toNat / 16) 0, hexs.getD (c.toNat % 16) 0] else [c]
def quotS (s : List UInt8) : List UInt8 := [34] ++ (s.flatMap escB ++ [34])
theorem escB_len (c : UInt8) : (escB c).length ≤ 6 ∧ 1 ≤ (escB c).length := by
  unfold escB; split
  · simp
  · split <;> simp
theorem esc_at {k : Nat} {c : UInt8} (h : sevF[k]? = some c) : escB c = [92, sevT.getD k 0] := by
  have hk : k < 7 := (List.getElem?_eq_some_iff.1 h).1
  have key : ∀ j : Fin 7, escB (sevF.getD j.val 0) = [92, sevT.getD j.val 0] := by decide +kernel
  have := key ⟨k, hk⟩
  rw [show sevF.getD k 0 = c by simp [List.getD, h]] at this
  exact this
theorem esc_none {c : UInt8} (h : c ∉ sevF) : escB c = if c.toNat < 32 ∨ c.toNat = 127 then [92, 117, 48, 48, hexs.getD (c.toNat / 16) 0, hexs.getD (c.toNat % 16) 0] else [c] := by
  unfold escB
  rw [List.findIdx?_eq_none_iff.2 (fun x hx => by
    simp only [beq_eq_false_iff_ne, ne_eq]
    rintro rfl; exact h hx)]
theorem hexs_at {n : Nat} (h : n < 16) {k : IntKind} : idxSV (.str [48, 49, 50, 51, 52, 53, 54, 55, 56, 57, 97, 98, 99, 100, 101, 102]) (.int k (n : Int)) = some (.int .u8 (hexs.getD n 0).toNat) := by
  refine idxS_at (s := hexs) ?_
  rw [List.getElem?_eq_getElem (show n < hexs.length from h)]
  simp [List.getD, show n < hexs.length from h]
theorem hexs_at' {n : Nat} (h : n < 16) {k : IntKind} : idxSV (.str hexs) (.int k (n : Int)) = some (.int .u8 (hexs.getD n 0).toNat) := hexs_at h
theorem rkey_loop {M : Mem} {c : UInt8} {s : List UInt8} {a : AV} {i : Nat} {Q : AExit → List AV → Mem → Prop}
    (hx : ∀ k : Nat, k ≤ 7 → (k < 7 → sevF[k]? = some c) → (k = 7 → c ∉ sevF) → ∀ g1 g9 g10 g11 g12, Q (.exit 2) [.str s, g1, .str hexs, a, .int .i64 i, .int .u8 c.toNat, .int .i64 k, .str sevF, .str sevT, g9, g10, g11, g12] M) :
    ∀ (r k : Nat) (g1 g9 g10 g11 g12 : AV), r + k = 7 → c ∉ sevF.take k → wl CS [1, 9, 10, 11, 12] q64l10 Q [.str s, g1, .str hexs, a, .int .i64 i, .int .u8 c.toNat, .int .i64 k, .str sevF, .str sevT, g9, g10, g11, g12] M := by
  intro r
  induction r with
  | zero =>
    intro k g1 g9 g10 g11 g12 hk hn
    refine wl_step ?_
    have e1 : decide ((k : Int) < (sevF.length : Nat)) = false := dF (by simp [sevF]; omega)
    simp only [go_sem, reduceIte, Nat.reduceEqDiff, Nat.reduceAdd, q64l10, q64r8, e1]
    refine hx k (by omega) (by omega) (fun _ => ?_) _ _ _ _ _
    rw [List.take_of_length_le (by simp [sevF]; omega)] at hn
    exact hn
  | succ r ih =>
    intro k g1 g9 g10 g11 g12 hk hn
    refine wl_step ?_
    have hlt : k < sevF.length := by simp [sevF]; omega
    have e1 : decide ((k : Int) < (sevF.length : Nat)) = true := dT (by omega)
    have hb : sevF[k]? = some sevF[k] := List.getElem?_eq_getElem hlt
    have hw := wrap_succ (i := k) (by omega)
    by_cases he : sevF[k] = c
    · have e2 : ((sevF[k].toNat : Int) != (c.toNat : Int)) = false := by rw [he]; simp
      simp only [go_sem, reduceIte, Nat.reduceEqDiff, Nat.reduceAdd, q64l10, q64r8, e1, idxS_at hb, e2]
      exact hx k (by omega) (fun _ => by rw [hb, he]) (by omega) _ _ _ _ _
    · have e2 : ((sevF[k].toNat : Int) != (c.toNat : Int)) = true := by
        simp only [bne_iff_ne, ne_eq]
        intro h; exact he (UInt8.toNat_inj.1 (by omega))
      simp only [go_sem, reduceIte, Nat.reduceEqDiff, Nat.reduceAdd, q64l10, q64r8, e1, idxS_at hb, e2, q64r9, hw]
      refine ih (k + 1) _ _ _ _ _ (by omega) ?_
      rw [List.take_add_one, hb]
      simp only [Option.toList_some, List.mem_append, List.mem_singleton, not_or]
      exact ⟨hn, fun h => he h.symm⟩
theorem rquot_loop {m : Mem} {s : List UInt8} (hs : s.length < 2 ^ 38) {Q : AExit → List AV → Mem → Prop}
    (hx : ∀ M a, Mine m M 5 1 a (bytesAV (s.flatMap escB)) → Ext m M → ∀ g0 g1 g2 g4 g5 g6 g7 g8 g9 g10 g11 g12, Q (.exit 0) [g0, g1, g2, a, g4, g5, g6, g7, g8, g9, g10, g11, g12] M) :
    ∀ (r i : Nat) (M : Mem) (a : AV) (g1 g5 g6 g7 g8 g9 g10 g11 g12 : AV), i + r = s.length → Mine m M 5 1 a (bytesAV ((s.take i).flatMap escB)) → Ext m M →
      wl CS [1, 5, 6, 7, 8, 9, 10, 11, 12] q64l17 Q [.str s, g1, .str hexs, a, .int .i64 i, g5, g6, g7, g8, g9, g10, g11, g12] M := by
  have hfl : ∀ l : List UInt8, (l.flatMap escB).length ≤ 6 * l.length := by
    intro l
    induction l with
    | nil => simp
    | cons c l ih => have := (escB_len c).1; simp only [List.flatMap_cons, List.length_append, List.length_cons]; omega
  intro r
  induction r with
  | zero =>
    intro i M a g1 g5 g6 g7 g8 g9 g10 g11 g12 hi hm hE
    refine wl_step ?_
    have e1 : decide ((i : Int) < (s.length : Nat)) = false := dF (by omega)
    rw [List.take_of_length_le (by omega)] at hm
    simp only [go_sem, reduceIte, Nat.reduceEqDiff, Nat.reduceAdd, q64l17, q64r4, e1]
    exact hx _ _ hm hE _ _ _ _ _ _ _ _ _ _ _ _
  | succ r ih =>
    intro i M a g1 g5 g6 g7 g8 g9 g10 g11 g12 hi hm hE
    refine wl_step ?_
    have hlt : i < s.length := by omega
    have e1 : decide ((i : Int) < (s.length : Nat)) = true := dT (by omega)
    have hc : s[i]? = some s[i] := List.getElem?_eq_getElem hlt
    have hw := wrap_succ (i := i) (by omega)
    have ht : (s.take (i + 1)).flatMap escB = (s.take i).flatMap escB ++ escB s[i] := by rw [List.take_add_one, hc, List.flatMap_append]; simp only [Option.toList_some, List.flatMap_cons, List.flatMap_nil, List.append_nil]
    have hlen : ((s.take i).flatMap escB).length < 2 ^ 42 := by have := hfl (s.take i); rw [List.length_take] at this; omega
    generalize s[i] = c at *
    have next : ∀ (b : AV) (M2 : Mem), appendV M 5 1 1 a (bytesAV (escB c)) = some (b, M2) → App m M ((s.take i).flatMap escB) (escB c) b M2 → ∀ g1 g5 g6 g7 g8 g9 g10 g11 g12, wl CS [1, 5, 6, 7, 8, 9, 10, 11, 12] q64l17 Q [.str s, g1, .str hexs, b, .int .i64 (i + 1 : Nat), g5, g6, g7, g8, g9, g10, g11, g12] M2 := by
      intro b M2 _ hA z1 z5 z6 z7 z8 z9 z10 z11 z12
      refine ih (i + 1) M2 b _ _ _ _ _ _ _ _ _ (by omega) (by rw [ht]; exact hA.mine) ?_
      exact extB_ext (hA.ext m.next (ext_extB hE)) (Nat.le_refl _)
    obtain ⟨b, M2, n1, n2⟩ := mine_app hm hE.ntok (by omega) (l := escB c) (by have := (escB_len c).1; omega)
    simp only [go_sem, reduceIte, Nat.reduceEqDiff, Nat.reduceAdd, q64l17, q64r4, e1, q64r5, idxS_at hc, q64r6, q64r7]
    refine rkey_loop (fun k hk hk1 hk2 z1 z9 z10 z11 z12 => ?_) 7 0 _ _ _ _ _ rfl (by simp)
    by_cases hk7 : k < 7
    · have e2 : decide ((k : Int) < (sevF.length : Nat)) = true := dT (by simp [sevF]; omega)
      have he := esc_at (hk1 hk7)
      have hix : idxSV (.str sevT) (.int .i64 (k : Int)) = some (.int .u8 (sevT.getD k 0).toNat) := by
        refine idxS_at ?_
        rw [List.getElem?_eq_getElem (show k < sevT.length from hk7)]
        simp [List.getD, show k < sevT.length from hk7]
      have n1' : appendV M 5 1 1 a [.int .u8 92, .int .u8 (sevT.getD k 0).toNat] = some (b, M2) := by rw [← n1, he]; rfl
      simp only [go_sem, reduceIte, Nat.reduceEqDiff, Nat.reduceAdd, q64r11, e2, q64r12, hix, elems, n1', q64r16, hw]
      exact next b M2 n1 n2 _ _ _ _ _ _ _ _ _
    · have e2 : decide ((k : Int) < (sevF.length : Nat)) = false := dF (by simp [sevF]; omega)
      have he := esc_none (hk2 (by omega))
      have hc16 : c.toNat / 16 < 16 := by have := c.toNat_lt; omega
      have hq : IntKind.u8.wrap ((c.toNat : Int).tdiv 16) = ((c.toNat / 16 : Nat) : Int) := by
        rw [show (c.toNat : Int).tdiv 16 = ((c.toNat / 16 : Nat) : Int) from tdivN (k := 16), wrapU8, Nat.mod_eq_of_lt (by omega)]
      have hr : (c.toNat : Int).tmod 16 = ((c.toNat % 16 : Nat) : Int) := tmodN (k := 16)
      have z16 : ((16 : Int) = 0) = False := by simp
      by_cases h32 : c.toNat < 32
      · have e3 : decide ((c.toNat : Int) < 32) = true := dT (by omega)
        rw [if_pos (.inl h32)] at he
        have n1' : appendV M 5 1 1 a [.int .u8 92, .int .u8 117, .int .u8 48, .int .u8 48, .int .u8 (hexs.getD (c.toNat / 16) 0).toNat, .int .u8 (hexs.getD (c.toNat % 16) 0).toNat] = some (b, M2) := by rw [← n1, he]; rfl
        simp only [go_sem, reduceIte, Nat.reduceEqDiff, Nat.reduceAdd, q64r11, e2, q64r13, e3, q64r14, z16, hq, hr, hexs_at' hc16, hexs_at' (Nat.mod_lt c.toNat (by omega : 16 > 0)), elems, n1', q64r16, hw]
        exact next b M2 n1 n2 _ _ _ _ _ _ _ _ _
      · have e3 : decide ((c.toNat : Int) < 32) = false := dF (by omega)
        by_cases h127 : c.toNat = 127
        · have e4 : ((c.toNat : Int) == 127) = true := bqT (by omega)
          rw [if_pos (.inr h127)] at he
          have n1' : appendV M 5 1 1 a [.int .u8 92, .int .u8 117, .int .u8 48, .int .u8 48, .int .u8 (hexs.getD (c.toNat / 16) 0).toNat, .int .u8 (hexs.getD (c.toNat % 16) 0).toNat] = some (b, M2) := by rw [← n1, he]; rfl
          simp only [go_sem, reduceIte, Nat.reduceEqDiff, Nat.reduceAdd, q64r11, e2, q64r13, e3, e4, q64r14, z16, hq, hr, hexs_at' hc16, hexs_at' (Nat.mod_lt c.toNat (by omega : 16 > 0)), elems, n1', q64r16, hw]
          exact next b M2 n1 n2 _ _ _ _ _ _ _ _ _
        · have e4 : ((c.toNat : Int) == 127) = false := bqF (by omega)
          rw [if_neg (by omega)] at he
          have n1' : appendV M 5 1 1 a [.int .u8 c.toNat] = some (b, M2) := by rw [← n1, he]; rfl
          simp only [go_sem, reduceIte, Nat.reduceEqDiff, Nat.reduceAdd, q64r11, e2, q64r13, e3, e4, q64r15, elems, n1', q64r16, hw]
          exact next b M2 n1 n2 _ _ _ _ _ _ _ _ _
theorem flat_len (l : List UInt8) : (l.flatMap escB).length ≤ 6 * l.length := by
  induction l with
  | nil => simp
  | cons c l ih => have := (escB_len c).1; simp only [List.flatMap_cons, List.length_append, List.length_cons]; omega
theorem rquoted_ok {s : List UInt8} (hs : s.length < 2 ^ 38) (m : Mem) : ∃ v m', CS 64 [.str s] m (.ret v) m' ∧ v = .str (quotS s) ∧ Ext m m' := by
  refine call_some (R := fun v m' => v = .str (quotS s) ∧ Ext m m') xfok mixed q64at q64ok rfl ?_
  simp only [go_sem, reduceIte, Nat.reduceEqDiff, Nat.reduceAdd, q64, q64r0, q64r1, q64r2, q64r3]
  refine rquot_loop (m := m) hs (fun M a hm hE z0 z1 z2 z4 z5 z6 z7 z8 z9 z10 z11 z12 => ?_) s.length 0 m _ _ _ _ _ _ _ _ _ _ (by omega) .nil (Ext.refl m)
  have hl := flat_len s
  have l1 : ([34] : List UInt8).length + (s.flatMap escB).length ≤ 2 ^ 62 := by simp only [List.length_singleton]; omega
  have l2' : (34 :: s.flatMap escB : List UInt8).length + ([34] : List UInt8).length ≤ 2 ^ 62 := by simp only [List.length_cons, List.length_nil]; omega
  simp only [go_sem, reduceIte, Nat.reduceEqDiff, Nat.reduceAdd, q64r18, str_of hm.sl, l1, l2']
  exact ⟨rfl, hE⟩
end Go.Proofs.YtkjokjogdehonaaGreatDoor.Am.Q
namespace Go.Proofs.YtkjokjogdehonaaGreatDoor.Am.Q
open Go Go.Proofs Go.Proofs.YtkjokjogdehonaaGreatDoor.Am
theorem byte_all {P : UInt8 → Bool} (h : ∀ n : Fin 256, P (UInt8.ofNat n.val) = true) (c : UInt8) : P c = true := by
  have := h ⟨c.toNat, c.toNat_lt⟩
  simpa using this
theorem fA (c : UInt8) (h : c ∈ sevF) : ∃ k : Nat, k < 7 ∧ sevF[k]? = some c ∧ indexB c escT = (k : Int) ∧ c.toNat ≠ 47 := by
  have := byte_all (P := fun c => decide (c ∈ sevF → ∃ k : Fin 7, sevF[k.val]? = some c ∧ indexB c escT = (k.val : Int) ∧ c.toNat ≠ 47)) (by decide +kernel) c
  obtain ⟨k, h1, h2, h3⟩ := (of_decide_eq_true this) h
  exact ⟨k.val, k.isLt, h1, h2, h3⟩
theorem fB (c : UInt8) (h : c ∉ sevF) : decide (indexB c escT ≥ 0) = false ∨ (decide (indexB c escT ≥ 0) = true ∧ c.toNat = 47) := by
  have := byte_all (P := fun c => decide (c ∉ sevF → (decide (indexB c escT ≥ 0) = false ∨ (decide (indexB c escT ≥ 0) = true ∧ c.toNat = 47)))) (by decide +kernel) c
  exact (of_decide_eq_true this) h
theorem escL_at {k : Nat} (h : k < 7) {kk : IntKind} : idxSV (.str [98, 116, 110, 102, 114, 34, 92, 47]) (.int kk (k : Int)) = some (.int .u8 (sevT.getD k 0).toNat) := by
  refine idxS_at (s := escL) ?_
  have key : ∀ j : Fin 7, escL[j.val]? = some (sevT.getD j.val 0) := by decide
  exact key ⟨k, h⟩
theorem and15 {x : Nat} (hx : x < 256) : IntKind.u8.wrap (((@HAnd.hAnd (BitVec 8) (BitVec 8) (BitVec 8) (@instHAndOfAndOp (BitVec IntKind.u8.bits) (@BitVec.instAndOp IntKind.u8.bits)) (BitVec.ofInt 8 (x : Int)) (BitVec.ofInt 8 15)).toNat : Nat) : Int) = ((x % 16 : Nat) : Int) := by
  have h : ∀ y : Fin 256, IntKind.u8.wrap (((@HAnd.hAnd (BitVec 8) (BitVec 8) (BitVec 8) (@instHAndOfAndOp (BitVec IntKind.u8.bits) (@BitVec.instAndOp IntKind.u8.bits)) (BitVec.ofInt 8 ((y.val : Nat) : Int)) (BitVec.ofInt 8 15)).toNat : Nat) : Int) = ((y.val % 16 : Nat) : Int) := by decide +kernel
  exact h ⟨x, hx⟩
theorem shr4 {n : Nat} : (n : Int).fdiv (2 ^ min (Int.toNat 4) 8) = ((n / 16 : Nat) : Int) := by
  show (n : Int).fdiv ((16 : Nat) : Int) = _
  rw [Int.fdiv_eq_ediv_of_nonneg _ (by omega)]; rfl
theorem le0_4 : ((0 : Int) ≤ 4) = True := by simp
theorem pquot_loop {m : Mem} {p : Nat} {s : List UInt8} (hs : s.length < 2 ^ 38) {Q : AExit → List AV → Mem → Prop}
    (hx : ∀ M, BSt p m M (34 :: s.flatMap escB) → ∀ g0 g1 g3 g4 g5 g6 g7 g8 g9 g10, Q (.exit 0) [g0, g1, .ptr p 0, g3, g4, g5, g6, g7, g8, g9, g10] M) :
    ∀ (r i : Nat) (M : Mem) (g1 g3 g4 g5 g8 g9 g10 : AV), i + r = s.length → BSt p m M (34 :: (s.take i).flatMap escB) →
      wl CS [1, 3, 4, 5, 8, 9, 10] q62l17 Q [.str s, g1, .ptr p 0, g3, g4, g5, .int .i64 s.length, .int .i64 i, g8, g9, g10] M := by
  intro r
  induction r with
  | zero =>
    intro i M g1 g3 g4 g5 g8 g9 g10 hi hB
    refine wl_step ?_
    have e1 : decide ((i : Int) < (s.length : Nat)) = false := dF (by omega)
    rw [List.take_of_length_le (by omega)] at hB
    simp only [go_sem, reduceIte, Nat.reduceEqDiff, Nat.reduceAdd, q62l17, q62r4, e1]
    exact hx _ hB _ _ _ _ _ _ _ _ _ _
  | succ r ih =>
    intro i M g1 g3 g4 g5 g8 g9 g10 hi hB
    refine wl_step ?_
    have hlt : i < s.length := by omega
    have e1 : decide ((i : Int) < (s.length : Nat)) = true := dT (by omega)
    have hc : s[i]? = some s[i] := List.getElem?_eq_getElem hlt
    have hw := wrap_succ (i := i) (by omega)
    have ht : (34 :: (s.take (i + 1)).flatMap escB : List UInt8) = (34 :: (s.take i).flatMap escB) ++ escB s[i] := by rw [List.take_add_one, hc, List.flatMap_append]; simp only [Option.toList_some, List.flatMap_cons, List.flatMap_nil, List.append_nil, List.cons_append]
    have hlen : (34 :: (s.take i).flatMap escB : List UInt8).length + 10 < 2 ^ 42 := by have := flat_len (s.take i); rw [List.length_take] at this; simp only [List.length_cons]; omega
    generalize hout : (34 :: (s.take i).flatMap escB : List UInt8) = out at hB ht hlen
    have hcl := (s[i]).toNat_lt
    generalize s[i] = c at *
    have next : ∀ (M2 : Mem), BSt p m M2 (out ++ escB c) → ∀ g1 g3 g4 g5 g8 g9 g10, wl CS [1, 3, 4, 5, 8, 9, 10] q62l17 Q [.str s, g1, .ptr p 0, g3, g4, g5, .int .i64 s.length, .int .i64 (i + 1 : Nat), g8, g9, g10] M2 := by
      intro M2 hA z1 z3 z4 z5 z8 z9 z10
      exact ih (i + 1) M2 _ _ _ _ _ _ _ (by omega) (by rw [ht]; exact hA)
    simp only [go_sem, reduceIte, Nat.reduceEqDiff, Nat.reduceAdd, q62l17, q62r4, e1, q62r5, q62r6, idxS_at hc, q62r7]
    refine callW_ret (index_byte_ok escT c M) ?_
    by_cases hin : c ∈ sevF
    · obtain ⟨k, hk, hk1, hk2, hk3⟩ := fA c hin
      have e2 : decide ((k : Int) ≥ 0) = true := dT (by omega)
      have e3 : ((c.toNat : Int) != 47) = true := bnT (by omega)
      have he := esc_at hk1
      rw [hk2]
      obtain ⟨v1, M1, c1, B1⟩ := wbyte_ok hB (by omega) 92
      obtain ⟨v2, M2, c2, B2⟩ := wbyte_ok B1 (by rw [List.length_append, List.length_singleton]; omega) (sevT.getD k 0)
      have c1' : CS 139 [.ptr p 0, .int .u8 92] M (.ret v1) M1 := c1
      simp only [go_sem, reduceIte, Nat.reduceEqDiff, Nat.reduceAdd, q62r8, e2, e3, q62r9]
      refine callW_ret c1' ?_
      simp only [go_sem, reduceIte, Nat.reduceEqDiff, Nat.reduceAdd, q62r10, escL_at hk]
      refine callW_ret c2 ?_
      simp only [go_sem, reduceIte, Nat.reduceEqDiff, Nat.reduceAdd, q62r16, hw]
      exact next M2 (by rw [he]; simpa using B2) _ _ _ _ _ _ _
    · have he := esc_none hin
      have rest : ∀ {Q' : AExit → List AV → Mem → Prop}, (∀ M2, BSt p m M2 (out ++ escB c) → ∀ a1 a3 a4 a5 a8 a9 a10, Q' .normal [.str s, a1, .ptr p 0, a3, a4, a5, .int .i64 s.length, .int .i64 i, a8, a9, a10] M2) → ∀ (g1 g3 g5 g8 g9 g10 : AV), wc CS (.seq (.region q62r11) (.cond (.var 10) (.seq (.region q62r12) (.seq (.region q62r13) (.region q62r14))) (.region q62r15)))
          Q' [.str s, g1, .ptr p 0, g3, .int .u8 c.toNat, g5, .int .i64 s.length, .int .i64 i, g8, g9, g10] M := by
        intro Q' hq z1 z3 z5 z8 z9 z10
        have hexcase : (c.toNat < 32 ∨ c.toNat = 127) → wc CS (.seq (.region q62r12) (.seq (.region q62r13) (.region q62r14)))
          Q' [.str s, z1, .ptr p 0, z3, .int .u8 c.toNat, z5, .int .i64 s.length, .int .i64 i, z8, z9, .bool true] M := by
          intro h
          rw [if_pos h] at he
          obtain ⟨v1, M1, c1, B1⟩ := wstr_ok hB (by omega) (l := [92, 117, 48, 48]) (by simp)
          obtain ⟨v2, M2, c2, B2⟩ := wbyte_ok B1 (by rw [List.length_append]; simp only [List.length_cons, List.length_nil]; omega) (hexs.getD (c.toNat / 16) 0)
          obtain ⟨v3, M3, c3, B3⟩ := wbyte_ok B2 (by rw [List.length_append, List.length_append]; simp only [List.length_cons, List.length_nil]; omega) (hexs.getD (c.toNat % 16) 0)
          have hc16 : c.toNat / 16 < 16 := by omega
          simp only [go_sem, reduceIte, Nat.reduceEqDiff, Nat.reduceAdd, q62r12]
          refine callW_ret c1 ?_
          simp only [go_sem, reduceIte, Nat.reduceEqDiff, Nat.reduceAdd, q62r13, le0_4, shr4, hexs_at hc16]
          refine callW_ret c2 ?_
          simp only [go_sem, reduceIte, Nat.reduceEqDiff, Nat.reduceAdd, q62r14, and15 hcl, hexs_at (Nat.mod_lt c.toNat (by omega : 16 > 0))]
          refine callW_ret c3 ?_
          simp only [go_sem, reduceIte, Nat.reduceEqDiff, Nat.reduceAdd]
          exact hq _ (by rw [he]; simpa using B3) _ _ _ _ _ _ _
        by_cases h32 : c.toNat < 32
        · have e5 : decide ((c.toNat : Int) < 32) = true := dT (by omega)
          have := hexcase (.inl h32)
          simp only [go_sem, reduceIte, Nat.reduceEqDiff, Nat.reduceAdd, q62r11, e5] at this ⊢
          exact this
        · have e5 : decide ((c.toNat : Int) < 32) = false := dF (by omega)
          by_cases h127 : c.toNat = 127
          · have e6 : ((c.toNat : Int) == 127) = true := bqT (by omega)
            have := hexcase (.inr h127)
            simp only [go_sem, reduceIte, Nat.reduceEqDiff, Nat.reduceAdd, q62r11, e5, e6] at this ⊢
            exact this
          · have e6 : ((c.toNat : Int) == 127) = false := bqF (by omega)
            rw [if_neg (by omega)] at he
            obtain ⟨v1, M1, c1, B1⟩ := wbyte_ok hB (by omega) c
            simp only [go_sem, reduceIte, Nat.reduceEqDiff, Nat.reduceAdd, q62r11, e5, e6, q62r15]
            refine callW_ret c1 ?_
            simp only [go_sem, reduceIte, Nat.reduceEqDiff, Nat.reduceAdd]
            exact hq _ (by rw [he]; exact B1) _ _ _ _ _ _ _
      rcases fB c hin with e2 | ⟨e2, h47⟩
      · simp only [go_sem, reduceIte, Nat.reduceEqDiff, Nat.reduceAdd, q62r8, e2]
        rw [← wc_start]
        refine rest (fun M2 hA a1 a3 a4 a5 a8 a9 a10 => ?_) _ _ _ _ _ _
        simp only [go_sem, reduceIte, Nat.reduceEqDiff, Nat.reduceAdd, q62r16, hw]
        exact next M2 hA _ _ _ _ _ _ _
      · have e3 : ((c.toNat : Int) != 47) = false := bnF (by omega)
        simp only [go_sem, reduceIte, Nat.reduceEqDiff, Nat.reduceAdd, q62r8, e2, e3]
        rw [← wc_start]
        refine rest (fun M2 hA a1 a3 a4 a5 a8 a9 a10 => ?_) _ _ _ _ _ _
        simp only [go_sem, reduceIte, Nat.reduceEqDiff, Nat.reduceAdd, q62r16, hw]
        exact next M2 hA _ _ _ _ _ _ _
theorem pquoted_ok {s : List UInt8} (hs : s.length < 2 ^ 38) (m : Mem) : ∃ v m', CS 62 [.str s] m (.ret v) m' ∧ v = .str (quotS s) ∧ Ext m m' := by
  refine call_some (R := fun v m' => v = .str (quotS s) ∧ Ext m m') xfok mixed q62at q62ok rfl ?_
  have hl := flat_len s
  have B0 : BSt m.next m (m.alloc (.cells 183 [.nilPtr, .nilSl])) [] := ⟨_, _, get_new, .inl rfl, .nil, (ExtB.refl m.next m).alloc _, by rw [next_alloc]; omega⟩
  simp only [go_sem, reduceIte, Nat.reduceEqDiff, Nat.reduceAdd, q62, q62r0, q62r1, q62r2]
  generalize m.alloc (.cells 183 [.nilPtr, .nilSl]) = M0 at B0
  obtain ⟨v1, M1, c1, B1⟩ := wbyte_ok B0 (by simp) 34
  have c1' : CS 139 [.ptr m.next 0, .int .u8 34] M0 (.ret v1) M1 := c1
  refine callW_ret c1' ?_
  simp only [go_sem, reduceIte, Nat.reduceEqDiff, Nat.reduceAdd, q62r3]
  refine pquot_loop (m := m) (p := m.next) hs (fun M2 B2 z0 z1 z3 z4 z5 z6 z7 z8 z9 z10 => ?_) s.length 0 M1 _ _ _ _ _ _ _ (by omega) B1
  obtain ⟨v3, M3, c3, B3⟩ := wbyte_ok B2 (by simp only [List.length_cons]; omega) 34
  have c3' : CS 139 [.ptr m.next 0, .int .u8 34] M2 (.ret v3) M3 := c3
  simp only [go_sem, reduceIte, Nat.reduceEqDiff, Nat.reduceAdd, q62r18]
  refine callW_ret c3' ?_
  obtain ⟨v4, M4, c4, rfl, h4⟩ := bstr_ok B3 (by simp) (by rw [List.length_append]; simp only [List.length_cons, List.length_nil]; omega)
  simp only [go_sem, reduceIte, Nat.reduceEqDiff, Nat.reduceAdd, q62r19]
  refine callW_ret c4 ?_
  simp only [go_sem, reduceIte, Nat.reduceEqDiff, Nat.reduceAdd]
  exact ⟨by simp [quotS], extB_ext h4 (Nat.le_refl _)⟩
end Go.Proofs.YtkjokjogdehonaaGreatDoor.Am.Q
