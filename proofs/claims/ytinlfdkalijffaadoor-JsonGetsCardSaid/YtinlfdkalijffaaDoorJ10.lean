/-
  JSON, 10: the law JsonGets.
-/
import Derived.Test.YtinlfdkalijffaaDoorJ9
set_option linter.unusedSimpArgs false
set_option linter.unusedVariables false
namespace Go.Proofs.YtinlfdkalijffaaDoor.Am.Q
open Go Go.Proofs Go.Proofs.YtinlfdkalijffaaDoor.Am

theorem small_zero : Small VT.zero := .mk (by simp) (by simp) (fun i hi => absurd hi (Nat.not_lt_zero _))
theorem small_get : ∀ {keys : List (List UInt8)} {T : VT}, Small T → Small ((getT T keys).getD VT.zero)
  | [], T, h => h
  | k :: ks, T, h => by
    simp only [getT]
    cases h with
    | @mk kd t keys kids s1 s2 s3 =>
      simp only [VT.kind, VT.keys, VT.kids]
      by_cases h6 : kd = 6
      · simp only [h6, if_true]
        cases find k keys with
        | none => exact small_zero
        | some i =>
          by_cases hi : i < kids.length
          · simp only [hi, if_true]; exact small_get (s3 i hi)
          · simp only [hi, if_false]; exact small_zero
      · simp only [h6, if_false]; exact small_zero
theorem gets_law {T : VT} {keys : List (List UInt8)} {v ks : AV} (hv : IsVal v T) (hs : Small T) (hk : SlOf 1 ks (keys.map .str)) (hlen : keys.length < 2 ^ 47) : ∃ m', CS 4 [v, ks] m0 (.ret (.bool true)) m' := by
  have key : ∃ r m', CS 4 [v, ks] m0 (.ret r) m' ∧ r = .bool true := by
    refine call_some (R := fun r _ => r = .bool true) xfok mixed q4at q4ok rfl ?_
    obtain ⟨k, t, ka, kb, rfl, sa⟩ := hv.shape
    have hg0 : (m0.alloc (.cells 26 [.int .i64 k, .str t, ka, kb])).get m0.next = .cells 26 [.int .i64 k, .str t, ka, kb] := get_new
    have hn0 : (m0.alloc (.cells 26 [.int .i64 k, .str t, ka, kb])).next = m0.next + 1 := rfl
    simp only [go_sem, reduceIte, Nat.reduceEqDiff, Nat.reduceAdd, q4, q4r0, sa]
    generalize (m0.alloc (.cells 26 [.int .i64 k, .str t, ka, kb])) = m1 at hg0 hn0
    obtain ⟨fb, hfar⟩ := far_ok hs m1 hv
    simp only [go_sem, reduceIte, Nat.reduceEqDiff, Nat.reduceAdd, q4r1, hg0]
    refine callW_ret hfar ?_
    have out : ∀ fr : List AV, True := fun _ => trivial
    cases fb
    · simp only [go_sem, reduceIte, Nat.reduceEqDiff, Nat.reduceAdd, hk.isLK, hk.len, List.length_map]
      refine boolW_intro (fun h => ?_) (fun h => ?_)
      · simp only [go_sem, reduceIte, Nat.reduceEqDiff, Nat.reduceAdd, q4r2]
        refine callW_ret (alive_ok m1) ?_
        simp only [go_sem, reduceIte, Nat.reduceEqDiff, Nat.reduceAdd]
      · simp only [go_sem, reduceIte, Nat.reduceEqDiff, Nat.reduceAdd, q4r3, hg0]
        obtain ⟨x, m2, hx1, hx2, hx3⟩ := get_ok m1 hv hs hk hlen
        refine callW_ret hx1 ?_
        obtain ⟨k1, t1, a1, b1, rfl, _⟩ := hx3.shape
        have hs1 := hx3.store
        have st1 : (m2.alloc (.cells 26 [.int .i64 0, .str [], .nilSl, .nilSl])).store 4 (.ptr m2.next 0) (.agg [.int .i64 k1, .str t1, a1, b1]) = some ((m2.alloc (.cells 26 [.int .i64 0, .str [], .nilSl, .nilSl])).set m2.next (.cells 26 [.int .i64 k1, .str t1, a1, b1])) := store_4 get_new hs1
        have hv2 : m2.get m0.next = .cells 26 [.int .i64 k, .str t, ka, kb] := by rw [hx2.get _ (by omega)]; exact hg0
        have hlt : m0.next < m2.next := by have := hx2.next; omega
        simp only [go_sem, reduceIte, Nat.reduceEqDiff, Nat.reduceAdd, List.getElem?_cons_zero, st1]
        have hm3 : ((m2.alloc (.cells 26 [.int .i64 0, .str [], .nilSl, .nilSl])).set m2.next (.cells 26 [.int .i64 k1, .str t1, a1, b1])).get m0.next = .cells 26 [.int .i64 k, .str t, ka, kb] := by
          rw [get_set_other (by omega), get_old (by omega)]; exact hv2
        have hm4 : ((m2.alloc (.cells 26 [.int .i64 0, .str [], .nilSl, .nilSl])).set m2.next (.cells 26 [.int .i64 k1, .str t1, a1, b1])).get m2.next = .cells 26 [.int .i64 k1, .str t1, a1, b1] := get_set_same
        have hm5 : ((m2.alloc (.cells 26 [.int .i64 0, .str [], .nilSl, .nilSl])).set m2.next (.cells 26 [.int .i64 k1, .str t1, a1, b1])).next = m2.next + 1 := rfl
        generalize ((m2.alloc (.cells 26 [.int .i64 0, .str [], .nilSl, .nilSl])).set m2.next (.cells 26 [.int .i64 k1, .str t1, a1, b1])) = m3 at hm3 hm4 hm5
        simp only [go_sem, reduceIte, Nat.reduceEqDiff, Nat.reduceAdd, q4r4, hm3]
        obtain ⟨y, m4, hy1, hy2, hy3⟩ := rget_ok m3 hv hs hk hlen
        refine callW_ret hy1 ?_
        obtain ⟨k2, t2, a2, b2, rfl, _⟩ := hy3.shape
        have hs2 := hy3.store
        have st2 : (m4.alloc (.cells 26 [.int .i64 0, .str [], .nilSl, .nilSl])).store 4 (.ptr m4.next 0) (.agg [.int .i64 k2, .str t2, a2, b2]) = some ((m4.alloc (.cells 26 [.int .i64 0, .str [], .nilSl, .nilSl])).set m4.next (.cells 26 [.int .i64 k2, .str t2, a2, b2])) := store_4 get_new hs2
        have hw4 : m4.get m2.next = .cells 26 [.int .i64 k1, .str t1, a1, b1] := by rw [hy2.get _ (by omega)]; exact hm4
        have hlt2 : m2.next < m4.next := by have := hy2.next; omega
        simp only [go_sem, reduceIte, Nat.reduceEqDiff, Nat.reduceAdd, List.getElem?_cons_zero, st2]
        have hm6 : ((m4.alloc (.cells 26 [.int .i64 0, .str [], .nilSl, .nilSl])).set m4.next (.cells 26 [.int .i64 k2, .str t2, a2, b2])).get m2.next = .cells 26 [.int .i64 k1, .str t1, a1, b1] := by
          rw [get_set_other (by omega), get_old (by omega)]; exact hw4
        have hm7 : ((m4.alloc (.cells 26 [.int .i64 0, .str [], .nilSl, .nilSl])).set m4.next (.cells 26 [.int .i64 k2, .str t2, a2, b2])).get m4.next = .cells 26 [.int .i64 k2, .str t2, a2, b2] := get_set_same
        generalize ((m4.alloc (.cells 26 [.int .i64 0, .str [], .nilSl, .nilSl])).set m4.next (.cells 26 [.int .i64 k2, .str t2, a2, b2])) = m5 at hm6 hm7
        simp only [go_sem, reduceIte, Nat.reduceEqDiff, Nat.reduceAdd, q4r5, hm6, hm7]
        refine callW_ret (same12 (small_get hs) _ m5 _ _ true hx3 hy3 ⟨fun _ => rfl, fun _ => rfl⟩) ?_
        simp only [go_sem, reduceIte, Nat.reduceEqDiff, Nat.reduceAdd, eqSafeB, eqV, eqL, show (true != false) = true from rfl]
        refine callW_ret (alive_ok m5) ?_
        simp only [go_sem, reduceIte, Nat.reduceEqDiff, Nat.reduceAdd]
    · simp only [go_sem, reduceIte, Nat.reduceEqDiff, Nat.reduceAdd, q4r2]
      refine callW_ret (alive_ok m1) ?_
      simp only [go_sem, reduceIte, Nat.reduceEqDiff, Nat.reduceAdd]
  obtain ⟨r, m', h, rfl⟩ := key
  exact ⟨m', h⟩
end Go.Proofs.YtinlfdkalijffaaDoor.Am.Q
