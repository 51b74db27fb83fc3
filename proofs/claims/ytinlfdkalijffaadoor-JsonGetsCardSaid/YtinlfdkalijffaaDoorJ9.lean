/-
  JSON, 9: far.
-/
import Derived.Test.YtinlfdkalijffaaDoorJ8
set_option linter.unusedSimpArgs false
set_option linter.unusedVariables false
namespace Go.Proofs.YtinlfdkalijffaaDoor.Am.Q
open Go Go.Proofs Go.Proofs.YtinlfdkalijffaaDoor.Am

theorem far_ok {T : VT} (hs : Small T) (m : Mem) {a : AV} (ha : IsVal a T) : ∃ r, CS 13 [a] m (.ret (.bool r)) m := by
  obtain ⟨a', wa1, wa2, _, wa3, _⟩ := ha.weak
  have key : ∃ r' m', CS 13 [a'] m0 (.ret r') m' ∧ ∃ r, r' = .bool r := by
    refine call_some (R := fun r' _ => ∃ r, r' = .bool r) xfok mixed q13at q13ok rfl ?_
    obtain ⟨k, t, ka, kb, rfl, sa⟩ := wa1.shape
    have hg0 : (m0.alloc (.cells 26 [.int .i64 k, .str t, ka, kb])).get m0.next = .cells 26 [.int .i64 k, .str t, ka, kb] := get_new
    simp only [go_sem, reduceIte, Nat.reduceEqDiff, Nat.reduceAdd, q13, q13r0, q13r1, sa, hg0]
    obtain ⟨n, hn⟩ := sizes hs (m0.alloc (.cells 26 [.int .i64 k, .str t, ka, kb])) _ 0 3000 wa1
    refine callW_ret hn ?_
    simp only [go_sem, reduceIte, Nat.reduceEqDiff, Nat.reduceAdd]
    exact ⟨_, rfl⟩
  obtain ⟨r', m', h1, r, rfl⟩ := key
  refine ⟨r, call_weak gflat h1 (fun x hx => ?_) (fun C vs h => ?_) rfl m⟩
  · simp only [List.mem_cons, List.not_mem_nil, or_false] at hx
    subst hx; exact wa2
  · match vs, h with
    | [v1], h => exact ⟨wa3 C _ h.1, trivial⟩
end Go.Proofs.YtinlfdkalijffaaDoor.Am.Q
