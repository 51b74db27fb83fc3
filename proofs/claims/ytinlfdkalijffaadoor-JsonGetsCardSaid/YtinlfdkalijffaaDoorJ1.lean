import Derived.Test.YtinlfdkalijffaaDoorQT
import Derived.Test.YtinlfdkalijffaaDoorAm19
import Derived.IntWalk
set_option linter.unusedSimpArgs false
set_option linter.unusedVariables false
namespace Go.Proofs.YtinlfdkalijffaaDoor.Am.Q
open Go Go.Proofs Go.Proofs.YtinlfdkalijffaaDoor.Am
theorem xfok : XfOk Tryd.prog xfT := by
  intro f
  refine ⟨fun h => ?_, fun h => ?_⟩
  · have : f = 99 := by
      simp only [xfT] at h
      split at h
      · simp at h
      · split at h
        · assumption
        · simp at h
    subst this
    exact ⟨Tryd.f99, by kernel_rfl, by kernel_rfl, by kernel_rfl, by kernel_rfl, by kernel_rfl⟩
  · have : f = 89 := by
      simp only [xfT] at h
      split at h
      · assumption
      · split at h <;> simp at h
    subst this
    exact ⟨Tryd.f89, by kernel_rfl, by kernel_rfl, by kernel_rfl, by kernel_rfl, by kernel_rfl⟩
theorem mixed : Tryd.prog.follows .mixedOrders = true := by kernel_rfl
abbrev CS := CallSound Tryd.prog gT

theorem texts_loop (m : Mem) {a b : AV} {l r : List (List UInt8)} (ha : SlOf 1 a (l.map .str)) (hb : SlOf 1 b (r.map .str)) (hl : l.length = r.length) (hlen : l.length < 2 ^ 62) {Q : AExit → List AV → Mem → Prop}
    (hx : l = r → ∀ g3 g4 g5 g6, Q (.exit 0) [a, b, .u, g3, g4, g5, g6] m) (hr : l ≠ r → ∀ g3 g4 g5 g6, Q .ret [a, b, .bool false, g3, g4, g5, g6] m) :
    ∀ (n i : Nat) (g : AV), i + n = l.length → l.take i = r.take i → wl CS [2, 4, 5, 6] q26l8 Q [a, b, .u, .int .i64 i, g, .u, .u] m := by
  intro n
  induction n with
  | zero =>
    intro i g hi ht
    refine wl_step ?_
    have h1 : decide ((i : Int) < ((List.map AV.str l).length : Nat)) = false := by simp; omega
    simp only [go_sem, reduceIte, Nat.reduceEqDiff, Nat.reduceAdd, q26l8, q26r4, ha.isLK, ha.len, h1]
    have : l = r := by
      rw [List.take_of_length_le (by omega), List.take_of_length_le (by omega)] at ht
      exact ht
    exact hx this _ _ _ _
  | succ n ih =>
    intro i g hi ht
    refine wl_step ?_
    have h1 : decide ((i : Int) < ((List.map AV.str l).length : Nat)) = true := by simp; omega
    have hi1 : i < l.length := by omega
    have hi2 : i < r.length := by omega
    have ea := ha.idx (k := .i64) (i := (i : Int)) (y := .str l[i]) (by omega) (by simp [hi1])
    have eb := hb.idx (k := .i64) (i := (i : Int)) (y := .str r[i]) (by omega) (by simp [hi2])
    have hw : IntKind.i64.wrap ((i : Int) + 1) = ((i + 1 : Nat) : Int) := by rw [Go.IntWalk.i64_in _ (by omega)]; omega
    simp only [go_sem, reduceIte, Nat.reduceEqDiff, Nat.reduceAdd, q26l8, q26r4, q26r5, q26r6, q26r7, ha.isLK, ha.len, h1, ea, eb, Mem.load, part, AV.cells, List.getElem?_cons_zero, hw]
    refine boolW_intro (fun hne => ?_) (fun hne => ?_)
    · simp only [go_sem, reduceIte, Nat.reduceEqDiff, Nat.reduceAdd, q26r6]
      refine hr (fun e => ?_) _ _ _ _
      subst e
      simp at hne
    · simp only [go_sem, reduceIte, Nat.reduceEqDiff, Nat.reduceAdd, q26r7, hw]
      refine ih (i + 1) _ (by omega) ?_
      have he : l[i] = r[i] := by simpa using hne
      rw [List.take_succ_eq_append_getElem hi1, List.take_succ_eq_append_getElem hi2, ht, he]

theorem texts_ok (m : Mem) {a b : AV} {l r : List (List UInt8)} (ha : SlOf 1 a (l.map .str)) (hb : SlOf 1 b (r.map .str)) (hlen : l.length < 2 ^ 62) : CS 26 [a, b] m (.ret (.bool (decide (l = r)))) m := by
  refine call_by xfok mixed q26at q26ok rfl ?_
  simp only [go_sem, reduceIte, Nat.reduceEqDiff, Nat.reduceAdd, q26, q26r0, q26r1, q26r2, q26r3, ha.isLK, hb.isLK, ha.len, hb.len]
  refine boolW_intro (fun h => ?_) (fun h => ?_)
  · simp only [go_sem, reduceIte, Nat.reduceEqDiff, Nat.reduceAdd, q26r2]
    have : l ≠ r := fun e => by subst e; simp at h
    simp [this]
  · simp only [go_sem, reduceIte, Nat.reduceEqDiff, Nat.reduceAdd, q26r3]
    have hl : l.length = r.length := by simp at h; omega
    refine texts_loop m ha hb hl hlen (fun e g3 g4 g5 g6 => ?_) (fun e g3 g4 g5 g6 => ?_) l.length 0 _ (by omega) (by simp)
    · simp only [go_sem, reduceIte, Nat.reduceEqDiff, Nat.reduceAdd, q26r9, e]
      simp
    · simp only [go_sem, reduceIte, Nat.reduceEqDiff, Nat.reduceAdd]
      simp [e]
end Go.Proofs.YtinlfdkalijffaaDoor.Am.Q
