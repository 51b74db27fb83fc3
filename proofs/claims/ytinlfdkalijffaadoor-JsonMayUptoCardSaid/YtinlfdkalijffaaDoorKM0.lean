import Derived.Test.YtinlfdkalijffaaDoorKJ6
set_option linter.unusedSimpArgs false
set_option linter.unusedVariables false
/-
  JSON, a part of 23 (what the statements on values need of the document's parser).
-/
namespace Go.Proofs.YtinlfdkalijffaaDoor.Am.Q
open Go Go.Proofs Go.Proofs.YtinlfdkalijffaaDoor.Am

abbrev z26 : AObj := .cells 26 [.int .i64 0, .str [], .nilSl, .nilSl]
theorem IsVal.ones {v : AV} {T : VT} (h : IsVal v T) : ∃ k t ka kb, v = .agg [.int .i64 k, .str t, ka, kb] ∧ one ka = true ∧ one kb = true := by
  cases h with
  | mk a1 a2 => exact ⟨_, _, _, _, rfl, a1.one, a2.one⟩
theorem str_beq {a b : List UInt8} (h : a = b) : (a == b) = true := by simp [h]
theorem str_bne {a b : List UInt8} (h : ¬ a = b) : (a == b) = false := by simp [h]
end Go.Proofs.YtinlfdkalijffaaDoor.Am.Q
