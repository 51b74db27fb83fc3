/- Part KJ4 of a claim's texts, joined: what the claim needs of them. -/
import Derived.Test.YtinlfdkalijffaaDoorKJ3
import Derived.Test.YtinlfdkalijffaaDoorKA4
import Derived.Test.YtinlfdkalijffaaDoorCards
import Derived.Test.YtinlfdkalijffaaDoorTie
import Derived.WalkKit
import Derived.ProofKit
set_option linter.unusedSimpArgs false
set_option linter.unusedVariables false
namespace Go.Proofs.YtinlfdkalijffaaDoor.Am.Q
open Go Go.Proofs Go.Proofs.YtinlfdkalijffaaDoor.Am Go.ChangeShapes Go.WideShapes Go.ChangeAt Go.RowKit
theorem uInt : Tryd.prog.underlying 3 = some (.int .i64) := by kernel_rfl
theorem uStr : Tryd.prog.underlying 9 = some .string := by kernel_rfl
instance : Inhabited VT := ⟨VT.zero⟩
section
variable {H : Type} {enc : TypeId × Value → H} {W : World}
theorem open_one {v : Value} {us : List AV} {a : AV} (h : CellsOf W us v.cells.toList) (ha : us = [a]) (hv : ∀ cs, v ≠ .agg cs) : Rep (cxOf W) a v := by
  subst ha
  have := h.rep 0 (by simp)
  cases v <;> first | exact absurd rfl (hv _) | simpa [Value.cells] using this
end
theorem glob_ok : globOk Tryd.prog gT [("unicode/utf8.acceptRanges", Rows.laid_unicode_utf8_acceptRanges), ("unicode/utf8.first", Rows.laid_unicode_utf8_first)] = true := by kernel_rfl
theorem glob_any : ∀ g cs, gT g = some cs → ([("unicode/utf8.acceptRanges", (Rows.laid_unicode_utf8_acceptRanges : DataW Unit)), ("unicode/utf8.first", Rows.laid_unicode_utf8_first)].any fun x => decide (Tryd.prog.globalNamed x.1 = some g)) = true := by
  intro g cs h
  simp only [gT] at h
  split at h
  · rename_i e; subst e; kernel_rfl
  · split at h
    · rename_i e; subst e; kernel_rfl
    · cases h
theorem globs {W : World} (h : laidMetH Tryd.prog [("unicode/utf8.acceptRanges", Rows.laid_unicode_utf8_acceptRanges), ("unicode/utf8.first", Rows.laid_unicode_utf8_first)] W) : ∀ g cs, gT g = some cs → Rep (cxOf W) (.sptr cs 0) (.pointer (some ⟨g, 0, none⟩)) := by
  have h' : laidMet Tryd.prog [("unicode/utf8.acceptRanges", Rows.laid_unicode_utf8_acceptRanges), ("unicode/utf8.first", Rows.laid_unicode_utf8_first)] W := h
  obtain ⟨ps, hl, _⟩ := h'
  exact fun g cs hg => glob_of_laid glob_ok hl g cs hg (glob_any g cs hg)
theorem own : ownKnob Tryd.prog.godebug = none := by kernel_rfl
theorem laidOut : laidOutB Tryd.prog = true := by kernel_rfl
theorem uBool : Tryd.prog.underlying 4 = some .bool := by kernel_rfl
end Go.Proofs.YtinlfdkalijffaaDoor.Am.Q
