/- Part KJ4 of a claim's texts, joined: what the claim needs of them. -/
import Derived.Test.YtkjokjogdehonaaGreatDoorKJ3
import Derived.Test.YtkjokjogdehonaaGreatDoorKA4
import Derived.Test.YtkjokjogdehonaaGreatDoorCards
import Derived.Test.YtkjokjogdehonaaGreatDoorTie
import Derived.WalkKit
import Derived.ProofKit
set_option linter.unusedSimpArgs false
set_option linter.unusedVariables false
namespace Go.Proofs.YtkjokjogdehonaaGreatDoor.Am.Q
open Go Go.Proofs Go.Proofs.YtkjokjogdehonaaGreatDoor.Am Go.ChangeShapes Go.WideShapes Go.ChangeAt Go.RowKit
theorem uVal : structB Tryz.prog 27 [(3, 0), (9, 1), (25, 2), (24, 3)] = true := by kernel_rfl
theorem uInt : Tryz.prog.underlying 3 = some (.int .i64) := by kernel_rfl
theorem uStr : Tryz.prog.underlying 9 = some .string := by kernel_rfl
theorem uStrs : Tryz.prog.underlying 25 = some (.slice 9) := by kernel_rfl
theorem uVals : Tryz.prog.underlying 24 = some (.slice 27) := by kernel_rfl
theorem cInt : Tryz.prog.cellsOf 3 = 1 := by kernel_rfl
theorem cStr : Tryz.prog.cellsOf 9 = 1 := by kernel_rfl
theorem cStrs : Tryz.prog.cellsOf 25 = 1 := by kernel_rfl
theorem cVals : Tryz.prog.cellsOf 24 = 1 := by kernel_rfl
theorem cVal : Tryz.prog.cellsOf 27 = 4 := by kernel_rfl
theorem bStr : Tryz.prog.bytesOf 9 = 16 := by kernel_rfl
theorem bVal : Tryz.prog.bytesOf 27 = 72 := by kernel_rfl
instance : Inhabited VT := ⟨VT.zero⟩
section
variable {H : Type} {enc : TypeId × Value → H} {W : World}
theorem read_val : ∀ (s : Nat) {fuel : Nat} {cs : List Value} {x : DataW H × List MemPlace}, SizeOf.sizeOf x.1 ≤ s → Fits Tryz.prog 27 x.1 → DataW.trod enc Tryz.prog W 0 (fun _ => true) true fuel 27 cs = some x →
    ∃ (T : VT) (us : List AV), (IsVal (.agg us) T ∧ Small T) ∧ CellsOf W us cs
  | 0, _, _, x, hs, _, _ => by have : 0 < SizeOf.sizeOf x.1 := by cases x.1 <;> simp <;> omega
                               omega
  | s + 1, fuel, cs, x, hs, hw, h => by
    obtain ⟨hl, hf⟩ := read_fields uVal hw h
    rw [cVal] at hl
    obtain ⟨n0, y0, z0, w0, t0⟩ := hf 0 _ rfl
    obtain ⟨n1, y1, z1, w1, t1⟩ := hf 1 _ rfl
    obtain ⟨n2, y2, z2, w2, t2⟩ := hf 2 _ rfl
    obtain ⟨n3, y3, z3, w3, t3⟩ := hf 3 _ rfl
    rw [cInt] at t0; rw [cStr] at t1; rw [cStrs] at t2; rw [cVals] at t3
    have hcs := tile cs [(0, 1), (1, 1), (2, 1), (3, 1)] 0 rfl (by simpa [sizes'] using hl)
    obtain ⟨k, a0, _, _⟩ := read_int uInt t0
    obtain ⟨t, a1, _, _⟩ := read_str uStr t1
    obtain ⟨ka, keys, a2, b2, c2, _⟩ := read_strs uStrs uStr cStr w2 t2
    obtain ⟨kb, kids, xs, a3, b3, l3, c3, e3⟩ := read_slice (α := VT) (R := fun T us => IsVal (.agg us) T ∧ Small T) uVals (by rw [cVal]; omega) (fun us => .agg us) (fun _ _ _ => rfl) w3 t3
      (fun n cs y hy hfy ht => read_val s (by omega) hfy ht)
    rw [bStr] at c2; rw [bVal] at c3; rw [cVal] at b3
    simp only [reachBytes] at c2 c3
    refine ⟨.node k t keys kids, [.int .i64 k, .str t, ka, kb], ⟨.mk b2 b3 l3 fun i hi => ?_, .mk (by omega) (by omega) fun i hi => ?_⟩, ?_⟩
    · obtain ⟨us, ⟨h1, _⟩, h2⟩ := e3 i hi
      rw [h2]; exact h1
    · obtain ⟨us, ⟨_, h1⟩, _⟩ := e3 i hi
      exact h1
    · rw [List.drop_zero] at hcs
      rw [hcs]
      exact (a0.append (a1.append (a2.append (a3.append .nil))))
theorem open_one {v : Value} {us : List AV} {a : AV} (h : CellsOf W us v.cells.toList) (ha : us = [a]) (hv : ∀ cs, v ≠ .agg cs) : Rep (cxOf W) a v := by
  subst ha
  have := h.rep 0 (by simp)
  cases v <;> first | exact absurd rfl (hv _) | simpa [Value.cells] using this
end
theorem glob_ok : globOk Tryz.prog gT [("unicode/utf8.acceptRanges", Rows.laid_unicode_utf8_acceptRanges), ("unicode/utf8.first", Rows.laid_unicode_utf8_first)] = true := by kernel_rfl
theorem glob_any : ∀ g cs, gT g = some cs → ([("unicode/utf8.acceptRanges", (Rows.laid_unicode_utf8_acceptRanges : DataW Unit)), ("unicode/utf8.first", Rows.laid_unicode_utf8_first)].any fun x => decide (Tryz.prog.globalNamed x.1 = some g)) = true := by
  intro g cs h
  simp only [gT] at h
  split at h
  · rename_i e; subst e; kernel_rfl
  · split at h
    · rename_i e; subst e; kernel_rfl
    · cases h
theorem globs {W : World} (h : laidMetH Tryz.prog [("unicode/utf8.acceptRanges", Rows.laid_unicode_utf8_acceptRanges), ("unicode/utf8.first", Rows.laid_unicode_utf8_first)] W) : ∀ g cs, gT g = some cs → Rep (cxOf W) (.sptr cs 0) (.pointer (some ⟨g, 0, none⟩)) := by
  have h' : laidMet Tryz.prog [("unicode/utf8.acceptRanges", Rows.laid_unicode_utf8_acceptRanges), ("unicode/utf8.first", Rows.laid_unicode_utf8_first)] W := h
  obtain ⟨ps, hl, _⟩ := h'
  exact fun g cs hg => glob_of_laid glob_ok hl g cs hg (glob_any g cs hg)
theorem own : ownKnob Tryz.prog.godebug = none := by kernel_rfl
theorem laidOut : laidOutB Tryz.prog = true := by kernel_rfl
theorem uBool : Tryz.prog.underlying 4 = some .bool := by kernel_rfl
end Go.Proofs.YtkjokjogdehonaaGreatDoor.Am.Q
