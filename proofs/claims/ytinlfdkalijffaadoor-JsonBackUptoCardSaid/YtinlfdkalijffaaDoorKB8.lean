import Derived.Test.YtinlfdkalijffaaDoorKB7
import Derived.Test.YtinlfdkalijffaaDoorKB6
set_option linter.unusedSimpArgs false
set_option linter.unusedVariables false
/-
  JSON, 68: the statement JsonBack, where what it reads is of bulk at most 2^20: a value that may be is parsed of its text.
-/
namespace Go.Proofs.YtinlfdkalijffaaDoor.Am.Q
open Go Go.Proofs Go.Proofs.YtinlfdkalijffaaDoor.Am Go.ChangeShapes Go.WideShapes Go.ChangeAt Go.RowKit

/-- A world for the witnesses: the settled one, with the listed tables. -/
noncomputable def laidWorld6 (os : Os) : World :=
  { World.holding Tryd.prog os ⟨#[], #[], []⟩ with heap := layRow 2 (flatD (Rows.laid_unicode_utf8_acceptRanges : DataW Unit)) (layRow 1 (flatD (Go.Pinned.utf8First : DataW Unit)) (World.holding Tryd.prog os ⟨#[], #[], []⟩).heap) }
def argVal6 : Value := .agg #[.int .i64 0, .string .empty, .slice none 0 0, .slice none 0 0]
theorem back_laid (os : Os) : laidMet Tryd.prog Rows.jsonBackUptoRow.laid ((laidWorld6 os).forCall (fun _ _ => 0) ⟨#[], #[argVal6], []⟩).memory :=
  laidMet_of_run' 8 (by kernel_rfl) (by kernel_rfl)
theorem back_reads (os : Os) {H : Type} (enc : TypeId × Value → H) : ∃ places, DataW.whole enc Tryd.prog ((laidWorld6 os).forCall (fun _ _ => 0) ⟨#[], #[argVal6], []⟩).memory Tryd.f6.params.toList Rows.jsonBackSpec.vars false #[argVal6].toList 8 = some ([.agg [.lit (.int .i64 0), .lit (.string []), .nil, .nil]], [], places) :=
  ⟨[], by kernel_rfl⟩
theorem aVal6 : aggT Tryd.prog 26 = true := by kernel_rfl
theorem wVal6 : Tryd.prog.wantsStandIn 26 = false := by kernel_rfl
set_option maxRecDepth 100000 in
theorem back_at (H : Type) (enc : TypeId × Value → H) : LawUpto H enc Tryd.prog gT 6 Tryd.f6 Rows.jsonBackSpec := by
  intro W base args ds p hval hA hw hbk
  rw [Tryd.params6] at hA hval hw
  obtain ⟨v0, vs0, d0, ds0, p0, q0, rfl, rfl, rfl, h0, r0⟩ := trodAll_cons hA
  obtain ⟨rfl, rfl, rfl⟩ := trodAll_nil r0
  refine ⟨rfl, ?_⟩
  simp only [Rows.uptoBulkAll] at hbk
  obtain ⟨T, a, i1, i2, i3⟩ := open_valB (fun n hn => hw n (weightsEach_mem hn (i := 0) rfl rfl)) (by omega) h0 (agg_of_ok aVal6 (hval 0 26 v0 rfl rfl))
  obtain ⟨m', hm⟩ := back_law i1 i2
  exact ⟨_, m', hm, i3, trivial⟩

set_option maxRecDepth 100000 in
theorem back_lift (os : Os) (started : os.Started) (H : Type) (enc : TypeId × Value → H) (F : Stop.Interp) :
    ReturnsInHanded {} Tryd.checked os 6 .any ((Rows.OpenSpec.upto Rows.jsonBackSpec).preRow enc Tryd.prog Tryd.f6 Rows.jsonBackUptoRow.domain false Rows.jsonBackUptoRow.laid) (((Rows.OpenSpec.upto Rows.jsonBackSpec).at F).post enc Tryd.prog Tryd.f6 false true false false) := by
  obtain ⟨places, hx⟩ := back_reads os enc
  exact law_liftU (C := Tryd.checked) own started (by kernel_rfl) Tryd.func6 laidOut rfl uBool (by kernel_rfl) rfl
    (witness_row_at (enc := enc) (C := Tryd.checked) false (laidWorld6 os) #[argVal6] rfl (by kernel_rfl) (by kernel_rfl) (by kernel_rfl)
      (OpenSpec.preRow_of_cond 8 hx (by kernel_rfl) (fun k hk => by cases hk; kernel_rfl) (by kernel_rfl) (back_laid os))) (fun _ h => globs h) (back_at H enc)
theorem back_said : Rows.JsonBackUptoSaid :=
  OpenClaim.holds_of_cond 6 Tryd.f6 rfl rfl rfl rfl rfl rfl rfl ⟨rfl, rfl, rfl, rfl, rfl⟩ rfl rfl rfl rfl rfl (by kernel_rfl) Tryd.func6 (by kernel_rfl)
    (of_decide_eq_true (by kernel_rfl)) (by unfold Func.isWrapper; first | (rw [if_pos (by decide +kernel)]; kernel_rfl) | (rw [if_neg (by decide +kernel)]; exact ⟨rfl, rfl⟩))
    (fun os started H enc _ F => by rw [OpenClaim.pre_eq_preRow]; exact back_lift os started H enc F)
/-- No parameter wants a stand-in; the program's own looks. -/
theorem back_plain (f : FuncId) (fn : Func) (hf : Tryd.pinned.checked.prog.funcNamed "cringle/cringlelaw07.JsonBack" = some f) (hfn : Tryd.pinned.checked.prog.funcs[f]? = some fn) :
    true = Tryd.pinned.checked.prog.looks [] ∧ ∀ (j : Nat) t, fn.params[j]? = some t → Tryd.pinned.checked.prog.wantsStandIn t = false := by
  obtain rfl : f = 6 := Option.some.inj ((show Tryd.prog.funcNamed "cringle/cringlelaw07.JsonBack" = some 6 by kernel_rfl).symm.trans hf) |>.symm
  obtain rfl : fn = Tryd.f6 := (Option.some.inj (Tryd.func6.symm.trans hfn)).symm
  refine ⟨by kernel_rfl, fun j t ht => ?_⟩
  rw [Tryd.params6] at ht
  match j, ht with
  | 0, ht => obtain rfl : 26 = t := by simpa using ht
             exact wVal6
  | j + 1, ht => simp at ht
end Go.Proofs.YtinlfdkalijffaaDoor.Am.Q
namespace Go.Proofs.YtinlfdkalijffaaDoor
open Go Am.Q
theorem jsonBack_holds : Rows.JsonBackUptoCardSaid :=
  Claim7.holds_tied_plain_at .later [] _ _ _ _ back_said (fun _ h => by cases h) (by kernel_rfl) (fun _ h => by cases h) jsonBackUpto_row_tie rfl ⟨rfl, rfl⟩ (by kernel_rfl) rfl back_plain (by kernel_rfl)
end Go.Proofs.YtinlfdkalijffaaDoor
