import Derived.Test.YtinlfdkalijffaaDoorKM7
set_option linter.unusedSimpArgs false
set_option linter.unusedVariables false
/-
  JSON, 60: the statement JsonMay, where what it reads is of bulk at most 2^20: which values may be, whether two are the same, and any value's text, is told as the document says, or refused.
-/
namespace Go.Proofs.YtinlfdkalijffaaDoor.Am.Q
open Go Go.Proofs Go.Proofs.YtinlfdkalijffaaDoor.Am Go.ChangeShapes Go.WideShapes Go.ChangeAt Go.RowKit

/-- A world for the witnesses: the settled one, with the listed tables. -/
noncomputable def laidWorld5 (os : Os) : World :=
  { World.holding Tryd.prog os ⟨#[], #[], []⟩ with heap := layRow 2 (flatD (Rows.laid_unicode_utf8_acceptRanges : DataW Unit)) (layRow 1 (flatD (Go.Pinned.utf8First : DataW Unit)) (World.holding Tryd.prog os ⟨#[], #[], []⟩).heap) }
def argVal5 : Value := .agg #[.int .i64 0, .string .empty, .slice none 0 0, .slice none 0 0]
theorem may_laid (os : Os) : laidMet Tryd.prog Rows.jsonMayUptoRow.laid ((laidWorld5 os).forCall (fun _ _ => 0) ⟨#[], #[argVal5, argVal5], []⟩).memory :=
  laidMet_of_run' 8 (by kernel_rfl) (by kernel_rfl)
theorem may_reads (os : Os) {H : Type} (enc : TypeId × Value → H) : ∃ places, DataW.whole enc Tryd.prog ((laidWorld5 os).forCall (fun _ _ => 0) ⟨#[], #[argVal5, argVal5], []⟩).memory Tryd.f5.params.toList Rows.jsonMaySpec.vars false #[argVal5, argVal5].toList 8 = some ([.agg [.lit (.int .i64 0), .lit (.string []), .nil, .nil], .agg [.lit (.int .i64 0), .lit (.string []), .nil, .nil]], [], places) :=
  ⟨[], by kernel_rfl⟩
theorem aVal5 : aggT Tryd.prog 26 = true := by kernel_rfl
theorem wVal5 : Tryd.prog.wantsStandIn 26 = false := by kernel_rfl
set_option maxRecDepth 100000 in
theorem may_at (H : Type) (enc : TypeId × Value → H) : LawUpto H enc Tryd.prog gT 5 Tryd.f5 Rows.jsonMaySpec := by
  intro W base args ds p hval hA hw hbk
  rw [Tryd.params5] at hA hval hw
  obtain ⟨v0, vs0, d0, ds0, p0, q0, rfl, rfl, rfl, h0, r0⟩ := trodAll_cons hA
  obtain ⟨v1, vs1, d1, ds1, p1, q1, rfl, rfl, rfl, h1, r1⟩ := trodAll_cons r0
  obtain ⟨rfl, rfl, rfl⟩ := trodAll_nil r1
  refine ⟨rfl, ?_⟩
  simp only [Rows.uptoBulkAll] at hbk
  obtain ⟨T, a, i1, i2, i3⟩ := open_valB (fun n hn => hw n (weightsEach_mem hn (i := 0) rfl rfl)) (by omega) h0 (agg_of_ok aVal5 (hval 0 26 v0 rfl rfl))
  obtain ⟨U, b, j1, j2, j3⟩ := open_valB (fun n hn => hw n (weightsEach_mem hn (i := 1) rfl rfl)) (by omega) h1 (agg_of_ok aVal5 (hval 1 26 v1 rfl rfl))
  obtain ⟨m', hm⟩ := may_law i1 j1 i2 j2
  exact ⟨_, m', hm, i3, j3, trivial⟩

set_option maxRecDepth 100000 in
theorem may_lift (os : Os) (started : os.Started) (H : Type) (enc : TypeId × Value → H) (F : Stop.Interp) :
    ReturnsInHanded {} Tryd.checked os 5 .any ((Rows.OpenSpec.upto Rows.jsonMaySpec).preRow enc Tryd.prog Tryd.f5 Rows.jsonMayUptoRow.domain false Rows.jsonMayUptoRow.laid) (((Rows.OpenSpec.upto Rows.jsonMaySpec).at F).post enc Tryd.prog Tryd.f5 false true false false) := by
  obtain ⟨places, hx⟩ := may_reads os enc
  exact law_liftU (C := Tryd.checked) own started (by kernel_rfl) Tryd.func5 laidOut rfl uBool (by kernel_rfl) rfl
    (witness_row_at (enc := enc) (C := Tryd.checked) false (laidWorld5 os) #[argVal5, argVal5] rfl (by kernel_rfl) (by kernel_rfl) (by kernel_rfl)
      (OpenSpec.preRow_of_cond 8 hx (by kernel_rfl) (fun k hk => by cases hk; kernel_rfl) (by kernel_rfl) (may_laid os))) (fun _ h => globs h) (may_at H enc)
theorem may_said : Rows.JsonMayUptoSaid :=
  OpenClaim.holds_of_cond 5 Tryd.f5 rfl rfl rfl rfl rfl rfl rfl ⟨rfl, rfl, rfl, rfl, rfl⟩ rfl rfl rfl rfl rfl (by kernel_rfl) Tryd.func5 (by kernel_rfl)
    (of_decide_eq_true (by kernel_rfl)) (by unfold Func.isWrapper; first | (rw [if_pos (by decide +kernel)]; kernel_rfl) | (rw [if_neg (by decide +kernel)]; exact ⟨rfl, rfl⟩))
    (fun os started H enc _ F => by rw [OpenClaim.pre_eq_preRow]; exact may_lift os started H enc F)
/-- No parameter wants a stand-in; the program's own looks. -/
theorem may_plain (f : FuncId) (fn : Func) (hf : Tryd.pinned.checked.prog.funcNamed "cringle/cringlelaw07.JsonMay" = some f) (hfn : Tryd.pinned.checked.prog.funcs[f]? = some fn) :
    true = Tryd.pinned.checked.prog.looks [] ∧ ∀ (j : Nat) t, fn.params[j]? = some t → Tryd.pinned.checked.prog.wantsStandIn t = false := by
  obtain rfl : f = 5 := Option.some.inj ((show Tryd.prog.funcNamed "cringle/cringlelaw07.JsonMay" = some 5 by kernel_rfl).symm.trans hf) |>.symm
  obtain rfl : fn = Tryd.f5 := (Option.some.inj (Tryd.func5.symm.trans hfn)).symm
  refine ⟨by kernel_rfl, fun j t ht => ?_⟩
  rw [Tryd.params5] at ht
  match j, ht with
  | 0, ht => obtain rfl : 26 = t := by simpa using ht
             exact wVal5
  | 1, ht => obtain rfl : 26 = t := by simpa using ht
             exact wVal5
  | j + 2, ht => simp at ht
end Go.Proofs.YtinlfdkalijffaaDoor.Am.Q
namespace Go.Proofs.YtinlfdkalijffaaDoor
open Go Am.Q
theorem jsonMay_holds : Rows.JsonMayUptoCardSaid :=
  Claim7.holds_tied_plain_at .later [] _ _ _ _ may_said (fun _ h => by cases h) (by kernel_rfl) (fun _ h => by cases h) jsonMayUpto_row_tie rfl ⟨rfl, rfl⟩ (by kernel_rfl) rfl may_plain (by kernel_rfl)
end Go.Proofs.YtinlfdkalijffaaDoor
