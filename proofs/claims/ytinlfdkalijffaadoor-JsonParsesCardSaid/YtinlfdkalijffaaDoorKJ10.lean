import Derived.Test.YtinlfdkalijffaaDoorKJ9
import Derived.Test.YtinlfdkalijffaaDoorKJ4
import Derived.Test.YtinlfdkalijffaaDoorKA4
set_option linter.unusedSimpArgs false
set_option linter.unusedVariables false
/-
  JSON, 44: the statement JsonParses: for every text the value, or its fault, is the document's. Conditions: the row's own (the listed tables of utf8).
-/
namespace Go.Proofs.YtinlfdkalijffaaDoor.Am.Q
open Go Go.Proofs Go.Proofs.YtinlfdkalijffaaDoor.Am Go.ChangeShapes Go.WideShapes Go.ChangeAt Go.RowKit

/-- A world for the witnesses: the settled one, with the listed tables. -/
noncomputable def laidWorld3 (os : Os) : World :=
  { World.holding Tryd.prog os ⟨#[], #[], []⟩ with heap := layRow 2 (flatD (Rows.laid_unicode_utf8_acceptRanges : DataW Unit)) (layRow 1 (flatD (Go.Pinned.utf8First : DataW Unit)) (World.holding Tryd.prog os ⟨#[], #[], []⟩).heap) }
def argStr : Value := .string .empty
theorem parses_laid (os : Os) : laidMet Tryd.prog Rows.jsonParsesRow.laid ((laidWorld3 os).forCall (fun _ _ => 0) ⟨#[], #[argStr], []⟩).memory :=
  laidMet_of_run' 8 (by kernel_rfl) (by kernel_rfl)
theorem parses_reads (os : Os) {H : Type} (enc : TypeId × Value → H) : ∃ places, DataW.whole enc Tryd.prog ((laidWorld3 os).forCall (fun _ _ => 0) ⟨#[], #[argStr], []⟩).memory Tryd.f3.params.toList Rows.jsonParsesSpec.vars false #[argStr].toList 8 = some ([.lit (.string [])], [], places) :=
  ⟨[], by kernel_rfl⟩
theorem aStr : aggT Tryd.prog 9 = false := by kernel_rfl
theorem wStr : Tryd.prog.wantsStandIn 9 = false := by kernel_rfl
set_option maxRecDepth 100000 in
theorem parses_at (H : Type) (enc : TypeId × Value → H) : LawAt H enc Tryd.prog gT 3 Tryd.f3 Rows.jsonParsesSpec := by
  intro W base args ds p hval hA hw
  rw [Tryd.params3] at hA hval hw
  obtain ⟨v0, vs0, d0, ds0, p0, q0, rfl, rfl, rfl, h0, r0⟩ := trodAll_cons hA
  obtain ⟨rfl, rfl, rfl⟩ := trodAll_nil r0
  refine ⟨rfl, ?_⟩
  have hna := not_agg_of_ok aStr (hval 0 9 v0 rfl rfl)
  obtain ⟨fuel, h0⟩ := h0
  obtain ⟨l, j1, _, _⟩ := read_str uStr h0
  obtain ⟨m', hm⟩ := parses_law l
  exact ⟨_, m', hm, open_one j1 rfl hna, trivial⟩

set_option maxRecDepth 100000 in
theorem parses_lift (os : Os) (started : os.Started) (H : Type) (enc : TypeId × Value → H) (F : Stop.Interp) :
    ReturnsInHanded {} Tryd.checked os 3 .any ((OpenSpec.ofChange Rows.jsonParsesSpec).preRow enc Tryd.prog Tryd.f3 Rows.jsonParsesRow.domain false Rows.jsonParsesRow.laid) (((OpenSpec.ofChange Rows.jsonParsesSpec).at F).post enc Tryd.prog Tryd.f3 false true false false) := by
  obtain ⟨places, hx⟩ := parses_reads os enc
  exact law_lift (C := Tryd.checked) own started (by kernel_rfl) Tryd.func3 laidOut rfl uBool (by kernel_rfl) rfl
    (witness_row_at (enc := enc) (C := Tryd.checked) false (laidWorld3 os) #[argStr] rfl (by kernel_rfl) (by kernel_rfl) (by kernel_rfl)
      (OpenSpec.preRow_of_cond 8 hx (by kernel_rfl) (fun k hk => by cases hk) (by kernel_rfl) (parses_laid os))) (fun _ h => globs h) (parses_at H enc)
theorem parses_said : Rows.JsonParsesSaid :=
  OpenClaim.holds_of_cond 3 Tryd.f3 rfl rfl rfl rfl rfl rfl rfl ⟨rfl, rfl, rfl, rfl, rfl⟩ rfl rfl rfl rfl rfl (by kernel_rfl) Tryd.func3 (by kernel_rfl)
    (of_decide_eq_true (by kernel_rfl)) (by unfold Func.isWrapper; first | (rw [if_pos (by decide +kernel)]; kernel_rfl) | (rw [if_neg (by decide +kernel)]; exact ⟨rfl, rfl⟩))
    (fun os started H enc _ F => by rw [OpenClaim.pre_eq_preRow]; exact parses_lift os started H enc F)
/-- No parameter wants a stand-in; the program's own looks. -/
theorem parses_plain (f : FuncId) (fn : Func) (hf : Tryd.pinned.checked.prog.funcNamed "cringle/cringlelaw07.JsonParses" = some f) (hfn : Tryd.pinned.checked.prog.funcs[f]? = some fn) :
    true = Tryd.pinned.checked.prog.looks [] ∧ ∀ (j : Nat) t, fn.params[j]? = some t → Tryd.pinned.checked.prog.wantsStandIn t = false := by
  obtain rfl : f = 3 := Option.some.inj ((show Tryd.prog.funcNamed "cringle/cringlelaw07.JsonParses" = some 3 by kernel_rfl).symm.trans hf) |>.symm
  obtain rfl : fn = Tryd.f3 := (Option.some.inj (Tryd.func3.symm.trans hfn)).symm
  refine ⟨by kernel_rfl, fun j t ht => ?_⟩
  rw [Tryd.params3] at ht
  match j, ht with
  | 0, ht => obtain rfl : 9 = t := by simpa using ht
             exact wStr
  | j + 1, ht => simp at ht
end Go.Proofs.YtinlfdkalijffaaDoor.Am.Q
namespace Go.Proofs.YtinlfdkalijffaaDoor
open Go Am.Q
theorem jsonParses_holds : Rows.JsonParsesCardSaid :=
  Claim7.holds_tied_plain_at .later [] _ _ _ _ parses_said (fun _ h => by cases h) (by kernel_rfl) (fun _ h => by cases h) jsonParses_row_tie rfl ⟨rfl, rfl⟩ (by kernel_rfl) rfl parses_plain (by kernel_rfl)
end Go.Proofs.YtinlfdkalijffaaDoor
