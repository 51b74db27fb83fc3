/-
  JSON, 12: the statement JsonGets: for every value and all keys what is found is the document's. Conditions: the row's own (the listed tables of utf8).
-/
import Derived.Test.YtinlfdkalijffaaDoorJ11
import Derived.Test.YtinlfdkalijffaaDoorAm21
set_option linter.unusedSimpArgs false
set_option linter.unusedVariables false
namespace Go.Proofs.YtinlfdkalijffaaDoor.Am.Q
open Go Go.Proofs Go.Proofs.YtinlfdkalijffaaDoor.Am Go.ChangeShapes Go.WideShapes Go.ChangeAt Go.RowKit

/-- A world for the witnesses: the settled one, with the listed tables. -/
noncomputable def laidWorld (os : Os) : World :=
  { World.holding Tryd.prog os ⟨#[], #[], []⟩ with heap := layRow 2 (flatD (Rows.laid_unicode_utf8_acceptRanges : DataW Unit)) (layRow 1 (flatD (Go.Pinned.utf8First : DataW Unit)) (World.holding Tryd.prog os ⟨#[], #[], []⟩).heap) }
def argVal : Value := .agg #[.int .i64 0, .string .empty, .slice none 0 0, .slice none 0 0]
def argNil : Value := .slice none 0 0
theorem gets_laid (os : Os) : laidMet Tryd.prog Rows.jsonGetsRow.laid ((laidWorld os).forCall (fun _ _ => 0) ⟨#[], #[argVal, argNil], []⟩).memory :=
  laidMet_of_run' 8 (by kernel_rfl) (by kernel_rfl)
theorem gets_reads (os : Os) {H : Type} (enc : TypeId × Value → H) : ∃ places, DataW.whole enc Tryd.prog ((laidWorld os).forCall (fun _ _ => 0) ⟨#[], #[argVal, argNil], []⟩).memory Tryd.f4.params.toList Rows.jsonGetsSpec.vars false #[argVal, argNil].toList 8 = some ([.agg [.lit (.int .i64 0), .lit (.string []), .nil, .nil], .nil], [], places) :=
  ⟨[], by kernel_rfl⟩

theorem aVal : aggT Tryd.prog 26 = true := by kernel_rfl
theorem aStrs : aggT Tryd.prog 23 = false := by kernel_rfl
theorem wVal : Tryd.prog.wantsStandIn 26 = false := by kernel_rfl
theorem wStrs : Tryd.prog.wantsStandIn 23 = false := by kernel_rfl
set_option maxRecDepth 100000 in
theorem gets_at (H : Type) (enc : TypeId × Value → H) : LawAt H enc Tryd.prog gT 4 Tryd.f4 Rows.jsonGetsSpec := by
  intro W base args ds p hval hA hw
  rw [Tryd.params4] at hA hval hw
  obtain ⟨v0, vs0, d0, ds0, p0, q0, rfl, rfl, rfl, h0, r0⟩ := trodAll_cons hA
  obtain ⟨v1, vs1, d1, ds1, p1, q1, rfl, rfl, rfl, h1, r1⟩ := trodAll_cons r0
  obtain ⟨rfl, rfl, rfl⟩ := trodAll_nil r1
  refine ⟨rfl, ?_⟩
  obtain ⟨T, a, i1, i2, i3⟩ := open_val (fun n hn => hw n (weightsEach_mem hn (i := 0) rfl rfl)) h0 (agg_of_ok aVal (hval 0 26 v0 rfl rfl))
  have hna := not_agg_of_ok aStrs (hval 1 23 v1 rfl rfl)
  obtain ⟨fuel, h1⟩ := h1
  obtain ⟨b, keys, j1, j2, j3, _⟩ := read_strs uStrs uStr cStr (fun n hn => hw n (weightsEach_mem hn (i := 1) rfl rfl)) h1
  rw [bStr] at j3
  simp only [reachBytes] at j3
  obtain ⟨m', hm⟩ := gets_law i1 i2 j2 (by omega)
  exact ⟨_, m', hm, i3, open_one j1 rfl hna, trivial⟩

set_option maxRecDepth 100000 in
theorem gets_lift (os : Os) (started : os.Started) (H : Type) (enc : TypeId × Value → H) (F : Stop.Interp) :
    ReturnsInHanded {} Tryd.checked os 4 .any ((OpenSpec.ofChange Rows.jsonGetsSpec).preRow enc Tryd.prog Tryd.f4 Rows.jsonGetsRow.domain false Rows.jsonGetsRow.laid) (((OpenSpec.ofChange Rows.jsonGetsSpec).at F).post enc Tryd.prog Tryd.f4 false true false false) := by
  obtain ⟨places, hx⟩ := gets_reads os enc
  exact law_lift (C := Tryd.checked) own started (by kernel_rfl) Tryd.func4 laidOut rfl uBool (by kernel_rfl) rfl
    (witness_row_at (enc := enc) (C := Tryd.checked) false (laidWorld os) #[argVal, argNil] rfl (by kernel_rfl) (by kernel_rfl) (by kernel_rfl)
      (OpenSpec.preRow_of_cond 8 hx (by kernel_rfl) (fun k hk => by cases hk) (by kernel_rfl) (gets_laid os))) (fun _ h => globs h) (gets_at H enc)
theorem gets_said : Rows.JsonGetsSaid :=
  OpenClaim.holds_of_cond 4 Tryd.f4 rfl rfl rfl rfl rfl rfl rfl ⟨rfl, rfl, rfl, rfl, rfl⟩ rfl rfl rfl rfl rfl (by kernel_rfl) Tryd.func4 (by kernel_rfl)
    (of_decide_eq_true (by kernel_rfl)) (by unfold Func.isWrapper; first | (rw [if_pos (by decide +kernel)]; kernel_rfl) | (rw [if_neg (by decide +kernel)]; exact ⟨rfl, rfl⟩))
    (fun os started H enc _ F => by rw [OpenClaim.pre_eq_preRow]; exact gets_lift os started H enc F)
/-- No parameter wants a stand-in; the program's own looks. -/
theorem gets_plain (f : FuncId) (fn : Func) (hf : Tryd.pinned.checked.prog.funcNamed "cringle/cringlelaw07.JsonGets" = some f) (hfn : Tryd.pinned.checked.prog.funcs[f]? = some fn) :
    true = Tryd.pinned.checked.prog.looks [] ∧ ∀ (j : Nat) t, fn.params[j]? = some t → Tryd.pinned.checked.prog.wantsStandIn t = false := by
  obtain rfl : f = 4 := Option.some.inj ((show Tryd.prog.funcNamed "cringle/cringlelaw07.JsonGets" = some 4 by kernel_rfl).symm.trans hf) |>.symm
  obtain rfl : fn = Tryd.f4 := (Option.some.inj (Tryd.func4.symm.trans hfn)).symm
  refine ⟨by kernel_rfl, fun j t ht => ?_⟩
  rw [Tryd.params4] at ht
  match j, ht with
  | 0, ht => obtain rfl : 26 = t := by simpa using ht
             exact wVal
  | 1, ht => obtain rfl : 23 = t := by simpa using ht
             exact wStrs
  | j + 2, ht => simp at ht
end Go.Proofs.YtinlfdkalijffaaDoor.Am.Q
namespace Go.Proofs.YtinlfdkalijffaaDoor
open Go Am.Q
theorem jsonGets_holds : Rows.JsonGetsCardSaid :=
  Claim7.holds_tied_plain_at .later [] _ _ _ _ gets_said (fun _ h => by cases h) (by kernel_rfl) (fun _ h => by cases h) jsonGets_row_tie rfl ⟨rfl, rfl⟩ (by kernel_rfl) rfl gets_plain (by kernel_rfl)
end Go.Proofs.YtinlfdkalijffaaDoor
