/- Part KR2 of a claim's texts, joined: what the claim needs of them. -/
import Derived.Test.YtinlfdkalijffaaDoorKR1
import Derived.Test.YtinlfdkalijffaaDoorKJ4
import Derived.Test.YtinlfdkalijffaaDoorKA4
set_option linter.unusedSimpArgs false
set_option linter.unusedVariables false
namespace Go.Proofs.YtinlfdkalijffaaDoor.Am.Q
open Go Go.Proofs Go.Proofs.YtinlfdkalijffaaDoor.Am Go.ChangeShapes Go.WideShapes Go.ChangeAt Go.RowKit
noncomputable def laidWorld7 (os : Os) : World :=
  { World.holding Tryd.prog os ⟨#[], #[], []⟩ with heap := layRow 2 (flatD (Rows.laid_unicode_utf8_acceptRanges : DataW Unit)) (layRow 1 (flatD (Go.Pinned.utf8First : DataW Unit)) (World.holding Tryd.prog os ⟨#[], #[], []⟩).heap) }
def argStr7 : Value := .string .empty
theorem reads_laid (os : Os) : laidMet Tryd.prog Rows.jsonReadRow.laid ((laidWorld7 os).forCall (fun _ _ => 0) ⟨#[], #[argStr7], []⟩).memory :=
  laidMet_of_run' 8 (by kernel_rfl) (by kernel_rfl)
theorem reads_reads (os : Os) {H : Type} (enc : TypeId × Value → H) : ∃ places, DataW.whole enc Tryd.prog ((laidWorld7 os).forCall (fun _ _ => 0) ⟨#[], #[argStr7], []⟩).memory Tryd.f7.params.toList Rows.jsonReadSpec.vars false #[argStr7].toList 8 = some ([.lit (.string [])], [], places) :=
  ⟨[], by kernel_rfl⟩
theorem aStr7 : aggT Tryd.prog 9 = false := by kernel_rfl
theorem wStr7 : Tryd.prog.wantsStandIn 9 = false := by kernel_rfl
set_option maxRecDepth 100000 in
theorem reads_at (H : Type) (enc : TypeId × Value → H) : LawAt H enc Tryd.prog gT 7 Tryd.f7 Rows.jsonReadSpec := by
  intro W base args ds p hval hA hw
  rw [Tryd.params7] at hA hval hw
  obtain ⟨v0, vs0, d0, ds0, p0, q0, rfl, rfl, rfl, h0, r0⟩ := trodAll_cons hA
  obtain ⟨rfl, rfl, rfl⟩ := trodAll_nil r0
  refine ⟨rfl, ?_⟩
  have hna := not_agg_of_ok aStr7 (hval 0 9 v0 rfl rfl)
  obtain ⟨fuel, h0⟩ := h0
  obtain ⟨l, j1, _, _⟩ := read_str uStr h0
  obtain ⟨m', hm⟩ := read_law l
  exact ⟨_, m', hm, open_one j1 rfl hna, trivial⟩
set_option maxRecDepth 100000 in
theorem reads_lift (os : Os) (started : os.Started) (H : Type) (enc : TypeId × Value → H) (F : Stop.Interp) :
    ReturnsInHanded {} Tryd.checked os 7 .any ((OpenSpec.ofChange Rows.jsonReadSpec).preRow enc Tryd.prog Tryd.f7 Rows.jsonReadRow.domain false Rows.jsonReadRow.laid) (((OpenSpec.ofChange Rows.jsonReadSpec).at F).post enc Tryd.prog Tryd.f7 false true false false) := by
  obtain ⟨places, hx⟩ := reads_reads os enc
  exact law_lift (C := Tryd.checked) own started (by kernel_rfl) Tryd.func7 laidOut rfl uBool (by kernel_rfl) rfl
    (witness_row_at (enc := enc) (C := Tryd.checked) false (laidWorld7 os) #[argStr7] rfl (by kernel_rfl) (by kernel_rfl) (by kernel_rfl)
      (OpenSpec.preRow_of_cond 8 hx (by kernel_rfl) (fun k hk => by cases hk) (by kernel_rfl) (reads_laid os))) (fun _ h => globs h) (reads_at H enc)
theorem reads_said : Rows.JsonReadSaid :=
  OpenClaim.holds_of_cond 7 Tryd.f7 rfl rfl rfl rfl rfl rfl rfl ⟨rfl, rfl, rfl, rfl, rfl⟩ rfl rfl rfl rfl rfl (by kernel_rfl) Tryd.func7 (by kernel_rfl)
    (of_decide_eq_true (by kernel_rfl)) (by unfold Func.isWrapper; first | (rw [if_pos (by decide +kernel)]; kernel_rfl) | (rw [if_neg (by decide +kernel)]; exact ⟨rfl, rfl⟩))
    (fun os started H enc _ F => by rw [OpenClaim.pre_eq_preRow]; exact reads_lift os started H enc F)
theorem reads_plain (f : FuncId) (fn : Func) (hf : Tryd.pinned.checked.prog.funcNamed "cringle/cringlelaw07.JsonRead" = some f) (hfn : Tryd.pinned.checked.prog.funcs[f]? = some fn) :
    true = Tryd.pinned.checked.prog.looks [] ∧ ∀ (j : Nat) t, fn.params[j]? = some t → Tryd.pinned.checked.prog.wantsStandIn t = false := by
  obtain rfl : f = 7 := Option.some.inj ((show Tryd.prog.funcNamed "cringle/cringlelaw07.JsonRead" = some 7 by kernel_rfl).symm.trans hf) |>.symm
  obtain rfl : fn = Tryd.f7 := (Option.some.inj (Tryd.func7.symm.trans hfn)).symm
  refine ⟨by kernel_rfl, fun j t ht => ?_⟩
  rw [Tryd.params7] at ht
  match j, ht with
  | 0, ht => obtain rfl : 9 = t := by simpa using ht
             exact wStr7
  | j + 1, ht => simp at ht
end Go.Proofs.YtinlfdkalijffaaDoor.Am.Q
namespace Go.Proofs.YtinlfdkalijffaaDoor
open Go Am.Q
theorem jsonRead_holds : Rows.JsonReadCardSaid :=
  Claim7.holds_tied_plain_at .later [] _ _ _ _ reads_said (fun _ h => by cases h) (by kernel_rfl) (fun _ h => by cases h) jsonRead_row_tie rfl ⟨rfl, rfl⟩ (by kernel_rfl) rfl reads_plain (by kernel_rfl)
end Go.Proofs.YtinlfdkalijffaaDoor
