/- Part KR7 of a claim's texts, joined: what the claim needs of them. -/
import Derived.Test.YtinlfdkalijffaaDoorKR6
import Derived.Test.YtinlfdkalijffaaDoorKJ4
import Derived.Test.YtinlfdkalijffaaDoorKA4
set_option linter.unusedSimpArgs false
set_option linter.unusedVariables false
namespace Go.Proofs.YtinlfdkalijffaaDoor.Am.Q
open Go Go.Proofs Go.Proofs.YtinlfdkalijffaaDoor.Am Go.ChangeShapes Go.WideShapes Go.ChangeAt Go.RowKit
noncomputable def laidWorld8 (os : Os) : World :=
  { World.holding Tryd.prog os ⟨#[], #[], []⟩ with heap := layRow 2 (flatD (Rows.laid_unicode_utf8_acceptRanges : DataW Unit)) (layRow 1 (flatD (Go.Pinned.utf8First : DataW Unit)) (World.holding Tryd.prog os ⟨#[], #[], []⟩).heap) }
def argStr8 : Value := .string .empty
def argInt8 : Value := .int .i64 0
theorem blanks_laid (os : Os) : laidMet Tryd.prog Rows.jsonBlanksRow.laid ((laidWorld8 os).forCall (fun _ _ => 0) ⟨#[], #[argStr8, argInt8], []⟩).memory :=
  laidMet_of_run' 8 (by kernel_rfl) (by kernel_rfl)
theorem blanks_reads (os : Os) {H : Type} (enc : TypeId × Value → H) : ∃ places, DataW.whole enc Tryd.prog ((laidWorld8 os).forCall (fun _ _ => 0) ⟨#[], #[argStr8, argInt8], []⟩).memory Tryd.f8.params.toList Rows.jsonBlanksSpec.vars false #[argStr8, argInt8].toList 8 = some ([.lit (.string []), .lit (.int .i64 0)], [], places) :=
  ⟨[], by kernel_rfl⟩
theorem aStr8 : aggT Tryd.prog 9 = false := by kernel_rfl
theorem aInt8 : aggT Tryd.prog 3 = false := by kernel_rfl
theorem wInt8 : Tryd.prog.wantsStandIn 3 = false := by kernel_rfl
theorem wStr8 : Tryd.prog.wantsStandIn 9 = false := by kernel_rfl
set_option maxRecDepth 100000 in
theorem blanks_at (H : Type) (enc : TypeId × Value → H) : LawAt H enc Tryd.prog gT 8 Tryd.f8 Rows.jsonBlanksSpec := by
  intro W base args ds p hval hA hw
  rw [Tryd.params8] at hA hval hw
  obtain ⟨v0, vs0, d0, ds0, p0, q0, rfl, rfl, rfl, h0, r0⟩ := trodAll_cons hA
  obtain ⟨v1, vs1, d1, ds1, p1, q1, rfl, rfl, rfl, h1, r1⟩ := trodAll_cons r0
  obtain ⟨rfl, rfl, rfl⟩ := trodAll_nil r1
  refine ⟨rfl, ?_⟩
  have hna := not_agg_of_ok aStr8 (hval 0 9 v0 rfl rfl)
  obtain ⟨fuel, h0⟩ := h0
  obtain ⟨l, j1, _, _⟩ := read_str uStr h0
  have hnb := not_agg_of_ok aInt8 (hval 1 3 v1 rfl rfl)
  obtain ⟨fuel', h1⟩ := h1
  obtain ⟨n, i1, _, _⟩ := read_int uInt h1
  obtain ⟨m', hm⟩ := blanks_law l n
  exact ⟨_, m', hm, open_one j1 rfl hna, open_one i1 rfl hnb, trivial⟩
set_option maxRecDepth 100000 in
theorem blanks_lift (os : Os) (started : os.Started) (H : Type) (enc : TypeId × Value → H) (F : Stop.Interp) :
    ReturnsInHanded {} Tryd.checked os 8 .any ((OpenSpec.ofChange Rows.jsonBlanksSpec).preRow enc Tryd.prog Tryd.f8 Rows.jsonBlanksRow.domain false Rows.jsonBlanksRow.laid) (((OpenSpec.ofChange Rows.jsonBlanksSpec).at F).post enc Tryd.prog Tryd.f8 false true false false) := by
  obtain ⟨places, hx⟩ := blanks_reads os enc
  exact law_lift (C := Tryd.checked) own started (by kernel_rfl) Tryd.func8 laidOut rfl uBool (by kernel_rfl) rfl
    (witness_row_at (enc := enc) (C := Tryd.checked) false (laidWorld8 os) #[argStr8, argInt8] rfl (by kernel_rfl) (by kernel_rfl) (by kernel_rfl)
      (OpenSpec.preRow_of_cond 8 hx (by kernel_rfl) (fun k hk => by cases hk) (by kernel_rfl) (blanks_laid os))) (fun _ h => globs h) (blanks_at H enc)
theorem blanks_said : Rows.JsonBlanksSaid :=
  OpenClaim.holds_of_cond 8 Tryd.f8 rfl rfl rfl rfl rfl rfl rfl ⟨rfl, rfl, rfl, rfl, rfl⟩ rfl rfl rfl rfl rfl (by kernel_rfl) Tryd.func8 (by kernel_rfl)
    (of_decide_eq_true (by kernel_rfl)) (by unfold Func.isWrapper; first | (rw [if_pos (by decide +kernel)]; kernel_rfl) | (rw [if_neg (by decide +kernel)]; exact ⟨rfl, rfl⟩))
    (fun os started H enc _ F => by rw [OpenClaim.pre_eq_preRow]; exact blanks_lift os started H enc F)
theorem blanks_plain (f : FuncId) (fn : Func) (hf : Tryd.pinned.checked.prog.funcNamed "cringle/cringlelaw07.JsonBlanks" = some f) (hfn : Tryd.pinned.checked.prog.funcs[f]? = some fn) :
    true = Tryd.pinned.checked.prog.looks [] ∧ ∀ (j : Nat) t, fn.params[j]? = some t → Tryd.pinned.checked.prog.wantsStandIn t = false := by
  obtain rfl : f = 8 := Option.some.inj ((show Tryd.prog.funcNamed "cringle/cringlelaw07.JsonBlanks" = some 8 by kernel_rfl).symm.trans hf) |>.symm
  obtain rfl : fn = Tryd.f8 := (Option.some.inj (Tryd.func8.symm.trans hfn)).symm
  refine ⟨by kernel_rfl, fun j t ht => ?_⟩
  rw [Tryd.params8] at ht
  match j, ht with
  | 0, ht => obtain rfl : 9 = t := by simpa using ht
             exact wStr8
  | 1, ht => obtain rfl : 3 = t := by simpa using ht
             exact wInt8
  | j + 2, ht => simp at ht
end Go.Proofs.YtinlfdkalijffaaDoor.Am.Q
namespace Go.Proofs.YtinlfdkalijffaaDoor
open Go Am.Q
theorem jsonBlanks_holds : Rows.JsonBlanksCardSaid :=
  Claim7.holds_tied_plain_at .later [] _ _ _ _ blanks_said (fun _ h => by cases h) (by kernel_rfl) (fun _ h => by cases h) jsonBlanks_row_tie rfl ⟨rfl, rfl⟩ (by kernel_rfl) rfl blanks_plain (by kernel_rfl)
end Go.Proofs.YtinlfdkalijffaaDoor
