/-
  THE ABSTRACT MACHINE, 21: a law's statement from its call in the machine.
-/
import Derived.Test.YtinlfdkalijffaaDoorAm20
import Derived.Stop.Joined
set_option linter.unusedSimpArgs false
set_option linter.unusedVariables false
namespace Go.Proofs.YtinlfdkalijffaaDoor.Am
open Go Go.RowKit

/-- Structs and arrays. -/
def aggT (P : Program) (t : TypeId) : Bool :=
  match P.underlying t with
  | some (.struct _) => true
  | some (.array _ _) => true
  | _ => false
theorem not_agg_of_ok {P : Program} {W : World} {base : Nat} {t : TypeId} {v : Value} (ht : aggT P t = false) (h : Value.okWide P W .any base t v) : ∀ cs, v ≠ .agg cs := by
  rintro cs rfl
  unfold Value.okWide at h
  unfold aggT at ht
  split at h
  · simp_all
  · simp_all
  · unfold Cell.okWide at h
    split at h <;> simp_all [Cell.ok]
theorem agg_of_ok {P : Program} {W : World} {base : Nat} {t : TypeId} {v : Value} (ht : aggT P t = true) (h : Value.okWide P W .any base t v) : ∃ cs, v = .agg cs := by
  unfold Value.okWide at h
  split at h
  · obtain ⟨cs, h, _⟩ := h; exact ⟨cs, h⟩
  · obtain ⟨cs, h, _⟩ := h; exact ⟨cs, h⟩
  · rename_i h1 h2
    unfold aggT at ht
    split at ht
    · exact absurd ‹_› (h1 _)
    · exact absurd ‹_› (h2 _ _)
    · cases ht
/-- A block's cells laid anew. -/
def layRow (g : Nat) (l : List Value) (h : Array Obj) : Array Obj := h.modify g fun
  | .cells _ t frozen => .cells l.toArray t frozen
  | o => o

/-- What a law has to show: it is called with values of the machine that are the arguments. -/
def LawAt (H : Type) (enc : TypeId × Value → H) (P : Program) (G : Nat → Option (List AV)) (f : FuncId) (fn : Func) (s : ChangeSpec) : Prop :=
  ∀ (W : World) (base : Nat) (args : List Value) (ds : List (DataW H)) (p : List MemPlace), (∀ (j : Nat) t v, fn.params[j]? = some t → args[j]? = some v → Value.okWide P W .any base t v) →
    DataW.TrodAll enc P W 0 (fun _ => true) true fn.params.toList args ds p → (∀ n ∈ DataW.weightsEach P fn.params.toList ds, n ≤ reachBytes) →
    s.fn H ds = { results := [.lit (.bool true)], args := ds } ∧ ∃ avs m', CallSound P G f avs m0 (.ret (.bool true)) m' ∧ listRep (cxOf W) avs args

theorem weightsEach_append {H : Type} {P : Program} : ∀ {ts ts' : List TypeId} {l l' : List (DataW H)} {n : Nat}, n ∈ DataW.weightsEach P ts l → n ∈ DataW.weightsEach P (ts ++ ts') (l ++ l')
  | t :: ts, ts', d :: l, l', n, h => by
    simp only [List.cons_append, DataW.weightsEach, List.mem_append] at h ⊢
    exact h.imp id weightsEach_append
  | [], _, _, _, _, h => by simp [DataW.weightsEach] at h
  | _ :: _, _, [], _, _, h => by simp [DataW.weightsEach] at h

theorem law_lift {H : Type} {enc : TypeId × Value → H} {C : Checked} {os : Os} {f : FuncId} {fn : Func} {s : ChangeSpec} {F : Stop.Interp} {conds : List PathCond} {laid : List (String × DataW Unit)} {G : Nat → Option (List AV)} {tb : TypeId}
    (own : ownKnob C.prog.godebug = none) (started : os.Started) (noInit : C.prog.inits.idxOf? f = none) (hfn : C.prog.funcs[f]? = some fn) (hl : laidOutB C.prog = true) (hres : fn.resultTypes = #[tb]) (htb : C.prog.underlying tb = some .bool)
    (hr : (fn.params.toList.all fun t => C.prog.readableRec t && decide (t < C.prog.types.size)) = true) (hv : s.vars = [])
    (witness : ∃ (w : World) (tape : Tape) (i : Input), w.os = os ∧ (w.forCall tape i).Shaped C.prog ∧ i.vars = [] ∧ Input.okWide C.prog (w.forCall tape i) .any w.heap.size f i ∧
      (OpenSpec.ofChange s).preRow enc C.prog fn conds false laid (w.forCall tape i).memory i.args ∧ ({} : Assume).holds C.prog (lone (Frame.enter C.prog f i.args .normal) [] (w.forCall tape i)))
    (globs : ∀ W, laidMetH C.prog laid W → ∀ g cs, G g = some cs → Rep (cxOf W) (.sptr cs 0) (.pointer (some ⟨g, 0, none⟩)))
    (law : LawAt H enc C.prog G f fn s) :
    ReturnsInHanded {} C os f .any ((OpenSpec.ofChange s).preRow enc C.prog fn conds false laid) (((OpenSpec.ofChange s).at F).post enc C.prog fn false true false false) := by
  refine returnsInHanded_of_row (C := C) (s := OpenSpec.ofChange s) own started noInit hfn witness ?_
  intro W base args ds gs before hval hW _ _ hw hL _ _
  have hW' := hW
  obtain ⟨p, q, hA, hV, _, _, _⟩ := hW'
  have hV' : DataW.TrodVars enc C.prog W (fun _ => true) s.vars gs q := hV
  rw [hv] at hV'
  obtain ⟨rfl, rfl⟩ : gs = [] ∧ q = [] := by
    cases gs with
    | nil => exact ⟨rfl, hV'⟩
    | cons _ _ => exact hV'.elim
  have hval' : ∀ (j : Nat) t v, fn.params[j]? = some t → args.toList[j]? = some v → Value.okWide C.prog W .any base t v := fun j t v h1 h2 => hval j t v h1 (by simpa using h2)
  obtain ⟨hs, avs, m', hc, ha⟩ := law W base args.toList ds p hval' hA (fun n hn => by
    have := List.all_eq_true.1 hw n (weightsEach_append hn)
    simpa using this)
  refine (calls_of_sound hc (globs W hL) ha).mono fun e W' ⟨he, hb⟩ => ?_
  subst he
  exact ⟨_, rfl, post_true hl hres htb hr hv hW hs hb⟩
end Go.Proofs.YtinlfdkalijffaaDoor.Am
