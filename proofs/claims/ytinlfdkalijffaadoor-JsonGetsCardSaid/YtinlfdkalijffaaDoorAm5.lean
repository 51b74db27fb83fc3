/-
  THE ABSTRACT MACHINE, 5: numbers, strings, comparisons, conversions, interfaces, functions, tuples, maps: against the model's own run.
-/
import Derived.Test.YtinlfdkalijffaaDoorAm4
set_option linter.unusedSimpArgs false
set_option linter.unusedVariables false
namespace Go.Proofs.YtinlfdkalijffaaDoor.Am
open Go Go.RowKit

section
variable {G : Nat → Option (List AV)} {w0 : World} {C : Cx} {m : Mem} {w : World} {P : Program}

/-! ### numbers and strings -/
theorem run_eqGuard_int {op : BinOp} {t : TypeId} {x y : Operand} {k k' : IntKind} {a b : Int} : (eqGuard op t x y (.int k a) (.int k' b)).run P w = .ok () w := by
  unfold eqGuard; cases op <;> simp
theorem run_eqGuard_str {op : BinOp} {t : TypeId} {x y : Operand} {a b : ByteArray} : (eqGuard op t x y (.string a) (.string b)).run P w = .ok () w := by
  unfold eqGuard; cases op <;> simp

theorem intV_run {op : BinOp} {t : TypeId} {k k' : IntKind} {a b : Int} {v : AV} (h : intV op k a k' b = some v) : ∃ cv, (binOp op t (.int k a) (.int k' b)).run P w = .ok cv w ∧ Rep C v cv := by
  cases op <;> simp only [intV] at h <;> split at h <;> (try (cases h; done)) <;> (try (split at h)) <;> (try (cases h; done)) <;> (injection h with h; subst h) <;>
    first
      | (rename_i hk; subst hk; refine ⟨_, ?_, .int _ _⟩; simp [binOp, Op.intArith, Op.intBits, Op.intCmp]; done)
      | (rename_i hk; subst hk; refine ⟨_, ?_, .bool _⟩; simp [binOp, Op.intCmp]; done)
      | (rename_i hb; refine ⟨_, ?_, .int _ _⟩; simp [binOp, Op.shift, Int.not_lt.2 hb]; done)
      | (rename_i hk hb; subst hk; refine ⟨_, ?_, .int _ _⟩; simp [binOp, Op.intDiv, hb]; done)

theorem beq_toList (a b : ByteArray) : (a.toList == b.toList) = (a.data.toList == b.data.toList) := by rw [ByteArray.toList_eq, ByteArray.toList_eq]

theorem strV_run {op : BinOp} {t : TypeId} {a b : ByteArray} {v : AV} (h : strV op a.data.toList b.data.toList = some v) : ∃ cv, (binOp op t (.string a) (.string b)).run P w = .ok cv w ∧ Rep C v cv := by
  cases op <;> simp only [strV] at h <;> (try (cases h; done))
  case add =>
    split at h
    · rename_i hc
      injection h with h; subst h
      refine ⟨.string (a ++ b), ?_, .str _ _ (by simp)⟩
      have e1 : a.size = a.data.toList.length := by simp
      have e2 : b.size = b.data.toList.length := by simp
      have : ¬ (((a.size + b.size : Nat) : Int) > IntKind.i64.max) := by
        rw [IntKind.max_i64, e1, e2]; omega
      simp only [binOp, Op.stringOp, Sem.run_ite, if_neg this, Sem.run_pure]
    · cases h
  all_goals
    injection h with h; subst h
    refine ⟨_, ?_, .bool _⟩
    simp [binOp, Op.stringOp, ByteArray.toList_eq]

theorem bin_ok (hI : Inv G w0 C m w) {op : BinOp} {t : TypeId} {ox oy : Operand} {x y v : AV} {a b : Value} (hx : Rep C x a) (hy : Rep C y b) (h : binV op x y = some v) :
    Res G w0 C m v ((do pure (.value (← (do eqGuard op t ox oy a b; binOp op t a b : Sem Value))) : Sem Next).run P w) := by
  cases hx with
  | int k n =>
    cases hy with
    | int k' n' =>
      obtain ⟨cv, h1, h2⟩ := intV_run (P := P) (w := w) (t := t) (C := C) (show intV op k n k' n' = some v from h)
      exact Res.quiet hI (by simp only [Sem.run_bind, run_eqGuard_int, Result.andThen]; exact h1) h2
    | _ => simp [binV] at h
  | str l s e =>
    cases hy with
    | str l' s' e' =>
      subst e; subst e'
      obtain ⟨cv, h1, h2⟩ := strV_run (P := P) (w := w) (t := t) (C := C) (show strV op s.data.toList s'.data.toList = some v from h)
      exact Res.quiet hI (by simp only [Sem.run_bind, run_eqGuard_str, Result.andThen]; exact h1) h2
    | _ => simp [binV] at h
  | _ => cases y <;> simp [binV] at h

/-! ### comparisons -/
def eqLOk (P : Program) (t : TypeId) (l : EqL) : Bool :=
  match P.underlying t with
  | some .bool => decide (l = .bool)
  | some (.int _) => decide (l = .int)
  | some .string => decide (l = .str)
  | some (.pointer e) => decide (l = .ptr) && (match cellsB P e with
    | some n => n != 0
    | none => false)
  | some (.slice _) => decide (l = .sli)
  | some (.map _ _) => decide (l = .map)
  | some (.func _ _ _) => decide (l = .func)
  | some (.interface ms) => decide (l = .ifaceE) || decide (l = .ifaceM)
  | _ => false

/-- Two variables' addresses. -/
theorem run_sameAddr (hI : Inv G w0 C m w) {id id' b b' o o' : Nat} (hb : C.I id b) (hb' : C.I id' b') (h : ∃ T cs, m.get id = .cells T cs) (h' : ∃ T cs, m.get id' = .cells T cs) :
    (sameAddr ⟨b, o, none⟩ ⟨b', o', none⟩).run P w = .ok (decide (id = id' ∧ o = o')) w := by
  obtain ⟨T, cs, hc⟩ := h
  obtain ⟨T', cs', hc'⟩ := h'
  obtain ⟨_, _, _, ho⟩ := hI.obj id b hb
  obtain ⟨_, _, _, ho'⟩ := hI.obj id' b' hb'
  rw [hc] at ho; rw [hc'] at ho'
  obtain ⟨vs, h1, h2, h3⟩ := ho
  obtain ⟨vs', h1', h2', h3'⟩ := ho'
  unfold sameAddr
  by_cases e : b = b'
  · subst e
    obtain rfl := hI.inj _ _ _ hb hb'
    simp only [beq_self_eq_true, if_true, Sem.run_pure, true_and]
    congr 1
    rw [Bool.eq_iff_iff]; simp
  · have hne : id ≠ id' := fun h => e (by subst h; exact hI.func _ _ _ hb hb')
    have f1 : ∀ o, w.frozen? ⟨b, o, none⟩ = false := fun o => by simp [World.frozen?, h1]
    have f2 : ∀ o, w.frozen? ⟨b', o, none⟩ = false := fun o => by simp [World.frozen?, h1']
    have s1 : w.shape? b = some (T, vs.size) := by simp [World.shape?, h1]
    have s2 : w.shape? b' = some (T', vs'.size) := by simp [World.shape?, h1']
    have eb : (b == b') = false := by simpa using e
    simp [eb, f1, f2, noView, viewAt, s1, s2, mayBeOne, stringish, hne]

def EqLIs (P : Program) (t : TypeId) : EqL → Prop
  | .bool => P.underlying t = some .bool
  | .int => ∃ k, P.underlying t = some (.int k)
  | .str => P.underlying t = some .string
  | .ptr => ∃ e n, P.underlying t = some (.pointer e) ∧ cellsB P e = some n ∧ n ≠ 0
  | .sli => ∃ e, P.underlying t = some (.slice e)
  | .map => ∃ k e, P.underlying t = some (.map k e)
  | .func => ∃ a b c, P.underlying t = some (.func a b c)
  | .ifaceE => ∃ ms, P.underlying t = some (.interface ms)
  | .ifaceM => ∃ ms, P.underlying t = some (.interface ms)
theorem eqLOk_iff {t : TypeId} {l : EqL} (h : eqLOk P t l = true) : EqLIs P t l := by
  unfold eqLOk at h
  split at h
  case h_4 hu =>
    simp only [Bool.and_eq_true, decide_eq_true_eq] at h
    obtain ⟨rfl, h2⟩ := h
    split at h2
    · rename_i n hn; exact ⟨_, n, hu, hn, by simpa using h2⟩
    · cases h2
  case h_8 hu =>
    simp only [Bool.or_eq_true, decide_eq_true_eq] at h
    rcases h with rfl | rfl <;> exact ⟨_, hu⟩
  case h_9 => cases h
  all_goals (rename_i hu; obtain rfl := of_decide_eq_true h; first | exact hu | exact ⟨_, hu⟩ | exact ⟨_, _, hu⟩ | exact ⟨_, _, _, hu⟩)

theorem beq_str {l1 l2 : List UInt8} {s1 s2 : ByteArray} (e1 : s1.data.toList = l1) (e2 : s2.data.toList = l2) : (s1 == s2) = (l1 == l2) := by
  subst e1; subst e2
  have e : (s1 == s2) = (s1.data == s2.data) := rfl
  rw [e, Bool.eq_iff_iff, beq_iff_eq, beq_iff_eq]
  exact Array.toList_inj.symm

set_option maxHeartbeats 2000000 in
theorem eqL_ok (hI : Inv G w0 C m w) {l : EqL} {t : TypeId} (ht : eqLOk P t l = true) {x y : AV} {a b : Value} (hx : Rep C x a) (hy : Rep C y b) {r : Bool} (h : eqL l x y = some r)
    (hp : ∀ i o i' o', x = .ptr i o → y = .ptr i' o' → (∃ T cs, m.get i = .cells T cs) ∧ ∃ T cs, m.get i' = .cells T cs) (d : Nat) :
    (Op.equalIn (d + 1) t a b).run P w = .ok r w := by
  have hi := eqLOk_iff ht
  clear ht
  unfold eqL at h
  split at h
  case h_1 =>
    have hu : P.underlying t = some .bool := hi
    injection h with h; subst h
    cases hx; cases hy
    simp [Op.equalIn, run_underlying hu]
  case h_2 =>
    obtain ⟨k, hu⟩ := hi
    split at h
    · rename_i hk; subst hk; injection h with h; subst h
      cases hx; cases hy
      simp [Op.equalIn, run_underlying hu]
    · cases h
  case h_3 =>
    have hu : P.underlying t = some .string := hi
    injection h with h; subst h
    cases hx with | str _ s1 e1 => cases hy with | str _ s2 e2 =>
    simp [Op.equalIn, run_underlying hu, beq_str e1 e2]
  case h_9 i o i' o' =>
    obtain ⟨e, n, hu, hn, hn0⟩ := hi
    injection h with h; subst h
    cases hx with | ptr _ _ b hb => cases hy with | ptr _ _ b' hb' =>
    obtain ⟨k1, k2⟩ := hp _ _ _ _ rfl rfl
    have hs := run_sameAddr (P := P) hI (o := o) (o' := o') hb hb' k1 k2
    simp only [Op.equalIn, Sem.run_bind, run_underlying hu, Result.andThen, run_sizeOf hn, Sem.run_ite]
    rw [if_pos hn0, hs]
  case h_4 | h_5 | h_6 | h_7 | h_8 =>
    obtain ⟨e, n, hu, hn, hn0⟩ := hi
    injection h with h; subst h
    cases hx; cases hy
    simp [Op.equalIn, run_underlying hu]
  case h_10 | h_11 | h_12 | h_13 | h_14 =>
    obtain ⟨e, hu⟩ := hi
    injection h with h; subst h
    cases hx <;> cases hy <;> simp [Op.equalIn, run_underlying hu]
  case h_15 | h_16 | h_17 =>
    obtain ⟨e, e', hu⟩ := hi
    injection h with h; subst h
    cases hx; cases hy
    simp [Op.equalIn, run_underlying hu]
  case h_18 | h_19 | h_20 =>
    obtain ⟨e, e', e'', hu⟩ := hi
    injection h with h; subst h
    cases hx; cases hy
    simp [Op.equalIn, run_underlying hu]
  case h_21 | h_22 | h_23 | h_24 | h_25 =>
    obtain ⟨e, hu⟩ := hi
    injection h with h; subst h
    cases hx <;> cases hy <;> simp [Op.equalIn, run_underlying hu]
  case h_26 => cases h

/-- Structs whose parts are compared one by one. -/
def eqFsOk (P : Program) : List Field → List (Nat × EqL) → Bool
  | [], [] => true
  | f :: fs, l => if f.name = "_" then eqFsOk P fs l else
    match l with
    | (off, e) :: l => decide (f.offset = off) && eqLOk P f.type e && (aggB P f.type == some false) && decide (e ≠ .ptr) && eqFsOk P fs l
    | [] => false
  | _, _ => false

def eqTOk (P : Program) (t : TypeId) : EqT → Bool
  | .leaf l => eqLOk P t l
  | .struct fs => match P.underlying t with
    | some (.struct gs) => !P.stoodInHeld t && !P.eqGuardType P.depth t && eqFsOk P gs.toList fs
    | _ => false
end
end Go.Proofs.YtinlfdkalijffaaDoor.Am
