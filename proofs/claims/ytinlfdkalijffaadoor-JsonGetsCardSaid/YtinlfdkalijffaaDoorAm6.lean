/-
  THE ABSTRACT MACHINE, 6: '==' as an operation, unary operators, conversions, interfaces, functions, tuples, lengths, bounds: against the model's own run.
-/
import Derived.Test.YtinlfdkalijffaaDoorAm5
import Derived.Laws.StructEq
import Derived.Laws.Build
set_option linter.unusedSimpArgs false
set_option linter.unusedVariables false
namespace Go.Proofs.YtinlfdkalijffaaDoor.Am
open Go Go.RowKit

section
variable {G : Nat → Option (List AV)} {w0 : World} {C : Cx} {m : Mem} {w : World} {P : Program}

def isC : Operand → Bool
  | .const _ => true
  | _ => false
/-- Where '==' is asked of a type: neither numbers nor strings themselves; two nil interfaces only beside a constant or at an interface without methods. -/
def eqOpOk (P : Program) (t : TypeId) (ox oy : Operand) : EqT → Bool
  | .leaf l => eqLOk P t l && decide (l ≠ .int) && decide (l ≠ .str) &&
      (decide (l ≠ .ifaceE) || isC ox || isC oy || (match P.underlying t with | some (.interface ms) => ms.isEmpty | _ => false))
  | .struct fs => match P.underlying t with
    | some (.struct gs) => !P.stoodInHeld t && !P.eqGuardType P.depth t && eqFsOk P gs.toList fs
    | _ => false

theorem run_eqFields (hI : Inv G w0 C m w) {xs ys : List AV} {as bs : Array Value} (ha : as.size = xs.length) (ra : ∀ i, i < xs.length → Rep C (xs.getD i .u) (as.getD i undef)) (hb : bs.size = ys.length)
    (rb : ∀ i, i < ys.length → Rep C (ys.getD i .u) (bs.getD i undef)) (d : Nat) : ∀ {gs : List Field} {fs : List (Nat × EqL)} {r : Bool}, eqFsOk P gs fs = true → eqFs fs xs ys = some r →
    (Op.eqFields (d + 1) as bs gs).run P w = .ok r w
  | [], fs, r, hk, h => by
    cases fs with
    | nil => simp only [eqFs, Option.some.injEq] at h; subst h; simp [Op.eqFields]
    | cons f fs => simp [eqFsOk] at hk
  | g :: gs, fs, r, hk, h => by
    simp only [eqFsOk] at hk
    simp only [Op.eqFields]
    by_cases hn : g.name = "_"
    · rw [if_pos hn] at hk
      simp only [ne_eq, hn, not_true_eq_false, if_false]
      exact run_eqFields hI ha ra hb rb d hk h
    · rw [if_neg hn] at hk
      simp only [ne_eq, hn, not_false_eq_true, if_true]
      cases fs with
      | nil => cases hk
      | cons p fs =>
        obtain ⟨off, e⟩ := p
        simp only [Bool.and_eq_true, decide_eq_true_eq, beq_iff_eq] at hk
        obtain ⟨⟨⟨⟨k1, k2⟩, k3⟩, k4⟩, k5⟩ := hk
        simp only [eqFs] at h
        split at h
        · rename_i x y hx hy
          split at h
          · rename_i p q hp hq
            injection h with h; subst h
            have lx : off < xs.length := (List.getElem?_eq_some_iff.1 hx).1
            have ly : off < ys.length := (List.getElem?_eq_some_iff.1 hy).1
            have rx := ra off lx; rw [getD_eq hx] at rx
            have ry := rb off ly; rw [getD_eq hy] at ry
            have px : (Go.part g.type as g.offset).run P w = .ok (as.getD off undef) w := by
              simp only [Go.part, Sem.run_bind, run_isAgg k3, Result.andThen, Bool.false_eq_true, if_false, k1]
              rw [agetD_lt (l := as) (by omega)]; rfl
            have py : (Go.part g.type bs g.offset).run P w = .ok (bs.getD off undef) w := by
              simp only [Go.part, Sem.run_bind, run_isAgg k3, Result.andThen, Bool.false_eq_true, if_false, k1]
              rw [agetD_lt (l := bs) (by omega)]; rfl
            have pe := eqL_ok (P := P) hI k2 rx ry hp (fun i o i' o' e1 e2 => by
              exfalso
              have := eqLOk_iff k2
              subst e1
              cases e <;> simp [eqL] at hp
              exact k4 rfl) d
            simp only [Sem.run_bind, px, py, pe, Result.andThen, Sem.run_ite, Sem.run_pure]
            cases p
            · simp
            · simp only [Bool.not_true, Bool.false_eq_true, if_false, Bool.true_and]
              exact run_eqFields hI ha ra hb rb d k5 hq
          · cases h
        · cases h

set_option maxHeartbeats 1000000 in
theorem eq_ok (hI : Inv G w0 C m w) {neg : Bool} {t : TypeId} {T : EqT} {ox oy : Operand} (ht : eqOpOk P t ox oy T = true) {x y : AV} {a b : Value} (hx : Rep C x a) (hy : Rep C y b) {r : Bool} (h : eqV T x y = some r)
    (hs : eqSafeB m x y = true) : Res G w0 C m (.bool (r != neg)) ((do pure (.value (← (do eqGuard (if neg then .neq else .eql) t ox oy a b; binOp (if neg then .neq else .eql) t a b : Sem Value))) : Sem Next).run P w) := by
  have fin : ∀ (hg : (eqGuard (if neg then .neq else .eql) t ox oy a b).run P w = .ok () w) (he : (Op.equal t a b).run P w = .ok r w)
      (hb : (binOp (if neg then .neq else .eql) t a b) = (if neg then (do pure (.bool (!(← Op.equal t a b))) : Sem Value) else do pure (.bool (← Op.equal t a b)))),
      Res G w0 C m (.bool (r != neg)) ((do pure (.value (← (do eqGuard (if neg then .neq else .eql) t ox oy a b; binOp (if neg then .neq else .eql) t a b : Sem Value))) : Sem Next).run P w) := by
    intro hg he hb
    refine Res.quiet hI (cv := .bool (r != neg)) ?_ (.bool _)
    rw [hb]
    simp only [Sem.run_bind, hg, Result.andThen_ok]
    cases neg
    · simp only [Bool.false_eq_true, if_false, Sem.run_bind, he, Result.andThen_ok, Sem.run_pure]; cases r <;> rfl
    · simp only [if_true, Sem.run_bind, he, Result.andThen_ok, Sem.run_pure]; cases r <;> rfl
  cases T with
  | struct fs =>
    simp only [eqOpOk] at ht
    split at ht
    · rename_i gs hu
      simp only [Bool.and_eq_true, Bool.not_eq_true'] at ht
      obtain ⟨⟨h1, h2⟩, h3⟩ := ht
      cases hx with
      | agg xs as ha ra =>
        cases hy with
        | agg ys bs hb rb =>
          have hf : P.fieldsOf t = gs := by simp [Program.fieldsOf, hu]
          refine fin (run_eqGuard_agg w _ _ _ _ _ _ h2) ?_ (by cases neg <;> rfl)
          rw [Op.equal, show Op.maxDepth = 9999 + 1 from rfl, run_equalIn_struct w 9999 t as bs (by rw [hf]; exact hu) h1, hf]
          exact run_eqFields hI ha ra hb rb 9998 h3 h
        | _ => simp [eqV] at h
      | _ => cases y <;> simp [eqV] at h
    · cases ht
  | leaf l =>
    simp only [eqOpOk, Bool.and_eq_true, decide_eq_true_eq] at ht
    obtain ⟨⟨⟨h1, h2⟩, h3⟩, h4⟩ := ht
    have he : (Op.equal t a b).run P w = .ok r w := by
      rw [Op.equal, show Op.maxDepth = 9999 + 1 from rfl]
      refine eqL_ok hI h1 hx hy h (fun i o i' o' e1 e2 => ?_) 9999
      subst e1; subst e2
      simp only [eqSafeB, Bool.and_eq_true] at hs
      refine ⟨?_, ?_⟩
      · cases hc : m.get i <;> first | exact ⟨_, _, rfl⟩ | (rw [hc] at hs; simp [isCells] at hs)
      · cases hc : m.get i' <;> first | exact ⟨_, _, rfl⟩ | (rw [hc] at hs; simp [isCells] at hs)
    have hi := eqLOk_iff h1
    simp only [eqV] at h
    unfold eqL at h
    split at h
    case h_26 => cases h
    case h_2 => exact absurd rfl h2
    case h_3 => exact absurd rfl h3
    case h_21 =>
      cases hx; cases hy
      refine fin ?_ he (by cases neg <;> rfl)
      obtain ⟨ms, hu⟩ := hi
      simp only [ne_eq, not_true_eq_false, decide_false, Bool.false_or, Bool.or_eq_true, hu] at h4
      unfold eqGuard
      cases hcx : isC ox with
      | true => cases ox <;> simp [isC] at hcx; cases neg <;> simp
      | false =>
        cases hcy : isC oy with
        | true => cases oy <;> simp [isC] at hcy; cases neg <;> simp
        | false =>
          rw [hcx, hcy] at h4
          simp only [Bool.false_eq_true, false_or] at h4
          have hm : ms = #[] := by simpa using h4
          subst hm
          have g1 : (Op.eqGuardIn Op.maxDepth t .nilIface .nilIface).run P w = .ok false w := by
            have key : ∀ d, (Op.eqGuardIn (d + 1) t .nilIface .nilIface).run P w = .ok false w := fun d => by simp [Op.eqGuardIn, run_underlying hu]
            exact key 9999
          cases neg <;> cases ox <;> cases oy <;> simp [isC] at hcx hcy <;> simp [g1]
    all_goals
      cases hx <;> cases hy <;> (refine fin ?_ he (by cases neg <;> rfl)) <;> (unfold eqGuard; cases neg <;> simp)

/-! ### unary operators, conversions of numbers -/
theorem not_ok (hI : Inv G w0 C m w) {x v : AV} {a : Value} (hx : Rep C x a) {b : Bool} (h : x = .bool b) (hv : v = .bool (!b)) :
    Res G w0 C m v ((do pure (.value (← Op.unary .not a)) : Sem Next).run P w) := by
  subst h; subst hv; cases hx
  exact Res.quiet hI (cv := .bool (!b)) (by simp [Op.unary]) (.bool _)
theorem neg_ok (hI : Inv G w0 C m w) {x : AV} {a : Value} (hx : Rep C x a) {k : IntKind} {n : Int} (h : x = .int k n) :
    Res G w0 C m (.int k (k.wrap (0 - n))) ((do pure (.value (← Op.unary .neg a)) : Sem Next).run P w) := by
  subst h; cases hx
  exact Res.quiet hI (cv := .int k (k.wrap (0 - n))) (by simp [Op.unary, Op.intArith]) (.int _ _)
theorem inv_ok (hI : Inv G w0 C m w) {x : AV} {a : Value} (hx : Rep C x a) {k : IntKind} {n : Int} (h : x = .int k n) :
    Res G w0 C m (.int k (k.wrap (BitVec.ofInt k.bits (if k.signed then -1 else k.max) ^^^ BitVec.ofInt k.bits n).toNat)) ((do pure (.value (← Op.unary .xor a)) : Sem Next).run P w) := by
  subst h; cases hx
  exact Res.quiet hI (cv := .int k _) (by simp [Op.unary, Op.intBits]) (.int _ _)

theorem convI_ok (hI : Inv G w0 C m w) {x : AV} {a : Value} (hx : Rep C x a) {src dst : TypeId} {d : TypeDesc} {k k' : IntKind} {n : Int} (hs : P.underlying src = some d) (hd : P.underlying dst = some (.int k)) (h : x = .int k' n) :
    Res G w0 C m (.int k (k.wrap n)) ((do pure (.value (← convert src dst a)) : Sem Next).run P w) := by
  subst h; cases hx
  refine Res.quiet hI (cv := .int k (k.wrap n)) ?_ (.int _ _)
  simp only [convert, Sem.run_bind, run_underlying hs, run_underlying hd, Result.andThen, Conv.intToInt, Sem.run_pure]
theorem convS_ok (hI : Inv G w0 C m w) {x : AV} {a : Value} (hx : Rep C x a) {src dst : TypeId} {d : TypeDesc} {s : List UInt8} (hs : P.underlying src = some d) (hd : P.underlying dst = some .string) (h : x = .str s) :
    Res G w0 C m x ((do pure (.value (← convert src dst a)) : Sem Next).run P w) := by
  subst h
  cases hx with
  | str _ b e =>
    refine Res.quiet hI (cv := .string b) ?_ (.str _ _ e)
    have : (match d, (TypeDesc.string), (Value.string b) with | _, _, _ => True) := by trivial
    cases d <;> simp only [convert, Sem.run_bind, run_underlying hs, run_underlying hd, Result.andThen, Sem.run_pure]
theorem runeStr_ok (hI : Inv G w0 C m w) {x : AV} {a : Value} (hx : Rep C x a) {src dst : TypeId} {d : TypeDesc} {k : IntKind} {n : Int} (hs : P.underlying src = some d) (hd : P.underlying dst = some .string) (h : x = .int k n) :
    Res G w0 C m (.str (Utf8.encode n).toList) ((do pure (.value (← convert src dst a)) : Sem Next).run P w) := by
  subst h; cases hx
  refine Res.quiet hI (cv := .string (Utf8.encode n)) ?_ (.str _ _ (ByteArray.toList_eq _).symm)
  simp only [convert, Sem.run_bind, run_underlying hs, run_underlying hd, Result.andThen]
  simp [Conv.intToString]
end
end Go.Proofs.YtinlfdkalijffaaDoor.Am
