/-
  THE ABSTRACT MACHINE, 12: a region in the order of its text.
-/
import Derived.Test.YtinlfdkalijffaaDoorAm11
import Derived.Calls
set_option linter.unusedSimpArgs false
set_option linter.unusedVariables false
namespace Go.Proofs.YtinlfdkalijffaaDoor.Am
open Go Go.RowKit

/-- What a call comes to. -/
def OutRep (C : Cx) : Rs → Ending → Prop
  | .ret v, .returned cv => Rep C v cv
  | .raise v, .panicked chain => ∃ cv, chain = [{ v := cv, recovered := false }] ∧ Rep C v cv
  | _, _ => False
def CallSound (P : Program) (G : Nat → Option (List AV)) (f : FuncId) (args : List AV) (m : Mem) (out : Rs) (m1 : Mem) : Prop :=
  ∀ w0 C w (argsV : Array Value), Inv G w0 C m w → listRep C args argsV.toList → (∃ fn, P.funcs[f]? = some fn ∧ fn.body.isSome = true ∧ fn.name ≠ "runtime.NumGoroutine") ∧
    Calls P f argsV w fun e w' => ∃ C', Cx.Le C C' ∧ Inv G w0 C' m1 w' ∧ OutRep C' out e

/-- The operations of a region, one behind the other, each call by what it is worth. -/
inductive Tr (P : Program) (G : Nat → Option (List AV)) : List (AOp × Option (Opd × Bool)) → List AV → List AV → Bool → List Mem → Mem → Rs → Mem → Prop where
  | nil {env fr d h m} : Tr P G [] env fr d h m (.env env h) m
  | skip {o g os env fr d h m r m'} : wants (Opd.ev env fr) g = some false → Tr P G os (.tup [] :: env) fr d (pushH d m h) m r m' → Tr P G ((o, g) :: os) env fr d h m r m'
  | op {o g os env fr d h m v m1 r m'} : wants (Opd.ev env fr) g = some true → evalP (Opd.ev env fr) m o = some (v, m1) → Tr P G os (v :: env) fr d (pushH d m h) m1 r m' → Tr P G ((o, g) :: os) env fr d h m r m'
  | call {o g os env fr d h m f args v m1 r m'} : wants (Opd.ev env fr) g = some true → callOf (Opd.ev env fr) o = some (f, args) → CallSound P G f args m (.ret v) m1 →
      Tr P G os (v :: env) fr d (pushH d m h) m1 r m' → Tr P G ((o, g) :: os) env fr d h m r m'
  | callP {o g os env fr d h m f args v m1} : wants (Opd.ev env fr) g = some true → callOf (Opd.ev env fr) o = some (f, args) → CallSound P G f args m (.raise v) m1 →
      Tr P G ((o, g) :: os) env fr d h m (.pan v env (pushH d m h)) m1
  | pan {x g os env fr d h m t v} : wants (Opd.ev env fr) g = some true → Opd.ev env fr x = .iface t v → Tr P G ((.panic x, g) :: os) env fr d h m (.pan (.iface t v) env (pushH d m h)) m

/-! ### the check -/
/-- Tables: lists of numbers. -/
def sameInts : List AV → List AV → Bool
  | [], [] => true
  | .int k n :: l, .int k' n' :: l' => decide (k = k') && decide (n = n') && sameInts l l'
  | _, _ => false
theorem sameInts_eq : ∀ {a b : List AV}, sameInts a b = true → a = b
  | [], [], _ => rfl
  | .int k n :: l, .int k' n' :: l', h => by
    simp only [sameInts, Bool.and_eq_true, decide_eq_true_eq] at h
    obtain ⟨⟨rfl, rfl⟩, h⟩ := h
    rw [sameInts_eq h]
  | [], _ :: _, h => by simp [sameInts] at h
  | x :: _, [], h => by cases x <;> simp [sameInts] at h
  | .u :: _, _ :: _, h => by simp [sameInts] at h
  | .bool _ :: _, _ :: _, h => by simp [sameInts] at h
  | .str _ :: _, _ :: _, h => by simp [sameInts] at h
  | .agg _ :: _, _ :: _, h => by simp [sameInts] at h
  | .tup _ :: _, _ :: _, h => by simp [sameInts] at h
  | .nilSl :: _, _ :: _, h => by simp [sameInts] at h
  | .sl _ _ _ :: _, _ :: _, h => by simp [sameInts] at h
  | .osl _ _ _ _ _ :: _, _ :: _, h => by simp [sameInts] at h
  | .nilPtr :: _, _ :: _, h => by simp [sameInts] at h
  | .ptr _ _ :: _, _ :: _, h => by simp [sameInts] at h
  | .sptr _ _ :: _, _ :: _, h => by simp [sameInts] at h
  | .bptr _ _ :: _, _ :: _, h => by simp [sameInts] at h
  | .nilMap :: _, _ :: _, h => by simp [sameInts] at h
  | .map _ :: _, _ :: _, h => by simp [sameInts] at h
  | .nilFn :: _, _ :: _, h => by simp [sameInts] at h
  | .fn _ _ _ :: _, _ :: _, h => by simp [sameInts] at h
  | .nilIface :: _, _ :: _, h => by simp [sameInts] at h
  | .iface _ _ :: _, _ :: _, h => by simp [sameInts] at h
  | .int _ _ :: _, y :: _, h => by cases y <;> simp [sameInts] at h ⊢ <;> (try (obtain ⟨⟨rfl, rfl⟩, h⟩ := h; exact ⟨⟨rfl, rfl⟩, sameInts_eq h⟩))

def dstOf (ops : Array Oper) (i : Nat) : Option Tmp := (ops[i]?).bind (·.dst)

/-- May the operand x of the i-th operation be told as y? -/
def okOpd (G : Nat → Option (List AV)) (slots : List Tmp) (ops : Array Oper) (i : Nat) (x : Operand) (y : Opd) : Bool :=
  match x, y with
  | .tmp t, .loc d => decide (d < i) && decide (dstOf ops (i - 1 - d) = some t)
  | .tmp t, .var j => decide (slots[j]? = some t) && (List.range i).all fun k => decide (dstOf ops k ≠ some t)
  | .const v, .cst a => cstOk a v
  | .global g, .cst (.sptr cs 0) => (match G g with
    | some cs' => sameInts cs' cs
    | none => false)
  | .func f, .cst (.fn (.func f') [] []) => decide (f' = f)
  | _, _ => false
def guardOk (ops : Array Oper) (i : Nat) (g : Option (Nat × Bool)) (y : Option (Opd × Bool)) : Bool :=
  match g, y with
  | none, none => true
  | some (k, b), some (.loc d, b') => decide (d < i) && decide (k = i - 1 - d) && decide (b = b') && (dstOf ops k).isSome
  | _, _ => false
def chkStep (P : Program) (xf : FuncId → Nat) (okd : Operand → Opd → Bool) (o : Oper) (a : AOp) : Bool :=
  match a with
  | .call f args => (match o.op with
    | .call { callee := .value (.func f'), args := xs, argTypes := _ } => decide (f' = f) && opdsOk okd xs.toList args
    | _ => false)
  | .callV y args => (match o.op with
    | .call { callee := .value x, args := xs, argTypes := _ } => okd x y && opdsOk okd xs.toList args
    | _ => false)
  | .panic y => (match o.op with
    | .panic x => okd x y
    | .call { callee := .builtin .panic, args := xs, argTypes := _ } => opdsOk okd xs.toList [y]
    | _ => false)
  | a => chkOp P xf okd o a
def chkOps (P : Program) (xf : FuncId → Nat) (G : Nat → Option (List AV)) (slots : List Tmp) (nt : Nat) (ops : Array Oper) (okx : Nat → Operand → Opd → Bool) : Nat → List (AOp × Option (Opd × Bool)) → Bool
  | i, [] => decide (ops.size = i)
  | i, (a, g) :: os => (match ops[i]? with
    | some o => chkStep P xf (fun x y => okOpd G slots ops i x y && okx i x y) o a && guardOk ops i o.guard g && (match o.dst with
      | some t => decide (t < nt) && (List.range i).all fun k => decide (dstOf ops k ≠ some t)
      | none => true)
    | none => false) && chkOps P xf G slots nt ops okx (i + 1) os
def entryOk (slots : List Tmp) (ops : Array Oper) (n : Nat) : Nat × Opd → Bool
  | (_, .cst .u) => true
  | (j, .loc d) => decide (d < n) && (match slots[j]? with
    | some t => decide (dstOf ops (n - 1 - d) = some t)
    | none => false)
  | _ => false
def chkExp (slots : List Tmp) (ops : Array Oper) (n : Nat) (exp : List (Nat × Opd)) : Bool :=
  exp.all (entryOk slots ops n) && (List.range slots.length).all fun j => (List.range n).all fun k => decide (dstOf ops k ≠ slots[j]?) || exp.any fun e => decide (e.1 = j)

def FrameRel (C : Cx) (slots : List Tmp) (nt : Nat) (fr : List AV) (tmps : Array Value) : Prop :=
  tmps.size = nt ∧ ∀ j t, slots[j]? = some t → Rep C (fr.getD j .u) (tmps.getD t undef)
/-- Inside a region: which operations have been done, and what they came to. -/
def RegRel (C : Cx) (slots : List Tmp) (nt : Nat) (ops : Array Oper) (T : Nat → AV) (fr : List AV) (ex : Nat → Prop) (tmps : Array Value) : Prop :=
  tmps.size = nt ∧ (∀ i t, dstOf ops i = some t → ex i → Rep C (T i) (tmps.getD t undef)) ∧
    ∀ j t, slots[j]? = some t → (∀ i, dstOf ops i = some t → ¬ ex i) → Rep C (fr.getD j .u) (tmps.getD t undef)

/-- What stands of the frame where a region panics. -/
def PanFr (C : Cx) (slots : List Tmp) (nt : Nat) (ops : Array Oper) (fr : List AV) (tmps : Array Value) : Prop :=
  tmps.size = nt ∧ ∀ j t, slots[j]? = some t → (∀ i, dstOf ops i ≠ some t) → Rep C (fr.getD j .u) (tmps.getD t undef)
theorem RegRel.panFr {C C' : Cx} (h : Cx.Le C C') {slots : List Tmp} {nt : Nat} {ops : Array Oper} {T : Nat → AV} {fr : List AV} {ex : Nat → Prop} {tmps : Array Value} (hr : RegRel C slots nt ops T fr ex tmps) : PanFr C' slots nt ops fr tmps :=
  ⟨hr.1, fun j t hs hn => (hr.2.2 j t hs fun i hi => absurd hi (hn i)).mono h⟩

theorem RegRel.mono {C C' : Cx} (h : Cx.Le C C') {slots : List Tmp} {nt : Nat} {ops : Array Oper} {T : Nat → AV} {fr : List AV} {ex : Nat → Prop} {tmps : Array Value} (hr : RegRel C slots nt ops T fr ex tmps) : RegRel C' slots nt ops T fr ex tmps :=
  ⟨hr.1, fun i t hd he => (hr.2.1 i t hd he).mono h, fun j t hs hn => (hr.2.2 j t hs hn).mono h⟩

section
variable {G : Nat → Option (List AV)} {w0 : World} {C : Cx} {m : Mem} {w : World} {P : Program} {xf : FuncId → Nat} {slots : List Tmp} {nt : Nat} {ops : Array Oper}

theorem FrameRel.reg {fr : List AV} {tmps : Array Value} (h : FrameRel C slots nt fr tmps) (T : Nat → AV) : RegRel C slots nt ops T fr (fun i => i < 0) tmps :=
  ⟨h.1, fun i t _ he => absurd he (by omega), fun j t hs _ => h.2 j t hs⟩

/-- One operation is done: its slot holds its value. -/
theorem RegRel.step {T T' : Nat → AV} {fr : List AV} {ex ex' : Nat → Prop} {a : Act} (h : RegRel C slots nt ops T fr ex a.tmps) {i : Nat} {o : Oper} (ho : ops[i]? = some o) (hlt : ∀ t, o.dst = some t → t < nt) (hT : ∀ k, ex k → T' k = T k) (hi : ∀ k, ex' k ↔ ex k ∨ k = i)
    (hdis : ∀ k t, k ≠ i → dstOf ops k = some t → o.dst = some t → ¬ ex k) {cv : Value} (hv : Rep C (T' i) cv) : RegRel C slots nt ops T' fr ex' (a.put o.dst cv).tmps := by
  have hdo : dstOf ops i = o.dst := by simp [dstOf, ho]
  cases hd : o.dst with
  | none =>
    refine ⟨h.1, fun k t hk hx => ?_, fun j t hs hn => h.2.2 j t hs fun k hk hx => hn k hk ((hi k).2 (.inl hx))⟩
    rcases (hi k).1 hx with hx | rfl
    · rw [hT k hx]; exact h.2.1 k t hk hx
    · rw [hdo, hd] at hk; cases hk
  | some u =>
    have hu := hlt u hd
    have hsz : u < a.tmps.size := by rw [h.1]; exact hu
    have hput : (a.put (some u) cv).tmps = a.tmps.setIfInBounds u cv := rfl
    have hsame : (a.tmps.setIfInBounds u cv).getD u undef = cv := by simp [Array.getD_eq_getD_getElem?, hsz]
    have hother : ∀ t, t ≠ u → (a.tmps.setIfInBounds u cv).getD t undef = a.tmps.getD t undef := fun t ht => by
      simp [Array.getD_eq_getD_getElem?, Array.getElem?_setIfInBounds, Ne.symm ht]
    rw [hput]
    refine ⟨by simp [h.1], fun k t hk hx => ?_, fun j t hs hn => ?_⟩
    · by_cases hki : k = i
      · subst hki
        rw [hdo, hd] at hk; injection hk with hk; subst hk
        rw [hsame]; exact hv
      · have hx' : ex k := ((hi k).1 hx).resolve_right hki
        have hne : t ≠ u := fun e => by subst e; exact hdis k t hki hk hd hx'
        rw [hother t hne, hT k hx']
        exact h.2.1 k t hk hx'
    · have hne : t ≠ u := fun e => by subst e; exact hn i (by rw [hdo, hd]) ((hi i).2 (.inr rfl))
      rw [hother t hne]
      exact h.2.2 j t hs fun k hk hx => hn k hk ((hi k).2 (.inl hx))

/-- The operands of the i-th operation, where all ahead of it in the text that it asks for have been done, and none that writes what it asks for as it was. -/
theorem opd_rep (hI : Inv G w0 C m w) {env fr : List AV} {T : Nat → AV} {ex : Nat → Prop} {a : Act} (h : RegRel C slots nt ops T fr ex a.tmps) {i : Nat} (hlen : env.length = i) (hT : ∀ k, k < i → T k = env.getD (i - 1 - k) .u) {x : Operand} {y : Opd} (hc : okOpd G slots ops i x y = true)
    (hloc : ∀ t d, x = .tmp t → y = .loc d → ex (i - 1 - d)) (hvar : ∀ t j, x = .tmp t → y = .var j → ∀ k, dstOf ops k = some t → ¬ ex k) : Rep C (y.ev env fr) (a.eval x) := by
  unfold okOpd at hc
  split at hc
  · rename_i t d
    simp only [Bool.and_eq_true, decide_eq_true_eq] at hc
    have := h.2.1 _ t hc.2 (hloc t d rfl rfl)
    rw [hT _ (by omega)] at this
    have e : i - 1 - (i - 1 - d) = d := by omega
    rw [e] at this
    exact this
  · rename_i t j
    simp only [Bool.and_eq_true, decide_eq_true_eq] at hc
    exact h.2.2 j t hc.1 (hvar t j rfl rfl)
  · exact cstOk_rep C hc
  · rename_i g cs
    split at hc
    · rename_i cs' hg
      have := sameInts_eq hc
      subst this
      exact hI.glob _ _ hg
    · cases hc
  · rename_i f f'
    have := of_decide_eq_true hc
    subst this
    exact .fn _ _ _ _ _ rfl (fun i hi => absurd hi (by simp)) rfl (fun i hi => absurd hi (by simp))
  · cases hc

theorem listRep_append : ∀ {as : List AV} {vs : List Value} {bs : List AV} {us : List Value}, listRep C as vs → listRep C bs us → listRep C (as ++ bs) (vs ++ us)
  | [], [], _, _, _, h => h
  | _ :: _, _ :: _, _, _, h, k => ⟨h.1, listRep_append h.2 k⟩
  | [], _ :: _, _, _, h, _ => h.elim
  | _ :: _, [], _, _, h, _ => h.elim
theorem listRep_of : ∀ {as : List AV} {vs : List Value}, vs.length = as.length → (∀ i, i < as.length → Rep C (as.getD i .u) (vs.getD i undef)) → listRep C as vs
  | [], [], _, _ => trivial
  | a :: as, v :: vs, hl, h => ⟨h 0 (by simp), listRep_of (by simpa using hl) fun i hi => h (i + 1) (by simpa using hi)⟩
  | [], _ :: _, hl, _ => by simp at hl
  | _ :: _, [], hl, _ => by simp at hl
theorem listRep_ofArr {as : List AV} {vs : Array Value} (hl : vs.size = as.length) (h : ∀ i, i < as.length → Rep C (as.getD i .u) (vs.getD i undef)) : listRep C as vs.toList :=
  listRep_of (by simpa using hl) fun i hi => by have := h i hi; rwa [Array.getD_eq_getD_getElem?, ← Array.getElem?_toList] at this

theorem run_enter {f : FuncId} {fn : Func} (hf : P.funcs[f]? = some fn) (hb : fn.body.isSome = true) (hn : fn.name ≠ "runtime.NumGoroutine") (args : Array Value) : (callFunc f args).run P w = .ok (.enter f args) w := by
  obtain ⟨c, hc⟩ := Option.isSome_iff_exists.1 hb
  simp [callFunc, hf, hn, hc]

theorem step_eval (hI : Inv G w0 C m w) (hX : XfOk P xf) {okd : Operand → Opd → Bool} {ρa : Opd → AV} {a : Act} (H : ∀ x y, okd x y = true → Rep C (ρa y) (a.eval x)) {o : Oper} {op : AOp} (hc : chkStep P xf okd o op = true) {v : AV} {m1 : Mem} (h : evalP ρa m op = some (v, m1))
    {K : Act → World → Prop} {Q : Exit → Act → World → Prop} (hK : ∀ C' cv w', Cx.Le C C' → Inv G w0 C' m1 w' → Rep C' v cv → K (a.put o.dst cv) w') : o.wp P a w K Q := by
  have hc' : chkOp P xf okd o op = true := by
    cases op <;> first | exact hc | (simp [evalP] at h)
  obtain ⟨nx, w', C', h1, h2, h3, h4⟩ := op_ok hI hX H (fun _ => rfl) hc' h
  unfold Oper.wp
  rw [h1]
  cases nx with
  | value cv => exact hK C' cv w' h2 h3 h4
  | skip =>
    have hv : v = .tup [] := h4
    subst hv
    exact hK C' undef w' h2 h3 (.tup _ _ rfl fun i hi => absurd hi (by simp))
  | _ => exact h4.elim

theorem step_call (hI : Inv G w0 C m w) {okd : Operand → Opd → Bool} {ρa : Opd → AV} {a : Act} (H : ∀ x y, okd x y = true → Rep C (ρa y) (a.eval x)) {o : Oper} {op : AOp} (hc : chkStep P xf okd o op = true) {f : FuncId} {args : List AV} (hcall : callOf ρa op = some (f, args)) {out : Rs} {m1 : Mem}
    (hs : CallSound P G f args m out m1) {K : Act → World → Prop} {Q : Exit → Act → World → Prop} (hK : ∀ C' cv w' v, out = .ret v → Cx.Le C C' → Inv G w0 C' m1 w' → Rep C' v cv → K (a.put o.dst cv) w')
    (hQ : ∀ C' cv w' v, out = .raise v → Cx.Le C C' → Inv G w0 C' m1 w' → Rep C' v cv → Q (.panic [{ v := cv, recovered := false }]) a w') : o.wp P a w K Q := by
  have fin : ∀ (argsV : Array Value), listRep C args argsV.toList → (execOp a.eval o).run P w = (callFunc f argsV).run P w → o.wp P a w K Q := by
    intro argsV hl hrun
    obtain ⟨⟨fn, q1, q2, q3⟩, hcs⟩ := hs w0 C w argsV hI hl
    unfold Oper.wp
    rw [hrun, run_enter q1 q2 q3, Oper.upon_enter]
    refine hcs.mono fun e w' ⟨C', h1, h2, h3⟩ => ?_
    cases out with
    | ret v =>
      cases e with
      | returned cv => exact hK C' cv w' v rfl h1 h2 h3
      | panicked _ => exact h3.elim
      | outgrown => exact h3.elim
    | raise v =>
      cases e with
      | returned cv => exact h3.elim
      | panicked chain =>
        obtain ⟨cv, rfl, hr⟩ := h3
        exact hQ C' cv w' v rfl h1 h2 hr
      | outgrown => exact h3.elim
    | _ => cases e <;> exact h3.elim
  obtain ⟨dst, oop, type, pos, after, guard⟩ := o
  cases op <;> simp only [callOf] at hcall <;> try (cases hcall; done)
  case call f' as =>
    simp only [Option.some.injEq, Prod.mk.injEq] at hcall
    obtain ⟨rfl, rfl⟩ := hcall
    simp only [chkStep] at hc
    split at hc
    · rename_i f2 xs at'
      simp only [Bool.and_eq_true, decide_eq_true_eq] at hc
      obtain ⟨rfl, hc⟩ := hc
      have hl := opds_rep (C := C) (ρa := ρa) (ρv := a.eval) H hc
      exact fin (xs.map a.eval) (by simpa using hl) (exec_func (fun _ => rfl))
    · cases hc
  case callV y as =>
    split at hcall
    · rename_i f2 first cap hy
      simp only [Option.some.injEq, Prod.mk.injEq] at hcall
      obtain ⟨rfl, rfl⟩ := hcall
      simp only [chkStep] at hc
      split at hc
      · rename_i x xs at'
        simp only [Bool.and_eq_true] at hc
        have hr := H _ _ hc.1
        rw [hy] at hr
        obtain ⟨us, vs, hv, h1, h2, h3, h4⟩ : ∃ us vs, a.eval x = .func (.func f2) us vs ∧ us.size = first.length ∧ (∀ i, i < first.length → Rep C (first.getD i .u) (us.getD i undef)) ∧ vs.size = cap.length ∧ ∀ i, i < cap.length → Rep C (cap.getD i .u) (vs.getD i undef) := by
          generalize a.eval x = z at hr
          cases hr with
          | fn _ _ _ us vs h1 h2 h3 h4 => exact ⟨us, vs, rfl, h1, h2, h3, h4⟩
        have hl := opds_rep (C := C) (ρa := ρa) (ρv := a.eval) H hc.2
        refine fin (us ++ xs.map a.eval ++ vs) ?_ ?_
        · simp only [Array.toList_append]
          exact listRep_append (listRep_append (listRep_ofArr h1 h2) (by simpa using hl)) (listRep_ofArr h3 h4)
        · simp only [execOp, resolve, hv, Sem.run_bind, Deferred.ofValue, Sem.run_pure, Result.andThen_ok, invoke]
      · cases hc
    · cases hcall

theorem step_pan {okd : Operand → Opd → Bool} {ρa : Opd → AV} {a : Act} (H : ∀ x y, okd x y = true → Rep C (ρa y) (a.eval x)) {o : Oper} {x : Opd} (hc : chkStep P xf okd o (.panic x) = true) {t : TypeId} {v : AV} (hx : ρa x = .iface t v)
    {K : Act → World → Prop} {Q : Exit → Act → World → Prop} (hQ : ∀ cv, Rep C (.iface t v) cv → Q (.panic [{ v := cv, recovered := false }]) a w) : o.wp P a w K Q := by
  have fin : ∀ cv, Rep C (.iface t v) cv → (execOp a.eval o).run P w = ((do pure (.value (← Instr.panic cv)) : Sem Next)).run P w → o.wp P a w K Q := by
    intro cv hr hrun
    unfold Oper.wp
    rw [hrun]
    cases hr with
    | iface _ _ y hy =>
      have : ((do pure (.value (← Instr.panic (.iface t y))) : Sem Next)).run P w = .halt (.panic (.iface t y)) w := by simp [Instr.panic]
      rw [this, Oper.upon_panic]
      exact hQ _ (.iface _ _ _ hy)
  obtain ⟨dst, oop, type, pos, after, guard⟩ := o
  simp only [chkStep] at hc
  split at hc
  · rename_i y
    have hr := H _ _ hc
    rw [hx] at hr
    exact fin _ hr rfl
  · rename_i xs at'
    obtain ⟨y, rfl, hy⟩ := opds1 hc
    have hr := H _ _ hy
    rw [hx] at hr
    refine fin _ hr ?_
    obtain ⟨cs, e⟩ := exec_builtin (P := P) (w := w) (ρv := a.eval) (dst := dst) (b := .panic) (args := #[y]) (at' := at') (type := type) (pos := pos) (after := after) (guard := guard)
    rw [e, map1]
    rfl
  · cases hc

/-- A guard's word in the model. -/
theorem guard_wanted {env fr : List AV} {T : Nat → AV} {ex : Nat → Prop} {a : Act} (h : RegRel C slots nt ops T fr ex a.tmps) {i : Nat} (hlen : env.length = i) (hT : ∀ k, k < i → T k = env.getD (i - 1 - k) .u) {o : Oper} {g : Option (Opd × Bool)} (hc : guardOk ops i o.guard g = true)
    (hex : ∀ k b, o.guard = some (k, b) → ex k) (hnt : ∀ k t, dstOf ops k = some t → k < i → t < nt) {r : Bool} (hw : wants (Opd.ev env fr) g = some r) : Region.wanted o (yielded ops a.tmps) = r := by
  unfold guardOk at hc
  unfold Region.wanted
  split at hc
  · rename_i hg
    simp only [wants, Option.some.injEq] at hw
    rw [hg]; exact hw
  · rename_i k b d b' hg
    simp only [Bool.and_eq_true, decide_eq_true_eq] at hc
    obtain ⟨⟨⟨h1, rfl⟩, rfl⟩, h4⟩ := hc
    rw [hg]
    obtain ⟨t, ht⟩ := Option.isSome_iff_exists.1 h4
    have hlt := hnt _ t ht (by omega)
    have hr := h.2.1 _ t ht (hex _ _ hg)
    rw [hT _ (by omega)] at hr
    have e : i - 1 - (i - 1 - d) = d := by omega
    rw [e] at hr
    have hy : yielded ops a.tmps (i - 1 - d) = (match a.tmps.getD t undef with | .bool b => some b | _ => none) := by
      unfold yielded
      have ht' : (ops[i - 1 - d]?).bind (·.dst) = some t := ht
      rw [ht']
      simp only [Option.bind_some]
      rw [agetD_lt (l := a.tmps) (by rw [h.1]; exact hlt)]
      cases a.tmps.getD t undef <;> rfl
    simp only [hy]
    simp only [wants, Opd.ev] at hw
    split at hw
    · rename_i c hb
      rw [hb] at hr
      rw [rep_bool hr]
      have hw' : (c == b) = r := Option.some.inj hw
      rw [← hw']
      cases c <;> cases b <;> rfl
    · rename_i l hb
      rw [hb] at hr
      injection hw with hw
      generalize a.tmps.getD t undef = z at hr
      cases hr
      rw [← hw]; rfl
    · cases hw
  · cases hc

/-- What stands of a region behind one more operation of the text. -/
theorem reg_next {C' : Cx} (hle : Cx.Le C C') {env fr : List AV} {T : Nat → AV} {a : Act} (hR : RegRel C slots nt ops T fr (fun k => k < env.length) a.tmps) (hT : ∀ k, k < env.length → T k = env.getD (env.length - 1 - k) .u) {o : Oper} (ho : ops[env.length]? = some o)
    (hc : (match o.dst with | some t => decide (t < nt) && (List.range env.length).all fun k => decide (dstOf ops k ≠ some t) | none => true) = true) {v : AV} {cv : Value} (hv : Rep C' v cv) :
    RegRel C' slots nt ops (fun k => (v :: env).getD ((v :: env).length - 1 - k) .u) fr (fun k => k < (v :: env).length) (a.put o.dst cv).tmps := by
  refine RegRel.step (i := env.length) (hR.mono hle) ho (fun t ht => ?_) (fun k hk => ?_) (fun k => by simp only [List.length_cons]; omega) (fun k t hk hd ht hlt => ?_) ?_
  · rw [ht] at hc; simp only [Bool.and_eq_true, decide_eq_true_eq] at hc; exact hc.1
  · rw [hT k hk]
    have e : (v :: env).length - 1 - k = (env.length - 1 - k) + 1 := by simp only [List.length_cons]; omega
    rw [e]; simp [List.getD]
  · rw [ht] at hc
    simp only [Bool.and_eq_true, decide_eq_true_eq, List.all_eq_true, List.mem_range] at hc
    exact hc.2 k hlt hd
  · have e : (v :: env).length - 1 - env.length = 0 := by simp
    rw [e]; exact hv

theorem okOpd_loc {i : Nat} {x : Operand} {y : Opd} {t : Tmp} {d : Nat} (h : okOpd G slots ops i x y = true) (hx : x = .tmp t) (hy : y = .loc d) : d < i := by
  subst hx; subst hy
  simp only [okOpd, Bool.and_eq_true, decide_eq_true_eq] at h
  exact h.1
theorem okOpd_var {i : Nat} {x : Operand} {y : Opd} {t : Tmp} {j : Nat} (h : okOpd G slots ops i x y = true) (hx : x = .tmp t) (hy : y = .var j) : ∀ k, dstOf ops k = some t → ¬ k < i := by
  subst hx; subst hy
  simp only [okOpd, Bool.and_eq_true, decide_eq_true_eq, List.all_eq_true, List.mem_range] at h
  exact fun k hk hlt => h.2 k hlt hk
theorem guardOk_lt {i : Nat} {o : Oper} {g : Option (Opd × Bool)} (h : guardOk ops i o.guard g = true) : ∀ k b, o.guard = some (k, b) → k < i := by
  intro k b hg
  rw [hg] at h
  unfold guardOk at h
  split at h
  · rename_i h1; cases h1
  · rename_i k' b' d b2 h1
    injection h1 with h1; injection h1 with h1 h2
    subst h1
    simp only [Bool.and_eq_true, decide_eq_true_eq] at h
    omega
  · cases h

/-- A region in the order of its text. -/
theorem and_l {a b : Bool} (h : (a && b) = true) : a = true := by cases a <;> simp_all
theorem and_r {a b : Bool} (h : (a && b) = true) : b = true := by cases a <;> simp_all
theorem tr_text {okx : Nat → Operand → Opd → Bool} (hX : XfOk P xf) {os : List (AOp × Option (Opd × Bool))} {env fr : List AV} {d : Bool} {hist : List Mem} {r : Rs} {m' : Mem} (ht : Tr P G os env fr d hist m r m') : ∀ {C : Cx} {w : World} {a : Act} {T : Nat → AV} {Q : Exit → Act → World → Prop} {ds : List Deferred},
    chkOps P xf G slots nt ops okx env.length os = true → (∀ k t, dstOf ops k = some t → k < env.length → t < nt) → Inv G w0 C m w → a.defers = ds → (∀ k, k < env.length → T k = env.getD (env.length - 1 - k) .u) → RegRel C slots nt ops T fr (fun k => k < env.length) a.tmps →
    (∀ env' h', r = .env env' h' → env'.length = ops.size → ∀ C' T' a' w', Cx.Le C C' → Inv G w0 C' m' w' → a'.defers = ds → (∀ k, k < env'.length → T' k = env'.getD (env'.length - 1 - k) .u) → RegRel C' slots nt ops T' fr (fun k => k < env'.length) a'.tmps → Q .normal a' w') →
    (∀ v env' h', r = .pan v env' h' → ∀ C' cv a' w', Cx.Le C C' → Inv G w0 C' m' w' → a'.defers = ds → Rep C' v cv → PanFr C' slots nt ops fr a'.tmps → Q (.panic [{ v := cv, recovered := false }]) a' w') →
    wpOps P ops Q (List.range' env.length (ops.size - env.length)) a w := by
  induction ht with
  | nil =>
    intro C w a T Q ds hc _ hI hd hT hR hQn _
    simp only [chkOps, decide_eq_true_eq] at hc
    rw [hc, Nat.sub_self]
    simp only [List.range'_zero, wpOps]
    exact hQn _ _ rfl hc.symm C T a _ (.refl C) hI hd hT hR
  | @skip o g os env fr d h m r m' hw _ ih =>
    intro C w a T Q ds hc hnt hI hd hT hR hQn hQp
    simp only [chkOps, Bool.and_eq_true] at hc
    obtain ⟨hc, hrest⟩ := hc
    split at hc
    · rename_i oo ho
      simp only [Bool.and_eq_true] at hc
      obtain ⟨⟨c1, c2⟩, c3⟩ := hc
      have hlt : env.length < ops.size := (Array.getElem?_eq_some_iff.1 ho).1
      have hwant := guard_wanted hR rfl hT c2 (guardOk_lt c2) hnt hw
      have hsub : ops.size - env.length = (ops.size - (env.length + 1)) + 1 := by omega
      rw [hsub, List.range'_succ, wpOps]
      simp only [ho, hwant, Bool.false_eq_true, if_false]
      refine ih (T := fun k => (AV.tup [] :: env).getD ((AV.tup [] :: env).length - 1 - k) .u) (ds := ds) hrest (fun k t hk hl => ?_) hI ?_ (fun k _ => rfl) (reg_next (.refl C) hR hT ho c3 (.tup _ _ rfl fun i hi => absurd hi (by simp))) (fun e h hr hl C' T' a' w' hle => hQn e h hr hl C' T' a' w' hle) hQp
      · simp only [List.length_cons] at hl
        by_cases hk' : k < env.length
        · exact hnt k t hk hk'
        · obtain rfl : k = env.length := by omega
          simp only [dstOf, ho, Option.bind_some] at hk
          rw [hk] at c3; simp only [Bool.and_eq_true, decide_eq_true_eq] at c3; exact c3.1
      · cases oo.dst <;> exact hd
    · cases hc
  | @op o g os env fr d h m v m1 r m' hw he _ ih =>
    intro C w a T Q ds hc hnt hI hd hT hR hQn hQp
    simp only [chkOps, Bool.and_eq_true] at hc
    obtain ⟨hc, hrest⟩ := hc
    split at hc
    · rename_i oo ho
      simp only [Bool.and_eq_true] at hc
      obtain ⟨⟨c1, c2⟩, c3⟩ := hc
      have hlt : env.length < ops.size := (Array.getElem?_eq_some_iff.1 ho).1
      have hwant := guard_wanted hR rfl hT c2 (guardOk_lt c2) hnt hw
      have hsub : ops.size - env.length = (ops.size - (env.length + 1)) + 1 := by omega
      rw [hsub, List.range'_succ, wpOps]
      simp only [ho, hwant, if_true]
      left
      refine step_eval hI hX (fun x y hxy => opd_rep hI hR rfl hT (and_l hxy) (fun t d hx hy => by have := okOpd_loc (and_l hxy) hx hy; omega) (fun t j hx hy => okOpd_var (and_l hxy) hx hy)) c1 he (fun C' cv w' hle hI' hv => ?_)
      refine ih (T := fun k => (v :: env).getD ((v :: env).length - 1 - k) .u) (ds := ds) hrest (fun k t hk hl => ?_) hI' ?_ (fun k _ => rfl) (reg_next hle hR hT ho c3 hv) (fun e h hr hl C2 T' a' w' hle2 => hQn e h hr hl C2 T' a' w' (hle.trans hle2)) (fun v e h hr C2 cv a' w' hle2 => hQp v e h hr C2 cv a' w' (hle.trans hle2))
      · simp only [List.length_cons] at hl
        by_cases hk' : k < env.length
        · exact hnt k t hk hk'
        · obtain rfl : k = env.length := by omega
          simp only [dstOf, ho, Option.bind_some] at hk
          rw [hk] at c3; simp only [Bool.and_eq_true, decide_eq_true_eq] at c3; exact c3.1
      · cases oo.dst <;> exact hd
    · cases hc
  | @call o g os env fr d h m f args v m1 r m' hw he hcs _ ih =>
    intro C w a T Q ds hc hnt hI hd hT hR hQn hQp
    simp only [chkOps, Bool.and_eq_true] at hc
    obtain ⟨hc, hrest⟩ := hc
    split at hc
    · rename_i oo ho
      simp only [Bool.and_eq_true] at hc
      obtain ⟨⟨c1, c2⟩, c3⟩ := hc
      have hlt : env.length < ops.size := (Array.getElem?_eq_some_iff.1 ho).1
      have hwant := guard_wanted hR rfl hT c2 (guardOk_lt c2) hnt hw
      have hsub : ops.size - env.length = (ops.size - (env.length + 1)) + 1 := by omega
      rw [hsub, List.range'_succ, wpOps]
      simp only [ho, hwant, if_true]
      left
      refine step_call hI (fun x y hxy => opd_rep hI hR rfl hT (and_l hxy) (fun t d hx hy => by have := okOpd_loc (and_l hxy) hx hy; omega) (fun t j hx hy => okOpd_var (and_l hxy) hx hy)) c1 he hcs (fun C' cv w' v' hv' hle hI' hv => ?_) (fun C' cv w' v' hv' => by cases hv')
      injection hv' with hv'; subst hv'
      refine ih (T := fun k => (v :: env).getD ((v :: env).length - 1 - k) .u) (ds := ds) hrest (fun k t hk hl => ?_) hI' ?_ (fun k _ => rfl) (reg_next hle hR hT ho c3 hv) (fun e h hr hl C2 T' a' w' hle2 => hQn e h hr hl C2 T' a' w' (hle.trans hle2)) (fun v e h hr C2 cv a' w' hle2 => hQp v e h hr C2 cv a' w' (hle.trans hle2))
      · simp only [List.length_cons] at hl
        by_cases hk' : k < env.length
        · exact hnt k t hk hk'
        · obtain rfl : k = env.length := by omega
          simp only [dstOf, ho, Option.bind_some] at hk
          rw [hk] at c3; simp only [Bool.and_eq_true, decide_eq_true_eq] at c3; exact c3.1
      · cases oo.dst <;> exact hd
    · cases hc
  | @callP o g os env fr d h m f args v m1 hw he hcs =>
    intro C w a T Q ds hc hnt hI hd hT hR hQn hQp
    simp only [chkOps, Bool.and_eq_true] at hc
    obtain ⟨hc, hrest⟩ := hc
    split at hc
    · rename_i oo ho
      simp only [Bool.and_eq_true] at hc
      obtain ⟨⟨c1, c2⟩, c3⟩ := hc
      have hlt : env.length < ops.size := (Array.getElem?_eq_some_iff.1 ho).1
      have hwant := guard_wanted hR rfl hT c2 (guardOk_lt c2) hnt hw
      have hsub : ops.size - env.length = (ops.size - (env.length + 1)) + 1 := by omega
      rw [hsub, List.range'_succ, wpOps]
      simp only [ho, hwant, if_true]
      left
      refine step_call hI (fun x y hxy => opd_rep hI hR rfl hT (and_l hxy) (fun t d hx hy => by have := okOpd_loc (and_l hxy) hx hy; omega) (fun t j hx hy => okOpd_var (and_l hxy) hx hy)) c1 he hcs (fun C' cv w' v' hv' => by cases hv') (fun C' cv w' v' hv' hle hI' hv => ?_)
      injection hv' with hv'; subst hv'
      exact hQp _ _ _ rfl C' cv a w' hle hI' hd hv (hR.panFr hle)
    · cases hc
  | @pan x g os env fr d h m t v hw hx =>
    intro C w a T Q ds hc hnt hI hd hT hR hQn hQp
    simp only [chkOps, Bool.and_eq_true] at hc
    obtain ⟨hc, hrest⟩ := hc
    split at hc
    · rename_i oo ho
      simp only [Bool.and_eq_true] at hc
      obtain ⟨⟨c1, c2⟩, c3⟩ := hc
      have hlt : env.length < ops.size := (Array.getElem?_eq_some_iff.1 ho).1
      have hwant := guard_wanted hR rfl hT c2 (guardOk_lt c2) hnt hw
      have hsub : ops.size - env.length = (ops.size - (env.length + 1)) + 1 := by omega
      rw [hsub, List.range'_succ, wpOps]
      simp only [ho, hwant, if_true]
      left
      exact step_pan (fun x y hxy => opd_rep hI hR rfl hT (and_l hxy) (fun t d hx hy => by have := okOpd_loc (and_l hxy) hx hy; omega) (fun t j hx hy => okOpd_var (and_l hxy) hx hy)) c1 hx (fun cv hv => hQp _ _ _ rfl C cv a _ (.refl C) hI hd hv (hR.panFr (.refl C)))
    · cases hc

/-- The frame behind a region. -/
theorem exports_rel {env fr : List AV} {T : Nat → AV} {a : Act} (hR : RegRel C slots nt ops T fr (fun k => k < env.length) a.tmps) (hlen : env.length = ops.size) (hT : ∀ k, k < env.length → T k = env.getD (env.length - 1 - k) .u) {exp : List (Nat × Opd)} (hc : chkExp slots ops env.length exp = true) :
    FrameRel C slots nt (exports env fr exp) a.tmps := by
  simp only [chkExp, Bool.and_eq_true] at hc
  obtain ⟨c1, c2⟩ := hc
  refine ⟨hR.1, fun j t hs => ?_⟩
  have hj : j < slots.length := (List.getElem?_eq_some_iff.1 hs).1
  have key : ∀ exp : List (Nat × Opd), exp.all (entryOk slots ops env.length) = true → Rep C ((exports env fr exp).getD j .u) (a.tmps.getD t undef) ∨ ((∀ e ∈ exp, e.1 ≠ j) ∧ (exports env fr exp).getD j .u = fr.getD j .u) := by
    intro exp
    induction exp with
    | nil => intro _; right; exact ⟨fun e he => absurd he (by simp), rfl⟩
    | cons e es ih =>
      intro h
      simp only [List.all_cons, Bool.and_eq_true] at h
      obtain ⟨i, x⟩ := e
      simp only [exports]
      by_cases hij : i = j
      · subst hij
        left
        by_cases hin : i < (exports env fr es).length
        · have e1 : ((exports env fr es).set i (x.ev env fr)).getD i .u = x.ev env fr := by simp [List.getD, List.getElem?_set_self hin]
          rw [e1]
          have h1 := h.1
          unfold entryOk at h1
          split at h1
          · rename_i heq; injection heq with _ heq; subst heq; exact .u _
          · rename_i j' d heq
            injection heq with q1 q2; subst q1; subst q2
            simp only [Bool.and_eq_true, decide_eq_true_eq] at h1
            rw [hs] at h1
            simp only [decide_eq_true_eq] at h1
            have := hR.2.1 _ t h1.2 (by omega)
            rw [hT _ (by omega)] at this
            have e : env.length - 1 - (env.length - 1 - d) = d := by omega
            rw [e] at this
            exact this
          · cases h1
        · have e1 : ((exports env fr es).set i (x.ev env fr)).getD i .u = .u := by
            simp only [List.getD]; rw [List.getElem?_eq_none (by simpa using hin)]; rfl
          rw [e1]; exact .u _
      · have e1 : ((exports env fr es).set i (x.ev env fr)).getD j .u = (exports env fr es).getD j .u := by simp [List.getD, List.getElem?_set_ne hij]
        rw [e1]
        rcases ih h.2 with h' | ⟨h1, h2⟩
        · exact .inl h'
        · right
          refine ⟨fun e he => ?_, h2⟩
          rcases List.mem_cons.1 he with rfl | he
          · exact hij
          · exact h1 e he
  rcases key exp c1 with h | ⟨h1, h2⟩
  · exact h
  · rw [h2]
    refine hR.2.2 j t hs fun k hk hlt => ?_
    have := List.all_eq_true.1 (List.all_eq_true.1 c2 j (List.mem_range.2 hj)) k (List.mem_range.2 hlt)
    rw [hs, hk] at this
    simp only [ne_eq, not_true_eq_false, decide_false, Bool.false_or, List.any_eq_true, decide_eq_true_eq] at this
    obtain ⟨e, he, hej⟩ := this
    exact h1 e he hej
end
end Go.Proofs.YtinlfdkalijffaaDoor.Am
