/-
  THE ABSTRACT MACHINE, 15: a function that defers one closure, which begins with recover().
-/
import Derived.Test.YtinlfdkalijffaaDoorAm14
import Derived.Recover
set_option linter.unusedSimpArgs false
set_option linter.unusedVariables false
namespace Go.Proofs.YtinlfdkalijffaaDoor.Am
open Go Go.RowKit

/-- What is deferred: the closure's captured slots; its function; the code behind the deferral; the closure's own slots, the slot that recover() fills, and its code behind that. -/
structure ADfr where
  nparams : Nat
  slots : List Nat
  results : List ARes
  head : ACode
  caps : List Nat
  rest : ACode
  g : FuncId
  gslots : List Nat
  gx : Nat
  grest : ACode

def capsOk (slots : List Tmp) : List Operand → List Nat → Bool
  | [], [] => true
  | .tmp t :: xs, j :: js => decide (slots[j]? = some t) && capsOk slots xs js
  | _, _ => false
def deferOk (slots : List Tmp) (nt : Nat) (caps : List Nat) (g : FuncId) : List Oper → Bool
  | [{ dst := some t, op := .makeFunc (.func g') first cap, guard := none, .. }, { dst := none, op := .defer { callee := .value (.tmp t'), args, .. }, guard := none, .. }] =>
    decide (t' = t) && decide (g' = g) && first.isEmpty && args.isEmpty && capsOk slots cap.toList caps && decide (t < nt) && slots.all fun u => decide (u ≠ t)
  | _ => false
def recovOk (slots : List Tmp) (nt : Nat) (gx : Nat) : List Oper → Bool
  | [{ dst := some u, op := .call { callee := .builtin .recover, args, .. }, guard := none, .. }, { dst := some x, op := .assign (.tmp u'), guard := none, .. }] =>
    decide (u' = u) && args.isEmpty && decide (slots[gx]? = some x) && decide (u < nt) && decide (x < nt) && (slots.all fun t => decide (t ≠ u)) && decide slots.Nodup
  | _ => false
def resW (cd : Code) (slots : List Nat) : List ARes → Bool
  | [] => true
  | .var j :: rs => (match slots[j]? with | some t => !codeW cd t | none => false) && resW cd slots rs
  | .cell j _ _ :: rs => (match slots[j]? with | some t => !codeW cd t | none => false) && resW cd slots rs

def dfrOk (P : Program) (xf : FuncId → Nat) (G : Nat → Option (List AV)) (fn gn : Func) (q : ADfr) : Bool :=
  decide (fn.params.size = q.nparams) && decide (q.nparams ≤ fn.ntmps) && decide (q.slots.take q.nparams = List.range q.nparams) && decide (q.nparams ≤ q.slots.length) && q.slots.all (fun t => decide (t < fn.ntmps)) &&
    !(fn.name == "runtime.NumGoroutine") && resOk P q.slots fn.results.toList q.results &&
    !(gn.name == "runtime.NumGoroutine") && gn.results.isEmpty && decide (q.gslots.take q.caps.length = List.range q.caps.length) && decide (q.caps.length ≤ q.gslots.length) && decide (q.caps.length ≤ gn.ntmps) && q.gslots.all (fun t => decide (t < gn.ntmps)) &&
    (match fn.body, gn.body with
    | some (.seq a (.seq (.region _ os false) b)), some (.seq (.region _ rs false) c) =>
      chkC P xf G q.slots fn.ntmps a q.head && deferOk q.slots fn.ntmps q.caps q.g os.toList && chkC P xf G q.slots fn.ntmps b q.rest && resW b q.slots q.results &&
      recovOk q.gslots gn.ntmps q.gx rs.toList && chkC P xf G q.gslots gn.ntmps c q.grest
    | _, _ => false)

section
variable {G : Nat → Option (List AV)} {w0 : World} {C : Cx} {m : Mem} {w : World} {P : Program} {xf : FuncId → Nat} {slots : List Tmp} {nt : Nat}

theorem capsOk_rep {fr : List AV} {a : Act} (hF : FrameRel C slots nt fr a.tmps) : ∀ {xs : List Operand} {js : List Nat}, capsOk slots xs js = true → listRep C (js.map fun j => fr.getD j .u) (xs.map a.eval)
  | [], [], _ => trivial
  | .tmp t :: xs, j :: js, h => by
    simp only [capsOk, Bool.and_eq_true, decide_eq_true_eq] at h
    exact ⟨hF.2 j t h.1, capsOk_rep hF h.2⟩
  | [], _ :: _, h => by simp [capsOk] at h
  | .tmp _ :: _, [], h => by simp [capsOk] at h
  | .const _ :: _, [], h => by simp [capsOk] at h
  | .const _ :: _, _ :: _, h => by simp [capsOk] at h
  | .global _ :: _, [], h => by simp [capsOk] at h
  | .global _ :: _, _ :: _, h => by simp [capsOk] at h
  | .func _ :: _, [], h => by simp [capsOk] at h
  | .func _ :: _, _ :: _, h => by simp [capsOk] at h

theorem defer_wp {id : Nat} {os : Array Oper} {caps : List Nat} {g : FuncId} (hc : deferOk slots nt caps g os.toList = true) {fr : List AV} {a : Act} (hF : FrameRel C slots nt fr a.tmps) {Q : Exit → Act → World → Prop}
    (hQ : ∀ a' (cvs : Array Value), FrameRel C slots nt fr a'.tmps → a'.defers = { target := .fn (.func g) cvs, args := #[] } :: a.defers → listRep C (caps.map fun j => fr.getD j .u) cvs.toList → Q .normal a' w) :
    (Code.region id os false).wp P Q a w := by
  obtain ⟨l⟩ := os
  simp only at hc
  unfold deferOk at hc
  split at hc
  · rename_i t g' first cap ty pos af t' args at' ty' pos' af'
    simp only [Bool.and_eq_true, decide_eq_true_eq, Array.isEmpty_iff] at hc
    obtain ⟨⟨⟨⟨⟨⟨rfl, rfl⟩, rfl⟩, rfl⟩, h5⟩, h6⟩, h7⟩ := hc
    refine wp_region ?_
    have hsz : t' < a.tmps.size := by rw [hF.1]; exact h6
    show wpOps P _ Q [0, 1] a w
    simp only [wpOps, List.getElem?_toArray, List.getElem?_cons_zero, List.getElem?_cons_succ, Region.wanted, if_true]
    left
    simp only [Oper.wp, execOp, Sem.run_pure, Oper.upon, Array.map_empty]
    left
    have ev : (a.put (some t') (Value.func (.func g') #[] (cap.map a.eval))).eval (.tmp t') = Value.func (.func g') #[] (cap.map a.eval) := by
      simp [Act.put, Act.eval, Array.getD_eq_getD_getElem?, hsz]
    simp only [resolve, ev, Deferred.ofValue, Sem.run_bind, Sem.run_pure, Result.andThen_ok, Array.map_empty, Array.empty_append, Oper.upon]
    refine hQ _ (cap.map a.eval) ⟨?_, fun j u hs => ?_⟩ rfl ?_
    · simp [Act.put, hF.1]
    · have hne : u ≠ t' := of_decide_eq_true (List.all_eq_true.1 h7 u (List.mem_of_getElem? hs))
      have := hF.2 j u hs
      simpa [Act.put, Array.getD_eq_getD_getElem?, Array.getElem?_setIfInBounds, Ne.symm hne] using this
    · have := capsOk_rep hF h5
      simpa using this
  · cases hc

theorem recov_wp {id : Nat} {rs : Array Oper} {gx : Nat} (hc : recovOk slots nt gx rs.toList = true) {fr : List AV} {a : Act} (hF : FrameRel C slots nt fr a.tmps) {Q : Exit → Act → List Frame → World → Prop} {cs cs' : List Frame} {V : AV} {cv : Value} (hv : Rep C V cv)
    (hrec : (recoverD cs = some (cv, cs')) ∨ (recoverD cs = none ∧ cv = .nilIface ∧ cs' = cs)) (hgx : gx < fr.length)
    (hQ : ∀ a', FrameRel C slots nt (fr.set gx V) a'.tmps → a'.defers = a.defers → Q .normal a' cs' w) :
    (Code.region id rs false).wpS P Q a cs w := by
  obtain ⟨l⟩ := rs
  simp only at hc
  unfold recovOk at hc
  split at hc
  · rename_i u args at' ty pos af x u' ty' pos' af'
    simp only [Bool.and_eq_true, decide_eq_true_eq, Array.isEmpty_iff] at hc
    obtain ⟨⟨⟨⟨⟨⟨rfl, rfl⟩, h3⟩, h4⟩, h5⟩, h6⟩, h7⟩ := hc
    refine wpS_region ?_
    show wpOpsS P _ Q [0, 1] a cs w
    have hsu : u' < a.tmps.size := by rw [hF.1]; exact h4
    have hsx : x < a.tmps.size := by rw [hF.1]; exact h5
    have hrun : ∀ (dst : Option Tmp), (execOp a.eval { dst := dst, op := .call { callee := .builtin .recover, args := #[], argTypes := at' }, type := ty, pos := pos, after := af, guard := none }).run P w = .ok .recover w := by
      intro dst
      simp [execOp, resolve, invoke, builtin]
    have fin : FrameRel C slots nt (fr.set gx V) (((a.put (some u') cv).put (some x) cv).tmps) := by
      refine ⟨by simp [Act.put, hF.1], fun j t hs => ?_⟩
      have hne : t ≠ u' := of_decide_eq_true (List.all_eq_true.1 h6 t (List.mem_of_getElem? hs))
      by_cases hj : j = gx
      · subst hj
        rw [h3] at hs; injection hs with hs; subst hs
        have e1 : (fr.set j V).getD j .u = V := by simp [List.getD, List.getElem?_set_self hgx]
        rw [e1]
        simpa [Act.put, Array.getD_eq_getD_getElem?, hsx] using hv
      · have hnx : t ≠ x := fun e => by
          subst e
          have h1 := (List.getElem?_eq_some_iff.1 hs); have h2 := (List.getElem?_eq_some_iff.1 h3)
          obtain ⟨h1, h1'⟩ := h1; obtain ⟨h2, h2'⟩ := h2
          have hp := List.pairwise_iff_getElem.1 h7
          rcases Nat.lt_or_gt_of_ne hj with h | h
          · exact hp j gx h1 h2 h (h1'.trans h2'.symm)
          · exact hp gx j h2 h1 h (h2'.trans h1'.symm)
        have e1 : (fr.set gx V).getD j .u = fr.getD j .u := by simp [List.getD, List.getElem?_set_ne (Ne.symm hj)]
        rw [e1]
        have := hF.2 j t hs
        simpa [Act.put, Array.getD_eq_getD_getElem?, Array.getElem?_setIfInBounds, Ne.symm hne, Ne.symm hnx] using this
    have ev : (a.put (some u') cv).eval (.tmp u') = cv := by
      simp [Act.put, Act.eval, Array.getD_eq_getD_getElem?, hsu]
    simp only [wpOpsS, List.getElem?_toArray, List.getElem?_cons_zero, List.getElem?_cons_succ, Region.wanted, if_true, hrun]
    rcases hrec with h | ⟨h, rfl, rfl⟩
    · rw [h]
      simp only [execOp, ev, Sem.run_pure, Oper.upon]
      exact hQ _ fin rfl
    · rw [h]
      simp only [execOp, ev, Sem.run_pure, Oper.upon]
      exact hQ _ fin rfl
  · cases hc

theorem results_run' (hI : Inv G w0 C m w) {fr : List AV} {tmps : Array Value} {b : Code} (hF : ∀ (j : Nat) (t : Tmp), slots[j]? = some t → codeW b t = false → Rep C (fr.getD j .u) (tmps.getD t undef)) : ∀ {rs : List ResultVar} {qs : List ARes} {vs : List AV}, resOk P slots rs qs = true → resW b slots qs = true → resultsOf fr m qs = some vs →
    ∃ us : List Value, (rs.mapM (resStep tmps)).run P w = .ok us w ∧ listRep C vs us
  | [], [], vs, _, _, h => by
    simp only [resultsOf, Option.some.injEq] at h; subst h
    exact ⟨[], by simp, trivial⟩
  | .tmp t :: rs, .var j :: qs, vs, hc, hw, h => by
    simp only [resOk, Bool.and_eq_true, decide_eq_true_eq] at hc
    simp only [resW, hc.1, Bool.and_eq_true, Bool.not_eq_true'] at hw
    simp only [resultsOf, ARes.get] at h
    split at h
    · rename_i v vs' hv hvs
      injection hv with hv; subst hv
      injection h with h; subst h
      obtain ⟨us, k1, k2⟩ := results_run' hI hF hc.2 hw.2 hvs
      exact ⟨tmps.getD t undef :: us, by simp only [List.mapM_cons, resStep, Sem.run_bind, Sem.run_pure, Result.andThen_ok, k1], hF j t hc.1 hw.1, k2⟩
    · cases h
  | .cell a t :: rs, .cell j g n :: qs, vs, hc, hw, h => by
    simp only [resOk, Bool.and_eq_true, decide_eq_true_eq] at hc
    simp only [resW, hc.1.1, Bool.and_eq_true, Bool.not_eq_true'] at hw
    simp only [resultsOf, ARes.get] at h
    split at h
    · rename_i v vs' hv hvs
      injection h with h; subst h
      obtain ⟨us, k1, k2⟩ := results_run' hI hF hc.2 hw.2 hvs
      obtain ⟨b, base, off, cs, e, l1, l2⟩ := load_at hI (hF j a hc.1.1 hw.1) hv
      obtain ⟨cv, l3, l4⟩ := run_loadVar_at (P := P) l1 l2 hc.1.2
      have ha : (asAddr (tmps.getD a undef)).run P w = .ok ⟨b, base + off, none⟩ w := by rw [e]; rfl
      exact ⟨cv :: us, by simp only [List.mapM_cons, resStep, Sem.run_bind, ha, Sem.run_pure, Result.andThen_ok, l3, k1], l4, k2⟩
    · cases h
  | [], _ :: _, _, hc, _, _ => by simp [resOk] at hc
  | .tmp _ :: _, [], _, hc, _, _ => by simp [resOk] at hc
  | .cell _ _ :: _, [], _, hc, _, _ => by simp [resOk] at hc
  | .tmp _ :: _, .cell _ _ _ :: _, _, hc, _, _ => by simp [resOk] at hc
  | .cell _ _ :: _, .var _ :: _, _, hc, _, _ => by simp [resOk] at hc
theorem results_sound' (hI : Inv G w0 C m w) {fr : List AV} {tmps : Array Value} {b : Code} {fn : Func} {qs : List ARes} {vs : List AV} (hc : resOk P slots fn.results.toList qs = true) (hw : resW b slots qs = true)
    (hF : ∀ (j : Nat) (t : Tmp), slots[j]? = some t → codeW b t = false → Rep C (fr.getD j .u) (tmps.getD t undef)) (h : resultsOf fr m qs = some vs) :
    ∃ v, (results fn tmps).run P w = .ok v w ∧ Rep C (oneOr vs) v := by
  obtain ⟨us, h1, h2⟩ := results_run' (P := P) hI hF hc hw h
  change ∃ v, (do let vs ← fn.results.mapM (resStep tmps); pure (if h : vs.size = 1 then vs[0] else .tuple vs) : Sem Value).run P w = .ok v w ∧ Rep C (oneOr vs) v
  rw [Array.mapM_eq_mapM_toList]
  simp only [Sem.run_bind, Sem.run_map, h1, Result.andThen_ok, Sem.run_pure]
  refine ⟨_, rfl, ?_⟩
  match vs, us, h2 with
  | [], [], _ => exact .tup _ _ rfl fun i hi => absurd hi (by simp)
  | [v], [x], h => simpa [oneOr] using h.1
  | v1 :: v2 :: vs, x1 :: x2 :: us, h =>
    obtain ⟨k1, k2⟩ := listRep_iff h
    simp only [List.size_toArray, List.length_cons]
    rw [dif_neg (by omega)]
    refine .tup _ _ (by simpa using k1) fun i hi => ?_
    have := k2 i hi
    rwa [Array.getD_eq_getD_getElem?, List.getElem?_toArray]

/-- The frame of the deferred closure, where recover() gives V. -/
def gframe (q : ADfr) (fr1 : List AV) (V : AV) : List AV :=
  ((q.caps.map fun j => fr1.getD j AV.u) ++ List.replicate (q.gslots.length - q.caps.length) AV.u).set q.gx V

/-- How the code ended that the closure was deferred for: by itself, or with a panic that the closure recovers. -/
def DEnd (e : AExit) (V : AV) : Prop := ((e = .normal ∨ e = .ret) ∧ V = .nilIface) ∨ (e = .pan V)

theorem dfr_ret (hX : XfOk P xf) (hm : P.follows .mixedOrders = true) {K : FuncId → List AV → Mem → Rs → Mem → Prop} (hK : ∀ f args m r m', K f args m r m' → CallSound P G f args m r m') {f : FuncId} {fn gn : Func} {q : ADfr} (hfn : P.funcs[f]? = some fn) (hgn : P.funcs[q.g]? = some gn) (hok : dfrOk P xf G fn gn q = true)
    {args : List AV} {m m1 m2 m3 : Mem} (hl : args.length = q.nparams) {fr1 fr2 fr3 : List AV} {e e3 : AExit} {V : AV} {vs : List AV}
    (h1 : Big K (.code q.head (args ++ List.replicate (q.slots.length - q.nparams) .u)) m (.exit .normal fr1) m1)
    (h2 : Big K (.code q.rest fr1) m1 (.exit e fr2) m2) (he : DEnd e V)
    (h3 : Big K (.code q.grest (gframe q fr1 V)) m2 (.exit e3 fr3) m3) (he3 : e3 = .normal ∨ e3 = .ret)
    (hr : resultsOf fr2 m3 q.results = some vs) : CallSound P G f args m (.ret (oneOr vs)) m3 := by
  intro w0 C w argsV hI hargs
  simp only [dfrOk, Bool.and_eq_true, decide_eq_true_eq] at hok
  obtain ⟨⟨⟨⟨⟨⟨⟨⟨⟨⟨⟨⟨⟨o1, o2⟩, o3⟩, o4⟩, o5⟩, o6⟩, o7⟩, o8⟩, o9⟩, o10⟩, o11⟩, o12⟩, o13⟩, o14⟩ := hok
  split at o14
  · rename_i a ido os b idr rs c hfb hgb
    simp only [Bool.and_eq_true] at o14
    obtain ⟨⟨⟨⟨⟨c1, c2⟩, c3⟩, c4⟩, c5⟩, c6⟩ := o14
    refine ⟨⟨fn, hfn, by rw [hfb]; rfl, by simpa using o6⟩, ?_⟩
    obtain ⟨k1, k2⟩ := listRep_arr hargs
    have hsz : argsV.size = q.nparams := by omega
    have hfr0 : FrameRel C q.slots fn.ntmps (args ++ List.replicate (q.slots.length - q.nparams) .u) (argsV ++ Array.replicate (fn.ntmps - argsV.size) undef) := by
      refine ⟨by simp; omega, fun j t hj => ?_⟩
      by_cases hjp : j < q.nparams
      · have e' : (q.slots.take q.nparams)[j]? = some t := by rw [List.getElem?_take, if_pos hjp]; exact hj
        rw [o3, List.getElem?_range hjp] at e'
        injection e' with e'; subst e'
        have e1 : (args ++ List.replicate (q.slots.length - q.nparams) AV.u).getD j .u = args.getD j .u := getD_append_left (by omega)
        have e2 : (argsV ++ Array.replicate (fn.ntmps - argsV.size) undef).getD j undef = argsV.getD j undef := by
          rw [Array.getD_eq_getD_getElem?, Array.getD_eq_getD_getElem?, Array.getElem?_append_left (by omega)]
        rw [e1, e2]
        exact k2 j (by omega)
      · have e1 : (args ++ List.replicate (q.slots.length - q.nparams) AV.u).getD j .u = .u := by
          rw [getD_append_right (by omega)]
          simp only [List.getD, List.getElem?_replicate]; split <;> rfl
        rw [e1]; exact .u _
    refine calls_of_wp_defers hfn hfb ?_
    refine wp_seq (wp_mono ((big_sound hX hm hK h1 w0 C w { tmps := argsV ++ Array.replicate (fn.ntmps - argsV.size) undef, defers := [] } q.slots fn.ntmps hI hfr0).1 _ c1) fun ex a1 w1 hp => ?_)
    obtain ⟨C1, p1, p2, p3, rfl, p5⟩ := hp
    refine wp_seq (defer_wp c2 p5 fun a2 cvs q1 q2 q3 => ?_)
    refine wp_mono ((big_sound hX hm hK h2 w0 C1 w1 a2 q.slots fn.ntmps p2 q1).1 _ c3) fun ex2 a3 w3 hp3 => ?_
    obtain ⟨C2, r1, r2, r3, r4⟩ := hp3
    have hds : a3.defers = [{ target := .fn (.func q.g) cvs, args := #[] }] := by rw [r3, q2, p3]
    -- the results' slots
    have hslot : ∀ (j : Nat) (t : Tmp), q.slots[j]? = some t → codeW b t = false → Rep C2 (fr2.getD j .u) (a3.tmps.getD t undef) := by
      intro j t hs hw
      cases e with
      | normal => exact r4.2.2 j t hs
      | exit => exact r4.2.2 j t hs
      | ret => exact r4.2.2 j t hs
      | pan v => obtain ⟨cv, _, _, _, h⟩ := r4; exact h j t hs hw
    have hcv : listRep C2 (q.caps.map fun j => fr1.getD j .u) cvs.toList := by
      obtain ⟨l1, l2⟩ := listRep_arr q3
      exact listRep_ofArr l1 fun i hi => (l2 i hi).mono r1
    have clos : ∀ (u u' : FrameMode) (cv : Value), Rep C2 V cv → (∀ (c₀ : Frame) (cs : List Frame), c₀.mode = u → (recoverD (c₀ :: cs) = some (cv, { c₀ with mode := u' } :: cs)) ∨ (recoverD (c₀ :: cs) = none ∧ cv = .nilIface ∧ u' = u)) → settle u' = .returning → u ≠ .run →
        Leaves P fn a3.tmps (fun e w' => ∃ C', Cx.Le C C' ∧ Inv G w0 C' m3 w' ∧ OutRep C' (.ret (oneOr vs)) e) a3.defers u w3 := by
      intro u u' cv hv hrec hset hrun
      rw [hds]
      refine ⟨hrun, .func q.g, cvs, q.g, cvs, rfl, ?_, ?_⟩
      · have := run_enter (w := w3) hgn (by rw [hgb]; rfl) (by simpa using o8) cvs
        simpa [invoke] using this
      · refine callsD_of_wpS hgn hgb fun c₀ cs hmode => ?_
        obtain ⟨l1, l2⟩ := listRep_arr hcv
        have hlen : cvs.size = q.caps.length := by simpa using l1
        have hg0 : FrameRel C2 q.gslots gn.ntmps ((q.caps.map fun j => fr1.getD j .u) ++ List.replicate (q.gslots.length - q.caps.length) .u) (cvs ++ Array.replicate (gn.ntmps - cvs.size) undef) := by
          refine ⟨by simp; omega, fun j t hj => ?_⟩
          by_cases hjp : j < q.caps.length
          · have e' : (q.gslots.take q.caps.length)[j]? = some t := by rw [List.getElem?_take, if_pos hjp]; exact hj
            rw [o10, List.getElem?_range hjp] at e'
            injection e' with e'; subst e'
            have e1 : ((q.caps.map fun j => fr1.getD j .u) ++ List.replicate (q.gslots.length - q.caps.length) AV.u).getD j .u = (q.caps.map fun j => fr1.getD j .u).getD j .u := getD_append_left (by simpa using hjp)
            have e2 : (cvs ++ Array.replicate (gn.ntmps - cvs.size) undef).getD j undef = cvs.getD j undef := by
              rw [Array.getD_eq_getD_getElem?, Array.getD_eq_getD_getElem?, Array.getElem?_append_left (by omega)]
            rw [e1, e2]
            exact l2 j (by simpa using hjp)
          · have e1 : ((q.caps.map fun j => fr1.getD j .u) ++ List.replicate (q.gslots.length - q.caps.length) AV.u).getD j .u = .u := by
              rw [getD_append_right (by simp; omega)]
              simp only [List.getD, List.getElem?_replicate]; split <;> rfl
            rw [e1]; exact .u _
        have hgx : q.gx < ((q.caps.map fun j => fr1.getD j .u) ++ List.replicate (q.gslots.length - q.caps.length) AV.u).length := by
          have : q.gx < q.gslots.length := by
            unfold recovOk at c5
            split at c5
            · simp only [Bool.and_eq_true, decide_eq_true_eq] at c5
              exact (List.getElem?_eq_some_iff.1 c5.1.1.1.1.2).1
            · cases c5
          simp; omega
        refine wpS_seq (recov_wp (cs' := { c₀ with mode := u' } :: cs) c5 hg0 hv ?_ hgx fun a4 s1 s2 => ?_)
        · rcases hrec c₀ cs hmode with h | ⟨h, h', h''⟩
          · exact .inl h
          · refine .inr ⟨h, h', ?_⟩
            rw [h'', ← hmode]
        · refine wpS_of_wp (wp_mono ((big_sound hX hm hK h3 w0 C2 w3 a4 q.gslots gn.ntmps r2 s1).1 _ c6) fun ex5 a5 w5 hp5 => ?_)
          obtain ⟨C3, t1, t2, t3, t4⟩ := hp5
          have hres : (results gn a5.tmps).run P w5 = .ok (.tuple #[]) w5 := by
            have : gn.results = #[] := by simpa using o9
            simp [results, this]
          have fin : bodyPostS P gn c₀ cs (fun
              | .returned _, u', w' => Leaves P fn a3.tmps (fun e w' => ∃ C', Cx.Le C C' ∧ Inv G w0 C' m3 w' ∧ OutRep C' (.ret (oneOr vs)) e) [] (settle u') w'
              | .panicked chain, u', w' => Leaves P fn a3.tmps (fun e w' => ∃ C', Cx.Le C C' ∧ Inv G w0 C' m3 w' ∧ OutRep C' (.ret (oneOr vs)) e) [] (raised u' chain) w'
              | .outgrown, _, w' => (fun e w' => ∃ C', Cx.Le C C' ∧ Inv G w0 C' m3 w' ∧ OutRep C' (.ret (oneOr vs)) e) .outgrown w') .ret a5 ({ c₀ with mode := u' } :: cs) w5 := by
            refine ⟨by rw [t3, s2], u', rfl, .tuple #[], hres, ?_⟩
            show Leaves P fn a3.tmps _ [] (settle u') w5
            rw [hset]
            -- the results
            have hR3 : ∀ (j : Nat) (t : Tmp), q.slots[j]? = some t → codeW b t = false → Rep C3 (fr2.getD j .u) (a3.tmps.getD t undef) := fun j t hs hw => (hslot j t hs hw).mono t1
            obtain ⟨v, z1, z2⟩ := results_sound' (P := P) t2 o7 c4 hR3 hr
            exact ⟨v, z1, C3, (p1.trans r1).trans t1, t2, z2⟩
          rcases he3 with rfl | rfl
          · obtain ⟨rfl, _⟩ := t4; exact fin
          · obtain ⟨rfl, _⟩ := t4; exact fin
    rcases he with ⟨he, rfl⟩ | rfl
    · have cl := clos .returning .returning .nilIface .nilIface (fun c₀ cs hm0 => .inr ⟨by simp [recoverD, hm0], rfl, rfl⟩) rfl (by simp)
      rcases he with rfl | rfl
      · obtain ⟨rfl, _⟩ := r4; exact cl
      · obtain ⟨rfl, _⟩ := r4; exact cl
    · obtain ⟨cv, rfl, hvr, _, _⟩ := r4
      exact clos (.panicking [{ v := cv, recovered := false }]) (.panicking [{ v := cv, recovered := true }]) cv hvr (fun c₀ cs hm0 => .inl (by simp [recoverD, hm0])) (by simp [settle]) (by simp)
  · cases o14
end
end Go.Proofs.YtinlfdkalijffaaDoor.Am
