/-
  THE ABSTRACT MACHINE, 14: the code of a function, and its calls: what is shown of the abstract machine holds of the model's.
-/
import Derived.Test.YtinlfdkalijffaaDoorAm13
import Derived.LoopN
set_option linter.unusedSimpArgs false
set_option linter.unusedVariables false
namespace Go.Proofs.YtinlfdkalijffaaDoor.Am
open Go Go.RowKit

def chkC (P : Program) (xf : FuncId → Nat) (G : Nat → Option (List AV)) (slots : List Tmp) (nt : Nat) : Code → ACode → Bool
  | .skip, .skip => true
  | .region _ ops draw, .region r => chkReg P xf G slots nt ops draw r
  | .seq a b, .seq a' b' => chkC P xf G slots nt a a' && chkC P xf G slots nt b b'
  | .cond c a b, .cond c' a' b' => okOpd G slots #[] 0 c c' && chkC P xf G slots nt a a' && chkC P xf G slots nt b b'
  | .block id a, .block id' a' => decide (id = id') && chkC P xf G slots nt a a'
  | .loop a, .loop _ a' => chkC P xf G slots nt a a'
  | .exit id, .exit id' => decide (id = id')
  | .ret, .ret => true
  | _, .stuck => true
  | _, _ => false

/-- Is the slot t written by this code? -/
def codeW : Code → Tmp → Bool
  | .region _ ops _, t => regW ops t
  | .seq a b, t => codeW a t || codeW b t
  | .cond _ a b, t => codeW a t || codeW b t
  | .block _ a, t => codeW a t
  | .loop a, t => codeW a t
  | _, _ => false

theorem FrameRel.mono {C C' : Cx} (h : Cx.Le C C') {slots : List Tmp} {nt : Nat} {fr : List AV} {tmps : Array Value} (hr : FrameRel C slots nt fr tmps) : FrameRel C' slots nt fr tmps :=
  ⟨hr.1, fun j t hs => (hr.2 j t hs).mono h⟩
theorem kills_rel {C : Cx} {slots : List Tmp} {nt : Nat} {fr : List AV} {tmps : Array Value} (h : FrameRel C slots nt fr tmps) : ∀ ks : List Nat, FrameRel C slots nt (kills ks fr) tmps
  | [] => h
  | k :: ks => by
    have ih := kills_rel h ks
    refine ⟨ih.1, fun j t hs => ?_⟩
    simp only [kills]
    by_cases e : k = j
    · subst e
      by_cases hin : k < (kills ks fr).length
      · have e1 : ((kills ks fr).set k .u).getD k .u = .u := by simp [List.getD, List.getElem?_set_self hin]
        rw [e1]; exact .u _
      · have e1 : ((kills ks fr).set k .u).getD k .u = .u := by simp only [List.getD]; rw [List.getElem?_eq_none (by simpa using hin)]; rfl
        rw [e1]; exact .u _
    · have e1 : ((kills ks fr).set k .u).getD j .u = (kills ks fr).getD j .u := by simp [List.getD, List.getElem?_set_ne e]
      rw [e1]; exact ih.2 j t hs

/-- A loop from the head of its body on. -/
def LoopGoes (P : Program) (c : Code) (Q : Exit → Act → World → Prop) (a : Act) (w : World) : Prop :=
  ∀ (b : Frame) (k : List Item) (cs : List Frame), ∃ e a' w', Q e a' w' ∧ Arrives P (lone (b.at a (.code c :: .inLoop c :: k)) cs w) b k cs e a' w'
theorem LoopGoes.wp {P : Program} {c : Code} {Q : Exit → Act → World → Prop} {a : Act} {w : World} (h : LoopGoes P c Q a w) : (Code.loop c).wp P Q a w :=
  fun b k cs => let ⟨e, a', w', q, r⟩ := h b k cs; ⟨e, a', w', q, .of_steps (.one step_loop) r⟩
theorem loop_goes {P : Program} {c : Code} {Q : Exit → Act → World → Prop} {a : Act} {w : World} (h : c.wp P (Exit.then (LoopGoes P c Q) Q) a w) : LoopGoes P c Q a w := by
  intro b k cs
  obtain ⟨e, a₁, w₁, hq, harr⟩ := h b (.inLoop c :: k) cs
  cases e with
  | normal =>
    obtain ⟨e₂, a₂, w₂, hq₂, harr₂⟩ := hq b k cs
    exact ⟨e₂, a₂, w₂, hq₂, .of_steps (Steps.trans harr (.one step_inLoop)) harr₂⟩
  | exit id => exact ⟨_, a₁, w₁, hq, .pass (x := .inLoop c) rfl (fun _ _ => .inl (by simp)) harr⟩
  | goto l => exact ⟨_, a₁, w₁, hq, .pass (x := .inLoop c) rfl (fun _ _ => .inl (by simp)) harr⟩
  | ret => exact ⟨_, a₁, w₁, hq, .pass (x := .inLoop c) rfl (fun _ _ => .inl (by simp)) harr⟩
  | panic ch => exact ⟨_, a₁, w₁, hq, .pass (x := .inLoop c) rfl (fun _ _ => .inl (by simp)) harr⟩
  | outgrown => exact ⟨_, a₁, w₁, hq, .pass (x := .inLoop c) rfl (fun _ _ => .inl (by simp)) harr⟩

/-! ### a function -/
def resOk (P : Program) (slots : List Tmp) : List ResultVar → List ARes → Bool
  | [], [] => true
  | .tmp t :: rs, .var j :: qs => decide (slots[j]? = some t) && resOk P slots rs qs
  | .cell a t :: rs, .cell j g n :: qs => decide (slots[j]? = some a) && shapeOk P t g n && resOk P slots rs qs
  | _, _ => false
def fnOk (P : Program) (xf : FuncId → Nat) (G : Nat → Option (List AV)) (fn : Func) (q : AFn) : Bool :=
  decide (fn.params.size = q.nparams) && decide (q.nparams ≤ fn.ntmps) && decide (q.nslots = q.slots.length) && decide (q.slots.take q.nparams = List.range q.nparams) && decide (q.nparams ≤ q.nslots) && q.slots.all (fun t => decide (t < fn.ntmps)) &&
    !(fn.name == "runtime.NumGoroutine") && resOk P q.slots fn.results.toList q.results && (match fn.body with
    | some c => chkC P xf G q.slots fn.ntmps c q.body
    | none => false)
section
variable {G : Nat → Option (List AV)} {w0 : World} {C : Cx} {m : Mem} {w : World} {P : Program} {xf : FuncId → Nat} {slots : List Tmp} {nt : Nat} {F : FuncId → Option AFn}

def resStep (tmps : Array Value) : ResultVar → Sem Value
  | .tmp t => pure (tmps.getD t undef)
  | .cell a t => do loadVar t (← asAddr (tmps.getD a undef))
theorem results_run (hI : Inv G w0 C m w) {fr : List AV} {tmps : Array Value} (hF : FrameRel C slots nt fr tmps) (hnt : ∀ (j : Nat) (t : Tmp), slots[j]? = some t → t < nt) : ∀ {rs : List ResultVar} {qs : List ARes} {vs : List AV}, resOk P slots rs qs = true → resultsOf fr m qs = some vs →
    ∃ us : List Value, (rs.mapM (resStep tmps)).run P w = .ok us w ∧ listRep C vs us
  | [], [], vs, _, h => by
    simp only [resultsOf, Option.some.injEq] at h; subst h
    exact ⟨[], by simp, trivial⟩
  | .tmp t :: rs, .var j :: qs, vs, hc, h => by
    simp only [resOk, Bool.and_eq_true, decide_eq_true_eq] at hc
    simp only [resultsOf, ARes.get] at h
    split at h
    · rename_i v vs' hv hvs
      injection hv with hv; subst hv
      injection h with h; subst h
      obtain ⟨us, k1, k2⟩ := results_run hI hF hnt hc.2 hvs
      exact ⟨tmps.getD t undef :: us, by simp only [List.mapM_cons, resStep, Sem.run_bind, Sem.run_pure, Result.andThen_ok, k1], hF.2 j t hc.1, k2⟩
    · cases h
  | .cell a t :: rs, .cell j g n :: qs, vs, hc, h => by
    simp only [resOk, Bool.and_eq_true, decide_eq_true_eq] at hc
    simp only [resultsOf, ARes.get] at h
    split at h
    · rename_i v vs' hv hvs
      injection h with h; subst h
      obtain ⟨us, k1, k2⟩ := results_run hI hF hnt hc.2 hvs
      obtain ⟨b, base, off, cs, e, l1, l2⟩ := load_at hI (hF.2 j a hc.1.1) hv
      obtain ⟨cv, l3, l4⟩ := run_loadVar_at (P := P) l1 l2 hc.1.2
      have ha : (asAddr (tmps.getD a undef)).run P w = .ok ⟨b, base + off, none⟩ w := by rw [e]; rfl
      exact ⟨cv :: us, by simp only [List.mapM_cons, resStep, Sem.run_bind, ha, Sem.run_pure, Result.andThen_ok, l3, k1], l4, k2⟩
    · cases h
  | [], _ :: _, _, hc, _ => by simp [resOk] at hc
  | .tmp _ :: _, [], _, hc, _ => by simp [resOk] at hc
  | .cell _ _ :: _, [], _, hc, _ => by simp [resOk] at hc
  | .tmp _ :: _, .cell _ _ _ :: _, _, hc, _ => by simp [resOk] at hc
  | .cell _ _ :: _, .var _ :: _, _, hc, _ => by simp [resOk] at hc

theorem results_sound (hI : Inv G w0 C m w) {fr : List AV} {tmps : Array Value} (hF : FrameRel C slots nt fr tmps) (hnt : ∀ (j : Nat) (t : Tmp), slots[j]? = some t → t < nt) {fn : Func} {qs : List ARes} {vs : List AV} (hc : resOk P slots fn.results.toList qs = true) (h : resultsOf fr m qs = some vs) :
    ∃ v, (results fn tmps).run P w = .ok v w ∧ Rep C (oneOr vs) v := by
  obtain ⟨us, h1, h2⟩ := results_run (P := P) hI hF hnt hc h
  change ∃ v, (do let vs ← fn.results.mapM (resStep tmps); pure (if h : vs.size = 1 then vs[0] else .tuple vs) : Sem Value).run P w = .ok v w ∧ Rep C (oneOr vs) v
  rw [Array.mapM_eq_mapM_toList]
  simp only [Sem.run_bind, Sem.run_map, h1, Result.andThen_ok, Sem.run_pure]
  refine ⟨_, rfl, ?_⟩
  match vs, us, h2 with
  | [], [], _ => exact .tup _ _ rfl fun i hi => absurd hi (by simp)
  | [v], [x], h => simpa [oneOr] using h.1
  | v1 :: v2 :: vs, x1 :: x2 :: us, h =>
    obtain ⟨k1, k2⟩ := listRep_iff h
    simp only [List.size_toArray, List.length_cons]
    rw [dif_neg (by omega)]
    refine .tup _ _ (by simpa using k1) fun i hi => ?_
    have := k2 i hi
    rwa [Array.getD_eq_getD_getElem?, List.getElem?_toArray]

theorem fn_parts {fn : Func} {q : AFn} (h : fnOk P xf G fn q = true) {args : List AV} (hl : args.length = q.nparams) {argsV : Array Value} (ha : listRep C args argsV.toList) :
    ∃ c, fn.body = some c ∧ chkC P xf G q.slots fn.ntmps c q.body = true ∧ (∀ (j : Nat) (t : Tmp), q.slots[j]? = some t → t < fn.ntmps) ∧ True ∧ resOk P q.slots fn.results.toList q.results = true ∧ fn.name ≠ "runtime.NumGoroutine" ∧
      FrameRel C q.slots fn.ntmps (args ++ List.replicate (q.nslots - q.nparams) .u) (argsV ++ Array.replicate (fn.ntmps - argsV.size) undef) := by
  simp only [fnOk, Bool.and_eq_true, decide_eq_true_eq] at h
  obtain ⟨⟨⟨⟨⟨⟨⟨⟨h1, h2⟩, h3⟩, h4⟩, h5⟩, h9⟩, h6⟩, h7⟩, h8⟩ := h
  split at h8
  · rename_i c hb
    obtain ⟨k1, k2⟩ := listRep_arr ha
    have hsz : argsV.size = q.nparams := by omega
    refine ⟨c, hb, h8, fun j t hj => ?_, trivial, h7, by simpa using h6, by simp; omega, fun j t hj => ?_⟩
    · exact of_decide_eq_true (List.all_eq_true.1 h9 t (List.mem_of_getElem? hj))
    · by_cases hjp : j < q.nparams
      · have e : (q.slots.take q.nparams)[j]? = some t := by rw [List.getElem?_take, if_pos hjp]; exact hj
        rw [h4, List.getElem?_range hjp] at e
        injection e with e; subst e
        have e1 : (args ++ List.replicate (q.nslots - q.nparams) AV.u).getD j .u = args.getD j .u := getD_append_left (by omega)
        have e2 : (argsV ++ Array.replicate (fn.ntmps - argsV.size) undef).getD j undef = argsV.getD j undef := by
          rw [Array.getD_eq_getD_getElem?, Array.getD_eq_getD_getElem?, Array.getElem?_append_left (by omega)]
        rw [e1, e2]
        exact k2 j (by omega)
      · have e1 : (args ++ List.replicate (q.nslots - q.nparams) AV.u).getD j .u = .u := by
          rw [getD_append_right (by omega)]
          simp only [List.getD, List.getElem?_replicate]; split <;> rfl
        rw [e1]; exact .u _
  · cases h8

/-- What is shown of a task. -/
def Means (P : Program) (xf : FuncId → Nat) (G : Nat → Option (List AV)) (t : Tk) (m : Mem) (r : Rs) (m' : Mem) : Prop :=
  match t with
  | .code c fr => match r with
    | .exit e fr' => ∀ (w0 : World) (C : Cx) (w : World) (a : Act) (slots : List Tmp) (nt : Nat), Inv G w0 C m w → FrameRel C slots nt fr a.tmps →
        (∀ code, chkC P xf G slots nt code c = true → code.wp P (PostC G w0 C slots nt (codeW code) m' e fr' a.defers) a w) ∧
        ∀ ks b code, c = .loop ks b → chkC P xf G slots nt code b = true → LoopGoes P code (PostC G w0 C slots nt (codeW code) m' e fr' a.defers) a w
    | _ => False
  | .ops os env fr d h => Tr P G os env fr d h m r m'

theorem PostC.weaken {C C' : Cx} (h : Cx.Le C C') {m' : Mem} {e : AExit} {fr' : List AV} {ds ds' : List Deferred} (hd : ds = ds') {wr wr' : Tmp → Bool} (hw : ∀ t, wr' t = false → wr t = false) {ex : Exit} {a : Act} {w : World} (hp : PostC G w0 C' slots nt wr m' e fr' ds ex a w) : PostC G w0 C slots nt wr' m' e fr' ds' ex a w := by
  obtain ⟨C2, h1, h2, h3, h4⟩ := hp
  refine ⟨C2, h.trans h1, h2, h3.trans hd, ?_⟩
  cases e with
  | normal => exact h4
  | exit => exact h4
  | ret => exact h4
  | pan v => obtain ⟨cv, k1, k2, k3, k4⟩ := h4; exact ⟨cv, k1, k2, k3, fun j t hs ht => k4 j t hs (hw t ht)⟩

theorem of_noloop {c : ACode} {e : AExit} {fr fr' : List AV} {m m' : Mem} (hnl : ∀ ks b, c ≠ .loop ks b)
    (h : ∀ (w0 : World) (C : Cx) (w : World) (a : Act) (slots : List Tmp) (nt : Nat), Inv G w0 C m w → FrameRel C slots nt fr a.tmps → ∀ code, chkC P xf G slots nt code c = true → code.wp P (PostC G w0 C slots nt (codeW code) m' e fr' a.defers) a w) :
    Means P xf G (.code c fr) m (.exit e fr') m' :=
  fun w0 C w a slots nt hI hF => ⟨fun code hc => h w0 C w a slots nt hI hF code hc, fun ks b code he => absurd he (hnl ks b)⟩

theorem big_sound (hX : XfOk P xf) (hm : P.follows .mixedOrders = true) {K : FuncId → List AV → Mem → Rs → Mem → Prop} (hK : ∀ f args m r m', K f args m r m' → CallSound P G f args m r m') {t : Tk} {m : Mem} {r : Rs} {m' : Mem} (h : Big K t m r m') : Means P xf G t m r m' := by
  induction h with
  | skip =>
    refine of_noloop (by simp) fun w0 C w a slots nt hI hF code hc => ?_
    cases code <;> simp [chkC] at hc
    exact wp_skip ⟨C, .refl C, hI, rfl, rfl, hF⟩
  | exit =>
    refine of_noloop (by simp) fun w0 C w a slots nt hI hF code hc => ?_
    cases code <;> simp [chkC] at hc
    subst hc
    exact wp_exit ⟨C, .refl C, hI, rfl, rfl, hF⟩
  | ret =>
    refine of_noloop (by simp) fun w0 C w a slots nt hI hF code hc => ?_
    cases code <;> simp [chkC] at hc
    exact wp_ret ⟨C, .refl C, hI, rfl, rfl, hF⟩
  | @seqN a b fr m fr' m' rr m'' h1 h2 ih1 ih2 =>
    cases rr with
    | exit e fr2 =>
      refine of_noloop (by simp) fun w0 C w a slots nt hI hF code hc => ?_
      cases code <;> simp [chkC] at hc
      refine wp_seq (wp_mono ((ih1 w0 C w a slots nt hI hF).1 _ hc.1) fun ex a' w' hp => ?_)
      obtain ⟨C', p1, p2, p3, rfl, p5⟩ := hp
      exact wp_mono ((ih2 w0 C' w' a' slots nt p2 p5).1 _ hc.2) fun ex2 a2 w2 hp2 => hp2.weaken p1 p3 (fun t ht => by simp only [codeW, Bool.or_eq_false_iff] at ht; exact ht.2)
    | _ => exact ih2.elim
  | @seqX a b fr m e fr' m' h1 hne ih1 =>
    refine of_noloop (by simp) fun w0 C w a slots nt hI hF code hc => ?_
    cases code <;> simp [chkC] at hc
    rename_i ca cb
    refine wp_seq (wp_mono ((ih1 w0 C w a slots nt hI hF).1 _ hc.1) fun ex a' w' hp => ?_)
    have hx : ex ≠ .normal := by
      rintro rfl
      obtain ⟨C', p1, p2, p3, p4⟩ := hp
      cases e <;> simp [ExitRep] at p4
      exact hne rfl
    have hp' := hp.weaken (.refl C) rfl (wr' := codeW (.seq ca cb)) (fun t ht => by simp only [codeW, Bool.or_eq_false_iff] at ht; exact ht.1)
    cases ex <;> first | exact absurd rfl hx | exact hp'
  | @cond c a b fr m t rr m' hcv h1 ih =>
    cases rr with
    | exit e fr2 =>
      refine of_noloop (by simp) fun w0 C w a slots nt hI hF code hc => ?_
      cases code <;> simp [chkC] at hc
      obtain ⟨⟨c1, c2⟩, c3⟩ := hc
      have hr := opd_rep (a := a) hI (hF.reg (ops := #[]) (fun _ => .u)) (env := []) (i := 0) rfl (fun k hk => absurd hk (Nat.not_lt_zero _)) c1 (fun t d hx hy => absurd (okOpd_loc c1 hx hy) (Nat.not_lt_zero _)) (fun t j hx hy k hk => by simp [dstOf] at hk)
      rw [hcv] at hr
      refine wp_cond (rep_bool hr) ?_
      cases t
      · exact wp_mono ((ih w0 C w a slots nt hI hF).1 _ c3) fun ex2 a2 w2 hp2 => hp2.weaken (.refl C) rfl (fun t ht => by simp only [codeW, Bool.or_eq_false_iff] at ht; exact ht.2)
      · exact wp_mono ((ih w0 C w a slots nt hI hF).1 _ c2) fun ex2 a2 w2 hp2 => hp2.weaken (.refl C) rfl (fun t ht => by simp only [codeW, Bool.or_eq_false_iff] at ht; exact ht.1)
    | _ => exact ih.elim
  | @blockN id a fr m fr' m' h1 ih =>
    refine of_noloop (by simp) fun w0 C w a slots nt hI hF code hc => ?_
    cases code <;> simp [chkC] at hc
    obtain ⟨rfl, hc⟩ := hc
    refine wp_block (wp_mono ((ih w0 C w a slots nt hI hF).1 _ hc) fun ex a' w' hp => ?_)
    obtain ⟨C', p1, p2, p3, rfl, p5⟩ := hp
    simp only [Exit.inBlock, if_true]
    exact ⟨C', p1, p2, p3, rfl, p5⟩
  | @blockX id a fr m e fr' m' h1 hne ih =>
    refine of_noloop (by simp) fun w0 C w a slots nt hI hF code hc => ?_
    cases code <;> simp [chkC] at hc
    obtain ⟨rfl, hc⟩ := hc
    refine wp_block (wp_mono ((ih w0 C w a slots nt hI hF).1 _ hc) fun ex a' w' hp => ?_)
    obtain ⟨C', p1, p2, p3, p4⟩ := hp
    cases e with
    | normal => obtain ⟨rfl, p5⟩ := p4; exact ⟨C', p1, p2, p3, rfl, p5⟩
    | ret => obtain ⟨rfl, p5⟩ := p4; exact ⟨C', p1, p2, p3, rfl, p5⟩
    | pan v => obtain ⟨cv, rfl, p5⟩ := p4; exact ⟨C', p1, p2, p3, cv, rfl, p5⟩
    | exit id' =>
      obtain ⟨rfl, p5⟩ := p4
      simp only [Exit.inBlock]
      rw [if_neg (fun e => hne (congrArg AExit.exit e))]
      exact ⟨C', p1, p2, p3, rfl, p5⟩
  | @loopN ks b fr m fr' m' rr m'' h1 h2 ih1 ih2 =>
    cases rr with
    | exit e fr2 =>
      intro w0 C w a slots nt hI hF
      have key : ∀ code, chkC P xf G slots nt code b = true → LoopGoes P code (PostC G w0 C slots nt (codeW code) m'' e fr2 a.defers) a w := by
        intro code hc
        refine loop_goes (wp_mono ((ih1 w0 C w a slots nt hI hF).1 _ hc) fun ex a' w' hp => ?_)
        obtain ⟨C', p1, p2, p3, rfl, p5⟩ := hp
        have hg := (ih2 w0 C' w' a' slots nt p2 (kills_rel p5 ks)).2 ks b code rfl hc
        intro bf k cs
        obtain ⟨e2, a2, w2, q1, q2⟩ := hg bf k cs
        exact ⟨e2, a2, w2, q1.weaken p1 p3 (fun _ h => h), q2⟩
      refine ⟨fun code hc => ?_, fun ks' b' code he hc => ?_⟩
      · cases code <;> simp [chkC] at hc
        exact (key _ hc).wp
      · injection he with e1 e2; subst e2; exact key code hc
    | _ => exact ih2.elim
  | @loopX ks b fr m e fr' m' h1 hne ih =>
    intro w0 C w a slots nt hI hF
    have key : ∀ code, chkC P xf G slots nt code b = true → LoopGoes P code (PostC G w0 C slots nt (codeW code) m' e fr' a.defers) a w := by
      intro code hc
      refine loop_goes (wp_mono ((ih w0 C w a slots nt hI hF).1 _ hc) fun ex a' w' hp => ?_)
      have hx : ex ≠ .normal := by
        rintro rfl
        obtain ⟨C', p1, p2, p3, p4⟩ := hp
        cases e <;> simp [ExitRep] at p4
        exact hne rfl
      cases ex <;> first | exact absurd rfl hx | exact hp
    refine ⟨fun code hc => ?_, fun ks' b' code he hc => ?_⟩
    · cases code <;> simp [chkC] at hc
      exact (key _ hc).wp
    · injection he with e1 e2; subst e2; exact key code hc
  | @region r fr m env hist m' h1 hst ih =>
    refine of_noloop (by simp) fun w0 C w a slots nt hI hF code hc => ?_
    cases code <;> simp [chkC] at hc
    exact (region_ok hX hm hc hI hF ih).1 env hist rfl hst
  | @regionP r fr m v env hist m' h1 hop hst ih =>
    refine of_noloop (by simp) fun w0 C w a slots nt hI hF code hc => ?_
    cases code <;> simp [chkC] at hc
    exact (region_ok hX hm hc hI hF ih).2 v env hist rfl hop hst
  | opsNil => exact .nil
  | opsSkip h1 h2 ih => exact .skip h1 ih
  | opsP h1 h2 h3 ih => exact .op h1 h2 ih
  | opsC h1 h2 h3 h4 ih => exact .call h1 h2 (hK _ _ _ _ _ h3) ih
  | opsCP h1 h2 h3 => exact .callP h1 h2 (hK _ _ _ _ _ h3)
  | opsPan h1 h2 => exact .pan h1 h2

/-- A call, of its function's code. -/
theorem call_ret (hX : XfOk P xf) (hm : P.follows .mixedOrders = true) {K : FuncId → List AV → Mem → Rs → Mem → Prop} (hK : ∀ f args m r m', K f args m r m' → CallSound P G f args m r m') {f : FuncId} {fn : Func} {q : AFn} (hfn : P.funcs[f]? = some fn) (hok : fnOk P xf G fn q = true)
    {args : List AV} {m m' : Mem} (hl : args.length = q.nparams) {e : AExit} {fr' : List AV} {vs : List AV} (h : Big K (.code q.body (args ++ List.replicate (q.nslots - q.nparams) .u)) m (.exit e fr') m') (he : e = .normal ∨ e = .ret) (hr : resultsOf fr' m' q.results = some vs) :
    CallSound P G f args m (.ret (oneOr vs)) m' := by
  intro w0 C w argsV hI hargs
  obtain ⟨c, hb, hcc, hnt, hpar, hres, hname, hfr⟩ := fn_parts hok hl hargs
  refine ⟨⟨fn, hfn, by rw [hb]; rfl, hname⟩, ?_⟩
  refine calls_of_wp hfn hb (wp_mono ((big_sound hX hm hK h w0 C w { tmps := argsV ++ Array.replicate (fn.ntmps - argsV.size) undef, defers := [] } q.slots fn.ntmps hI hfr).1 _ hcc) fun ex a' w' hp => ?_)
  obtain ⟨C', p1, p2, p3, p4⟩ := hp
  have fin : FrameRel C' q.slots fn.ntmps fr' a'.tmps → bodyPost P fn (fun e w' => ∃ C', Cx.Le C C' ∧ Inv G w0 C' m' w' ∧ OutRep C' (.ret (oneOr vs)) e) .ret a' w' := by
    intro p5
    obtain ⟨v, k1, k2⟩ := results_sound (P := P) p2 p5 hnt hres hr
    exact ⟨p3, v, k1, C', p1, p2, k2⟩
  rcases he with rfl | rfl
  · obtain ⟨rfl, p5⟩ := p4
    exact fin p5
  · obtain ⟨rfl, p5⟩ := p4
    exact fin p5
theorem call_pan (hX : XfOk P xf) (hm : P.follows .mixedOrders = true) {K : FuncId → List AV → Mem → Rs → Mem → Prop} (hK : ∀ f args m r m', K f args m r m' → CallSound P G f args m r m') {f : FuncId} {fn : Func} {q : AFn} (hfn : P.funcs[f]? = some fn) (hok : fnOk P xf G fn q = true)
    {args : List AV} {m m' : Mem} (hl : args.length = q.nparams) {v : AV} {fr' : List AV} (h : Big K (.code q.body (args ++ List.replicate (q.nslots - q.nparams) .u)) m (.exit (.pan v) fr') m') :
    CallSound P G f args m (.raise v) m' := by
  intro w0 C w argsV hI hargs
  obtain ⟨c, hb, hcc, hnt, hpar, hres, hname, hfr⟩ := fn_parts hok hl hargs
  refine ⟨⟨fn, hfn, by rw [hb]; rfl, hname⟩, ?_⟩
  refine calls_of_wp hfn hb (wp_mono ((big_sound hX hm hK h w0 C w { tmps := argsV ++ Array.replicate (fn.ntmps - argsV.size) undef, defers := [] } q.slots fn.ntmps hI hfr).1 _ hcc) fun ex a' w' hp => ?_)
  obtain ⟨C', p1, p2, p3, cv, rfl, p5, _⟩ := hp
  exact ⟨p3, C', p1, p2, cv, rfl, p5⟩
end
end Go.Proofs.YtinlfdkalijffaaDoor.Am
