/-
  THE ABSTRACT MACHINE, 16: an evaluator, and that what it tells is so.
-/
import Derived.Test.YtinlfdkalijffaaDoorAm15
set_option linter.unusedSimpArgs false
set_option linter.unusedVariables false
namespace Go.Proofs.YtinlfdkalijffaaDoor.Am
open Go Go.RowKit

theorem lookup_mem {α : Type} : ∀ {l : List (Nat × α)} {f : Nat} {e : α}, l.lookup f = some e → (f, e) ∈ l
  | (k, v) :: l, f, e, h => by
    simp only [List.lookup] at h
    split at h
    · rename_i hk
      have : f = k := by simpa using hk
      injection h with h; subst h; subst this; exact List.mem_cons_self
    · exact List.mem_cons_of_mem _ (lookup_mem h)
  | [], _, _, h => by simp [List.lookup] at h

/-! ### equal values, where that is plain -/
def same1 : AV → AV → Bool
  | .bool a, .bool b => a == b
  | .int k a, .int l b => decide (k = l) && decide (a = b)
  | .str a, .str b => a == b
  | .nilSl, .nilSl => true
  | .nilPtr, .nilPtr => true
  | .nilMap, .nilMap => true
  | .nilFn, .nilFn => true
  | .nilIface, .nilIface => true
  | .ptr i o, .ptr j p => decide (i = j) && decide (o = p)
  | .map i, .map j => decide (i = j)
  | _, _ => false
theorem same1_eq {a b : AV} (h : same1 a b = true) : a = b := by
  unfold same1 at h
  split at h <;> first | (cases h; done) | (simp_all; done) | rfl
def sameL (f : AV → AV → Bool) : List AV → List AV → Bool
  | [], [] => true
  | a :: as, b :: bs => f a b && sameL f as bs
  | _, _ => false
def sameN : Nat → AV → AV → Bool
  | 0, _, _ => false
  | n + 1, a, b => match a, b with
    | .agg a, .agg b => sameL (sameN n) a b
    | .tup a, .tup b => sameL (sameN n) a b
    | .sl o sz a, .sl o' sz' b => decide (o = o') && decide (sz = sz') && sameL (sameN n) a b
    | a, b => same1 a b
def sameV : AV → AV → Bool := sameN 200
theorem sameL_eq {f : AV → AV → Bool} (hf : ∀ {a b}, f a b = true → a = b) : ∀ {a b : List AV}, sameL f a b = true → a = b
  | [], [], _ => rfl
  | x :: a, y :: b, h => by
    simp only [sameL, Bool.and_eq_true] at h
    rw [hf h.1, sameL_eq hf h.2]
  | [], _ :: _, h => by simp [sameL] at h
  | _ :: _, [], h => by simp [sameL] at h
theorem sameN_eq : ∀ {n : Nat} {a b : AV}, sameN n a b = true → a = b
  | 0, _, _, h => by simp [sameN] at h
  | n + 1, a, b, h => by
    unfold sameN at h
    split at h
    · rw [sameL_eq sameN_eq h]
    · rw [sameL_eq sameN_eq h]
    · simp only [Bool.and_eq_true, decide_eq_true_eq] at h
      rw [h.1.1, h.1.2, sameL_eq sameN_eq h.2]
    · exact same1_eq h
theorem sameV_eq {a b : AV} (h : sameV a b = true) : a = b := sameN_eq h
def readsV (o : AOp) (ρ : Opd → AV) (m : Mem) (v : AV) : Bool :=
  match evalP ρ m o with
  | some (u', _) => sameV u' v
  | none => false
def rereadsB (os : List (AOp × Option (Opd × Bool))) (env fr : List AV) (hist : List Mem) (i k : Nat) : Bool :=
  match os[i]? with
  | some (o, g) => (match wants (Opd.ev (env.drop (env.length - i)) fr) g with
    | some true => (match (hist.reverse)[k]?, (hist.reverse)[k + 1]? with
      | some m, some m' => readsV o (Opd.ev (env.drop (env.length - i)) fr) m (env.getD (env.length - 1 - i) .u) && readsV o (Opd.ev (env.drop (env.length - i)) fr) m' (env.getD (env.length - 1 - i) .u)
      | _, _ => true)
    | _ => true)
  | none => false
def stableB (r : ARegion) (env fr : List AV) (hist : List Mem) : Bool :=
  r.pairs.all fun p => !(decide (p.1 < env.length) && decide (p.2 < env.length)) || rereadsB r.ops env fr hist p.1 p.2
theorem readsV_eq {o : AOp} {ρ : Opd → AV} {m : Mem} {v : AV} (h : readsV o ρ m v = true) : (evalP ρ m o).map (·.1) = some v := by
  unfold readsV at h
  split at h
  · rename_i h1; rw [h1]; simp [sameV_eq h]
  · cases h
theorem stableB_ok {r : ARegion} {env fr : List AV} {hist : List Mem} (h : stableB r env fr hist = true) : Stable r env fr hist := by
  intro p hp h1 h2
  have := List.all_eq_true.1 h p hp
  simp only [h1, h2, decide_true, Bool.and_self, Bool.not_true, Bool.false_or] at this
  unfold rereadsB at this
  unfold rereads
  split at this
  · rename_i o g ho
    simp only [ho]
    intro hw m m' hm hm'
    rw [hw] at this
    simp only [hm, hm', Bool.and_eq_true] at this
    exact ⟨readsV_eq this.1, readsV_eq this.2⟩
  · cases this

inductive FEntry where
  | fn (q : AFn) | dfr (q : ADfr)
inductive TkE where
  | code (c : ACode) (fr : List AV)
  | ops (os : List (AOp × Option (Opd × Bool))) (env fr : List AV) (d : Bool) (hist : List Mem)
  | call (f : FuncId) (args : List AV)

def run (F : FuncId → Option FEntry) : Nat → TkE → Mem → Option (Rs × Mem)
  | 0, _, _ => none
  | n + 1, .code c fr, m => (match c with
    | .skip => some (.exit .normal fr, m)
    | .exit id => some (.exit (.exit id) fr, m)
    | .ret => some (.exit .ret fr, m)
    | .stuck => none
    | .seq a b => (match run F n (.code a fr) m with
      | some (.exit .normal fr', m') => run F n (.code b fr') m'
      | some (.exit e fr', m') => some (.exit e fr', m')
      | _ => none)
    | .cond c a b => (match c.ev [] fr with
      | .bool true => run F n (.code a fr) m
      | .bool false => run F n (.code b fr) m
      | _ => none)
    | .block id a => (match run F n (.code a fr) m with
      | some (.exit (.exit id') fr', m') => if id' = id then some (.exit .normal fr', m') else some (.exit (.exit id') fr', m')
      | some (.exit e fr', m') => some (.exit e fr', m')
      | _ => none)
    | .loop ks a => (match run F n (.code a fr) m with
      | some (.exit .normal fr', m') => run F n (.code (.loop ks a) (kills ks fr')) m'
      | some (.exit e fr', m') => some (.exit e fr', m')
      | _ => none)
    | .region r => (match run F n (.ops r.ops [] fr (!r.pairs.isEmpty) []) m with
      | some (.env env hist, m') => if stableB r env fr (pushH (!r.pairs.isEmpty) m' hist) then some (.exit .normal (exports env fr r.exp), m') else none
      | some (.pan v env hist, m') => if (!r.draws || decide (env.length ∈ r.okPan)) && stableB r env fr hist then some (.exit (.pan v) fr, m') else none
      | _ => none))
  | n + 1, .ops os env fr d h, m => (match os with
    | [] => some (.env env h, m)
    | (o, g) :: os => (match wants (Opd.ev env fr) g with
      | some false => run F n (.ops os (.tup [] :: env) fr d (pushH d m h)) m
      | some true => (match callOf (Opd.ev env fr) o with
        | some (f, args) => (match run F n (.call f args) m with
          | some (.ret v, m1) => run F n (.ops os (v :: env) fr d (pushH d m h)) m1
          | some (.raise v, m1) => some (.pan v env (pushH d m h), m1)
          | _ => none)
        | none => (match o with
          | .panic x => (match Opd.ev env fr x with
            | .iface t v => some (.pan (.iface t v) env (pushH d m h), m)
            | _ => none)
          | o => (match evalP (Opd.ev env fr) m o with
            | some (v, m1) => run F n (.ops os (v :: env) fr d (pushH d m h)) m1
            | none => none)))
      | none => none))
  | n + 1, .call f args, m => (match F f with
    | some (.fn q) => if args.length = q.nparams then (match run F n (.code q.body (args ++ List.replicate (q.nslots - q.nparams) .u)) m with
      | some (.exit (.pan v) _, m') => some (.raise v, m')
      | some (.exit (.exit _) _, _) => none
      | some (.exit _ fr', m') => (match resultsOf fr' m' q.results with
        | some vs => some (.ret (oneOr vs), m')
        | none => none)
      | _ => none) else none
    | some (.dfr q) => if args.length = q.nparams then (match run F n (.code q.head (args ++ List.replicate (q.slots.length - q.nparams) .u)) m with
      | some (.exit .normal fr1, m1) => (match run F n (.code q.rest fr1) m1 with
        | some (.exit e fr2, m2) => (match (match e with | .normal => some AV.nilIface | .ret => some AV.nilIface | .pan v => some v | .exit _ => none) with
          | some V => (match run F n (.code q.grest (gframe q fr1 V)) m2 with
            | some (.exit .normal _, m3) => (match resultsOf fr2 m3 q.results with
              | some vs => some (.ret (oneOr vs), m3)
              | none => none)
            | some (.exit .ret _, m3) => (match resultsOf fr2 m3 q.results with
              | some vs => some (.ret (oneOr vs), m3)
              | none => none)
            | _ => none)
          | none => none)
        | _ => none)
      | _ => none) else none
    | none => none)

def FEntryOk (P : Program) (xf : FuncId → Nat) (G : Nat → Option (List AV)) (f : FuncId) : FEntry → Prop
  | .fn q => ∃ fn, P.funcs[f]? = some fn ∧ fnOk P xf G fn q = true
  | .dfr q => ∃ fn gn, P.funcs[f]? = some fn ∧ P.funcs[q.g]? = some gn ∧ dfrOk P xf G fn gn q = true
def FTOk (P : Program) (xf : FuncId → Nat) (G : Nat → Option (List AV)) (F : FuncId → Option FEntry) : Prop := ∀ f e, F f = some e → FEntryOk P xf G f e

def RunMeans (P : Program) (G : Nat → Option (List AV)) : TkE → Mem → Rs → Mem → Prop
  | .code c fr, m, r, m' => Big (CallSound P G) (.code c fr) m r m'
  | .ops os env fr d h, m, r, m' => Big (CallSound P G) (.ops os env fr d h) m r m'
  | .call f args, m, r, m' => CallSound P G f args m r m'

theorem run_sound {P : Program} {xf : FuncId → Nat} {G : Nat → Option (List AV)} {F : FuncId → Option FEntry} (hX : XfOk P xf) (hm : P.follows .mixedOrders = true) (hF : FTOk P xf G F) : ∀ {n : Nat} {t : TkE} {m : Mem} {r : Rs} {m' : Mem}, run F n t m = some (r, m') → RunMeans P G t m r m' := by
  intro n
  induction n with
  | zero => intro t m r m' h; simp [run] at h
  | succ n ih =>
    intro t m r m' h
    cases t with
    | code c fr =>
      cases c with
      | skip => simp only [run, Option.some.injEq, Prod.mk.injEq] at h; obtain ⟨rfl, rfl⟩ := h; exact .skip
      | exit id => simp only [run, Option.some.injEq, Prod.mk.injEq] at h; obtain ⟨rfl, rfl⟩ := h; exact .exit
      | ret => simp only [run, Option.some.injEq, Prod.mk.injEq] at h; obtain ⟨rfl, rfl⟩ := h; exact .ret
      | stuck => simp [run] at h
      | seq a b =>
        simp only [run] at h
        split at h
        · rename_i h1; exact .seqN (ih h1) (ih h)
        · rename_i e fr' m1 h1
          simp only [Option.some.injEq, Prod.mk.injEq] at h; obtain ⟨rfl, rfl⟩ := h
          exact .seqX (ih h1) (by assumption)
        · cases h
      | cond c a b =>
        simp only [run] at h
        split at h
        · rename_i h1; exact .cond h1 (ih h)
        · rename_i h1; exact .cond h1 (ih h)
        · cases h
      | block id a =>
        simp only [run] at h
        split at h
        · rename_i id' fr' m1 h1
          split at h
          · rename_i e; subst e
            simp only [Option.some.injEq, Prod.mk.injEq] at h; obtain ⟨rfl, rfl⟩ := h
            exact .blockN (ih h1)
          · rename_i e
            simp only [Option.some.injEq, Prod.mk.injEq] at h; obtain ⟨rfl, rfl⟩ := h
            exact .blockX (ih h1) (fun h => by injection h with h; exact e h)
        · rename_i e fr' m1 hne h1
          simp only [Option.some.injEq, Prod.mk.injEq] at h; obtain ⟨rfl, rfl⟩ := h
          exact .blockX (ih h1) (fun h => hne _ h)
        · cases h
      | loop ks a =>
        simp only [run] at h
        split at h
        · rename_i h1; exact .loopN (ih h1) (ih h)
        · rename_i e fr' m1 h1
          simp only [Option.some.injEq, Prod.mk.injEq] at h; obtain ⟨rfl, rfl⟩ := h
          exact .loopX (ih h1) (by assumption)
        · cases h
      | region r =>
        simp only [run] at h
        split at h
        · rename_i env hist m1 h1
          split at h
          · rename_i hs
            simp only [Option.some.injEq, Prod.mk.injEq] at h; obtain ⟨rfl, rfl⟩ := h
            exact .region (ih h1) (stableB_ok hs)
          · cases h
        · rename_i v env hist m1 h1
          split at h
          · rename_i hs
            simp only [Bool.and_eq_true, Bool.or_eq_true, Bool.not_eq_true', decide_eq_true_eq] at hs
            simp only [Option.some.injEq, Prod.mk.injEq] at h; obtain ⟨rfl, rfl⟩ := h
            exact .regionP (ih h1) (fun hd => hs.1.resolve_left (by simp [hd])) (stableB_ok hs.2)
          · cases h
        · cases h
    | ops os env fr d hi =>
      cases os with
      | nil => simp only [run, Option.some.injEq, Prod.mk.injEq] at h; obtain ⟨rfl, rfl⟩ := h; exact .opsNil
      | cons og os =>
        obtain ⟨o, g⟩ := og
        simp only [run] at h
        split at h
        · rename_i h1; exact .opsSkip h1 (ih h)
        · rename_i h1
          split at h
          · rename_i f args h2
            split at h
            · rename_i h3; exact .opsC h1 h2 (ih h3) (ih h)
            · rename_i h3
              simp only [Option.some.injEq, Prod.mk.injEq] at h; obtain ⟨rfl, rfl⟩ := h
              exact .opsCP h1 h2 (ih h3)
            · cases h
          · split at h
            · split at h
              · rename_i h3
                simp only [Option.some.injEq, Prod.mk.injEq] at h; obtain ⟨rfl, rfl⟩ := h
                exact .opsPan h1 h3
              · cases h
            · split at h
              · rename_i h3; exact .opsP h1 h3 (ih h)
              · cases h
        · cases h
    | call f args =>
      simp only [run] at h
      split at h
      · rename_i q hq
        obtain ⟨fn, hfn, hok⟩ := hF f _ hq
        split at h
        · rename_i hl
          split at h
          · rename_i h1
            simp only [Option.some.injEq, Prod.mk.injEq] at h; obtain ⟨rfl, rfl⟩ := h
            exact call_pan hX hm (fun _ _ _ _ _ h => h) hfn hok hl (ih h1)
          · cases h
          · rename_i e fr' m1 hn1 hn2 h1
            split at h
            · rename_i vs hv
              simp only [Option.some.injEq, Prod.mk.injEq] at h; obtain ⟨rfl, rfl⟩ := h
              refine call_ret hX hm (fun _ _ _ _ _ h => h) hfn hok hl (ih h1) ?_ hv
              cases e with
              | normal => exact .inl rfl
              | ret => exact .inr rfl
              | exit id => exact absurd rfl (hn2 id)
              | pan v => exact absurd rfl (hn1 v)
            · cases h
          · cases h
        · cases h
      · rename_i q hq
        obtain ⟨fn, gn, hfn, hgn, hok⟩ := hF f _ hq
        split at h
        · rename_i hl
          split at h
          · rename_i fr1 m1 h1
            split at h
            · rename_i e fr2 m2 h2
              split at h
              · rename_i V hV
                have hD : DEnd e V := by
                  cases e <;> simp at hV <;> subst hV
                  · exact .inl ⟨.inl rfl, rfl⟩
                  · exact .inl ⟨.inr rfl, rfl⟩
                  · exact .inr rfl
                split at h
                · rename_i h3
                  split at h
                  · rename_i vs hv
                    simp only [Option.some.injEq, Prod.mk.injEq] at h; obtain ⟨rfl, rfl⟩ := h
                    exact dfr_ret hX hm (fun _ _ _ _ _ h => h) hfn hgn hok hl (ih h1) (ih h2) hD (ih h3) (.inl rfl) hv
                  · cases h
                · rename_i h3
                  split at h
                  · rename_i vs hv
                    simp only [Option.some.injEq, Prod.mk.injEq] at h; obtain ⟨rfl, rfl⟩ := h
                    exact dfr_ret hX hm (fun _ _ _ _ _ h => h) hfn hgn hok hl (ih h1) (ih h2) hD (ih h3) (.inr rfl) hv
                  · cases h
                · cases h
              · cases h
            · cases h
          · cases h
        · cases h
      · cases h
end Go.Proofs.YtinlfdkalijffaaDoor.Am
