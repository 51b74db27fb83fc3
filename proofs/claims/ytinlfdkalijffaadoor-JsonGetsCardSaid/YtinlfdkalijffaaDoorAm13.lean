/-
  THE ABSTRACT MACHINE, 13: a region, its order open or not.
-/
import Derived.Test.YtinlfdkalijffaaDoorAm12
import Derived.Orders
set_option linter.unusedSimpArgs false
set_option linter.unusedVariables false
namespace Go.Proofs.YtinlfdkalijffaaDoor.Am
open Go Go.RowKit

def ExitRep (C : Cx) (slots : List Tmp) (nt : Nat) (wr : Tmp → Bool) (e : AExit) (fr : List AV) (ex : Exit) (tmps : Array Value) : Prop :=
  match e with
  | .normal => ex = .normal ∧ FrameRel C slots nt fr tmps
  | .exit id => ex = .exit id ∧ FrameRel C slots nt fr tmps
  | .ret => ex = .ret ∧ FrameRel C slots nt fr tmps
  | .pan v => ∃ cv, ex = .panic [{ v := cv, recovered := false }] ∧ Rep C v cv ∧ tmps.size = nt ∧ ∀ (j : Nat) (t : Tmp), slots[j]? = some t → wr t = false → Rep C (fr.getD j .u) (tmps.getD t undef)
def PostC (G : Nat → Option (List AV)) (w0 : World) (C : Cx) (slots : List Tmp) (nt : Nat) (wr : Tmp → Bool) (m' : Mem) (e : AExit) (fr' : List AV) (ds : List Deferred) : Exit → Act → World → Prop :=
  fun ex a' w' => ∃ C', Cx.Le C C' ∧ Inv G w0 C' m' w' ∧ a'.defers = ds ∧ ExitRep C' slots nt wr e fr' ex a'.tmps


/-! ### operations that leave memory, and those that do not even read it -/
def quietOp : AOp → Bool
  | .alloc _ _ | .box _ _ | .store _ _ _ | .bytesOf _ _ | .mkMap | .mkSl _ _ _ _ _ _ | .mapUpd _ _ _ _ | .del _ _ _ | .rangeS _ | .nextS _ | .append _ _ _ _ _ | .sliceData _ | .panic _ | .call _ _ | .callV _ _ => false
  | _ => true
def pureOp : AOp → Bool
  | .load _ _ _ | .lookup _ _ _ _ _ | .convP _ | .convU _ _ | .eq _ (.leaf .ptr) _ _ | .len .map _ => false
  | o => quietOp o
theorem quiet_mem {ρ : Opd → AV} {m m1 : Mem} {o : AOp} {v : AV} (hq : quietOp o = true) (h : evalP ρ m o = some (v, m1)) : m1 = m := by
  cases o <;> first | (simp [quietOp] at hq; done) | skip
  all_goals
    simp only [evalP] at h
    first
    | (simp only [Option.some.injEq, Prod.mk.injEq] at h; exact h.2.symm)
    | (split at h
       · first
         | (simp only [Option.some.injEq, Prod.mk.injEq] at h; exact h.2.symm)
         | (split at h
            · first
              | (simp only [Option.some.injEq, Prod.mk.injEq] at h; exact h.2.symm)
            · cases h)
       · cases h)
theorem eq_safe {l : EqL} {m : Mem} {a b : AV} {r : Bool} (hl : l ≠ .ptr) (h : eqL l a b = some r) : eqSafeB m a b = true := by
  cases l <;> cases a <;> cases b <;> first | rfl | (simp [eqL] at h; done) | exact absurd rfl hl
theorem pure_any {ρ : Opd → AV} {m m1 : Mem} {o : AOp} {v : AV} (hq : pureOp o = true) (h : evalP ρ m o = some (v, m1)) (m2 : Mem) : evalP ρ m2 o = some (v, m2) := by
  have hq' : quietOp o = true := by
    unfold pureOp at hq
    split at hq <;> first | (cases hq; done) | exact hq
  have hm := quiet_mem hq' h
  subst hm
  cases o
  case eq neg t x y =>
    simp only [evalP] at h ⊢
    split at h
    · rename_i b hs hb
      injection h with h; injection h with h
      have : eqSafeB m2 (ρ x) (ρ y) = true := by
        cases t with
        | leaf l =>
          refine eq_safe (l := l) (fun e => ?_) hb
          subst e; simp [pureOp] at hq
        | struct fs =>
          cases hx : ρ x <;> first | rfl | (rw [hx] at hb; simp [eqV] at hb)
      rw [this, hb]
      simp [h]
    · cases h
  case len k x =>
    simp only [evalP] at h ⊢
    cases k
    case map => simp [pureOp] at hq
    all_goals
      cases hx : ρ x <;> rw [hx] at h <;> simp [isLK, lenV] at h ⊢ <;> exact h
  all_goals first | (simp [pureOp, quietOp] at hq; done) | skip
  all_goals
    simp only [evalP] at h ⊢
    first
    | (simp only [Option.some.injEq, Prod.mk.injEq] at h ⊢; exact ⟨h.1, trivial⟩)
    | (split at h
       · first
         | (simp only [Option.some.injEq, Prod.mk.injEq] at h ⊢; simp_all; done)
         | (split at h
            · simp_all
            · cases h)
       · cases h)

/-! ### a region's steps, numbered -/
def pre {α : Type} (T : Nat → α) (n : Nat) : List α := ((List.range n).map T).reverse
theorem pre_succ {α : Type} (T : Nat → α) (n : Nat) : pre T (n + 1) = T n :: pre T n := by simp [pre, List.range_succ]
theorem pre_length {α : Type} (T : Nat → α) (n : Nat) : (pre T n).length = n := by simp [pre]
theorem pre_get {α : Type} (T : Nat → α) : ∀ (n k : Nat) (d : α), k < n → (pre T n).getD (n - 1 - k) d = T k
  | 0, k, d, h => by omega
  | n + 1, k, d, h => by
    rw [pre_succ]
    by_cases e : k = n
    · subst e; simp
    · have e1 : n + 1 - 1 - k = (n - 1 - k) + 1 := by omega
      rw [e1, List.getD_cons_succ]
      exact pre_get T n k d (by omega)
theorem pre_drop {α : Type} (T : Nat → α) : ∀ (n i : Nat), i ≤ n → (pre T n).drop (n - i) = pre T i
  | 0, i, h => by obtain rfl : i = 0 := by omega
                  rfl
  | n + 1, i, h => by
    by_cases e : i = n + 1
    · subst e; simp
    · have e1 : n + 1 - i = (n - i) + 1 := by omega
      rw [e1, pre_succ, List.drop_succ_cons]
      exact pre_drop T n i (by omega)
theorem pre_rev {α : Type} (T : Nat → α) (n k : Nat) (h : k < n) : ((pre T n).reverse)[k]? = some (T k) := by simp [pre, h]

def StepRel (P : Program) (G : Nat → Option (List AV)) (fr : List AV) (T : Nat → AV) (M : Nat → Mem) (i : Nat) (o : AOp) (g : Option (Opd × Bool)) : Prop :=
  (wants (Opd.ev (pre T i) fr) g = some false ∧ T i = .tup [] ∧ M (i + 1) = M i) ∨
  (wants (Opd.ev (pre T i) fr) g = some true ∧ evalP (Opd.ev (pre T i) fr) (M i) o = some (T i, M (i + 1))) ∨
  (wants (Opd.ev (pre T i) fr) g = some true ∧ ∃ f args, callOf (Opd.ev (pre T i) fr) o = some (f, args) ∧ CallSound P G f args (M i) (.ret (T i)) (M (i + 1)))
def PanRel (P : Program) (G : Nat → Option (List AV)) (fr : List AV) (T : Nat → AV) (M : Nat → Mem) (i : Nat) (o : AOp) (g : Option (Opd × Bool)) (v : AV) (m' : Mem) : Prop :=
  wants (Opd.ev (pre T i) fr) g = some true ∧
  ((∃ f args, callOf (Opd.ev (pre T i) fr) o = some (f, args) ∧ CallSound P G f args (M i) (.raise v) m') ∨
   ∃ x t p, o = .panic x ∧ Opd.ev (pre T i) fr x = .iface t p ∧ v = .iface t p ∧ m' = M i)

theorem pre_congr {α : Type} {T T' : Nat → α} {n : Nat} (h : ∀ k, k < n → T k = T' k) : pre T n = pre T' n := by
  simp only [pre]
  congr 1
  apply List.map_congr_left
  intro k hk
  exact h k (List.mem_range.1 hk)
def EndRel (P : Program) (G : Nat → Option (List AV)) (os : List (AOp × Option (Opd × Bool))) (fr : List AV) (d : Bool) (r : Rs) (m' : Mem) (T : Nat → AV) (M : Nat → Mem) (b N : Nat) : Prop :=
  (N = b + os.length ∧ M N = m' ∧ ∃ h', r = .env (pre T N) h' ∧ (d = true → h' = pre M N)) ∨
  ∃ v h' o g, r = .pan v (pre T N) h' ∧ (d = true → h' = pre M (N + 1)) ∧ os[N - b]? = some (o, g) ∧ PanRel P G fr T M N o g v m'
theorem tr_data {P : Program} {G : Nat → Option (List AV)} {os : List (AOp × Option (Opd × Bool))} {env fr : List AV} {d : Bool} {hist : List Mem} {m : Mem} {r : Rs} {m' : Mem} (ht : Tr P G os env fr d hist m r m') :
    ∀ (b : Nat) (T0 : Nat → AV) (M0 : Nat → Mem), env = pre T0 b → M0 b = m → (d = true → hist = pre M0 b) →
    ∃ (N : Nat) (T : Nat → AV) (M : Nat → Mem), (∀ k, k < b → T k = T0 k) ∧ (∀ k, k ≤ b → M k = M0 k) ∧ b ≤ N ∧
      (∀ i, b ≤ i → i < N → ∃ o g, os[i - b]? = some (o, g) ∧ StepRel P G fr T M i o g) ∧ EndRel P G os fr d r m' T M b N := by
  have next : ∀ {o : AOp} {g : Option (Opd × Bool)} {os : List (AOp × Option (Opd × Bool))} {env fr : List AV} {d : Bool} {h : List Mem} {m : Mem} {r : Rs} {m' : Mem} {v : AV} {m1 : Mem} (b : Nat) (T0 : Nat → AV) (M0 : Nat → Mem), env = pre T0 b → M0 b = m → (d = true → h = pre M0 b) →
      ((∀ (T : Nat → AV) (M : Nat → Mem), pre T b = env → T b = v → M b = m → M (b + 1) = m1 → StepRel P G fr T M b o g)) →
      (∀ (b : Nat) (T0 : Nat → AV) (M0 : Nat → Mem), v :: env = pre T0 b → M0 b = m1 → (d = true → pushH d m h = pre M0 b) →
        ∃ (N : Nat) (T : Nat → AV) (M : Nat → Mem), (∀ k, k < b → T k = T0 k) ∧ (∀ k, k ≤ b → M k = M0 k) ∧ b ≤ N ∧
        (∀ i, b ≤ i → i < N → ∃ o g, os[i - b]? = some (o, g) ∧ StepRel P G fr T M i o g) ∧ EndRel P G os fr d r m' T M b N) →
      ∃ (N : Nat) (T : Nat → AV) (M : Nat → Mem), (∀ k, k < b → T k = T0 k) ∧ (∀ k, k ≤ b → M k = M0 k) ∧ b ≤ N ∧
        (∀ i, b ≤ i → i < N → ∃ o' g', ((o, g) :: os)[i - b]? = some (o', g') ∧ StepRel P G fr T M i o' g') ∧ EndRel P G ((o, g) :: os) fr d r m' T M b N := by
    intro o g os env fr d h m r m' v m1 b T0 M0 he hm hh hstep ih
    have c1 : pre (fun k => if k = b then v else T0 k) b = env := by
      rw [he]; exact pre_congr fun k hk => if_neg (by omega)
    have c2 : pre (fun k => if k = b + 1 then m1 else M0 k) b = pre M0 b := pre_congr fun k hk => if_neg (by omega)
    obtain ⟨N, T, M, k1, k2, k3, k4, k5⟩ := ih (b + 1) (fun k => if k = b then v else T0 k) (fun k => if k = b + 1 then m1 else M0 k) (by rw [pre_succ, c1]; simp) (by simp)
      (fun hd => by rw [pre_succ, c2, ← hh hd, if_neg (by omega), hm]; simp [pushH, hd])
    have q1 : ∀ k, k < b → T k = T0 k := fun k hk => by rw [k1 k (by omega)]; exact if_neg (by omega)
    have q2 : ∀ k, k ≤ b → M k = M0 k := fun k hk => by rw [k2 k (by omega)]; exact if_neg (by omega)
    refine ⟨N, T, M, q1, q2, by omega, fun i h1 h2 => ?_, ?_⟩
    · by_cases e : i = b
      · subst e
        refine ⟨o, g, by simp, hstep T M (by rw [he]; exact pre_congr q1) (by rw [k1 _ (by omega)]; simp) (by rw [q2 _ (by omega)]; exact hm) (by rw [k2 _ (by omega)]; simp)⟩
      · obtain ⟨o', g', r1, r2⟩ := k4 i (by omega) h2
        have e1 : i - b = (i - (b + 1)) + 1 := by omega
        exact ⟨o', g', by rw [e1, List.getElem?_cons_succ]; exact r1, r2⟩
    · rcases k5 with ⟨r1, r2, r3⟩ | ⟨v', h', o', g', r1, r2, r3, r4⟩
      · exact .inl ⟨by simp only [List.length_cons]; omega, r2, r3⟩
      · have e1 : N - b = (N - (b + 1)) + 1 := by omega
        exact .inr ⟨v', h', o', g', r1, r2, by rw [e1, List.getElem?_cons_succ]; exact r3, r4⟩
  induction ht with
  | @nil env fr d h m =>
    intro b T0 M0 he hm hh
    exact ⟨b, T0, M0, fun _ _ => rfl, fun _ _ => rfl, Nat.le_refl _, fun i h1 h2 => absurd h1 (by omega), .inl ⟨by simp, hm, h, by rw [he], hh⟩⟩
  | @skip o g os env fr d h m r m' hw _ ih =>
    intro b T0 M0 he hm hh
    exact next b T0 M0 he hm hh (fun T M e1 e2 e3 e4 => .inl ⟨by rw [e1]; exact hw, e2, by rw [e3, e4]⟩) ih
  | @op o g os env fr d h m v m1 r m' hw hev _ ih =>
    intro b T0 M0 he hm hh
    exact next b T0 M0 he hm hh (fun T M e1 e2 e3 e4 => .inr (.inl ⟨by rw [e1]; exact hw, by rw [e1, e2, e3, e4]; exact hev⟩)) ih
  | @call o g os env fr d h m f args v m1 r m' hw hev hcs _ ih =>
    intro b T0 M0 he hm hh
    exact next b T0 M0 he hm hh (fun T M e1 e2 e3 e4 => .inr (.inr ⟨by rw [e1]; exact hw, f, args, by rw [e1]; exact hev, by rw [e2, e3, e4]; exact hcs⟩)) ih
  | @callP o g os env fr d h m f args v m1 hw hev hcs =>
    intro b T0 M0 he hm hh
    refine ⟨b, T0, M0, fun _ _ => rfl, fun _ _ => rfl, Nat.le_refl _, fun i h1 h2 => absurd h1 (by omega), .inr ⟨v, _, o, g, by rw [he], fun hd => ?_, by simp, by rw [← he]; exact hw, .inl ⟨f, args, by rw [← he]; exact hev, by rw [hm]; exact hcs⟩⟩⟩
    rw [pre_succ, ← hh hd, hm]; simp [pushH, hd]
  | @pan x g os env fr d h m t v hw hx =>
    intro b T0 M0 he hm hh
    refine ⟨b, T0, M0, fun _ _ => rfl, fun _ _ => rfl, Nat.le_refl _, fun i h1 h2 => absurd h1 (by omega), .inr ⟨.iface t v, _, .panic x, g, by rw [he], fun hd => ?_, by simp, by rw [← he]; exact hw, .inr ⟨x, t, v, rfl, by rw [← he]; exact hx, rfl, hm.symm⟩⟩⟩
    rw [pre_succ, ← hh hd, hm]; simp [pushH, hd]

/-- Is the slot t written by this code? -/
def regW (ops : Array Oper) (t : Tmp) : Bool := ops.any fun o => decide (o.dst = some t)
theorem regW_spec {ops : Array Oper} {t : Tmp} (h : regW ops t = false) (i : Nat) : dstOf ops i ≠ some t := by
  intro hd
  unfold dstOf at hd
  cases ho : ops[i]? with
  | none => rw [ho] at hd; cases hd
  | some o =>
    rw [ho] at hd
    have h1 := Array.any_eq_false.1 h i (Array.getElem?_eq_some_iff.1 ho).1
    rw [(Array.getElem?_eq_some_iff.1 ho).2] at h1
    simp only [decide_eq_true_eq] at h1
    exact h1 hd
/-- What an open order asks for besides. -/
def predsOf (r : ARegion) (i : Nat) : List Nat := r.preds.getD i []
def effAt (r : ARegion) (i : Nat) : Bool :=
  match r.ops[i]? with
  | some (a, _) => !quietOp a
  | none => false
def drawX (r : ARegion) (ops : Array Oper) (i : Nat) (x : Operand) (y : Opd) : Bool :=
  match x, y with
  | .tmp _, .loc d => decide (i - 1 - d ∈ predsOf r i)
  | .tmp t, .var _ => (List.range ops.size).all fun k => decide (dstOf ops k ≠ some t) || decide (k ≤ i) || decide (i ∈ predsOf r k)
  | _, _ => true
def chkPred (ops : Array Oper) (r : ARegion) (i : Nat) : Bool :=
  match ops[i]?, r.ops[i]? with
  | some o, some (a, _) =>
    o.after.toList.all (fun e => !Region.binds .any e || decide (e.on < i)) &&
    (predsOf r i).all (fun p => decide (p < i) && o.after.toList.any fun e => Region.binds .any e && (decide (e.on = p) || decide (p ∈ predsOf r e.on))) &&
    (match o.guard with | some (k, _) => decide (k ∈ predsOf r i) | none => true) &&
    (if quietOp a then pureOp a || (List.range ops.size).all fun k => !effAt r k || decide (k ∈ predsOf r i) || decide (i ∈ predsOf r k) || decide ((i, k) ∈ r.pairs)
     else (List.range i).all fun k => !effAt r k || decide (k ∈ predsOf r i))
  | _, _ => false
def chkDraw (ops : Array Oper) (r : ARegion) : Bool :=
  (List.range ops.size).all (chkPred ops r) && r.okPan.all fun i => (List.range ops.size).all fun k => decide (k ≤ i) || decide (i ∈ predsOf r k)
def chkReg (P : Program) (xf : FuncId → Nat) (G : Nat → Option (List AV)) (slots : List Tmp) (nt : Nat) (ops : Array Oper) (draw : Bool) (r : ARegion) : Bool :=
  decide (r.draws = draw) && chkOps P xf G slots nt ops (if draw then drawX r ops else fun _ _ _ => true) 0 r.ops && chkExp slots ops ops.size r.exp && (!draw || chkDraw ops r)

section
variable {G : Nat → Option (List AV)} {w0 : World} {C : Cx} {m : Mem} {w : World} {P : Program} {xf : FuncId → Nat} {slots : List Tmp} {nt : Nat} {ops : Array Oper}

theorem chkOps_at {okx : Nat → Operand → Opd → Bool} : ∀ {os : List (AOp × Option (Opd × Bool))} {b : Nat}, chkOps P xf G slots nt ops okx b os = true → ops.size = b + os.length ∧
    ∀ i a g, os[i]? = some (a, g) → ∃ o, ops[b + i]? = some o ∧ chkStep P xf (fun x y => okOpd G slots ops (b + i) x y && okx (b + i) x y) o a = true ∧ guardOk ops (b + i) o.guard g = true ∧
      (match o.dst with | some t => decide (t < nt) && (List.range (b + i)).all fun k => decide (dstOf ops k ≠ some t) | none => true) = true
  | [], b, h => by
    simp only [chkOps, decide_eq_true_eq] at h
    exact ⟨by simpa using h, fun i a g hi => by simp at hi⟩
  | (a, g) :: os, b, h => by
    simp only [chkOps, Bool.and_eq_true] at h
    obtain ⟨h1, h2⟩ := h
    obtain ⟨k1, k2⟩ := chkOps_at h2
    refine ⟨by simp only [List.length_cons]; omega, fun i a' g' hi => ?_⟩
    cases i with
    | zero =>
      simp only [List.getElem?_cons_zero, Option.some.injEq, Prod.mk.injEq] at hi
      obtain ⟨rfl, rfl⟩ := hi
      split at h1
      · rename_i o ho
        simp only [Bool.and_eq_true] at h1
        exact ⟨o, ho, h1.1.1, h1.1.2, h1.2⟩
      · cases h1
    | succ i =>
      rw [List.getElem?_cons_succ] at hi
      have e : b + (i + 1) = b + 1 + i := by omega
      rw [e]
      exact k2 i a' g' hi

theorem first_of (f : Nat → Bool) (x : Nat) : ∀ n, (∀ k, x ≤ k → k < x + n → f k = false) ∨ ∃ e, x ≤ e ∧ e < x + n ∧ f e = true ∧ ∀ k, x ≤ k → k < e → f k = false
  | 0 => .inl fun k h1 h2 => absurd h1 (by omega)
  | n + 1 => by
    rcases first_of f x n with h | ⟨e, h1, h2, h3, h4⟩
    · cases hf : f (x + n)
      · exact .inl fun k h1 h2 => by
          by_cases e : k = x + n
          · subst e; exact hf
          · exact h k h1 (by omega)
      · exact .inr ⟨x + n, by omega, by omega, hf, fun k h1 h2 => h k h1 h2⟩
    · exact .inr ⟨e, h1, by omega, h3, h4⟩
theorem last_of (f : Nat → Bool) (x : Nat) : ∀ n, (∀ k, x ≤ k → k < x + n → f k = false) ∨ ∃ e, x ≤ e ∧ e < x + n ∧ f e = true ∧ ∀ k, e < k → k < x + n → f k = false
  | 0 => .inl fun k h1 h2 => absurd h1 (by omega)
  | n + 1 => by
    cases hf : f (x + n)
    · rcases last_of f x n with h | ⟨e, h1, h2, h3, h4⟩
      · exact .inl fun k h1 h2 => by
          by_cases e : k = x + n
          · subst e; exact hf
          · exact h k h1 (by omega)
      · exact .inr ⟨e, h1, by omega, h3, fun k q1 q2 => by
          by_cases e : k = x + n
          · subst e; exact hf
          · exact h4 k q1 (by omega)⟩
    · exact .inr ⟨x + n, by omega, by omega, hf, fun k h1 h2 => absurd h1 (by omega)⟩

theorem countP_lt {p q : Nat → Bool} : ∀ {l : List Nat}, (∀ x ∈ l, q x = true → p x = true) → (∃ x ∈ l, p x = true ∧ q x = false) → l.countP q < l.countP p
  | [], _, ⟨x, hx, _⟩ => by simp at hx
  | y :: l, h, ⟨x, hx, h1, h2⟩ => by
    have hmono : l.countP q ≤ l.countP p := List.countP_mono_left fun z hz hq => h z (by simp [hz]) hq
    simp only [List.countP_cons]
    rcases List.mem_cons.1 hx with rfl | hx
    · rw [h1, h2]; simp; omega
    · have := countP_lt (l := l) (fun z hz => h z (by simp [hz])) ⟨x, hx, h1, h2⟩
      have hy := h y (by simp)
      cases hq : q y
      · simp; omega
      · rw [hy hq]; simp; omega

theorem callOf_eff {ρ : Opd → AV} {o : AOp} {f : FuncId} {args : List AV} (h : callOf ρ o = some (f, args)) : quietOp o = false := by
  cases o <;> first | rfl | (simp [callOf] at h)

/-- Whatever is ready is done next. -/
theorem any_ok (hX : XfOk P xf) {r : ARegion} (hc : chkOps P xf G slots nt ops (drawX r ops) 0 r.ops = true) (hd : chkDraw ops r = true) {fr : List AV} {T : Nat → AV} {M : Nat → Mem} {N : Nat} {C0 : Cx} {ds : List Deferred} {Q : Exit → Act → World → Prop}
    (hsteps : ∀ i, i < N → ∃ o g, r.ops[i]? = some (o, g) ∧ StepRel P G fr T M i o g)
    (hst : ∀ p ∈ r.pairs, p.1 < N → p.2 < N → ∀ o g, r.ops[p.1]? = some (o, g) → wants (Opd.ev (pre T p.1) fr) g = some true →
      (evalP (Opd.ev (pre T p.1) fr) (M p.2) o).map (·.1) = some (T p.1) ∧ (evalP (Opd.ev (pre T p.1) fr) (M (p.2 + 1)) o).map (·.1) = some (T p.1))
    (hend : (N = ops.size ∧ ∀ C' a' w', Cx.Le C0 C' → Inv G w0 C' (M N) w' → a'.defers = ds → RegRel C' slots nt ops T fr (fun k => k < N) a'.tmps → Q .normal a' w') ∨
      (N < ops.size ∧ N ∈ r.okPan ∧ ∃ o g v m', r.ops[N]? = some (o, g) ∧ PanRel P G fr T M N o g v m' ∧ ∀ C' cv a' w', Cx.Le C0 C' → Inv G w0 C' m' w' → a'.defers = ds → Rep C' v cv → PanFr C' slots nt ops fr a'.tmps → Q (.panic [{ v := cv, recovered := false }]) a' w')) :
    ∀ (fuel : Nat) (listed : Array Bool) (C : Cx) (w : World) (a : Act) (j : Nat), listed.size = ops.size → (List.range ops.size).countP (fun i => !listed.getD i true) ≤ fuel →
      (∀ i p, listed.getD i false = true → p ∈ predsOf r i → listed.getD p false = true) → (∀ i, listed.getD i false = true → i < N) → j ≤ N → (∀ e, effAt r e = true → (e < j ↔ listed.getD e false = true)) →
      Cx.Le C0 C → Inv G w0 C (M j) w → RegRel C slots nt ops T fr (fun i => listed.getD i false = true) a.tmps → a.defers = ds → wpAny P .any ops Q fuel listed a w := by
  obtain ⟨hsize, hat⟩ := chkOps_at hc
  simp only [Nat.zero_add] at hsize hat
  simp only [chkDraw, Bool.and_eq_true, List.all_eq_true, List.mem_range] at hd
  obtain ⟨hpred, hpan⟩ := hd
  have hNs : N ≤ ops.size := by rcases hend with h | h <;> omega
  -- memory stands between the effects
  have hconst : ∀ (n x : Nat), x + n ≤ N → (∀ k, x ≤ k → k < x + n → effAt r k = false) → M x = M (x + n) := by
    intro n
    induction n with
    | zero => intro x _ _; rfl
    | succ n ih =>
      intro x hx hq
      rw [ih x (by omega) fun k h1 h2 => hq k h1 (by omega)]
      obtain ⟨o, g, k1, k2⟩ := hsteps (x + n) (by omega)
      have he := hq (x + n) (by omega) (by omega)
      simp only [effAt, k1, Bool.not_eq_false'] at he
      rcases k2 with ⟨_, _, k⟩ | ⟨_, k⟩ | ⟨_, f, args, k, _⟩
      · exact k.symm
      · exact (quiet_mem he k).symm
      · rw [callOf_eff k] at he; cases he
  have hconst' : ∀ x y, x ≤ y → y ≤ N → (∀ k, x ≤ k → k < y → effAt r k = false) → M x = M y := by
    intro x y hxy hy hq
    have := hconst (y - x) x (by omega) (fun k h1 h2 => hq k h1 (by omega))
    rwa [show x + (y - x) = y by omega] at this
  have hsame : ∀ x y, x ≤ N → y ≤ N → (∀ e, effAt r e = true → (e < x ↔ e < y)) → M x = M y := by
    intro x y hx hy hq
    rcases Nat.le_total x y with h | h
    · refine hconst' x y h hy fun k h1 h2 => ?_
      cases hk : effAt r k with
      | false => rfl
      | true => have := (hq k hk).2 h2; omega
    · refine (hconst' y x h hx fun k h1 h2 => ?_).symm
      cases hk : effAt r k with
      | false => rfl
      | true => have := (hq k hk).1 h2; omega
  have hgd : ∀ (l : Array Bool) i, l.getD i true = false ↔ i < l.size ∧ l.getD i false = false := by
    intro l i
    by_cases h : i < l.size
    · simp [Array.getD_eq_getD_getElem?, h]
    · simp [Array.getD_eq_getD_getElem?, h]
  have hpr : ∀ i, i < ops.size → ∃ o a g, ops[i]? = some o ∧ r.ops[i]? = some (a, g) ∧ (∀ e ∈ o.after, Region.binds .any e = true → e.on < i) ∧ (∀ p ∈ predsOf r i, p < i ∧ ∃ e ∈ o.after, Region.binds .any e = true ∧ (e.on = p ∨ p ∈ predsOf r e.on)) ∧
      (∀ k b, o.guard = some (k, b) → k ∈ predsOf r i) ∧ (quietOp a = true → pureOp a = true ∨ ∀ k, k < ops.size → effAt r k = true → k ∈ predsOf r i ∨ i ∈ predsOf r k ∨ (i, k) ∈ r.pairs) ∧ (quietOp a = false → ∀ k, k < i → effAt r k = true → k ∈ predsOf r i) := by
    intro i hi
    have h := hpred i hi
    unfold chkPred at h
    split at h
    · rename_i o a g ho ha
      simp only [Bool.and_eq_true, List.all_eq_true, decide_eq_true_eq, List.any_eq_true, Bool.or_eq_true, Bool.not_eq_true', Array.mem_toList_iff] at h
      obtain ⟨⟨⟨h1, h2⟩, h3⟩, h4⟩ := h
      refine ⟨o, a, g, ho, ha, fun e he hb => ?_, fun p hp => ?_, fun k b hg => ?_, fun hq => ?_, fun hq k hk he => ?_⟩
      · rcases h1 e he with h | h
        · rw [hb] at h; cases h
        · exact h
      · obtain ⟨q1, e, q2, q3, q4⟩ := h2 p hp
        exact ⟨q1, e, q2, q3, q4⟩
      · rw [hg] at h3; simpa using h3
      · rw [if_pos hq] at h4
        simp only [Bool.or_eq_true, List.all_eq_true, List.mem_range, decide_eq_true_eq, Bool.not_eq_true'] at h4
        rcases h4 with h4 | h4
        · exact .inl h4
        · refine .inr fun k hk he => ?_
          rcases h4 k hk with ((h | h) | h) | h
          · rw [he] at h; cases h
          · exact .inl h
          · exact .inr (.inl h)
          · exact .inr (.inr h)
      · rw [if_neg (by simp [hq])] at h4
        simp only [Bool.or_eq_true, List.all_eq_true, List.mem_range, decide_eq_true_eq, Bool.not_eq_true'] at h4
        rcases h4 k hk with h | h
        · rw [he] at h; cases h
        · exact h
    · cases h
  -- all is done
  have hfin : ∀ (listed : Array Bool) (C : Cx) (w : World) (a : Act) (j : Nat), listed.size = ops.size → (∀ i, i < ops.size → listed.getD i false = true) → (∀ i, listed.getD i false = true → i < N) → j ≤ N → (∀ e, effAt r e = true → (e < j ↔ listed.getD e false = true)) →
      Cx.Le C0 C → Inv G w0 C (M j) w → RegRel C slots nt ops T fr (fun i => listed.getD i false = true) a.tmps → a.defers = ds → Q .normal a w := by
    intro listed C w a j hs hall hlt hj heff hle hI hR hds
    rcases hend with ⟨hN, hQ⟩ | ⟨hN, _⟩
    · have hM : M j = M N := hsame j N hj (Nat.le_refl _) fun e he => by
        have h1 := heff e he
        constructor
        · intro h; exact hlt e (h1.1 h)
        · intro h; exact h1.2 (hall e (by omega))
      rw [hM] at hI
      refine hQ C a w hle hI hds ?_
      have : (fun k => k < N) = (fun i => listed.getD i false = true) := by
        funext k; exact propext ⟨fun h => hall k (by omega), fun h => hlt k h⟩
      rw [this]; exact hR
    · have := hlt N (hall N hN); omega
  intro fuel
  induction fuel with
  | zero =>
    intro listed C w a j hs hcnt hcl hlt hj heff hle hI hR hds
    have hall : ∀ i, i < ops.size → listed.getD i false = true := by
      intro i hi
      have := List.countP_eq_zero.1 (Nat.le_zero.1 hcnt) i (List.mem_range.2 hi)
      cases h : listed.getD i false with
      | true => rfl
      | false => exact absurd (by rw [(hgd listed i).2 ⟨by omega, h⟩]; rfl) this
    refine ⟨?_, hfin listed C w a j hs hall hlt hj heff hle hI hR hds⟩
    rw [List.eq_nil_iff_forall_not_mem]
    intro i hi
    rw [mem_ready] at hi
    obtain ⟨h1, o, h2, _⟩ := hi
    have h3 := (hgd listed i).1 h1
    rw [hall i (by omega)] at h3
    exact absurd h3.2 (by simp)
  | succ fuel ih =>
    intro listed C w a j hs hcnt hcl hlt hj heff hle hI hR hds
    refine ⟨fun hr => ?_, fun i hi => ?_⟩
    · refine hfin listed C w a j hs (fun i => ?_) hlt hj heff hle hI hR hds
      induction i using Nat.strongRecOn with
      | ind i ihi =>
        intro hi
        cases h : listed.getD i false with
        | true => rfl
        | false =>
          obtain ⟨o, _, _, ho, _, hb, _⟩ := hpr i hi
          have : i ∈ Region.ready .any ops listed := mem_ready.2 ⟨(hgd listed i).2 ⟨by omega, h⟩, o, ho, fun e he hbe => ihi e.on (hb e he hbe) (by have := hb e he hbe; omega)⟩
          rw [hr] at this; cases this
    · rw [mem_ready] at hi
      obtain ⟨hi1, o, ho, hedges⟩ := hi
      obtain ⟨hil, hinot⟩ := (hgd listed i).1 hi1
      have hilt : i < ops.size := by omega
      obtain ⟨o', av, g, ho', ha, hback, hpreds, hguard, hquiet, heffp⟩ := hpr i hilt
      rw [ho] at ho'; injection ho' with ho'; subst ho'
      have hpl : ∀ p ∈ predsOf r i, listed.getD p false = true := fun p hp => by
        obtain ⟨_, e, he, hb, h⟩ := hpreds p hp
        rcases h with h | h
        · rw [← h]; exact hedges e he hb
        · exact hcl e.on p (hedges e he hb) h
      obtain ⟨o2, ho2, hstep, hgok, hdst⟩ := hat i av g ha
      rw [ho] at ho2; injection ho2 with ho2; subst ho2
      -- what holds behind it
      have hlt2 : ∀ k t, dstOf ops k = some t → k < i → t < nt := fun k t hk hki => by
        obtain ⟨ok, ak, gk, hok, hak, _⟩ := hpr k (by omega)
        obtain ⟨o3, ho3, _, _, hd3⟩ := hat k ak gk hak
        simp only [dstOf, ho3, Option.bind_some] at hk
        rw [hk] at hd3
        simp only [Bool.and_eq_true, decide_eq_true_eq] at hd3
        exact hd3.1
      have hdis : ∀ k t, k ≠ i → dstOf ops k = some t → o.dst = some t → ¬ listed.getD k false = true := fun k t hk hkd hod hx => by
        rcases Nat.lt_or_gt_of_ne hk with h | h
        · rw [hod] at hdst
          simp only [Bool.and_eq_true, List.all_eq_true, List.mem_range, decide_eq_true_eq] at hdst
          exact hdst.2 k h hkd
        · have hk' : k < ops.size := by
            have : k < N := hlt k hx
            omega
          obtain ⟨ok, ak, gk, hok, hak, _⟩ := hpr k hk'
          obtain ⟨o3, ho3, _, _, hd3⟩ := hat k ak gk hak
          simp only [dstOf, ho3, Option.bind_some] at hkd
          rw [hkd] at hd3
          simp only [Bool.and_eq_true, List.all_eq_true, List.mem_range, decide_eq_true_eq] at hd3
          exact hd3.2 i h (by simp [dstOf, ho, hod])
      have hset : ∀ k, (listed.setIfInBounds i true).getD k false = true ↔ listed.getD k false = true ∨ k = i := by
        intro k
        by_cases hk : i = k
        · subst hk; simp [Array.getD_eq_getD_getElem?, hil]
        · rw [getD_set_ne false hk]; constructor
          · exact .inl
          · intro h; exact h.resolve_right (fun e => hk e.symm)
      have hcnt' : (List.range ops.size).countP (fun k => !(listed.setIfInBounds i true).getD k true) ≤ fuel := by
        have := countP_lt (l := List.range ops.size) (p := fun k => !listed.getD k true) (q := fun k => !(listed.setIfInBounds i true).getD k true) (fun x _ hq => by
          by_cases hk : i = x
          · subst hk; simp [Array.getD_eq_getD_getElem?, hil] at hq
          · rw [getD_set_ne true hk] at hq; exact hq) ⟨i, List.mem_range.2 hilt, by rw [hi1]; rfl, by simp [Array.getD_eq_getD_getElem?, hil]⟩
        omega
      have goOn : i < N → ∀ (C' : Cx) (cv : Value) (w' : World) (j' : Nat), j' ≤ N → (∀ e, effAt r e = true → (e < j' ↔ listed.getD e false = true ∨ e = i)) → Cx.Le C C' → Inv G w0 C' (M j') w' → Rep C' (T i) cv → wpAny P .any ops Q fuel (listed.setIfInBounds i true) (a.put o.dst cv) w' := by
        intro hiN C' cv w' j' hj' heff' hle' hI' hv
        refine ih _ C' w' _ j' (by simpa using hs) hcnt' (fun k p hk hp => ?_) (fun k hk => ?_) hj' (fun e he => by rw [hset]; exact heff' e he) (hle.trans hle') hI' ?_ (by cases o.dst <;> exact hds)
        · rw [hset] at hk ⊢
          rcases hk with hk | rfl
          · exact .inl (hcl k p hk hp)
          · exact .inl (hpl p hp)
        · rcases (hset k).1 hk with h | rfl
          · exact hlt k h
          · exact hiN
        · exact RegRel.step (i := i) (hR.mono hle') ho (fun t ht => by rw [ht] at hdst; simp only [Bool.and_eq_true, decide_eq_true_eq] at hdst; exact hdst.1) (fun k _ => rfl) (fun k => hset k) hdis hv
      have hgetT : ∀ k, k < i → T k = (pre T i).getD (i - 1 - k) .u := fun k hk => (pre_get T i k .u hk).symm
      have H : ∀ x y, (okOpd G slots ops i x y && drawX r ops i x y) = true → Rep C (Opd.ev (pre T i) fr y) (a.eval x) := by
        intro x y hxy
        refine opd_rep hI hR (pre_length T i) hgetT (and_l hxy) (fun t d hx hy => ?_) (fun t jj hx hy k hk hex => ?_)
        · have := and_r hxy
          subst hx; subst hy
          simp only [drawX, decide_eq_true_eq] at this
          exact hpl _ this
        · have h1 := okOpd_var (and_l hxy) hx hy k hk
          have := and_r hxy
          subst hx; subst hy
          have hkN := hlt k hex
          simp only [drawX, List.all_eq_true, List.mem_range, Bool.or_eq_true, decide_eq_true_eq] at this
          rcases this k (by omega) with (h | h) | h
          · exact h hk
          · have : k = i := by omega
            subst this
            rw [hinot] at hex; cases hex
          · have := hcl k i hex h
            rw [hinot] at this; cases this
      have hwant : ∀ {b : Bool}, wants (Opd.ev (pre T i) fr) g = some b → Region.wanted o (yielded ops a.tmps) = b := fun hw =>
        guard_wanted hR (pre_length T i) hgetT hgok (fun k b hk => hpl k (hguard k b hk)) hlt2 hw
      -- effects ahead of an effect
      have heffi : quietOp av = false → ∀ e, effAt r e = true → (listed.getD e false = true ↔ e < i) := by
        intro hq e he
        constructor
        · intro hl
          rcases Nat.lt_trichotomy e i with h | h | h
          · exact h
          · subst h; rw [hinot] at hl; cases hl
          · have heN := hlt e hl
            obtain ⟨_, ae, ge, _, hae, _, _, _, _, hep⟩ := hpr e (by omega)
            have hqe : quietOp ae = false := by simpa [effAt, hae] using he
            have hmem := hep hqe i h (by simp [effAt, ha, hq])
            have := hcl e i hl hmem
            rw [hinot] at this; cases this
        · intro h
          exact hpl e (heffp hq e h he)
      have hMj : quietOp av = false → i ≤ N → M j = M i := fun hq hiN => hsame j i hj hiN fun e he => (heff e he).trans (heffi hq e he)
      have hj'eff : quietOp av = false → ∀ e, effAt r e = true → (e < i + 1 ↔ listed.getD e false = true ∨ e = i) := by
        intro hq e he
        rw [heffi hq e he]; omega
      have hj'q : quietOp av = true → ∀ e, effAt r e = true → (e < j ↔ listed.getD e false = true ∨ e = i) := by
        intro hq e he
        rw [heff e he]
        constructor
        · exact .inl
        · rintro (h | rfl)
          · exact h
          · simp [effAt, ha, hq] at he
      unfold wpOp
      rw [ho]
      simp only
      by_cases hiN : i < N
      · obtain ⟨o3, g3, k1, k2⟩ := hsteps i hiN
        rw [ha] at k1; injection k1 with k1; injection k1 with e1 e2; subst e1; subst e2
        rcases k2 with ⟨q1, q2, q3⟩ | ⟨q1, q2⟩ | ⟨q1, f, args, q2, q3⟩
        · rw [hwant q1]
          simp only [Bool.false_eq_true, if_false]
          have hv : Rep C (T i) undef := by rw [q2]; exact .tup _ _ rfl fun i hi => absurd hi (by simp)
          cases hq : quietOp av with
          | true => exact goOn hiN C undef w j hj (hj'q hq) (.refl C) hI hv
          | false =>
            have e := hMj hq (by omega)
            exact goOn hiN C undef w (i + 1) hiN (hj'eff hq) (.refl C) (by rw [q3, ← e]; exact hI) hv
        · rw [hwant q1]
          simp only [if_true]
          left
          cases hq : quietOp av with
          | true =>
            have hM := quiet_mem hq q2
            have hval : evalP (Opd.ev (pre T i) fr) (M j) av = some (T i, M j) := by
              rcases hquiet hq with hp | hp
              · exact pure_any hp q2 (M j)
              · have conv : ∀ mm : Mem, (evalP (Opd.ev (pre T i) fr) mm av).map (·.1) = some (T i) → evalP (Opd.ev (pre T i) fr) mm av = some (T i, mm) := by
                  intro mm h
                  cases hh : evalP (Opd.ev (pre T i) fr) mm av with
                  | none => rw [hh] at h; cases h
                  | some vm =>
                    obtain ⟨v1, m1⟩ := vm
                    rw [hh] at h
                    simp only [Option.map_some, Option.some.injEq] at h
                    rw [quiet_mem hq hh, h]
                have hself : evalP (Opd.ev (pre T i) fr) (M i) av = some (T i, M i) := by rw [q2, hM]
                rcases Nat.le_total j i with hji | hji
                · rcases first_of (effAt r) j (i - j) with h | ⟨e, h1, h2, h3, h4⟩
                  · have := hconst' j i hji (by omega) fun k h1 h2 => h k h1 (by omega)
                    rw [this]; exact hself
                  · have hel : ¬ listed.getD e false = true := fun hl => by have := (heff e h3).2 hl; omega
                    have hpair : (i, e) ∈ r.pairs := by
                      rcases hp e (by omega) h3 with h | h | h
                      · exact absurd (hpl e h) hel
                      · obtain ⟨_, _, _, _, _, _, hpe, _⟩ := hpr e (by omega)
                        have := (hpe i h).1; omega
                      · exact h
                    have hh := (hst (i, e) hpair hiN (by simp only; omega) av g ha q1).1
                    have hm : M j = M e := hconst' j e h1 (by omega) h4
                    rw [hm]; exact conv _ hh
                · rcases last_of (effAt r) i (j - i) with h | ⟨e, h1, h2, h3, h4⟩
                  · have := hconst' i j hji (by omega) fun k h1 h2 => h k h1 (by omega)
                    rw [← this]; exact hself
                  · have hel : listed.getD e false = true := (heff e h3).1 (by omega)
                    have heN := hlt e hel
                    have hpair : (i, e) ∈ r.pairs := by
                      rcases hp e (by omega) h3 with h | h | h
                      · have := (hpreds e h).1; omega
                      · have := hcl e i hel h
                        rw [hinot] at this; cases this
                      · exact h
                    have hh := (hst (i, e) hpair hiN heN av g ha q1).2
                    have hm : M (e + 1) = M j := hconst' (e + 1) j (by omega) (by omega) fun k h1 h2 => h4 k (by omega) (by omega)
                    rw [← hm]; exact conv _ hh
            exact step_eval hI hX H hstep hval fun C' cv w' hle' hI' hv => goOn hiN C' cv w' j hj (hj'q hq) hle' hI' hv
          | false =>
            rw [hMj hq (by omega)] at hI
            exact step_eval hI hX H hstep q2 fun C' cv w' hle' hI' hv => goOn hiN C' cv w' (i + 1) hiN (hj'eff hq) hle' hI' hv
        · rw [hwant q1]
          simp only [if_true]
          left
          have hq := callOf_eff q2
          rw [hMj hq (by omega)] at hI
          refine step_call hI H hstep q2 q3 (fun C' cv w' v hv' hle' hI' hv => ?_) (fun C' cv w' v hv' => by cases hv')
          injection hv' with hv'; subst hv'
          exact goOn hiN C' cv w' (i + 1) hiN (hj'eff hq) hle' hI' hv
      · rcases hend with ⟨hN, _⟩ | ⟨hN, hok, o3, g3, v, m', k1, ⟨k2, k3⟩, k4⟩
        · omega
        · have hiN' : i = N := by
            rcases Nat.lt_or_ge N i with h | h
            · rcases (by simpa using hpan N hok i hilt : i ≤ N ∨ N ∈ predsOf r i) with h' | h'
              · omega
              · have := hlt N (hpl N h'); omega
            · omega
          subst hiN'
          rw [ha] at k1; injection k1 with k1; injection k1 with e1 e2; subst e1; subst e2
          rw [hwant k2]
          simp only [if_true]
          left
          rcases k3 with ⟨f, args, q2, q3⟩ | ⟨x, t, p, rfl, q2, rfl, rfl⟩
          · have hq := callOf_eff q2
            rw [hMj hq (Nat.le_refl _)] at hI
            refine step_call hI H hstep q2 q3 (fun C' cv w' v hv' => by cases hv') (fun C' cv w' v hv' hle' hI' hv => ?_)
            injection hv' with hv'; subst hv'
            exact k4 C' cv a w' (hle.trans hle') hI' hds hv (hR.panFr hle')
          · rw [hMj rfl (Nat.le_refl _)] at hI
            exact step_pan H hstep q2 fun cv hv => k4 C cv a w hle hI hds hv (hR.panFr (.refl C))

theorem region_ok (hX : XfOk P xf) (hm : P.follows .mixedOrders = true) {id : Nat} {draw : Bool} {r : ARegion} (hc : chkReg P xf G slots nt ops draw r = true) {fr : List AV} {a : Act} (hI : Inv G w0 C m w) (hF : FrameRel C slots nt fr a.tmps) {rr : Rs} {m' : Mem}
    (ht : Tr P G r.ops [] fr (!r.pairs.isEmpty) [] m rr m') :
    (∀ env hist, rr = .env env hist → Stable r env fr (pushH (!r.pairs.isEmpty) m' hist) → (Code.region id ops draw).wp P (PostC G w0 C slots nt (regW ops) m' .normal (exports env fr r.exp) a.defers) a w) ∧
    ∀ v env hist, rr = .pan v env hist → (r.draws = true → env.length ∈ r.okPan) → Stable r env fr hist → (Code.region id ops draw).wp P (PostC G w0 C slots nt (regW ops) m' (.pan v) fr a.defers) a w := by
  simp only [chkReg, Bool.and_eq_true, decide_eq_true_eq] at hc
  obtain ⟨⟨⟨c1, c2⟩, c3⟩, c4⟩ := hc
  cases draw with
  | false =>
    have e0 : List.range ops.size = List.range' ([] : List AV).length (ops.size - ([] : List AV).length) := by simp [List.range_eq_range']
    refine ⟨fun env hist he _ => wp_region ?_, fun v env hist he _ _ => wp_region ?_⟩
    · rw [e0]
      refine tr_text (T := fun _ => .u) (ds := a.defers) hX ht c2 (fun k t _ h => absurd h (Nat.not_lt_zero _)) hI rfl (fun k h => absurd h (Nat.not_lt_zero _)) (hF.reg _) (fun env' h' he' hlen C' T' a' w' hle hI' hd hT hR => ?_) (fun v env' h' he' => by rw [he] at he'; cases he')
      rw [he] at he'; injection he' with e1 e2; subst e1
      rw [← hlen] at c3
      exact ⟨C', hle, hI', hd, rfl, exports_rel hR hlen hT c3⟩
    · rw [e0]
      refine tr_text (T := fun _ => .u) (ds := a.defers) hX ht c2 (fun k t _ h => absurd h (Nat.not_lt_zero _)) hI rfl (fun k h => absurd h (Nat.not_lt_zero _)) (hF.reg _) (fun env' h' he' => by rw [he] at he'; cases he') (fun v' env' h' he' C' cv a' w' hle hI' hd hv hpf => ?_)
      rw [he] at he'; injection he' with e1 e2 e3; subst e1
      exact ⟨C', hle, hI', hd, cv, rfl, hv, hpf.1, fun j t hs ht => hpf.2 j t hs (regW_spec ht)⟩
  | true =>
    obtain ⟨N, T, M, k1, k2, k3, k4, k5⟩ := tr_data ht 0 (fun _ => .u) (fun _ => m) rfl rfl (fun _ => rfl)
    simp only [Nat.zero_le, true_implies, Nat.sub_zero] at k4
    have hM0 : M 0 = m := k2 0 (Nat.le_refl _)
    have hsize := (chkOps_at c2).1
    simp only [Nat.zero_add] at hsize
    have run : ∀ (Q : Exit → Act → World → Prop), (∀ p ∈ r.pairs, p.1 < N → p.2 < N → ∀ o g, r.ops[p.1]? = some (o, g) → wants (Opd.ev (pre T p.1) fr) g = some true →
        (evalP (Opd.ev (pre T p.1) fr) (M p.2) o).map (·.1) = some (T p.1) ∧ (evalP (Opd.ev (pre T p.1) fr) (M (p.2 + 1)) o).map (·.1) = some (T p.1)) →
        ((N = ops.size ∧ ∀ C' a' w', Cx.Le C C' → Inv G w0 C' (M N) w' → a'.defers = a.defers → RegRel C' slots nt ops T fr (fun k => k < N) a'.tmps → Q .normal a' w') ∨
        (N < ops.size ∧ N ∈ r.okPan ∧ ∃ o g v m', r.ops[N]? = some (o, g) ∧ PanRel P G fr T M N o g v m' ∧ ∀ C' cv a' w', Cx.Le C C' → Inv G w0 C' m' w' → a'.defers = a.defers → Rep C' v cv → PanFr C' slots nt ops fr a'.tmps → Q (.panic [{ v := cv, recovered := false }]) a' w')) →
        (Code.region id ops true).wp P Q a w := by
      intro Q hst hend
      refine wp_region_any hm (any_ok hX c2 (by simpa using c4) k4 hst hend ops.size (Array.replicate ops.size false) C _ a 0 (by simp) ?_ ?_ ?_ (Nat.zero_le _) ?_ (.refl C) (by rw [hM0]; exact hI.drew) ?_ rfl)
      · exact Nat.le_trans List.countP_le_length (by simp)
      · intro i p hi; exact absurd hi (by simp only [Array.getD_eq_getD_getElem?, Array.getElem?_replicate]; split <;> simp)
      · intro i hi; exact absurd hi (by simp only [Array.getD_eq_getD_getElem?, Array.getElem?_replicate]; split <;> simp)
      · intro e _
        constructor
        · intro h; exact absurd h (Nat.not_lt_zero _)
        · intro hi; exact absurd hi (by simp only [Array.getD_eq_getD_getElem?, Array.getElem?_replicate]; split <;> simp)
      · refine ⟨hF.1, fun i t _ he => ?_, fun j t hs _ => hF.2 j t hs⟩
        exact absurd he (by simp only [Array.getD_eq_getD_getElem?, Array.getElem?_replicate]; split <;> simp)
    have stab : ∀ (hist : List Mem), hist.length = N + 1 ∨ r.pairs = [] → (r.pairs ≠ [] → hist = pre M (N + 1)) → Stable r (pre T N) fr hist → ∀ p ∈ r.pairs, p.1 < N → p.2 < N → ∀ o g, r.ops[p.1]? = some (o, g) → wants (Opd.ev (pre T p.1) fr) g = some true →
        (evalP (Opd.ev (pre T p.1) fr) (M p.2) o).map (·.1) = some (T p.1) ∧ (evalP (Opd.ev (pre T p.1) fr) (M (p.2 + 1)) o).map (·.1) = some (T p.1) := by
      intro hist _ hh hs p hp h1 h2 o g ho hw
      have hhh := hh (fun e => by rw [e] at hp; cases hp)
      subst hhh
      have := hs p hp (by rw [pre_length]; exact h1) (by rw [pre_length]; exact h2)
      unfold rereads at this
      rw [ho] at this
      simp only at this
      rw [pre_length, pre_drop T N p.1 (by omega), pre_get T N p.1 .u h1] at this
      exact this hw _ _ (pre_rev M (N + 1) p.2 (by omega)) (pre_rev M (N + 1) (p.2 + 1) (by omega))
    have hdne : r.pairs ≠ [] → (!r.pairs.isEmpty) = true := fun h => by cases hp : r.pairs with
      | nil => exact absurd hp h
      | cons _ _ => rfl
    refine ⟨fun env hist he hs => ?_, fun v env hist he hop hs => ?_⟩
    · subst he
      rcases k5 with ⟨q1, q2, h', q3, q4⟩ | ⟨v, h', o, g, q1, _⟩
      · injection q3 with e1 e2
        subst e1; subst e2
        simp only [Nat.zero_add] at q1
        refine run _ (stab _ ?_ (fun hne => ?_) hs) (.inl ⟨by omega, fun C' a' w' hle hI' hd' hR => ?_⟩)
        · by_cases hne : r.pairs = []
          · exact .inr hne
          · left; simp only [pushH, hdne hne, if_true]; rw [q4 (hdne hne)]; simp [pre_length]
        · simp only [pushH, hdne hne, if_true]; rw [q4 (hdne hne), pre_succ, q2]
        · rw [q2] at hI'
          have hc3 : chkExp slots ops (pre T N).length r.exp = true := by rw [pre_length, q1, ← hsize]; exact c3
          have hR' : RegRel C' slots nt ops T fr (fun k => k < (pre T N).length) a'.tmps := by rw [pre_length]; exact hR
          exact ⟨C', hle, hI', hd', rfl, exports_rel hR' (by rw [pre_length, q1, ← hsize]) (fun k hk => by rw [pre_length] at hk ⊢; exact (pre_get T N k .u hk).symm) hc3⟩
      · cases q1
    · subst he
      rcases k5 with ⟨q1, q2, h', q3, q4⟩ | ⟨v', h', o, g, q1, q2, q3, q4⟩
      · cases q3
      · injection q1 with e1 e2 e3
        subst e1; subst e2; subst e3
        simp only [Nat.sub_zero] at q3
        have hN : N < ops.size := by rw [hsize]; exact (List.getElem?_eq_some_iff.1 q3).1
        refine run _ (stab _ ?_ (fun hne => q2 (hdne hne)) hs) (.inr ⟨hN, ?_, o, g, v, m', q3, q4, fun C' cv a' w' hle hI' hd' hv hpf => ⟨C', hle, hI', hd', cv, rfl, hv, hpf.1, fun j t hs ht => hpf.2 j t hs (regW_spec ht)⟩⟩)
        · by_cases hne : r.pairs = []
          · exact .inr hne
          · left; rw [q2 (hdne hne)]; simp [pre_length]
        · have := hop c1
          rwa [pre_length] at this
end
end Go.Proofs.YtinlfdkalijffaaDoor.Am
