/- Part KA3 of a claim's texts, joined: what the claim needs of them. -/
import Derived.Test.YtkjokjogdehonaaGreatDoorKA2
import Derived.Orders
import Derived.LoopN
import Derived.Recover
set_option linter.unusedSimpArgs false
set_option linter.unusedVariables false
namespace Go.Proofs.YtkjokjogdehonaaGreatDoor.Am
open Go Go.RowKit
def ExitRep (C : Cx) (slots : List Tmp) (nt : Nat) (wr : Tmp → Bool) (e : AExit) (fr : List AV) (ex : Exit) (tmps : Array Value) : Prop :=
  match e with
  | .normal => ex = .normal ∧ FrameRel C slots nt fr tmps
  | .exit id => ex = .exit id ∧ FrameRel C slots nt fr tmps
  | .ret => ex = .ret ∧ FrameRel C slots nt fr tmps
  | .pan v => ∃ cv, ex = .panic [{ v := cv, recovered := false }] ∧ Rep C v cv ∧ tmps.size = nt ∧ ∀ (j : Nat) (t : Tmp), slots[j]? = some t → wr t = false → Rep C (fr.getD j .u) (tmps.getD t undef)
def PostC (G : Nat → Option (List AV)) (w0 : World) (C : Cx) (slots : List Tmp) (nt : Nat) (wr : Tmp → Bool) (m' : Mem) (e : AExit) (fr' : List AV) (ds : List Deferred) : Exit → Act → World → Prop :=
  fun ex a' w' => ∃ C', Cx.Le C C' ∧ Inv G w0 C' m' w' ∧ a'.defers = ds ∧ ExitRep C' slots nt wr e fr' ex a'.tmps
def quietOp : AOp → Bool
  | .alloc _ _ | .box _ _ | .store _ _ _ | .bytesOf _ _ | .buildSlT _ _ _ _ _ | .convB _ | .mkMap | .mkSl _ _ _ _ _ _ | .mapUpd _ _ _ _ | .del _ _ _ | .rangeS _ | .nextS _ | .append _ _ _ _ _ | .appendO _ _ _ _ _ | .bytesO _ _ | .sliceData _ | .panic _ | .call _ _ | .callV _ _ => false
  | _ => true
def pureOp : AOp → Bool
  | .load _ _ _ | .lookup _ _ _ _ _ | .convP _ | .convU _ _ | .eq _ (.leaf .ptr) _ _ | .len .map _ | .strO _ => false
  | o => quietOp o
theorem quiet_mem {ρ : Opd → AV} {m m1 : Mem} {o : AOp} {v : AV} (hq : quietOp o = true) (h : evalP ρ m o = some (v, m1)) : m1 = m := by
  cases o <;> first | (simp [quietOp] at hq; done) | skip
  all_goals
    simp only [evalP] at h
    first
    | (simp only [Option.some.injEq, Prod.mk.injEq] at h; exact h.2.symm)
    | (split at h
       · first
         | (simp only [Option.some.injEq, Prod.mk.injEq] at h; exact h.2.symm)
         | (split at h
            · first
              | (simp only [Option.some.injEq, Prod.mk.injEq] at h; exact h.2.symm)
            · cases h)
       · cases h)
theorem eq_safe {l : EqL} {m : Mem} {a b : AV} {r : Bool} (hl : l ≠ .ptr) (h : eqL l a b = some r) : eqSafeB m a b = true := by
  cases l <;> cases a <;> cases b <;> first | rfl | (simp [eqL] at h; done) | exact absurd rfl hl
theorem pure_any {ρ : Opd → AV} {m m1 : Mem} {o : AOp} {v : AV} (hq : pureOp o = true) (h : evalP ρ m o = some (v, m1)) (m2 : Mem) : evalP ρ m2 o = some (v, m2) := by
  have hq' : quietOp o = true := by
    unfold pureOp at hq
    split at hq <;> first | (cases hq; done) | exact hq
  have hm := quiet_mem hq' h
  subst hm
  cases o
  case eq neg t x y =>
    simp only [evalP] at h ⊢
    split at h
    · rename_i b hs hb
      injection h with h; injection h with h
      have : eqSafeB m2 (ρ x) (ρ y) = true := by
        cases t with
        | leaf l =>
          refine eq_safe (l := l) (fun e => ?_) hb
          subst e; simp [pureOp] at hq
        | struct fs =>
          cases hx : ρ x <;> first | rfl | (rw [hx] at hb; simp [eqV] at hb)
      rw [this, hb]
      simp [h]
    · cases h
  case len k x =>
    simp only [evalP] at h ⊢
    cases k
    case map => simp [pureOp] at hq
    all_goals
      cases hx : ρ x <;> rw [hx] at h <;> simp [isLK, lenV] at h ⊢ <;> exact h
  all_goals first | (simp [pureOp, quietOp] at hq; done) | skip
  all_goals
    simp only [evalP] at h ⊢
    first
    | (simp only [Option.some.injEq, Prod.mk.injEq] at h ⊢; exact ⟨h.1, trivial⟩)
    | (split at h
       · first
         | (simp only [Option.some.injEq, Prod.mk.injEq] at h ⊢; simp_all; done)
         | (split at h
            · simp_all
            · cases h)
       · cases h)
def pre {α : Type} (T : Nat → α) (n : Nat) : List α := ((List.range n).map T).reverse
theorem pre_succ {α : Type} (T : Nat → α) (n : Nat) : pre T (n + 1) = T n :: pre T n := by simp [pre, List.range_succ]
theorem pre_length {α : Type} (T : Nat → α) (n : Nat) : (pre T n).length = n := by simp [pre]
theorem pre_get {α : Type} (T : Nat → α) : ∀ (n k : Nat) (d : α), k < n → (pre T n).getD (n - 1 - k) d = T k
  | 0, k, d, h => by omega
  | n + 1, k, d, h => by
    rw [pre_succ]
    by_cases e : k = n
    · subst e; simp
    · have e1 : n + 1 - 1 - k = (n - 1 - k) + 1 := by omega
      rw [e1, List.getD_cons_succ]
      exact pre_get T n k d (by omega)
theorem pre_drop {α : Type} (T : Nat → α) : ∀ (n i : Nat), i ≤ n → (pre T n).drop (n - i) = pre T i
  | 0, i, h => by obtain rfl : i = 0 := by omega
                  rfl
  | n + 1, i, h => by
    by_cases e : i = n + 1
    · subst e; simp
    · have e1 : n + 1 - i = (n - i) + 1 := by omega
      rw [e1, pre_succ, List.drop_succ_cons]
      exact pre_drop T n i (by omega)
theorem pre_rev {α : Type} (T : Nat → α) (n k : Nat) (h : k < n) : ((pre T n).reverse)[k]? = some (T k) := by simp [pre, h]
def StepRel (P : Program) (G : Nat → Option (List AV)) (fr : List AV) (T : Nat → AV) (M : Nat → Mem) (i : Nat) (o : AOp) (g : Option (Opd × Bool)) : Prop :=
  (wants (Opd.ev (pre T i) fr) g = some false ∧ T i = .tup [] ∧ M (i + 1) = M i) ∨
  (wants (Opd.ev (pre T i) fr) g = some true ∧ evalP (Opd.ev (pre T i) fr) (M i) o = some (T i, M (i + 1))) ∨
  (wants (Opd.ev (pre T i) fr) g = some true ∧ ∃ f args, callOf (Opd.ev (pre T i) fr) o = some (f, args) ∧ CallSound P G f args (M i) (.ret (T i)) (M (i + 1)))
def PanRel (P : Program) (G : Nat → Option (List AV)) (fr : List AV) (T : Nat → AV) (M : Nat → Mem) (i : Nat) (o : AOp) (g : Option (Opd × Bool)) (v : AV) (m' : Mem) : Prop :=
  wants (Opd.ev (pre T i) fr) g = some true ∧
  ((∃ f args, callOf (Opd.ev (pre T i) fr) o = some (f, args) ∧ CallSound P G f args (M i) (.raise v) m') ∨
   ∃ x t p, o = .panic x ∧ Opd.ev (pre T i) fr x = .iface t p ∧ v = .iface t p ∧ m' = M i)
theorem pre_congr {α : Type} {T T' : Nat → α} {n : Nat} (h : ∀ k, k < n → T k = T' k) : pre T n = pre T' n := by
  simp only [pre]
  congr 1
  apply List.map_congr_left
  intro k hk
  exact h k (List.mem_range.1 hk)
def EndRel (P : Program) (G : Nat → Option (List AV)) (os : List (AOp × Option (Opd × Bool))) (fr : List AV) (d : Bool) (r : Rs) (m' : Mem) (T : Nat → AV) (M : Nat → Mem) (b N : Nat) : Prop :=
  (N = b + os.length ∧ M N = m' ∧ ∃ h', r = .env (pre T N) h' ∧ (d = true → h' = pre M N)) ∨
  ∃ v h' o g, r = .pan v (pre T N) h' ∧ (d = true → h' = pre M (N + 1)) ∧ os[N - b]? = some (o, g) ∧ PanRel P G fr T M N o g v m'
theorem tr_data {P : Program} {G : Nat → Option (List AV)} {os : List (AOp × Option (Opd × Bool))} {env fr : List AV} {d : Bool} {hist : List Mem} {m : Mem} {r : Rs} {m' : Mem} (ht : Tr P G os env fr d hist m r m') :
    ∀ (b : Nat) (T0 : Nat → AV) (M0 : Nat → Mem), env = pre T0 b → M0 b = m → (d = true → hist = pre M0 b) →
    ∃ (N : Nat) (T : Nat → AV) (M : Nat → Mem), (∀ k, k < b → T k = T0 k) ∧ (∀ k, k ≤ b → M k = M0 k) ∧ b ≤ N ∧
      (∀ i, b ≤ i → i < N → ∃ o g, os[i - b]? = some (o, g) ∧ StepRel P G fr T M i o g) ∧ EndRel P G os fr d r m' T M b N := by
  have next : ∀ {o : AOp} {g : Option (Opd × Bool)} {os : List (AOp × Option (Opd × Bool))} {env fr : List AV} {d : Bool} {h : List Mem} {m : Mem} {r : Rs} {m' : Mem} {v : AV} {m1 : Mem} (b : Nat) (T0 : Nat → AV) (M0 : Nat → Mem), env = pre T0 b → M0 b = m → (d = true → h = pre M0 b) →
      ((∀ (T : Nat → AV) (M : Nat → Mem), pre T b = env → T b = v → M b = m → M (b + 1) = m1 → StepRel P G fr T M b o g)) →
      (∀ (b : Nat) (T0 : Nat → AV) (M0 : Nat → Mem), v :: env = pre T0 b → M0 b = m1 → (d = true → pushH d m h = pre M0 b) →
        ∃ (N : Nat) (T : Nat → AV) (M : Nat → Mem), (∀ k, k < b → T k = T0 k) ∧ (∀ k, k ≤ b → M k = M0 k) ∧ b ≤ N ∧
        (∀ i, b ≤ i → i < N → ∃ o g, os[i - b]? = some (o, g) ∧ StepRel P G fr T M i o g) ∧ EndRel P G os fr d r m' T M b N) →
      ∃ (N : Nat) (T : Nat → AV) (M : Nat → Mem), (∀ k, k < b → T k = T0 k) ∧ (∀ k, k ≤ b → M k = M0 k) ∧ b ≤ N ∧
        (∀ i, b ≤ i → i < N → ∃ o' g', ((o, g) :: os)[i - b]? = some (o', g') ∧ StepRel P G fr T M i o' g') ∧ EndRel P G ((o, g) :: os) fr d r m' T M b N := by
    intro o g os env fr d h m r m' v m1 b T0 M0 he hm hh hstep ih
    have c1 : pre (fun k => if k = b then v else T0 k) b = env := by
      rw [he]; exact pre_congr fun k hk => if_neg (by omega)
    have c2 : pre (fun k => if k = b + 1 then m1 else M0 k) b = pre M0 b := pre_congr fun k hk => if_neg (by omega)
    obtain ⟨N, T, M, k1, k2, k3, k4, k5⟩ := ih (b + 1) (fun k => if k = b then v else T0 k) (fun k => if k = b + 1 then m1 else M0 k) (by rw [pre_succ, c1]; simp) (by simp)
      (fun hd => by rw [pre_succ, c2, ← hh hd, if_neg (by omega), hm]; simp [pushH, hd])
    have q1 : ∀ k, k < b → T k = T0 k := fun k hk => by rw [k1 k (by omega)]; exact if_neg (by omega)
    have q2 : ∀ k, k ≤ b → M k = M0 k := fun k hk => by rw [k2 k (by omega)]; exact if_neg (by omega)
    refine ⟨N, T, M, q1, q2, by omega, fun i h1 h2 => ?_, ?_⟩
    · by_cases e : i = b
      · subst e
        refine ⟨o, g, by simp, hstep T M (by rw [he]; exact pre_congr q1) (by rw [k1 _ (by omega)]; simp) (by rw [q2 _ (by omega)]; exact hm) (by rw [k2 _ (by omega)]; simp)⟩
      · obtain ⟨o', g', r1, r2⟩ := k4 i (by omega) h2
        have e1 : i - b = (i - (b + 1)) + 1 := by omega
        exact ⟨o', g', by rw [e1, List.getElem?_cons_succ]; exact r1, r2⟩
    · rcases k5 with ⟨r1, r2, r3⟩ | ⟨v', h', o', g', r1, r2, r3, r4⟩
      · exact .inl ⟨by simp only [List.length_cons]; omega, r2, r3⟩
      · have e1 : N - b = (N - (b + 1)) + 1 := by omega
        exact .inr ⟨v', h', o', g', r1, r2, by rw [e1, List.getElem?_cons_succ]; exact r3, r4⟩
  induction ht with
  | @nil env fr d h m =>
    intro b T0 M0 he hm hh
    exact ⟨b, T0, M0, fun _ _ => rfl, fun _ _ => rfl, Nat.le_refl _, fun i h1 h2 => absurd h1 (by omega), .inl ⟨by simp, hm, h, by rw [he], hh⟩⟩
  | @skip o g os env fr d h m r m' hw _ ih =>
    intro b T0 M0 he hm hh
    exact next b T0 M0 he hm hh (fun T M e1 e2 e3 e4 => .inl ⟨by rw [e1]; exact hw, e2, by rw [e3, e4]⟩) ih
  | @op o g os env fr d h m v m1 r m' hw hev _ ih =>
    intro b T0 M0 he hm hh
    exact next b T0 M0 he hm hh (fun T M e1 e2 e3 e4 => .inr (.inl ⟨by rw [e1]; exact hw, by rw [e1, e2, e3, e4]; exact hev⟩)) ih
  | @call o g os env fr d h m f args v m1 r m' hw hev hcs _ ih =>
    intro b T0 M0 he hm hh
    exact next b T0 M0 he hm hh (fun T M e1 e2 e3 e4 => .inr (.inr ⟨by rw [e1]; exact hw, f, args, by rw [e1]; exact hev, by rw [e2, e3, e4]; exact hcs⟩)) ih
  | @callP o g os env fr d h m f args v m1 hw hev hcs =>
    intro b T0 M0 he hm hh
    refine ⟨b, T0, M0, fun _ _ => rfl, fun _ _ => rfl, Nat.le_refl _, fun i h1 h2 => absurd h1 (by omega), .inr ⟨v, _, o, g, by rw [he], fun hd => ?_, by simp, by rw [← he]; exact hw, .inl ⟨f, args, by rw [← he]; exact hev, by rw [hm]; exact hcs⟩⟩⟩
    rw [pre_succ, ← hh hd, hm]; simp [pushH, hd]
  | @pan x g os env fr d h m t v hw hx =>
    intro b T0 M0 he hm hh
    refine ⟨b, T0, M0, fun _ _ => rfl, fun _ _ => rfl, Nat.le_refl _, fun i h1 h2 => absurd h1 (by omega), .inr ⟨.iface t v, _, .panic x, g, by rw [he], fun hd => ?_, by simp, by rw [← he]; exact hw, .inr ⟨x, t, v, rfl, by rw [← he]; exact hx, rfl, hm.symm⟩⟩⟩
    rw [pre_succ, ← hh hd, hm]; simp [pushH, hd]
def regW (ops : Array Oper) (t : Tmp) : Bool := ops.any fun o => decide (o.dst = some t)
theorem regW_spec {ops : Array Oper} {t : Tmp} (h : regW ops t = false) (i : Nat) : dstOf ops i ≠ some t := by
  intro hd
  unfold dstOf at hd
  cases ho : ops[i]? with
  | none => rw [ho] at hd; cases hd
  | some o =>
    rw [ho] at hd
    have h1 := Array.any_eq_false.1 h i (Array.getElem?_eq_some_iff.1 ho).1
    rw [(Array.getElem?_eq_some_iff.1 ho).2] at h1
    simp only [decide_eq_true_eq] at h1
    exact h1 hd
def predsOf (r : ARegion) (i : Nat) : List Nat := r.preds.getD i []
def effAt (r : ARegion) (i : Nat) : Bool :=
  match r.ops[i]? with
  | some (a, _) => !quietOp a
  | none => false
def drawX (r : ARegion) (ops : Array Oper) (i : Nat) (x : Operand) (y : Opd) : Bool :=
  match x, y with
  | .tmp _, .loc d => decide (i - 1 - d ∈ predsOf r i)
  | .tmp t, .var _ => (List.range ops.size).all fun k => decide (dstOf ops k ≠ some t) || decide (k ≤ i) || decide (i ∈ predsOf r k)
  | _, _ => true
def chkPred (ops : Array Oper) (r : ARegion) (i : Nat) : Bool :=
  match ops[i]?, r.ops[i]? with
  | some o, some (a, _) =>
    o.after.toList.all (fun e => !Region.binds .any e || decide (e.on < i)) &&
    (predsOf r i).all (fun p => decide (p < i) && o.after.toList.any fun e => Region.binds .any e && (decide (e.on = p) || decide (p ∈ predsOf r e.on))) &&
    (match o.guard with | some (k, _) => decide (k ∈ predsOf r i) | none => true) &&
    (if quietOp a then pureOp a || (List.range ops.size).all fun k => !effAt r k || decide (k ∈ predsOf r i) || decide (i ∈ predsOf r k) || decide ((i, k) ∈ r.pairs)
     else (List.range i).all fun k => !effAt r k || decide (k ∈ predsOf r i))
  | _, _ => false
def chkDraw (ops : Array Oper) (r : ARegion) : Bool :=
  (List.range ops.size).all (chkPred ops r) && r.okPan.all fun i => (List.range ops.size).all fun k => decide (k ≤ i) || decide (i ∈ predsOf r k)
def chkReg (P : Program) (xf : FuncId → Nat) (G : Nat → Option (List AV)) (slots : List Tmp) (nt : Nat) (ops : Array Oper) (draw : Bool) (r : ARegion) : Bool :=
  decide (r.draws = draw) && chkOps P xf G slots nt ops (if draw then drawX r ops else fun _ _ _ => true) 0 r.ops && chkExp slots ops ops.size r.exp && (!draw || chkDraw ops r)
section
variable {G : Nat → Option (List AV)} {w0 : World} {C : Cx} {m : Mem} {w : World} {P : Program} {xf : FuncId → Nat} {slots : List Tmp} {nt : Nat} {ops : Array Oper}
theorem chkOps_at {okx : Nat → Operand → Opd → Bool} : ∀ {os : List (AOp × Option (Opd × Bool))} {b : Nat}, chkOps P xf G slots nt ops okx b os = true → ops.size = b + os.length ∧
    ∀ i a g, os[i]? = some (a, g) → ∃ o, ops[b + i]? = some o ∧ chkStep P xf (fun x y => okOpd G slots ops (b + i) x y && okx (b + i) x y) o a = true ∧ guardOk ops (b + i) o.guard g = true ∧
      (match o.dst with | some t => decide (t < nt) && (List.range (b + i)).all fun k => decide (dstOf ops k ≠ some t) | none => true) = true
  | [], b, h => by
    simp only [chkOps, decide_eq_true_eq] at h
    exact ⟨by simpa using h, fun i a g hi => by simp at hi⟩
  | (a, g) :: os, b, h => by
    simp only [chkOps, Bool.and_eq_true] at h
    obtain ⟨h1, h2⟩ := h
    obtain ⟨k1, k2⟩ := chkOps_at h2
    refine ⟨by simp only [List.length_cons]; omega, fun i a' g' hi => ?_⟩
    cases i with
    | zero =>
      simp only [List.getElem?_cons_zero, Option.some.injEq, Prod.mk.injEq] at hi
      obtain ⟨rfl, rfl⟩ := hi
      split at h1
      · rename_i o ho
        simp only [Bool.and_eq_true] at h1
        exact ⟨o, ho, h1.1.1, h1.1.2, h1.2⟩
      · cases h1
    | succ i =>
      rw [List.getElem?_cons_succ] at hi
      have e : b + (i + 1) = b + 1 + i := by omega
      rw [e]
      exact k2 i a' g' hi
theorem first_of (f : Nat → Bool) (x : Nat) : ∀ n, (∀ k, x ≤ k → k < x + n → f k = false) ∨ ∃ e, x ≤ e ∧ e < x + n ∧ f e = true ∧ ∀ k, x ≤ k → k < e → f k = false
  | 0 => .inl fun k h1 h2 => absurd h1 (by omega)
  | n + 1 => by
    rcases first_of f x n with h | ⟨e, h1, h2, h3, h4⟩
    · cases hf : f (x + n)
      · exact .inl fun k h1 h2 => by
          by_cases e : k = x + n
          · subst e; exact hf
          · exact h k h1 (by omega)
      · exact .inr ⟨x + n, by omega, by omega, hf, fun k h1 h2 => h k h1 h2⟩
    · exact .inr ⟨e, h1, by omega, h3, h4⟩
theorem last_of (f : Nat → Bool) (x : Nat) : ∀ n, (∀ k, x ≤ k → k < x + n → f k = false) ∨ ∃ e, x ≤ e ∧ e < x + n ∧ f e = true ∧ ∀ k, e < k → k < x + n → f k = false
  | 0 => .inl fun k h1 h2 => absurd h1 (by omega)
  | n + 1 => by
    cases hf : f (x + n)
    · rcases last_of f x n with h | ⟨e, h1, h2, h3, h4⟩
      · exact .inl fun k h1 h2 => by
          by_cases e : k = x + n
          · subst e; exact hf
          · exact h k h1 (by omega)
      · exact .inr ⟨e, h1, by omega, h3, fun k q1 q2 => by
          by_cases e : k = x + n
          · subst e; exact hf
          · exact h4 k q1 (by omega)⟩
    · exact .inr ⟨x + n, by omega, by omega, hf, fun k h1 h2 => absurd h1 (by omega)⟩
theorem countP_lt {p q : Nat → Bool} : ∀ {l : List Nat}, (∀ x ∈ l, q x = true → p x = true) → (∃ x ∈ l, p x = true ∧ q x = false) → l.countP q < l.countP p
  | [], _, ⟨x, hx, _⟩ => by simp at hx
  | y :: l, h, ⟨x, hx, h1, h2⟩ => by
    have hmono : l.countP q ≤ l.countP p := List.countP_mono_left fun z hz hq => h z (by simp [hz]) hq
    simp only [List.countP_cons]
    rcases List.mem_cons.1 hx with rfl | hx
    · rw [h1, h2]; simp; omega
    · have := countP_lt (l := l) (fun z hz => h z (by simp [hz])) ⟨x, hx, h1, h2⟩
      have hy := h y (by simp)
      cases hq : q y
      · simp; omega
      · rw [hy hq]; simp; omega
theorem callOf_eff {ρ : Opd → AV} {o : AOp} {f : FuncId} {args : List AV} (h : callOf ρ o = some (f, args)) : quietOp o = false := by
  cases o <;> first | rfl | (simp [callOf] at h)
theorem any_ok (hX : XfOk P xf) {r : ARegion} (hc : chkOps P xf G slots nt ops (drawX r ops) 0 r.ops = true) (hd : chkDraw ops r = true) {fr : List AV} {T : Nat → AV} {M : Nat → Mem} {N : Nat} {C0 : Cx} {ds : List Deferred} {Q : Exit → Act → World → Prop}
    (hsteps : ∀ i, i < N → ∃ o g, r.ops[i]? = some (o, g) ∧ StepRel P G fr T M i o g)
    (hst : ∀ p ∈ r.pairs, p.1 < N → p.2 < N → ∀ o g, r.ops[p.1]? = some (o, g) → wants (Opd.ev (pre T p.1) fr) g = some true →
      (evalP (Opd.ev (pre T p.1) fr) (M p.2) o).map (·.1) = some (T p.1) ∧ (evalP (Opd.ev (pre T p.1) fr) (M (p.2 + 1)) o).map (·.1) = some (T p.1))
    (hend : (N = ops.size ∧ ∀ C' a' w', Cx.Le C0 C' → Inv G w0 C' (M N) w' → a'.defers = ds → RegRel C' slots nt ops T fr (fun k => k < N) a'.tmps → Q .normal a' w') ∨
      (N < ops.size ∧ N ∈ r.okPan ∧ ∃ o g v m', r.ops[N]? = some (o, g) ∧ PanRel P G fr T M N o g v m' ∧ ∀ C' cv a' w', Cx.Le C0 C' → Inv G w0 C' m' w' → a'.defers = ds → Rep C' v cv → PanFr C' slots nt ops fr a'.tmps → Q (.panic [{ v := cv, recovered := false }]) a' w')) :
    ∀ (fuel : Nat) (listed : Array Bool) (C : Cx) (w : World) (a : Act) (j : Nat), listed.size = ops.size → (List.range ops.size).countP (fun i => !listed.getD i true) ≤ fuel →
      (∀ i p, listed.getD i false = true → p ∈ predsOf r i → listed.getD p false = true) → (∀ i, listed.getD i false = true → i < N) → j ≤ N → (∀ e, effAt r e = true → (e < j ↔ listed.getD e false = true)) →
      Cx.Le C0 C → Inv G w0 C (M j) w → RegRel C slots nt ops T fr (fun i => listed.getD i false = true) a.tmps → a.defers = ds → wpAny P .any ops Q fuel listed a w := by
  obtain ⟨hsize, hat⟩ := chkOps_at hc
  simp only [Nat.zero_add] at hsize hat
  simp only [chkDraw, Bool.and_eq_true, List.all_eq_true, List.mem_range] at hd
  obtain ⟨hpred, hpan⟩ := hd
  have hNs : N ≤ ops.size := by rcases hend with h | h <;> omega
  -- memory stands between the effects
  have hconst : ∀ (n x : Nat), x + n ≤ N → (∀ k, x ≤ k → k < x + n → effAt r k = false) → M x = M (x + n) := by
    intro n
    induction n with
    | zero => intro x _ _; rfl
    | succ n ih =>
      intro x hx hq
      rw [ih x (by omega) fun k h1 h2 => hq k h1 (by omega)]
      obtain ⟨o, g, k1, k2⟩ := hsteps (x + n) (by omega)
      have he := hq (x + n) (by omega) (by omega)
      simp only [effAt, k1, Bool.not_eq_false'] at he
      rcases k2 with ⟨_, _, k⟩ | ⟨_, k⟩ | ⟨_, f, args, k, _⟩
      · exact k.symm
      · exact (quiet_mem he k).symm
      · rw [callOf_eff k] at he; cases he
  have hconst' : ∀ x y, x ≤ y → y ≤ N → (∀ k, x ≤ k → k < y → effAt r k = false) → M x = M y := by
    intro x y hxy hy hq
    have := hconst (y - x) x (by omega) (fun k h1 h2 => hq k h1 (by omega))
    rwa [show x + (y - x) = y by omega] at this
  have hsame : ∀ x y, x ≤ N → y ≤ N → (∀ e, effAt r e = true → (e < x ↔ e < y)) → M x = M y := by
    intro x y hx hy hq
    rcases Nat.le_total x y with h | h
    · refine hconst' x y h hy fun k h1 h2 => ?_
      cases hk : effAt r k with
      | false => rfl
      | true => have := (hq k hk).2 h2; omega
    · refine (hconst' y x h hx fun k h1 h2 => ?_).symm
      cases hk : effAt r k with
      | false => rfl
      | true => have := (hq k hk).1 h2; omega
  have hgd : ∀ (l : Array Bool) i, l.getD i true = false ↔ i < l.size ∧ l.getD i false = false := by
    intro l i
    by_cases h : i < l.size
    · simp [Array.getD_eq_getD_getElem?, h]
    · simp [Array.getD_eq_getD_getElem?, h]
  have hpr : ∀ i, i < ops.size → ∃ o a g, ops[i]? = some o ∧ r.ops[i]? = some (a, g) ∧ (∀ e ∈ o.after, Region.binds .any e = true → e.on < i) ∧ (∀ p ∈ predsOf r i, p < i ∧ ∃ e ∈ o.after, Region.binds .any e = true ∧ (e.on = p ∨ p ∈ predsOf r e.on)) ∧
      (∀ k b, o.guard = some (k, b) → k ∈ predsOf r i) ∧ (quietOp a = true → pureOp a = true ∨ ∀ k, k < ops.size → effAt r k = true → k ∈ predsOf r i ∨ i ∈ predsOf r k ∨ (i, k) ∈ r.pairs) ∧ (quietOp a = false → ∀ k, k < i → effAt r k = true → k ∈ predsOf r i) := by
    intro i hi
    have h := hpred i hi
    unfold chkPred at h
    split at h
    · rename_i o a g ho ha
      simp only [Bool.and_eq_true, List.all_eq_true, decide_eq_true_eq, List.any_eq_true, Bool.or_eq_true, Bool.not_eq_true', Array.mem_toList_iff] at h
      obtain ⟨⟨⟨h1, h2⟩, h3⟩, h4⟩ := h
      refine ⟨o, a, g, ho, ha, fun e he hb => ?_, fun p hp => ?_, fun k b hg => ?_, fun hq => ?_, fun hq k hk he => ?_⟩
      · rcases h1 e he with h | h
        · rw [hb] at h; cases h
        · exact h
      · obtain ⟨q1, e, q2, q3, q4⟩ := h2 p hp
        exact ⟨q1, e, q2, q3, q4⟩
      · rw [hg] at h3; simpa using h3
      · rw [if_pos hq] at h4
        simp only [Bool.or_eq_true, List.all_eq_true, List.mem_range, decide_eq_true_eq, Bool.not_eq_true'] at h4
        rcases h4 with h4 | h4
        · exact .inl h4
        · refine .inr fun k hk he => ?_
          rcases h4 k hk with ((h | h) | h) | h
          · rw [he] at h; cases h
          · exact .inl h
          · exact .inr (.inl h)
          · exact .inr (.inr h)
      · rw [if_neg (by simp [hq])] at h4
        simp only [Bool.or_eq_true, List.all_eq_true, List.mem_range, decide_eq_true_eq, Bool.not_eq_true'] at h4
        rcases h4 k hk with h | h
        · rw [he] at h; cases h
        · exact h
    · cases h
  -- all is done
  have hfin : ∀ (listed : Array Bool) (C : Cx) (w : World) (a : Act) (j : Nat), listed.size = ops.size → (∀ i, i < ops.size → listed.getD i false = true) → (∀ i, listed.getD i false = true → i < N) → j ≤ N → (∀ e, effAt r e = true → (e < j ↔ listed.getD e false = true)) →
      Cx.Le C0 C → Inv G w0 C (M j) w → RegRel C slots nt ops T fr (fun i => listed.getD i false = true) a.tmps → a.defers = ds → Q .normal a w := by
    intro listed C w a j hs hall hlt hj heff hle hI hR hds
    rcases hend with ⟨hN, hQ⟩ | ⟨hN, _⟩
    · have hM : M j = M N := hsame j N hj (Nat.le_refl _) fun e he => by
        have h1 := heff e he
        constructor
        · intro h; exact hlt e (h1.1 h)
        · intro h; exact h1.2 (hall e (by omega))
      rw [hM] at hI
      refine hQ C a w hle hI hds ?_
      have : (fun k => k < N) = (fun i => listed.getD i false = true) := by
        funext k; exact propext ⟨fun h => hall k (by omega), fun h => hlt k h⟩
      rw [this]; exact hR
    · have := hlt N (hall N hN); omega
  intro fuel
  induction fuel with
  | zero =>
    intro listed C w a j hs hcnt hcl hlt hj heff hle hI hR hds
    have hall : ∀ i, i < ops.size → listed.getD i false = true := by
      intro i hi
      have := List.countP_eq_zero.1 (Nat.le_zero.1 hcnt) i (List.mem_range.2 hi)
      cases h : listed.getD i false with
      | true => rfl
      | false => exact absurd (by rw [(hgd listed i).2 ⟨by omega, h⟩]; rfl) this
    refine ⟨?_, hfin listed C w a j hs hall hlt hj heff hle hI hR hds⟩
    rw [List.eq_nil_iff_forall_not_mem]
    intro i hi
    rw [mem_ready] at hi
    obtain ⟨h1, o, h2, _⟩ := hi
    have h3 := (hgd listed i).1 h1
    rw [hall i (by omega)] at h3
    exact absurd h3.2 (by simp)
  | succ fuel ih =>
    intro listed C w a j hs hcnt hcl hlt hj heff hle hI hR hds
    refine ⟨fun hr => ?_, fun i hi => ?_⟩
    · refine hfin listed C w a j hs (fun i => ?_) hlt hj heff hle hI hR hds
      induction i using Nat.strongRecOn with
      | ind i ihi =>
        intro hi
        cases h : listed.getD i false with
        | true => rfl
        | false =>
          obtain ⟨o, _, _, ho, _, hb, _⟩ := hpr i hi
          have : i ∈ Region.ready .any ops listed := mem_ready.2 ⟨(hgd listed i).2 ⟨by omega, h⟩, o, ho, fun e he hbe => ihi e.on (hb e he hbe) (by have := hb e he hbe; omega)⟩
          rw [hr] at this; cases this
    · rw [mem_ready] at hi
      obtain ⟨hi1, o, ho, hedges⟩ := hi
      obtain ⟨hil, hinot⟩ := (hgd listed i).1 hi1
      have hilt : i < ops.size := by omega
      obtain ⟨o', av, g, ho', ha, hback, hpreds, hguard, hquiet, heffp⟩ := hpr i hilt
      rw [ho] at ho'; injection ho' with ho'; subst ho'
      have hpl : ∀ p ∈ predsOf r i, listed.getD p false = true := fun p hp => by
        obtain ⟨_, e, he, hb, h⟩ := hpreds p hp
        rcases h with h | h
        · rw [← h]; exact hedges e he hb
        · exact hcl e.on p (hedges e he hb) h
      obtain ⟨o2, ho2, hstep, hgok, hdst⟩ := hat i av g ha
      rw [ho] at ho2; injection ho2 with ho2; subst ho2
      -- what holds behind it
      have hlt2 : ∀ k t, dstOf ops k = some t → k < i → t < nt := fun k t hk hki => by
        obtain ⟨ok, ak, gk, hok, hak, _⟩ := hpr k (by omega)
        obtain ⟨o3, ho3, _, _, hd3⟩ := hat k ak gk hak
        simp only [dstOf, ho3, Option.bind_some] at hk
        rw [hk] at hd3
        simp only [Bool.and_eq_true, decide_eq_true_eq] at hd3
        exact hd3.1
      have hdis : ∀ k t, k ≠ i → dstOf ops k = some t → o.dst = some t → ¬ listed.getD k false = true := fun k t hk hkd hod hx => by
        rcases Nat.lt_or_gt_of_ne hk with h | h
        · rw [hod] at hdst
          simp only [Bool.and_eq_true, List.all_eq_true, List.mem_range, decide_eq_true_eq] at hdst
          exact hdst.2 k h hkd
        · have hk' : k < ops.size := by
            have : k < N := hlt k hx
            omega
          obtain ⟨ok, ak, gk, hok, hak, _⟩ := hpr k hk'
          obtain ⟨o3, ho3, _, _, hd3⟩ := hat k ak gk hak
          simp only [dstOf, ho3, Option.bind_some] at hkd
          rw [hkd] at hd3
          simp only [Bool.and_eq_true, List.all_eq_true, List.mem_range, decide_eq_true_eq] at hd3
          exact hd3.2 i h (by simp [dstOf, ho, hod])
      have hset : ∀ k, (listed.setIfInBounds i true).getD k false = true ↔ listed.getD k false = true ∨ k = i := by
        intro k
        by_cases hk : i = k
        · subst hk; simp [Array.getD_eq_getD_getElem?, hil]
        · rw [getD_set_ne false hk]; constructor
          · exact .inl
          · intro h; exact h.resolve_right (fun e => hk e.symm)
      have hcnt' : (List.range ops.size).countP (fun k => !(listed.setIfInBounds i true).getD k true) ≤ fuel := by
        have := countP_lt (l := List.range ops.size) (p := fun k => !listed.getD k true) (q := fun k => !(listed.setIfInBounds i true).getD k true) (fun x _ hq => by
          by_cases hk : i = x
          · subst hk; simp [Array.getD_eq_getD_getElem?, hil] at hq
          · rw [getD_set_ne true hk] at hq; exact hq) ⟨i, List.mem_range.2 hilt, by rw [hi1]; rfl, by simp [Array.getD_eq_getD_getElem?, hil]⟩
        omega
      have goOn : i < N → ∀ (C' : Cx) (cv : Value) (w' : World) (j' : Nat), j' ≤ N → (∀ e, effAt r e = true → (e < j' ↔ listed.getD e false = true ∨ e = i)) → Cx.Le C C' → Inv G w0 C' (M j') w' → Rep C' (T i) cv → wpAny P .any ops Q fuel (listed.setIfInBounds i true) (a.put o.dst cv) w' := by
        intro hiN C' cv w' j' hj' heff' hle' hI' hv
        refine ih _ C' w' _ j' (by simpa using hs) hcnt' (fun k p hk hp => ?_) (fun k hk => ?_) hj' (fun e he => by rw [hset]; exact heff' e he) (hle.trans hle') hI' ?_ (by cases o.dst <;> exact hds)
        · rw [hset] at hk ⊢
          rcases hk with hk | rfl
          · exact .inl (hcl k p hk hp)
          · exact .inl (hpl p hp)
        · rcases (hset k).1 hk with h | rfl
          · exact hlt k h
          · exact hiN
        · exact RegRel.step (i := i) (hR.mono hle') ho (fun t ht => by rw [ht] at hdst; simp only [Bool.and_eq_true, decide_eq_true_eq] at hdst; exact hdst.1) (fun k _ => rfl) (fun k => hset k) hdis hv
      have hgetT : ∀ k, k < i → T k = (pre T i).getD (i - 1 - k) .u := fun k hk => (pre_get T i k .u hk).symm
      have H : ∀ x y, (okOpd G slots ops i x y && drawX r ops i x y) = true → Rep C (Opd.ev (pre T i) fr y) (a.eval x) := by
        intro x y hxy
        refine opd_rep hI hR (pre_length T i) hgetT (and_l hxy) (fun t d hx hy => ?_) (fun t jj hx hy k hk hex => ?_)
        · have := and_r hxy
          subst hx; subst hy
          simp only [drawX, decide_eq_true_eq] at this
          exact hpl _ this
        · have h1 := okOpd_var (and_l hxy) hx hy k hk
          have := and_r hxy
          subst hx; subst hy
          have hkN := hlt k hex
          simp only [drawX, List.all_eq_true, List.mem_range, Bool.or_eq_true, decide_eq_true_eq] at this
          rcases this k (by omega) with (h | h) | h
          · exact h hk
          · have : k = i := by omega
            subst this
            rw [hinot] at hex; cases hex
          · have := hcl k i hex h
            rw [hinot] at this; cases this
      have hwant : ∀ {b : Bool}, wants (Opd.ev (pre T i) fr) g = some b → Region.wanted o (yielded ops a.tmps) = b := fun hw =>
        guard_wanted hR (pre_length T i) hgetT hgok (fun k b hk => hpl k (hguard k b hk)) hlt2 hw
      -- effects ahead of an effect
      have heffi : quietOp av = false → ∀ e, effAt r e = true → (listed.getD e false = true ↔ e < i) := by
        intro hq e he
        constructor
        · intro hl
          rcases Nat.lt_trichotomy e i with h | h | h
          · exact h
          · subst h; rw [hinot] at hl; cases hl
          · have heN := hlt e hl
            obtain ⟨_, ae, ge, _, hae, _, _, _, _, hep⟩ := hpr e (by omega)
            have hqe : quietOp ae = false := by simpa [effAt, hae] using he
            have hmem := hep hqe i h (by simp [effAt, ha, hq])
            have := hcl e i hl hmem
            rw [hinot] at this; cases this
        · intro h
          exact hpl e (heffp hq e h he)
      have hMj : quietOp av = false → i ≤ N → M j = M i := fun hq hiN => hsame j i hj hiN fun e he => (heff e he).trans (heffi hq e he)
      have hj'eff : quietOp av = false → ∀ e, effAt r e = true → (e < i + 1 ↔ listed.getD e false = true ∨ e = i) := by
        intro hq e he
        rw [heffi hq e he]; omega
      have hj'q : quietOp av = true → ∀ e, effAt r e = true → (e < j ↔ listed.getD e false = true ∨ e = i) := by
        intro hq e he
        rw [heff e he]
        constructor
        · exact .inl
        · rintro (h | rfl)
          · exact h
          · simp [effAt, ha, hq] at he
      unfold wpOp
      rw [ho]
      simp only
      by_cases hiN : i < N
      · obtain ⟨o3, g3, k1, k2⟩ := hsteps i hiN
        rw [ha] at k1; injection k1 with k1; injection k1 with e1 e2; subst e1; subst e2
        rcases k2 with ⟨q1, q2, q3⟩ | ⟨q1, q2⟩ | ⟨q1, f, args, q2, q3⟩
        · rw [hwant q1]
          simp only [Bool.false_eq_true, if_false]
          have hv : Rep C (T i) undef := by rw [q2]; exact .tup _ _ rfl fun i hi => absurd hi (by simp)
          cases hq : quietOp av with
          | true => exact goOn hiN C undef w j hj (hj'q hq) (.refl C) hI hv
          | false =>
            have e := hMj hq (by omega)
            exact goOn hiN C undef w (i + 1) hiN (hj'eff hq) (.refl C) (by rw [q3, ← e]; exact hI) hv
        · rw [hwant q1]
          simp only [if_true]
          left
          cases hq : quietOp av with
          | true =>
            have hM := quiet_mem hq q2
            have hval : evalP (Opd.ev (pre T i) fr) (M j) av = some (T i, M j) := by
              rcases hquiet hq with hp | hp
              · exact pure_any hp q2 (M j)
              · have conv : ∀ mm : Mem, (evalP (Opd.ev (pre T i) fr) mm av).map (·.1) = some (T i) → evalP (Opd.ev (pre T i) fr) mm av = some (T i, mm) := by
                  intro mm h
                  cases hh : evalP (Opd.ev (pre T i) fr) mm av with
                  | none => rw [hh] at h; cases h
                  | some vm =>
                    obtain ⟨v1, m1⟩ := vm
                    rw [hh] at h
                    simp only [Option.map_some, Option.some.injEq] at h
                    rw [quiet_mem hq hh, h]
                have hself : evalP (Opd.ev (pre T i) fr) (M i) av = some (T i, M i) := by rw [q2, hM]
                rcases Nat.le_total j i with hji | hji
                · rcases first_of (effAt r) j (i - j) with h | ⟨e, h1, h2, h3, h4⟩
                  · have := hconst' j i hji (by omega) fun k h1 h2 => h k h1 (by omega)
                    rw [this]; exact hself
                  · have hel : ¬ listed.getD e false = true := fun hl => by have := (heff e h3).2 hl; omega
                    have hpair : (i, e) ∈ r.pairs := by
                      rcases hp e (by omega) h3 with h | h | h
                      · exact absurd (hpl e h) hel
                      · obtain ⟨_, _, _, _, _, _, hpe, _⟩ := hpr e (by omega)
                        have := (hpe i h).1; omega
                      · exact h
                    have hh := (hst (i, e) hpair hiN (by simp only; omega) av g ha q1).1
                    have hm : M j = M e := hconst' j e h1 (by omega) h4
                    rw [hm]; exact conv _ hh
                · rcases last_of (effAt r) i (j - i) with h | ⟨e, h1, h2, h3, h4⟩
                  · have := hconst' i j hji (by omega) fun k h1 h2 => h k h1 (by omega)
                    rw [← this]; exact hself
                  · have hel : listed.getD e false = true := (heff e h3).1 (by omega)
                    have heN := hlt e hel
                    have hpair : (i, e) ∈ r.pairs := by
                      rcases hp e (by omega) h3 with h | h | h
                      · have := (hpreds e h).1; omega
                      · have := hcl e i hel h
                        rw [hinot] at this; cases this
                      · exact h
                    have hh := (hst (i, e) hpair hiN heN av g ha q1).2
                    have hm : M (e + 1) = M j := hconst' (e + 1) j (by omega) (by omega) fun k h1 h2 => h4 k (by omega) (by omega)
                    rw [← hm]; exact conv _ hh
            exact step_eval hI hX H hstep hval fun C' cv w' hle' hI' hv => goOn hiN C' cv w' j hj (hj'q hq) hle' hI' hv
          | false =>
            rw [hMj hq (by omega)] at hI
            exact step_eval hI hX H hstep q2 fun C' cv w' hle' hI' hv => goOn hiN C' cv w' (i + 1) hiN (hj'eff hq) hle' hI' hv
        · rw [hwant q1]
          simp only [if_true]
          left
          have hq := callOf_eff q2
          rw [hMj hq (by omega)] at hI
          refine step_call hI H hstep q2 q3 (fun C' cv w' v hv' hle' hI' hv => ?_) (fun C' cv w' v hv' => by cases hv')
          injection hv' with hv'; subst hv'
          exact goOn hiN C' cv w' (i + 1) hiN (hj'eff hq) hle' hI' hv
      · rcases hend with ⟨hN, _⟩ | ⟨hN, hok, o3, g3, v, m', k1, ⟨k2, k3⟩, k4⟩
        · omega
        · have hiN' : i = N := by
            rcases Nat.lt_or_ge N i with h | h
            · rcases (by simpa using hpan N hok i hilt : i ≤ N ∨ N ∈ predsOf r i) with h' | h'
              · omega
              · have := hlt N (hpl N h'); omega
            · omega
          subst hiN'
          rw [ha] at k1; injection k1 with k1; injection k1 with e1 e2; subst e1; subst e2
          rw [hwant k2]
          simp only [if_true]
          left
          rcases k3 with ⟨f, args, q2, q3⟩ | ⟨x, t, p, rfl, q2, rfl, rfl⟩
          · have hq := callOf_eff q2
            rw [hMj hq (Nat.le_refl _)] at hI
            refine step_call hI H hstep q2 q3 (fun C' cv w' v hv' => by cases hv') (fun C' cv w' v hv' hle' hI' hv => ?_)
            injection hv' with hv'; subst hv'
            exact k4 C' cv a w' (hle.trans hle') hI' hds hv (hR.panFr hle')
          · rw [hMj rfl (Nat.le_refl _)] at hI
            exact step_pan H hstep q2 fun cv hv => k4 C cv a w hle hI hds hv (hR.panFr (.refl C))
theorem region_ok (hX : XfOk P xf) (hm : P.follows .mixedOrders = true) {id : Nat} {draw : Bool} {r : ARegion} (hc : chkReg P xf G slots nt ops draw r = true) {fr : List AV} {a : Act} (hI : Inv G w0 C m w) (hF : FrameRel C slots nt fr a.tmps) {rr : Rs} {m' : Mem}
    (ht : Tr P G r.ops [] fr (!r.pairs.isEmpty) [] m rr m') :
    (∀ env hist, rr = .env env hist → Stable r env fr (pushH (!r.pairs.isEmpty) m' hist) → (Code.region id ops draw).wp P (PostC G w0 C slots nt (regW ops) m' .normal (exports env fr r.exp) a.defers) a w) ∧
    ∀ v env hist, rr = .pan v env hist → (r.draws = true → env.length ∈ r.okPan) → Stable r env fr hist → (Code.region id ops draw).wp P (PostC G w0 C slots nt (regW ops) m' (.pan v) fr a.defers) a w := by
  simp only [chkReg, Bool.and_eq_true, decide_eq_true_eq] at hc
  obtain ⟨⟨⟨c1, c2⟩, c3⟩, c4⟩ := hc
  cases draw with
  | false =>
    have e0 : List.range ops.size = List.range' ([] : List AV).length (ops.size - ([] : List AV).length) := by simp [List.range_eq_range']
    refine ⟨fun env hist he _ => wp_region ?_, fun v env hist he _ _ => wp_region ?_⟩
    · rw [e0]
      refine tr_text (T := fun _ => .u) (ds := a.defers) hX ht c2 (fun k t _ h => absurd h (Nat.not_lt_zero _)) hI rfl (fun k h => absurd h (Nat.not_lt_zero _)) (hF.reg _) (fun env' h' he' hlen C' T' a' w' hle hI' hd hT hR => ?_) (fun v env' h' he' => by rw [he] at he'; cases he')
      rw [he] at he'; injection he' with e1 e2; subst e1
      rw [← hlen] at c3
      exact ⟨C', hle, hI', hd, rfl, exports_rel hR hlen hT c3⟩
    · rw [e0]
      refine tr_text (T := fun _ => .u) (ds := a.defers) hX ht c2 (fun k t _ h => absurd h (Nat.not_lt_zero _)) hI rfl (fun k h => absurd h (Nat.not_lt_zero _)) (hF.reg _) (fun env' h' he' => by rw [he] at he'; cases he') (fun v' env' h' he' C' cv a' w' hle hI' hd hv hpf => ?_)
      rw [he] at he'; injection he' with e1 e2 e3; subst e1
      exact ⟨C', hle, hI', hd, cv, rfl, hv, hpf.1, fun j t hs ht => hpf.2 j t hs (regW_spec ht)⟩
  | true =>
    obtain ⟨N, T, M, k1, k2, k3, k4, k5⟩ := tr_data ht 0 (fun _ => .u) (fun _ => m) rfl rfl (fun _ => rfl)
    simp only [Nat.zero_le, true_implies, Nat.sub_zero] at k4
    have hM0 : M 0 = m := k2 0 (Nat.le_refl _)
    have hsize := (chkOps_at c2).1
    simp only [Nat.zero_add] at hsize
    have run : ∀ (Q : Exit → Act → World → Prop), (∀ p ∈ r.pairs, p.1 < N → p.2 < N → ∀ o g, r.ops[p.1]? = some (o, g) → wants (Opd.ev (pre T p.1) fr) g = some true →
        (evalP (Opd.ev (pre T p.1) fr) (M p.2) o).map (·.1) = some (T p.1) ∧ (evalP (Opd.ev (pre T p.1) fr) (M (p.2 + 1)) o).map (·.1) = some (T p.1)) →
        ((N = ops.size ∧ ∀ C' a' w', Cx.Le C C' → Inv G w0 C' (M N) w' → a'.defers = a.defers → RegRel C' slots nt ops T fr (fun k => k < N) a'.tmps → Q .normal a' w') ∨
        (N < ops.size ∧ N ∈ r.okPan ∧ ∃ o g v m', r.ops[N]? = some (o, g) ∧ PanRel P G fr T M N o g v m' ∧ ∀ C' cv a' w', Cx.Le C C' → Inv G w0 C' m' w' → a'.defers = a.defers → Rep C' v cv → PanFr C' slots nt ops fr a'.tmps → Q (.panic [{ v := cv, recovered := false }]) a' w')) →
        (Code.region id ops true).wp P Q a w := by
      intro Q hst hend
      refine wp_region_any hm (any_ok hX c2 (by simpa using c4) k4 hst hend ops.size (Array.replicate ops.size false) C _ a 0 (by simp) ?_ ?_ ?_ (Nat.zero_le _) ?_ (.refl C) (by rw [hM0]; exact hI.drew) ?_ rfl)
      · exact Nat.le_trans List.countP_le_length (by simp)
      · intro i p hi; exact absurd hi (by simp only [Array.getD_eq_getD_getElem?, Array.getElem?_replicate]; split <;> simp)
      · intro i hi; exact absurd hi (by simp only [Array.getD_eq_getD_getElem?, Array.getElem?_replicate]; split <;> simp)
      · intro e _
        constructor
        · intro h; exact absurd h (Nat.not_lt_zero _)
        · intro hi; exact absurd hi (by simp only [Array.getD_eq_getD_getElem?, Array.getElem?_replicate]; split <;> simp)
      · refine ⟨hF.1, fun i t _ he => ?_, fun j t hs _ => hF.2 j t hs⟩
        exact absurd he (by simp only [Array.getD_eq_getD_getElem?, Array.getElem?_replicate]; split <;> simp)
    have stab : ∀ (hist : List Mem), hist.length = N + 1 ∨ r.pairs = [] → (r.pairs ≠ [] → hist = pre M (N + 1)) → Stable r (pre T N) fr hist → ∀ p ∈ r.pairs, p.1 < N → p.2 < N → ∀ o g, r.ops[p.1]? = some (o, g) → wants (Opd.ev (pre T p.1) fr) g = some true →
        (evalP (Opd.ev (pre T p.1) fr) (M p.2) o).map (·.1) = some (T p.1) ∧ (evalP (Opd.ev (pre T p.1) fr) (M (p.2 + 1)) o).map (·.1) = some (T p.1) := by
      intro hist _ hh hs p hp h1 h2 o g ho hw
      have hhh := hh (fun e => by rw [e] at hp; cases hp)
      subst hhh
      have := hs p hp (by rw [pre_length]; exact h1) (by rw [pre_length]; exact h2)
      unfold rereads at this
      rw [ho] at this
      simp only at this
      rw [pre_length, pre_drop T N p.1 (by omega), pre_get T N p.1 .u h1] at this
      exact this hw _ _ (pre_rev M (N + 1) p.2 (by omega)) (pre_rev M (N + 1) (p.2 + 1) (by omega))
    have hdne : r.pairs ≠ [] → (!r.pairs.isEmpty) = true := fun h => by cases hp : r.pairs with
      | nil => exact absurd hp h
      | cons _ _ => rfl
    refine ⟨fun env hist he hs => ?_, fun v env hist he hop hs => ?_⟩
    · subst he
      rcases k5 with ⟨q1, q2, h', q3, q4⟩ | ⟨v, h', o, g, q1, _⟩
      · injection q3 with e1 e2
        subst e1; subst e2
        simp only [Nat.zero_add] at q1
        refine run _ (stab _ ?_ (fun hne => ?_) hs) (.inl ⟨by omega, fun C' a' w' hle hI' hd' hR => ?_⟩)
        · by_cases hne : r.pairs = []
          · exact .inr hne
          · left; simp only [pushH, hdne hne, if_true]; rw [q4 (hdne hne)]; simp [pre_length]
        · simp only [pushH, hdne hne, if_true]; rw [q4 (hdne hne), pre_succ, q2]
        · rw [q2] at hI'
          have hc3 : chkExp slots ops (pre T N).length r.exp = true := by rw [pre_length, q1, ← hsize]; exact c3
          have hR' : RegRel C' slots nt ops T fr (fun k => k < (pre T N).length) a'.tmps := by rw [pre_length]; exact hR
          exact ⟨C', hle, hI', hd', rfl, exports_rel hR' (by rw [pre_length, q1, ← hsize]) (fun k hk => by rw [pre_length] at hk ⊢; exact (pre_get T N k .u hk).symm) hc3⟩
      · cases q1
    · subst he
      rcases k5 with ⟨q1, q2, h', q3, q4⟩ | ⟨v', h', o, g, q1, q2, q3, q4⟩
      · cases q3
      · injection q1 with e1 e2 e3
        subst e1; subst e2; subst e3
        simp only [Nat.sub_zero] at q3
        have hN : N < ops.size := by rw [hsize]; exact (List.getElem?_eq_some_iff.1 q3).1
        refine run _ (stab _ ?_ (fun hne => q2 (hdne hne)) hs) (.inr ⟨hN, ?_, o, g, v, m', q3, q4, fun C' cv a' w' hle hI' hd' hv hpf => ⟨C', hle, hI', hd', cv, rfl, hv, hpf.1, fun j t hs ht => hpf.2 j t hs (regW_spec ht)⟩⟩)
        · by_cases hne : r.pairs = []
          · exact .inr hne
          · left; rw [q2 (hdne hne)]; simp [pre_length]
        · have := hop c1
          rwa [pre_length] at this
end
end Go.Proofs.YtkjokjogdehonaaGreatDoor.Am
namespace Go.Proofs.YtkjokjogdehonaaGreatDoor.Am
open Go Go.RowKit
def chkC (P : Program) (xf : FuncId → Nat) (G : Nat → Option (List AV)) (slots : List Tmp) (nt : Nat) : Code → ACode → Bool
  | .skip, .skip => true
  | .region _ ops draw, .region r => chkReg P xf G slots nt ops draw r
  | .seq a b, .seq a' b' => chkC P xf G slots nt a a' && chkC P xf G slots nt b b'
  | .cond c a b, .cond c' a' b' => okOpd G slots #[] 0 c c' && chkC P xf G slots nt a a' && chkC P xf G slots nt b b'
  | .block id a, .block id' a' => decide (id = id') && chkC P xf G slots nt a a'
  | .loop a, .loop _ a' => chkC P xf G slots nt a a'
  | .exit id, .exit id' => decide (id = id')
  | .ret, .ret => true
  | _, .stuck => true
  | _, _ => false
def codeW : Code → Tmp → Bool
  | .region _ ops _, t => regW ops t
  | .seq a b, t => codeW a t || codeW b t
  | .cond _ a b, t => codeW a t || codeW b t
  | .block _ a, t => codeW a t
  | .loop a, t => codeW a t
  | _, _ => false
theorem FrameRel.mono {C C' : Cx} (h : Cx.Le C C') {slots : List Tmp} {nt : Nat} {fr : List AV} {tmps : Array Value} (hr : FrameRel C slots nt fr tmps) : FrameRel C' slots nt fr tmps :=
  ⟨hr.1, fun j t hs => (hr.2 j t hs).mono h⟩
theorem kills_rel {C : Cx} {slots : List Tmp} {nt : Nat} {fr : List AV} {tmps : Array Value} (h : FrameRel C slots nt fr tmps) : ∀ ks : List Nat, FrameRel C slots nt (kills ks fr) tmps
  | [] => h
  | k :: ks => by
    have ih := kills_rel h ks
    refine ⟨ih.1, fun j t hs => ?_⟩
    simp only [kills]
    by_cases e : k = j
    · subst e
      by_cases hin : k < (kills ks fr).length
      · have e1 : ((kills ks fr).set k .u).getD k .u = .u := by simp [List.getD, List.getElem?_set_self hin]
        rw [e1]; exact .u _
      · have e1 : ((kills ks fr).set k .u).getD k .u = .u := by simp only [List.getD]; rw [List.getElem?_eq_none (by simpa using hin)]; rfl
        rw [e1]; exact .u _
    · have e1 : ((kills ks fr).set k .u).getD j .u = (kills ks fr).getD j .u := by simp [List.getD, List.getElem?_set_ne e]
      rw [e1]; exact ih.2 j t hs
def LoopGoes (P : Program) (c : Code) (Q : Exit → Act → World → Prop) (a : Act) (w : World) : Prop :=
  ∀ (b : Frame) (k : List Item) (cs : List Frame), ∃ e a' w', Q e a' w' ∧ Arrives P (lone (b.at a (.code c :: .inLoop c :: k)) cs w) b k cs e a' w'
theorem LoopGoes.wp {P : Program} {c : Code} {Q : Exit → Act → World → Prop} {a : Act} {w : World} (h : LoopGoes P c Q a w) : (Code.loop c).wp P Q a w :=
  fun b k cs => let ⟨e, a', w', q, r⟩ := h b k cs; ⟨e, a', w', q, .of_steps (.one step_loop) r⟩
theorem loop_goes {P : Program} {c : Code} {Q : Exit → Act → World → Prop} {a : Act} {w : World} (h : c.wp P (Exit.then (LoopGoes P c Q) Q) a w) : LoopGoes P c Q a w := by
  intro b k cs
  obtain ⟨e, a₁, w₁, hq, harr⟩ := h b (.inLoop c :: k) cs
  cases e with
  | normal =>
    obtain ⟨e₂, a₂, w₂, hq₂, harr₂⟩ := hq b k cs
    exact ⟨e₂, a₂, w₂, hq₂, .of_steps (Steps.trans harr (.one step_inLoop)) harr₂⟩
  | exit id => exact ⟨_, a₁, w₁, hq, .pass (x := .inLoop c) rfl (fun _ _ => .inl (by simp)) harr⟩
  | goto l => exact ⟨_, a₁, w₁, hq, .pass (x := .inLoop c) rfl (fun _ _ => .inl (by simp)) harr⟩
  | ret => exact ⟨_, a₁, w₁, hq, .pass (x := .inLoop c) rfl (fun _ _ => .inl (by simp)) harr⟩
  | panic ch => exact ⟨_, a₁, w₁, hq, .pass (x := .inLoop c) rfl (fun _ _ => .inl (by simp)) harr⟩
  | outgrown => exact ⟨_, a₁, w₁, hq, .pass (x := .inLoop c) rfl (fun _ _ => .inl (by simp)) harr⟩
def resOk (P : Program) (slots : List Tmp) : List ResultVar → List ARes → Bool
  | [], [] => true
  | .tmp t :: rs, .var j :: qs => decide (slots[j]? = some t) && resOk P slots rs qs
  | .cell a t :: rs, .cell j g n :: qs => decide (slots[j]? = some a) && shapeOk P t g n && resOk P slots rs qs
  | _, _ => false
def fnOk (P : Program) (xf : FuncId → Nat) (G : Nat → Option (List AV)) (fn : Func) (q : AFn) : Bool :=
  decide (fn.params.size = q.nparams) && decide (q.nparams ≤ fn.ntmps) && decide (q.nslots = q.slots.length) && decide (q.slots.take q.nparams = List.range q.nparams) && decide (q.nparams ≤ q.nslots) && q.slots.all (fun t => decide (t < fn.ntmps)) &&
    !(fn.name == "runtime.NumGoroutine") && resOk P q.slots fn.results.toList q.results && (match fn.body with
    | some c => chkC P xf G q.slots fn.ntmps c q.body
    | none => false)
section
variable {G : Nat → Option (List AV)} {w0 : World} {C : Cx} {m : Mem} {w : World} {P : Program} {xf : FuncId → Nat} {slots : List Tmp} {nt : Nat} {F : FuncId → Option AFn}
def resStep (tmps : Array Value) : ResultVar → Sem Value
  | .tmp t => pure (tmps.getD t undef)
  | .cell a t => do loadVar t (← asAddr (tmps.getD a undef))
theorem results_run (hI : Inv G w0 C m w) {fr : List AV} {tmps : Array Value} (hF : FrameRel C slots nt fr tmps) (hnt : ∀ (j : Nat) (t : Tmp), slots[j]? = some t → t < nt) : ∀ {rs : List ResultVar} {qs : List ARes} {vs : List AV}, resOk P slots rs qs = true → resultsOf fr m qs = some vs →
    ∃ us : List Value, (rs.mapM (resStep tmps)).run P w = .ok us w ∧ listRep C vs us
  | [], [], vs, _, h => by
    simp only [resultsOf, Option.some.injEq] at h; subst h
    exact ⟨[], by simp, trivial⟩
  | .tmp t :: rs, .var j :: qs, vs, hc, h => by
    simp only [resOk, Bool.and_eq_true, decide_eq_true_eq] at hc
    simp only [resultsOf, ARes.get] at h
    split at h
    · rename_i v vs' hv hvs
      injection hv with hv; subst hv
      injection h with h; subst h
      obtain ⟨us, k1, k2⟩ := results_run hI hF hnt hc.2 hvs
      exact ⟨tmps.getD t undef :: us, by simp only [List.mapM_cons, resStep, Sem.run_bind, Sem.run_pure, Result.andThen_ok, k1], hF.2 j t hc.1, k2⟩
    · cases h
  | .cell a t :: rs, .cell j g n :: qs, vs, hc, h => by
    simp only [resOk, Bool.and_eq_true, decide_eq_true_eq] at hc
    simp only [resultsOf, ARes.get] at h
    split at h
    · rename_i v vs' hv hvs
      injection h with h; subst h
      obtain ⟨us, k1, k2⟩ := results_run hI hF hnt hc.2 hvs
      obtain ⟨b, base, off, cs, e, l1, l2⟩ := load_at hI (hF.2 j a hc.1.1) hv
      obtain ⟨cv, l3, l4⟩ := run_loadVar_at (P := P) l1 l2 hc.1.2
      have ha : (asAddr (tmps.getD a undef)).run P w = .ok ⟨b, base + off, none⟩ w := by rw [e]; rfl
      exact ⟨cv :: us, by simp only [List.mapM_cons, resStep, Sem.run_bind, ha, Sem.run_pure, Result.andThen_ok, l3, k1], l4, k2⟩
    · cases h
  | [], _ :: _, _, hc, _ => by simp [resOk] at hc
  | .tmp _ :: _, [], _, hc, _ => by simp [resOk] at hc
  | .cell _ _ :: _, [], _, hc, _ => by simp [resOk] at hc
  | .tmp _ :: _, .cell _ _ _ :: _, _, hc, _ => by simp [resOk] at hc
  | .cell _ _ :: _, .var _ :: _, _, hc, _ => by simp [resOk] at hc
theorem results_sound (hI : Inv G w0 C m w) {fr : List AV} {tmps : Array Value} (hF : FrameRel C slots nt fr tmps) (hnt : ∀ (j : Nat) (t : Tmp), slots[j]? = some t → t < nt) {fn : Func} {qs : List ARes} {vs : List AV} (hc : resOk P slots fn.results.toList qs = true) (h : resultsOf fr m qs = some vs) :
    ∃ v, (results fn tmps).run P w = .ok v w ∧ Rep C (oneOr vs) v := by
  obtain ⟨us, h1, h2⟩ := results_run (P := P) hI hF hnt hc h
  change ∃ v, (do let vs ← fn.results.mapM (resStep tmps); pure (if h : vs.size = 1 then vs[0] else .tuple vs) : Sem Value).run P w = .ok v w ∧ Rep C (oneOr vs) v
  rw [Array.mapM_eq_mapM_toList]
  simp only [Sem.run_bind, Sem.run_map, h1, Result.andThen_ok, Sem.run_pure]
  refine ⟨_, rfl, ?_⟩
  match vs, us, h2 with
  | [], [], _ => exact .tup _ _ rfl fun i hi => absurd hi (by simp)
  | [v], [x], h => simpa [oneOr] using h.1
  | v1 :: v2 :: vs, x1 :: x2 :: us, h =>
    obtain ⟨k1, k2⟩ := listRep_iff h
    simp only [List.size_toArray, List.length_cons]
    rw [dif_neg (by omega)]
    refine .tup _ _ (by simpa using k1) fun i hi => ?_
    have := k2 i hi
    rwa [Array.getD_eq_getD_getElem?, List.getElem?_toArray]
theorem fn_parts {fn : Func} {q : AFn} (h : fnOk P xf G fn q = true) {args : List AV} (hl : args.length = q.nparams) {argsV : Array Value} (ha : listRep C args argsV.toList) :
    ∃ c, fn.body = some c ∧ chkC P xf G q.slots fn.ntmps c q.body = true ∧ (∀ (j : Nat) (t : Tmp), q.slots[j]? = some t → t < fn.ntmps) ∧ True ∧ resOk P q.slots fn.results.toList q.results = true ∧ fn.name ≠ "runtime.NumGoroutine" ∧
      FrameRel C q.slots fn.ntmps (args ++ List.replicate (q.nslots - q.nparams) .u) (argsV ++ Array.replicate (fn.ntmps - argsV.size) undef) := by
  simp only [fnOk, Bool.and_eq_true, decide_eq_true_eq] at h
  obtain ⟨⟨⟨⟨⟨⟨⟨⟨h1, h2⟩, h3⟩, h4⟩, h5⟩, h9⟩, h6⟩, h7⟩, h8⟩ := h
  split at h8
  · rename_i c hb
    obtain ⟨k1, k2⟩ := listRep_arr ha
    have hsz : argsV.size = q.nparams := by omega
    refine ⟨c, hb, h8, fun j t hj => ?_, trivial, h7, by simpa using h6, by simp; omega, fun j t hj => ?_⟩
    · exact of_decide_eq_true (List.all_eq_true.1 h9 t (List.mem_of_getElem? hj))
    · by_cases hjp : j < q.nparams
      · have e : (q.slots.take q.nparams)[j]? = some t := by rw [List.getElem?_take, if_pos hjp]; exact hj
        rw [h4, List.getElem?_range hjp] at e
        injection e with e; subst e
        have e1 : (args ++ List.replicate (q.nslots - q.nparams) AV.u).getD j .u = args.getD j .u := getD_append_left (by omega)
        have e2 : (argsV ++ Array.replicate (fn.ntmps - argsV.size) undef).getD j undef = argsV.getD j undef := by
          rw [Array.getD_eq_getD_getElem?, Array.getD_eq_getD_getElem?, Array.getElem?_append_left (by omega)]
        rw [e1, e2]
        exact k2 j (by omega)
      · have e1 : (args ++ List.replicate (q.nslots - q.nparams) AV.u).getD j .u = .u := by
          rw [getD_append_right (by omega)]
          simp only [List.getD, List.getElem?_replicate]; split <;> rfl
        rw [e1]; exact .u _
  · cases h8
def Means (P : Program) (xf : FuncId → Nat) (G : Nat → Option (List AV)) (t : Tk) (m : Mem) (r : Rs) (m' : Mem) : Prop :=
  match t with
  | .code c fr => match r with
    | .exit e fr' => ∀ (w0 : World) (C : Cx) (w : World) (a : Act) (slots : List Tmp) (nt : Nat), Inv G w0 C m w → FrameRel C slots nt fr a.tmps →
        (∀ code, chkC P xf G slots nt code c = true → code.wp P (PostC G w0 C slots nt (codeW code) m' e fr' a.defers) a w) ∧
        ∀ ks b code, c = .loop ks b → chkC P xf G slots nt code b = true → LoopGoes P code (PostC G w0 C slots nt (codeW code) m' e fr' a.defers) a w
    | _ => False
  | .ops os env fr d h => Tr P G os env fr d h m r m'
theorem PostC.weaken {C C' : Cx} (h : Cx.Le C C') {m' : Mem} {e : AExit} {fr' : List AV} {ds ds' : List Deferred} (hd : ds = ds') {wr wr' : Tmp → Bool} (hw : ∀ t, wr' t = false → wr t = false) {ex : Exit} {a : Act} {w : World} (hp : PostC G w0 C' slots nt wr m' e fr' ds ex a w) : PostC G w0 C slots nt wr' m' e fr' ds' ex a w := by
  obtain ⟨C2, h1, h2, h3, h4⟩ := hp
  refine ⟨C2, h.trans h1, h2, h3.trans hd, ?_⟩
  cases e with
  | normal => exact h4
  | exit => exact h4
  | ret => exact h4
  | pan v => obtain ⟨cv, k1, k2, k3, k4⟩ := h4; exact ⟨cv, k1, k2, k3, fun j t hs ht => k4 j t hs (hw t ht)⟩
theorem of_noloop {c : ACode} {e : AExit} {fr fr' : List AV} {m m' : Mem} (hnl : ∀ ks b, c ≠ .loop ks b)
    (h : ∀ (w0 : World) (C : Cx) (w : World) (a : Act) (slots : List Tmp) (nt : Nat), Inv G w0 C m w → FrameRel C slots nt fr a.tmps → ∀ code, chkC P xf G slots nt code c = true → code.wp P (PostC G w0 C slots nt (codeW code) m' e fr' a.defers) a w) :
    Means P xf G (.code c fr) m (.exit e fr') m' :=
  fun w0 C w a slots nt hI hF => ⟨fun code hc => h w0 C w a slots nt hI hF code hc, fun ks b code he => absurd he (hnl ks b)⟩
theorem big_sound (hX : XfOk P xf) (hm : P.follows .mixedOrders = true) {K : FuncId → List AV → Mem → Rs → Mem → Prop} (hK : ∀ f args m r m', K f args m r m' → CallSound P G f args m r m') {t : Tk} {m : Mem} {r : Rs} {m' : Mem} (h : Big K t m r m') : Means P xf G t m r m' := by
  induction h with
  | skip =>
    refine of_noloop (by simp) fun w0 C w a slots nt hI hF code hc => ?_
    cases code <;> simp [chkC] at hc
    exact wp_skip ⟨C, .refl C, hI, rfl, rfl, hF⟩
  | exit =>
    refine of_noloop (by simp) fun w0 C w a slots nt hI hF code hc => ?_
    cases code <;> simp [chkC] at hc
    subst hc
    exact wp_exit ⟨C, .refl C, hI, rfl, rfl, hF⟩
  | ret =>
    refine of_noloop (by simp) fun w0 C w a slots nt hI hF code hc => ?_
    cases code <;> simp [chkC] at hc
    exact wp_ret ⟨C, .refl C, hI, rfl, rfl, hF⟩
  | @seqN a b fr m fr' m' rr m'' h1 h2 ih1 ih2 =>
    cases rr with
    | exit e fr2 =>
      refine of_noloop (by simp) fun w0 C w a slots nt hI hF code hc => ?_
      cases code <;> simp [chkC] at hc
      refine wp_seq (wp_mono ((ih1 w0 C w a slots nt hI hF).1 _ hc.1) fun ex a' w' hp => ?_)
      obtain ⟨C', p1, p2, p3, rfl, p5⟩ := hp
      exact wp_mono ((ih2 w0 C' w' a' slots nt p2 p5).1 _ hc.2) fun ex2 a2 w2 hp2 => hp2.weaken p1 p3 (fun t ht => by simp only [codeW, Bool.or_eq_false_iff] at ht; exact ht.2)
    | _ => exact ih2.elim
  | @seqX a b fr m e fr' m' h1 hne ih1 =>
    refine of_noloop (by simp) fun w0 C w a slots nt hI hF code hc => ?_
    cases code <;> simp [chkC] at hc
    rename_i ca cb
    refine wp_seq (wp_mono ((ih1 w0 C w a slots nt hI hF).1 _ hc.1) fun ex a' w' hp => ?_)
    have hx : ex ≠ .normal := by
      rintro rfl
      obtain ⟨C', p1, p2, p3, p4⟩ := hp
      cases e <;> simp [ExitRep] at p4
      exact hne rfl
    have hp' := hp.weaken (.refl C) rfl (wr' := codeW (.seq ca cb)) (fun t ht => by simp only [codeW, Bool.or_eq_false_iff] at ht; exact ht.1)
    cases ex <;> first | exact absurd rfl hx | exact hp'
  | @cond c a b fr m t rr m' hcv h1 ih =>
    cases rr with
    | exit e fr2 =>
      refine of_noloop (by simp) fun w0 C w a slots nt hI hF code hc => ?_
      cases code <;> simp [chkC] at hc
      obtain ⟨⟨c1, c2⟩, c3⟩ := hc
      have hr := opd_rep (a := a) hI (hF.reg (ops := #[]) (fun _ => .u)) (env := []) (i := 0) rfl (fun k hk => absurd hk (Nat.not_lt_zero _)) c1 (fun t d hx hy => absurd (okOpd_loc c1 hx hy) (Nat.not_lt_zero _)) (fun t j hx hy k hk => by simp [dstOf] at hk)
      rw [hcv] at hr
      refine wp_cond (rep_bool hr) ?_
      cases t
      · exact wp_mono ((ih w0 C w a slots nt hI hF).1 _ c3) fun ex2 a2 w2 hp2 => hp2.weaken (.refl C) rfl (fun t ht => by simp only [codeW, Bool.or_eq_false_iff] at ht; exact ht.2)
      · exact wp_mono ((ih w0 C w a slots nt hI hF).1 _ c2) fun ex2 a2 w2 hp2 => hp2.weaken (.refl C) rfl (fun t ht => by simp only [codeW, Bool.or_eq_false_iff] at ht; exact ht.1)
    | _ => exact ih.elim
  | @blockN id a fr m fr' m' h1 ih =>
    refine of_noloop (by simp) fun w0 C w a slots nt hI hF code hc => ?_
    cases code <;> simp [chkC] at hc
    obtain ⟨rfl, hc⟩ := hc
    refine wp_block (wp_mono ((ih w0 C w a slots nt hI hF).1 _ hc) fun ex a' w' hp => ?_)
    obtain ⟨C', p1, p2, p3, rfl, p5⟩ := hp
    simp only [Exit.inBlock, if_true]
    exact ⟨C', p1, p2, p3, rfl, p5⟩
  | @blockX id a fr m e fr' m' h1 hne ih =>
    refine of_noloop (by simp) fun w0 C w a slots nt hI hF code hc => ?_
    cases code <;> simp [chkC] at hc
    obtain ⟨rfl, hc⟩ := hc
    refine wp_block (wp_mono ((ih w0 C w a slots nt hI hF).1 _ hc) fun ex a' w' hp => ?_)
    obtain ⟨C', p1, p2, p3, p4⟩ := hp
    cases e with
    | normal => obtain ⟨rfl, p5⟩ := p4; exact ⟨C', p1, p2, p3, rfl, p5⟩
    | ret => obtain ⟨rfl, p5⟩ := p4; exact ⟨C', p1, p2, p3, rfl, p5⟩
    | pan v => obtain ⟨cv, rfl, p5⟩ := p4; exact ⟨C', p1, p2, p3, cv, rfl, p5⟩
    | exit id' =>
      obtain ⟨rfl, p5⟩ := p4
      simp only [Exit.inBlock]
      rw [if_neg (fun e => hne (congrArg AExit.exit e))]
      exact ⟨C', p1, p2, p3, rfl, p5⟩
  | @loopN ks b fr m fr' m' rr m'' h1 h2 ih1 ih2 =>
    cases rr with
    | exit e fr2 =>
      intro w0 C w a slots nt hI hF
      have key : ∀ code, chkC P xf G slots nt code b = true → LoopGoes P code (PostC G w0 C slots nt (codeW code) m'' e fr2 a.defers) a w := by
        intro code hc
        refine loop_goes (wp_mono ((ih1 w0 C w a slots nt hI hF).1 _ hc) fun ex a' w' hp => ?_)
        obtain ⟨C', p1, p2, p3, rfl, p5⟩ := hp
        have hg := (ih2 w0 C' w' a' slots nt p2 (kills_rel p5 ks)).2 ks b code rfl hc
        intro bf k cs
        obtain ⟨e2, a2, w2, q1, q2⟩ := hg bf k cs
        exact ⟨e2, a2, w2, q1.weaken p1 p3 (fun _ h => h), q2⟩
      refine ⟨fun code hc => ?_, fun ks' b' code he hc => ?_⟩
      · cases code <;> simp [chkC] at hc
        exact (key _ hc).wp
      · injection he with e1 e2; subst e2; exact key code hc
    | _ => exact ih2.elim
  | @loopX ks b fr m e fr' m' h1 hne ih =>
    intro w0 C w a slots nt hI hF
    have key : ∀ code, chkC P xf G slots nt code b = true → LoopGoes P code (PostC G w0 C slots nt (codeW code) m' e fr' a.defers) a w := by
      intro code hc
      refine loop_goes (wp_mono ((ih w0 C w a slots nt hI hF).1 _ hc) fun ex a' w' hp => ?_)
      have hx : ex ≠ .normal := by
        rintro rfl
        obtain ⟨C', p1, p2, p3, p4⟩ := hp
        cases e <;> simp [ExitRep] at p4
        exact hne rfl
      cases ex <;> first | exact absurd rfl hx | exact hp
    refine ⟨fun code hc => ?_, fun ks' b' code he hc => ?_⟩
    · cases code <;> simp [chkC] at hc
      exact (key _ hc).wp
    · injection he with e1 e2; subst e2; exact key code hc
  | @region r fr m env hist m' h1 hst ih =>
    refine of_noloop (by simp) fun w0 C w a slots nt hI hF code hc => ?_
    cases code <;> simp [chkC] at hc
    exact (region_ok hX hm hc hI hF ih).1 env hist rfl hst
  | @regionP r fr m v env hist m' h1 hop hst ih =>
    refine of_noloop (by simp) fun w0 C w a slots nt hI hF code hc => ?_
    cases code <;> simp [chkC] at hc
    exact (region_ok hX hm hc hI hF ih).2 v env hist rfl hop hst
  | opsNil => exact .nil
  | opsSkip h1 h2 ih => exact .skip h1 ih
  | opsP h1 h2 h3 ih => exact .op h1 h2 ih
  | opsC h1 h2 h3 h4 ih => exact .call h1 h2 (hK _ _ _ _ _ h3) ih
  | opsCP h1 h2 h3 => exact .callP h1 h2 (hK _ _ _ _ _ h3)
  | opsPan h1 h2 => exact .pan h1 h2
theorem call_ret (hX : XfOk P xf) (hm : P.follows .mixedOrders = true) {K : FuncId → List AV → Mem → Rs → Mem → Prop} (hK : ∀ f args m r m', K f args m r m' → CallSound P G f args m r m') {f : FuncId} {fn : Func} {q : AFn} (hfn : P.funcs[f]? = some fn) (hok : fnOk P xf G fn q = true)
    {args : List AV} {m m' : Mem} (hl : args.length = q.nparams) {e : AExit} {fr' : List AV} {vs : List AV} (h : Big K (.code q.body (args ++ List.replicate (q.nslots - q.nparams) .u)) m (.exit e fr') m') (he : e = .normal ∨ e = .ret) (hr : resultsOf fr' m' q.results = some vs) :
    CallSound P G f args m (.ret (oneOr vs)) m' := by
  intro w0 C w argsV hI hargs
  obtain ⟨c, hb, hcc, hnt, hpar, hres, hname, hfr⟩ := fn_parts hok hl hargs
  refine ⟨⟨fn, hfn, by rw [hb]; rfl, hname⟩, ?_⟩
  refine calls_of_wp hfn hb (wp_mono ((big_sound hX hm hK h w0 C w { tmps := argsV ++ Array.replicate (fn.ntmps - argsV.size) undef, defers := [] } q.slots fn.ntmps hI hfr).1 _ hcc) fun ex a' w' hp => ?_)
  obtain ⟨C', p1, p2, p3, p4⟩ := hp
  have fin : FrameRel C' q.slots fn.ntmps fr' a'.tmps → bodyPost P fn (fun e w' => ∃ C', Cx.Le C C' ∧ Inv G w0 C' m' w' ∧ OutRep C' (.ret (oneOr vs)) e) .ret a' w' := by
    intro p5
    obtain ⟨v, k1, k2⟩ := results_sound (P := P) p2 p5 hnt hres hr
    exact ⟨p3, v, k1, C', p1, p2, k2⟩
  rcases he with rfl | rfl
  · obtain ⟨rfl, p5⟩ := p4
    exact fin p5
  · obtain ⟨rfl, p5⟩ := p4
    exact fin p5
theorem call_pan (hX : XfOk P xf) (hm : P.follows .mixedOrders = true) {K : FuncId → List AV → Mem → Rs → Mem → Prop} (hK : ∀ f args m r m', K f args m r m' → CallSound P G f args m r m') {f : FuncId} {fn : Func} {q : AFn} (hfn : P.funcs[f]? = some fn) (hok : fnOk P xf G fn q = true)
    {args : List AV} {m m' : Mem} (hl : args.length = q.nparams) {v : AV} {fr' : List AV} (h : Big K (.code q.body (args ++ List.replicate (q.nslots - q.nparams) .u)) m (.exit (.pan v) fr') m') :
    CallSound P G f args m (.raise v) m' := by
  intro w0 C w argsV hI hargs
  obtain ⟨c, hb, hcc, hnt, hpar, hres, hname, hfr⟩ := fn_parts hok hl hargs
  refine ⟨⟨fn, hfn, by rw [hb]; rfl, hname⟩, ?_⟩
  refine calls_of_wp hfn hb (wp_mono ((big_sound hX hm hK h w0 C w { tmps := argsV ++ Array.replicate (fn.ntmps - argsV.size) undef, defers := [] } q.slots fn.ntmps hI hfr).1 _ hcc) fun ex a' w' hp => ?_)
  obtain ⟨C', p1, p2, p3, cv, rfl, p5, _⟩ := hp
  exact ⟨p3, C', p1, p2, cv, rfl, p5⟩
end
end Go.Proofs.YtkjokjogdehonaaGreatDoor.Am
namespace Go.Proofs.YtkjokjogdehonaaGreatDoor.Am
open Go Go.RowKit
structure ADfr where
  nparams : Nat
  slots : List Nat
  results : List ARes
  head : ACode
  caps : List Nat
  rest : ACode
  g : FuncId
  gslots : List Nat
  gx : Nat
  grest : ACode
def capsOk (slots : List Tmp) : List Operand → List Nat → Bool
  | [], [] => true
  | .tmp t :: xs, j :: js => decide (slots[j]? = some t) && capsOk slots xs js
  | _, _ => false
def deferOk (slots : List Tmp) (nt : Nat) (caps : List Nat) (g : FuncId) : List Oper → Bool
  | [{ dst := some t, op := .makeFunc (.func g') first cap, guard := none, .. }, { dst := none, op := .defer { callee := .value (.tmp t'), args, .. }, guard := none, .. }] =>
    decide (t' = t) && decide (g' = g) && first.isEmpty && args.isEmpty && capsOk slots cap.toList caps && decide (t < nt) && slots.all fun u => decide (u ≠ t)
  | _ => false
def recovOk (slots : List Tmp) (nt : Nat) (gx : Nat) : List Oper → Bool
  | [{ dst := some u, op := .call { callee := .builtin .recover, args, .. }, guard := none, .. }, { dst := some x, op := .assign (.tmp u'), guard := none, .. }] =>
    decide (u' = u) && args.isEmpty && decide (slots[gx]? = some x) && decide (u < nt) && decide (x < nt) && (slots.all fun t => decide (t ≠ u)) && decide slots.Nodup
  | _ => false
def resW (cd : Code) (slots : List Nat) : List ARes → Bool
  | [] => true
  | .var j :: rs => (match slots[j]? with | some t => !codeW cd t | none => false) && resW cd slots rs
  | .cell j _ _ :: rs => (match slots[j]? with | some t => !codeW cd t | none => false) && resW cd slots rs
def dfrOk (P : Program) (xf : FuncId → Nat) (G : Nat → Option (List AV)) (fn gn : Func) (q : ADfr) : Bool :=
  decide (fn.params.size = q.nparams) && decide (q.nparams ≤ fn.ntmps) && decide (q.slots.take q.nparams = List.range q.nparams) && decide (q.nparams ≤ q.slots.length) && q.slots.all (fun t => decide (t < fn.ntmps)) &&
    !(fn.name == "runtime.NumGoroutine") && resOk P q.slots fn.results.toList q.results &&
    !(gn.name == "runtime.NumGoroutine") && gn.results.isEmpty && decide (q.gslots.take q.caps.length = List.range q.caps.length) && decide (q.caps.length ≤ q.gslots.length) && decide (q.caps.length ≤ gn.ntmps) && q.gslots.all (fun t => decide (t < gn.ntmps)) &&
    (match fn.body, gn.body with
    | some (.seq a (.seq (.region _ os false) b)), some (.seq (.region _ rs false) c) =>
      chkC P xf G q.slots fn.ntmps a q.head && deferOk q.slots fn.ntmps q.caps q.g os.toList && chkC P xf G q.slots fn.ntmps b q.rest && resW b q.slots q.results &&
      recovOk q.gslots gn.ntmps q.gx rs.toList && chkC P xf G q.gslots gn.ntmps c q.grest
    | _, _ => false)
section
variable {G : Nat → Option (List AV)} {w0 : World} {C : Cx} {m : Mem} {w : World} {P : Program} {xf : FuncId → Nat} {slots : List Tmp} {nt : Nat}
theorem capsOk_rep {fr : List AV} {a : Act} (hF : FrameRel C slots nt fr a.tmps) : ∀ {xs : List Operand} {js : List Nat}, capsOk slots xs js = true → listRep C (js.map fun j => fr.getD j .u) (xs.map a.eval)
  | [], [], _ => trivial
  | .tmp t :: xs, j :: js, h => by
    simp only [capsOk, Bool.and_eq_true, decide_eq_true_eq] at h
    exact ⟨hF.2 j t h.1, capsOk_rep hF h.2⟩
  | [], _ :: _, h => by simp [capsOk] at h
  | .tmp _ :: _, [], h => by simp [capsOk] at h
  | .const _ :: _, [], h => by simp [capsOk] at h
  | .const _ :: _, _ :: _, h => by simp [capsOk] at h
  | .global _ :: _, [], h => by simp [capsOk] at h
  | .global _ :: _, _ :: _, h => by simp [capsOk] at h
  | .func _ :: _, [], h => by simp [capsOk] at h
  | .func _ :: _, _ :: _, h => by simp [capsOk] at h
theorem defer_wp {id : Nat} {os : Array Oper} {caps : List Nat} {g : FuncId} (hc : deferOk slots nt caps g os.toList = true) {fr : List AV} {a : Act} (hF : FrameRel C slots nt fr a.tmps) {Q : Exit → Act → World → Prop}
    (hQ : ∀ a' (cvs : Array Value), FrameRel C slots nt fr a'.tmps → a'.defers = { target := .fn (.func g) cvs, args := #[] } :: a.defers → listRep C (caps.map fun j => fr.getD j .u) cvs.toList → Q .normal a' w) :
    (Code.region id os false).wp P Q a w := by
  obtain ⟨l⟩ := os
  simp only at hc
  unfold deferOk at hc
  split at hc
  · rename_i t g' first cap ty pos af t' args at' ty' pos' af'
    simp only [Bool.and_eq_true, decide_eq_true_eq, Array.isEmpty_iff] at hc
    obtain ⟨⟨⟨⟨⟨⟨rfl, rfl⟩, rfl⟩, rfl⟩, h5⟩, h6⟩, h7⟩ := hc
    refine wp_region ?_
    have hsz : t' < a.tmps.size := by rw [hF.1]; exact h6
    show wpOps P _ Q [0, 1] a w
    simp only [wpOps, List.getElem?_toArray, List.getElem?_cons_zero, List.getElem?_cons_succ, Region.wanted, if_true]
    left
    simp only [Oper.wp, execOp, Sem.run_pure, Oper.upon, Array.map_empty]
    left
    have ev : (a.put (some t') (Value.func (.func g') #[] (cap.map a.eval))).eval (.tmp t') = Value.func (.func g') #[] (cap.map a.eval) := by
      simp [Act.put, Act.eval, Array.getD_eq_getD_getElem?, hsz]
    simp only [resolve, ev, Deferred.ofValue, Sem.run_bind, Sem.run_pure, Result.andThen_ok, Array.map_empty, Array.empty_append, Oper.upon]
    refine hQ _ (cap.map a.eval) ⟨?_, fun j u hs => ?_⟩ rfl ?_
    · simp [Act.put, hF.1]
    · have hne : u ≠ t' := of_decide_eq_true (List.all_eq_true.1 h7 u (List.mem_of_getElem? hs))
      have := hF.2 j u hs
      simpa [Act.put, Array.getD_eq_getD_getElem?, Array.getElem?_setIfInBounds, Ne.symm hne] using this
    · have := capsOk_rep hF h5
      simpa using this
  · cases hc
theorem recov_wp {id : Nat} {rs : Array Oper} {gx : Nat} (hc : recovOk slots nt gx rs.toList = true) {fr : List AV} {a : Act} (hF : FrameRel C slots nt fr a.tmps) {Q : Exit → Act → List Frame → World → Prop} {cs cs' : List Frame} {V : AV} {cv : Value} (hv : Rep C V cv)
    (hrec : (recoverD cs = some (cv, cs')) ∨ (recoverD cs = none ∧ cv = .nilIface ∧ cs' = cs)) (hgx : gx < fr.length)
    (hQ : ∀ a', FrameRel C slots nt (fr.set gx V) a'.tmps → a'.defers = a.defers → Q .normal a' cs' w) :
    (Code.region id rs false).wpS P Q a cs w := by
  obtain ⟨l⟩ := rs
  simp only at hc
  unfold recovOk at hc
  split at hc
  · rename_i u args at' ty pos af x u' ty' pos' af'
    simp only [Bool.and_eq_true, decide_eq_true_eq, Array.isEmpty_iff] at hc
    obtain ⟨⟨⟨⟨⟨⟨rfl, rfl⟩, h3⟩, h4⟩, h5⟩, h6⟩, h7⟩ := hc
    refine wpS_region ?_
    show wpOpsS P _ Q [0, 1] a cs w
    have hsu : u' < a.tmps.size := by rw [hF.1]; exact h4
    have hsx : x < a.tmps.size := by rw [hF.1]; exact h5
    have hrun : ∀ (dst : Option Tmp), (execOp a.eval { dst := dst, op := .call { callee := .builtin .recover, args := #[], argTypes := at' }, type := ty, pos := pos, after := af, guard := none }).run P w = .ok .recover w := by
      intro dst
      simp [execOp, resolve, invoke, builtin]
    have fin : FrameRel C slots nt (fr.set gx V) (((a.put (some u') cv).put (some x) cv).tmps) := by
      refine ⟨by simp [Act.put, hF.1], fun j t hs => ?_⟩
      have hne : t ≠ u' := of_decide_eq_true (List.all_eq_true.1 h6 t (List.mem_of_getElem? hs))
      by_cases hj : j = gx
      · subst hj
        rw [h3] at hs; injection hs with hs; subst hs
        have e1 : (fr.set j V).getD j .u = V := by simp [List.getD, List.getElem?_set_self hgx]
        rw [e1]
        simpa [Act.put, Array.getD_eq_getD_getElem?, hsx] using hv
      · have hnx : t ≠ x := fun e => by
          subst e
          have h1 := (List.getElem?_eq_some_iff.1 hs); have h2 := (List.getElem?_eq_some_iff.1 h3)
          obtain ⟨h1, h1'⟩ := h1; obtain ⟨h2, h2'⟩ := h2
          have hp := List.pairwise_iff_getElem.1 h7
          rcases Nat.lt_or_gt_of_ne hj with h | h
          · exact hp j gx h1 h2 h (h1'.trans h2'.symm)
          · exact hp gx j h2 h1 h (h2'.trans h1'.symm)
        have e1 : (fr.set gx V).getD j .u = fr.getD j .u := by simp [List.getD, List.getElem?_set_ne (Ne.symm hj)]
        rw [e1]
        have := hF.2 j t hs
        simpa [Act.put, Array.getD_eq_getD_getElem?, Array.getElem?_setIfInBounds, Ne.symm hne, Ne.symm hnx] using this
    have ev : (a.put (some u') cv).eval (.tmp u') = cv := by
      simp [Act.put, Act.eval, Array.getD_eq_getD_getElem?, hsu]
    simp only [wpOpsS, List.getElem?_toArray, List.getElem?_cons_zero, List.getElem?_cons_succ, Region.wanted, if_true, hrun]
    rcases hrec with h | ⟨h, rfl, rfl⟩
    · rw [h]
      simp only [execOp, ev, Sem.run_pure, Oper.upon]
      exact hQ _ fin rfl
    · rw [h]
      simp only [execOp, ev, Sem.run_pure, Oper.upon]
      exact hQ _ fin rfl
  · cases hc
theorem results_run' (hI : Inv G w0 C m w) {fr : List AV} {tmps : Array Value} {b : Code} (hF : ∀ (j : Nat) (t : Tmp), slots[j]? = some t → codeW b t = false → Rep C (fr.getD j .u) (tmps.getD t undef)) : ∀ {rs : List ResultVar} {qs : List ARes} {vs : List AV}, resOk P slots rs qs = true → resW b slots qs = true → resultsOf fr m qs = some vs →
    ∃ us : List Value, (rs.mapM (resStep tmps)).run P w = .ok us w ∧ listRep C vs us
  | [], [], vs, _, _, h => by
    simp only [resultsOf, Option.some.injEq] at h; subst h
    exact ⟨[], by simp, trivial⟩
  | .tmp t :: rs, .var j :: qs, vs, hc, hw, h => by
    simp only [resOk, Bool.and_eq_true, decide_eq_true_eq] at hc
    simp only [resW, hc.1, Bool.and_eq_true, Bool.not_eq_true'] at hw
    simp only [resultsOf, ARes.get] at h
    split at h
    · rename_i v vs' hv hvs
      injection hv with hv; subst hv
      injection h with h; subst h
      obtain ⟨us, k1, k2⟩ := results_run' hI hF hc.2 hw.2 hvs
      exact ⟨tmps.getD t undef :: us, by simp only [List.mapM_cons, resStep, Sem.run_bind, Sem.run_pure, Result.andThen_ok, k1], hF j t hc.1 hw.1, k2⟩
    · cases h
  | .cell a t :: rs, .cell j g n :: qs, vs, hc, hw, h => by
    simp only [resOk, Bool.and_eq_true, decide_eq_true_eq] at hc
    simp only [resW, hc.1.1, Bool.and_eq_true, Bool.not_eq_true'] at hw
    simp only [resultsOf, ARes.get] at h
    split at h
    · rename_i v vs' hv hvs
      injection h with h; subst h
      obtain ⟨us, k1, k2⟩ := results_run' hI hF hc.2 hw.2 hvs
      obtain ⟨b, base, off, cs, e, l1, l2⟩ := load_at hI (hF j a hc.1.1 hw.1) hv
      obtain ⟨cv, l3, l4⟩ := run_loadVar_at (P := P) l1 l2 hc.1.2
      have ha : (asAddr (tmps.getD a undef)).run P w = .ok ⟨b, base + off, none⟩ w := by rw [e]; rfl
      exact ⟨cv :: us, by simp only [List.mapM_cons, resStep, Sem.run_bind, ha, Sem.run_pure, Result.andThen_ok, l3, k1], l4, k2⟩
    · cases h
  | [], _ :: _, _, hc, _, _ => by simp [resOk] at hc
  | .tmp _ :: _, [], _, hc, _, _ => by simp [resOk] at hc
  | .cell _ _ :: _, [], _, hc, _, _ => by simp [resOk] at hc
  | .tmp _ :: _, .cell _ _ _ :: _, _, hc, _, _ => by simp [resOk] at hc
  | .cell _ _ :: _, .var _ :: _, _, hc, _, _ => by simp [resOk] at hc
theorem results_sound' (hI : Inv G w0 C m w) {fr : List AV} {tmps : Array Value} {b : Code} {fn : Func} {qs : List ARes} {vs : List AV} (hc : resOk P slots fn.results.toList qs = true) (hw : resW b slots qs = true)
    (hF : ∀ (j : Nat) (t : Tmp), slots[j]? = some t → codeW b t = false → Rep C (fr.getD j .u) (tmps.getD t undef)) (h : resultsOf fr m qs = some vs) :
    ∃ v, (results fn tmps).run P w = .ok v w ∧ Rep C (oneOr vs) v := by
  obtain ⟨us, h1, h2⟩ := results_run' (P := P) hI hF hc hw h
  change ∃ v, (do let vs ← fn.results.mapM (resStep tmps); pure (if h : vs.size = 1 then vs[0] else .tuple vs) : Sem Value).run P w = .ok v w ∧ Rep C (oneOr vs) v
  rw [Array.mapM_eq_mapM_toList]
  simp only [Sem.run_bind, Sem.run_map, h1, Result.andThen_ok, Sem.run_pure]
  refine ⟨_, rfl, ?_⟩
  match vs, us, h2 with
  | [], [], _ => exact .tup _ _ rfl fun i hi => absurd hi (by simp)
  | [v], [x], h => simpa [oneOr] using h.1
  | v1 :: v2 :: vs, x1 :: x2 :: us, h =>
    obtain ⟨k1, k2⟩ := listRep_iff h
    simp only [List.size_toArray, List.length_cons]
    rw [dif_neg (by omega)]
    refine .tup _ _ (by simpa using k1) fun i hi => ?_
    have := k2 i hi
    rwa [Array.getD_eq_getD_getElem?, List.getElem?_toArray]
def gframe (q : ADfr) (fr1 : List AV) (V : AV) : List AV :=
  ((q.caps.map fun j => fr1.getD j AV.u) ++ List.replicate (q.gslots.length - q.caps.length) AV.u).set q.gx V
def DEnd (e : AExit) (V : AV) : Prop := ((e = .normal ∨ e = .ret) ∧ V = .nilIface) ∨ (e = .pan V)
theorem dfr_ret (hX : XfOk P xf) (hm : P.follows .mixedOrders = true) {K : FuncId → List AV → Mem → Rs → Mem → Prop} (hK : ∀ f args m r m', K f args m r m' → CallSound P G f args m r m') {f : FuncId} {fn gn : Func} {q : ADfr} (hfn : P.funcs[f]? = some fn) (hgn : P.funcs[q.g]? = some gn) (hok : dfrOk P xf G fn gn q = true)
    {args : List AV} {m m1 m2 m3 : Mem} (hl : args.length = q.nparams) {fr1 fr2 fr3 : List AV} {e e3 : AExit} {V : AV} {vs : List AV}
    (h1 : Big K (.code q.head (args ++ List.replicate (q.slots.length - q.nparams) .u)) m (.exit .normal fr1) m1)
    (h2 : Big K (.code q.rest fr1) m1 (.exit e fr2) m2) (he : DEnd e V)
    (h3 : Big K (.code q.grest (gframe q fr1 V)) m2 (.exit e3 fr3) m3) (he3 : e3 = .normal ∨ e3 = .ret)
    (hr : resultsOf fr2 m3 q.results = some vs) : CallSound P G f args m (.ret (oneOr vs)) m3 := by
  intro w0 C w argsV hI hargs
  simp only [dfrOk, Bool.and_eq_true, decide_eq_true_eq] at hok
  obtain ⟨⟨⟨⟨⟨⟨⟨⟨⟨⟨⟨⟨⟨o1, o2⟩, o3⟩, o4⟩, o5⟩, o6⟩, o7⟩, o8⟩, o9⟩, o10⟩, o11⟩, o12⟩, o13⟩, o14⟩ := hok
  split at o14
  · rename_i a ido os b idr rs c hfb hgb
    simp only [Bool.and_eq_true] at o14
    obtain ⟨⟨⟨⟨⟨c1, c2⟩, c3⟩, c4⟩, c5⟩, c6⟩ := o14
    refine ⟨⟨fn, hfn, by rw [hfb]; rfl, by simpa using o6⟩, ?_⟩
    obtain ⟨k1, k2⟩ := listRep_arr hargs
    have hsz : argsV.size = q.nparams := by omega
    have hfr0 : FrameRel C q.slots fn.ntmps (args ++ List.replicate (q.slots.length - q.nparams) .u) (argsV ++ Array.replicate (fn.ntmps - argsV.size) undef) := by
      refine ⟨by simp; omega, fun j t hj => ?_⟩
      by_cases hjp : j < q.nparams
      · have e' : (q.slots.take q.nparams)[j]? = some t := by rw [List.getElem?_take, if_pos hjp]; exact hj
        rw [o3, List.getElem?_range hjp] at e'
        injection e' with e'; subst e'
        have e1 : (args ++ List.replicate (q.slots.length - q.nparams) AV.u).getD j .u = args.getD j .u := getD_append_left (by omega)
        have e2 : (argsV ++ Array.replicate (fn.ntmps - argsV.size) undef).getD j undef = argsV.getD j undef := by
          rw [Array.getD_eq_getD_getElem?, Array.getD_eq_getD_getElem?, Array.getElem?_append_left (by omega)]
        rw [e1, e2]
        exact k2 j (by omega)
      · have e1 : (args ++ List.replicate (q.slots.length - q.nparams) AV.u).getD j .u = .u := by
          rw [getD_append_right (by omega)]
          simp only [List.getD, List.getElem?_replicate]; split <;> rfl
        rw [e1]; exact .u _
    refine calls_of_wp_defers hfn hfb ?_
    refine wp_seq (wp_mono ((big_sound hX hm hK h1 w0 C w { tmps := argsV ++ Array.replicate (fn.ntmps - argsV.size) undef, defers := [] } q.slots fn.ntmps hI hfr0).1 _ c1) fun ex a1 w1 hp => ?_)
    obtain ⟨C1, p1, p2, p3, rfl, p5⟩ := hp
    refine wp_seq (defer_wp c2 p5 fun a2 cvs q1 q2 q3 => ?_)
    refine wp_mono ((big_sound hX hm hK h2 w0 C1 w1 a2 q.slots fn.ntmps p2 q1).1 _ c3) fun ex2 a3 w3 hp3 => ?_
    obtain ⟨C2, r1, r2, r3, r4⟩ := hp3
    have hds : a3.defers = [{ target := .fn (.func q.g) cvs, args := #[] }] := by rw [r3, q2, p3]
    -- the results' slots
    have hslot : ∀ (j : Nat) (t : Tmp), q.slots[j]? = some t → codeW b t = false → Rep C2 (fr2.getD j .u) (a3.tmps.getD t undef) := by
      intro j t hs hw
      cases e with
      | normal => exact r4.2.2 j t hs
      | exit => exact r4.2.2 j t hs
      | ret => exact r4.2.2 j t hs
      | pan v => obtain ⟨cv, _, _, _, h⟩ := r4; exact h j t hs hw
    have hcv : listRep C2 (q.caps.map fun j => fr1.getD j .u) cvs.toList := by
      obtain ⟨l1, l2⟩ := listRep_arr q3
      exact listRep_ofArr l1 fun i hi => (l2 i hi).mono r1
    have clos : ∀ (u u' : FrameMode) (cv : Value), Rep C2 V cv → (∀ (c₀ : Frame) (cs : List Frame), c₀.mode = u → (recoverD (c₀ :: cs) = some (cv, { c₀ with mode := u' } :: cs)) ∨ (recoverD (c₀ :: cs) = none ∧ cv = .nilIface ∧ u' = u)) → settle u' = .returning → u ≠ .run →
        Leaves P fn a3.tmps (fun e w' => ∃ C', Cx.Le C C' ∧ Inv G w0 C' m3 w' ∧ OutRep C' (.ret (oneOr vs)) e) a3.defers u w3 := by
      intro u u' cv hv hrec hset hrun
      rw [hds]
      refine ⟨hrun, .func q.g, cvs, q.g, cvs, rfl, ?_, ?_⟩
      · have := run_enter (w := w3) hgn (by rw [hgb]; rfl) (by simpa using o8) cvs
        simpa [invoke] using this
      · refine callsD_of_wpS hgn hgb fun c₀ cs hmode => ?_
        obtain ⟨l1, l2⟩ := listRep_arr hcv
        have hlen : cvs.size = q.caps.length := by simpa using l1
        have hg0 : FrameRel C2 q.gslots gn.ntmps ((q.caps.map fun j => fr1.getD j .u) ++ List.replicate (q.gslots.length - q.caps.length) .u) (cvs ++ Array.replicate (gn.ntmps - cvs.size) undef) := by
          refine ⟨by simp; omega, fun j t hj => ?_⟩
          by_cases hjp : j < q.caps.length
          · have e' : (q.gslots.take q.caps.length)[j]? = some t := by rw [List.getElem?_take, if_pos hjp]; exact hj
            rw [o10, List.getElem?_range hjp] at e'
            injection e' with e'; subst e'
            have e1 : ((q.caps.map fun j => fr1.getD j .u) ++ List.replicate (q.gslots.length - q.caps.length) AV.u).getD j .u = (q.caps.map fun j => fr1.getD j .u).getD j .u := getD_append_left (by simpa using hjp)
            have e2 : (cvs ++ Array.replicate (gn.ntmps - cvs.size) undef).getD j undef = cvs.getD j undef := by
              rw [Array.getD_eq_getD_getElem?, Array.getD_eq_getD_getElem?, Array.getElem?_append_left (by omega)]
            rw [e1, e2]
            exact l2 j (by simpa using hjp)
          · have e1 : ((q.caps.map fun j => fr1.getD j .u) ++ List.replicate (q.gslots.length - q.caps.length) AV.u).getD j .u = .u := by
              rw [getD_append_right (by simp; omega)]
              simp only [List.getD, List.getElem?_replicate]; split <;> rfl
            rw [e1]; exact .u _
        have hgx : q.gx < ((q.caps.map fun j => fr1.getD j .u) ++ List.replicate (q.gslots.length - q.caps.length) AV.u).length := by
          have : q.gx < q.gslots.length := by
            unfold recovOk at c5
            split at c5
            · simp only [Bool.and_eq_true, decide_eq_true_eq] at c5
              exact (List.getElem?_eq_some_iff.1 c5.1.1.1.1.2).1
            · cases c5
          simp; omega
        refine wpS_seq (recov_wp (cs' := { c₀ with mode := u' } :: cs) c5 hg0 hv ?_ hgx fun a4 s1 s2 => ?_)
        · rcases hrec c₀ cs hmode with h | ⟨h, h', h''⟩
          · exact .inl h
          · refine .inr ⟨h, h', ?_⟩
            rw [h'', ← hmode]
        · refine wpS_of_wp (wp_mono ((big_sound hX hm hK h3 w0 C2 w3 a4 q.gslots gn.ntmps r2 s1).1 _ c6) fun ex5 a5 w5 hp5 => ?_)
          obtain ⟨C3, t1, t2, t3, t4⟩ := hp5
          have hres : (results gn a5.tmps).run P w5 = .ok (.tuple #[]) w5 := by
            have : gn.results = #[] := by simpa using o9
            simp [results, this]
          have fin : bodyPostS P gn c₀ cs (fun
              | .returned _, u', w' => Leaves P fn a3.tmps (fun e w' => ∃ C', Cx.Le C C' ∧ Inv G w0 C' m3 w' ∧ OutRep C' (.ret (oneOr vs)) e) [] (settle u') w'
              | .panicked chain, u', w' => Leaves P fn a3.tmps (fun e w' => ∃ C', Cx.Le C C' ∧ Inv G w0 C' m3 w' ∧ OutRep C' (.ret (oneOr vs)) e) [] (raised u' chain) w'
              | .outgrown, _, w' => (fun e w' => ∃ C', Cx.Le C C' ∧ Inv G w0 C' m3 w' ∧ OutRep C' (.ret (oneOr vs)) e) .outgrown w') .ret a5 ({ c₀ with mode := u' } :: cs) w5 := by
            refine ⟨by rw [t3, s2], u', rfl, .tuple #[], hres, ?_⟩
            show Leaves P fn a3.tmps _ [] (settle u') w5
            rw [hset]
            -- the results
            have hR3 : ∀ (j : Nat) (t : Tmp), q.slots[j]? = some t → codeW b t = false → Rep C3 (fr2.getD j .u) (a3.tmps.getD t undef) := fun j t hs hw => (hslot j t hs hw).mono t1
            obtain ⟨v, z1, z2⟩ := results_sound' (P := P) t2 o7 c4 hR3 hr
            exact ⟨v, z1, C3, (p1.trans r1).trans t1, t2, z2⟩
          rcases he3 with rfl | rfl
          · obtain ⟨rfl, _⟩ := t4; exact fin
          · obtain ⟨rfl, _⟩ := t4; exact fin
    rcases he with ⟨he, rfl⟩ | rfl
    · have cl := clos .returning .returning .nilIface .nilIface (fun c₀ cs hm0 => .inr ⟨by simp [recoverD, hm0], rfl, rfl⟩) rfl (by simp)
      rcases he with rfl | rfl
      · obtain ⟨rfl, _⟩ := r4; exact cl
      · obtain ⟨rfl, _⟩ := r4; exact cl
    · obtain ⟨cv, rfl, hvr, _, _⟩ := r4
      exact clos (.panicking [{ v := cv, recovered := false }]) (.panicking [{ v := cv, recovered := true }]) cv hvr (fun c₀ cs hm0 => .inl (by simp [recoverD, hm0])) (by simp [settle]) (by simp)
  · cases o14
end
end Go.Proofs.YtkjokjogdehonaaGreatDoor.Am
namespace Go.Proofs.YtkjokjogdehonaaGreatDoor.Am
open Go Go.RowKit
theorem lookup_mem {α : Type} : ∀ {l : List (Nat × α)} {f : Nat} {e : α}, l.lookup f = some e → (f, e) ∈ l
  | (k, v) :: l, f, e, h => by
    simp only [List.lookup] at h
    split at h
    · rename_i hk
      have : f = k := by simpa using hk
      injection h with h; subst h; subst this; exact List.mem_cons_self
    · exact List.mem_cons_of_mem _ (lookup_mem h)
  | [], _, _, h => by simp [List.lookup] at h
def same1 : AV → AV → Bool
  | .bool a, .bool b => a == b
  | .int k a, .int l b => decide (k = l) && decide (a = b)
  | .str a, .str b => a == b
  | .nilSl, .nilSl => true
  | .nilPtr, .nilPtr => true
  | .nilMap, .nilMap => true
  | .nilFn, .nilFn => true
  | .nilIface, .nilIface => true
  | .ptr i o, .ptr j p => decide (i = j) && decide (o = p)
  | .map i, .map j => decide (i = j)
  | _, _ => false
theorem same1_eq {a b : AV} (h : same1 a b = true) : a = b := by
  unfold same1 at h
  split at h <;> first | (cases h; done) | (simp_all; done) | rfl
def sameL (f : AV → AV → Bool) : List AV → List AV → Bool
  | [], [] => true
  | a :: as, b :: bs => f a b && sameL f as bs
  | _, _ => false
def sameN : Nat → AV → AV → Bool
  | 0, _, _ => false
  | n + 1, a, b => match a, b with
    | .agg a, .agg b => sameL (sameN n) a b
    | .tup a, .tup b => sameL (sameN n) a b
    | .sl o sz a, .sl o' sz' b => decide (o = o') && decide (sz = sz') && sameL (sameN n) a b
    | a, b => same1 a b
def sameV : AV → AV → Bool := sameN 200
theorem sameL_eq {f : AV → AV → Bool} (hf : ∀ {a b}, f a b = true → a = b) : ∀ {a b : List AV}, sameL f a b = true → a = b
  | [], [], _ => rfl
  | x :: a, y :: b, h => by
    simp only [sameL, Bool.and_eq_true] at h
    rw [hf h.1, sameL_eq hf h.2]
  | [], _ :: _, h => by simp [sameL] at h
  | _ :: _, [], h => by simp [sameL] at h
theorem sameN_eq : ∀ {n : Nat} {a b : AV}, sameN n a b = true → a = b
  | 0, _, _, h => by simp [sameN] at h
  | n + 1, a, b, h => by
    unfold sameN at h
    split at h
    · rw [sameL_eq sameN_eq h]
    · rw [sameL_eq sameN_eq h]
    · simp only [Bool.and_eq_true, decide_eq_true_eq] at h
      rw [h.1.1, h.1.2, sameL_eq sameN_eq h.2]
    · exact same1_eq h
theorem sameV_eq {a b : AV} (h : sameV a b = true) : a = b := sameN_eq h
def readsV (o : AOp) (ρ : Opd → AV) (m : Mem) (v : AV) : Bool :=
  match evalP ρ m o with
  | some (u', _) => sameV u' v
  | none => false
def rereadsB (os : List (AOp × Option (Opd × Bool))) (env fr : List AV) (hist : List Mem) (i k : Nat) : Bool :=
  match os[i]? with
  | some (o, g) => (match wants (Opd.ev (env.drop (env.length - i)) fr) g with
    | some true => (match (hist.reverse)[k]?, (hist.reverse)[k + 1]? with
      | some m, some m' => readsV o (Opd.ev (env.drop (env.length - i)) fr) m (env.getD (env.length - 1 - i) .u) && readsV o (Opd.ev (env.drop (env.length - i)) fr) m' (env.getD (env.length - 1 - i) .u)
      | _, _ => true)
    | _ => true)
  | none => false
def stableB (r : ARegion) (env fr : List AV) (hist : List Mem) : Bool :=
  r.pairs.all fun p => !(decide (p.1 < env.length) && decide (p.2 < env.length)) || rereadsB r.ops env fr hist p.1 p.2
theorem readsV_eq {o : AOp} {ρ : Opd → AV} {m : Mem} {v : AV} (h : readsV o ρ m v = true) : (evalP ρ m o).map (·.1) = some v := by
  unfold readsV at h
  split at h
  · rename_i h1; rw [h1]; simp [sameV_eq h]
  · cases h
theorem stableB_ok {r : ARegion} {env fr : List AV} {hist : List Mem} (h : stableB r env fr hist = true) : Stable r env fr hist := by
  intro p hp h1 h2
  have := List.all_eq_true.1 h p hp
  simp only [h1, h2, decide_true, Bool.and_self, Bool.not_true, Bool.false_or] at this
  unfold rereadsB at this
  unfold rereads
  split at this
  · rename_i o g ho
    simp only [ho]
    intro hw m m' hm hm'
    rw [hw] at this
    simp only [hm, hm', Bool.and_eq_true] at this
    exact ⟨readsV_eq this.1, readsV_eq this.2⟩
  · cases this
inductive FEntry where
  | fn (q : AFn) | dfr (q : ADfr)
inductive TkE where
  | code (c : ACode) (fr : List AV)
  | ops (os : List (AOp × Option (Opd × Bool))) (env fr : List AV) (d : Bool) (hist : List Mem)
  | call (f : FuncId) (args : List AV)
def run (F : FuncId → Option FEntry) : Nat → TkE → Mem → Option (Rs × Mem)
  | 0, _, _ => none
  | n + 1, .code c fr, m => (match c with
    | .skip => some (.exit .normal fr, m)
    | .exit id => some (.exit (.exit id) fr, m)
    | .ret => some (.exit .ret fr, m)
    | .stuck => none
    | .seq a b => (match run F n (.code a fr) m with
      | some (.exit .normal fr', m') => run F n (.code b fr') m'
      | some (.exit e fr', m') => some (.exit e fr', m')
      | _ => none)
    | .cond c a b => (match c.ev [] fr with
      | .bool true => run F n (.code a fr) m
      | .bool false => run F n (.code b fr) m
      | _ => none)
    | .block id a => (match run F n (.code a fr) m with
      | some (.exit (.exit id') fr', m') => if id' = id then some (.exit .normal fr', m') else some (.exit (.exit id') fr', m')
      | some (.exit e fr', m') => some (.exit e fr', m')
      | _ => none)
    | .loop ks a => (match run F n (.code a fr) m with
      | some (.exit .normal fr', m') => run F n (.code (.loop ks a) (kills ks fr')) m'
      | some (.exit e fr', m') => some (.exit e fr', m')
      | _ => none)
    | .region r => (match run F n (.ops r.ops [] fr (!r.pairs.isEmpty) []) m with
      | some (.env env hist, m') => if stableB r env fr (pushH (!r.pairs.isEmpty) m' hist) then some (.exit .normal (exports env fr r.exp), m') else none
      | some (.pan v env hist, m') => if (!r.draws || decide (env.length ∈ r.okPan)) && stableB r env fr hist then some (.exit (.pan v) fr, m') else none
      | _ => none))
  | n + 1, .ops os env fr d h, m => (match os with
    | [] => some (.env env h, m)
    | (o, g) :: os => (match wants (Opd.ev env fr) g with
      | some false => run F n (.ops os (.tup [] :: env) fr d (pushH d m h)) m
      | some true => (match callOf (Opd.ev env fr) o with
        | some (f, args) => (match run F n (.call f args) m with
          | some (.ret v, m1) => run F n (.ops os (v :: env) fr d (pushH d m h)) m1
          | some (.raise v, m1) => some (.pan v env (pushH d m h), m1)
          | _ => none)
        | none => (match o with
          | .panic x => (match Opd.ev env fr x with
            | .iface t v => some (.pan (.iface t v) env (pushH d m h), m)
            | _ => none)
          | o => (match evalP (Opd.ev env fr) m o with
            | some (v, m1) => run F n (.ops os (v :: env) fr d (pushH d m h)) m1
            | none => none)))
      | none => none))
  | n + 1, .call f args, m => (match F f with
    | some (.fn q) => if args.length = q.nparams then (match run F n (.code q.body (args ++ List.replicate (q.nslots - q.nparams) .u)) m with
      | some (.exit (.pan v) _, m') => some (.raise v, m')
      | some (.exit (.exit _) _, _) => none
      | some (.exit _ fr', m') => (match resultsOf fr' m' q.results with
        | some vs => some (.ret (oneOr vs), m')
        | none => none)
      | _ => none) else none
    | some (.dfr q) => if args.length = q.nparams then (match run F n (.code q.head (args ++ List.replicate (q.slots.length - q.nparams) .u)) m with
      | some (.exit .normal fr1, m1) => (match run F n (.code q.rest fr1) m1 with
        | some (.exit e fr2, m2) => (match (match e with | .normal => some AV.nilIface | .ret => some AV.nilIface | .pan v => some v | .exit _ => none) with
          | some V => (match run F n (.code q.grest (gframe q fr1 V)) m2 with
            | some (.exit .normal _, m3) => (match resultsOf fr2 m3 q.results with
              | some vs => some (.ret (oneOr vs), m3)
              | none => none)
            | some (.exit .ret _, m3) => (match resultsOf fr2 m3 q.results with
              | some vs => some (.ret (oneOr vs), m3)
              | none => none)
            | _ => none)
          | none => none)
        | _ => none)
      | _ => none) else none
    | none => none)
def FEntryOk (P : Program) (xf : FuncId → Nat) (G : Nat → Option (List AV)) (f : FuncId) : FEntry → Prop
  | .fn q => ∃ fn, P.funcs[f]? = some fn ∧ fnOk P xf G fn q = true
  | .dfr q => ∃ fn gn, P.funcs[f]? = some fn ∧ P.funcs[q.g]? = some gn ∧ dfrOk P xf G fn gn q = true
def FTOk (P : Program) (xf : FuncId → Nat) (G : Nat → Option (List AV)) (F : FuncId → Option FEntry) : Prop := ∀ f e, F f = some e → FEntryOk P xf G f e
def RunMeans (P : Program) (G : Nat → Option (List AV)) : TkE → Mem → Rs → Mem → Prop
  | .code c fr, m, r, m' => Big (CallSound P G) (.code c fr) m r m'
  | .ops os env fr d h, m, r, m' => Big (CallSound P G) (.ops os env fr d h) m r m'
  | .call f args, m, r, m' => CallSound P G f args m r m'
theorem run_sound {P : Program} {xf : FuncId → Nat} {G : Nat → Option (List AV)} {F : FuncId → Option FEntry} (hX : XfOk P xf) (hm : P.follows .mixedOrders = true) (hF : FTOk P xf G F) : ∀ {n : Nat} {t : TkE} {m : Mem} {r : Rs} {m' : Mem}, run F n t m = some (r, m') → RunMeans P G t m r m' := by
  intro n
  induction n with
  | zero => intro t m r m' h; simp [run] at h
  | succ n ih =>
    intro t m r m' h
    cases t with
    | code c fr =>
      cases c with
      | skip => simp only [run, Option.some.injEq, Prod.mk.injEq] at h; obtain ⟨rfl, rfl⟩ := h; exact .skip
      | exit id => simp only [run, Option.some.injEq, Prod.mk.injEq] at h; obtain ⟨rfl, rfl⟩ := h; exact .exit
      | ret => simp only [run, Option.some.injEq, Prod.mk.injEq] at h; obtain ⟨rfl, rfl⟩ := h; exact .ret
      | stuck => simp [run] at h
      | seq a b =>
        simp only [run] at h
        split at h
        · rename_i h1; exact .seqN (ih h1) (ih h)
        · rename_i e fr' m1 h1
          simp only [Option.some.injEq, Prod.mk.injEq] at h; obtain ⟨rfl, rfl⟩ := h
          exact .seqX (ih h1) (by assumption)
        · cases h
      | cond c a b =>
        simp only [run] at h
        split at h
        · rename_i h1; exact .cond h1 (ih h)
        · rename_i h1; exact .cond h1 (ih h)
        · cases h
      | block id a =>
        simp only [run] at h
        split at h
        · rename_i id' fr' m1 h1
          split at h
          · rename_i e; subst e
            simp only [Option.some.injEq, Prod.mk.injEq] at h; obtain ⟨rfl, rfl⟩ := h
            exact .blockN (ih h1)
          · rename_i e
            simp only [Option.some.injEq, Prod.mk.injEq] at h; obtain ⟨rfl, rfl⟩ := h
            exact .blockX (ih h1) (fun h => by injection h with h; exact e h)
        · rename_i e fr' m1 hne h1
          simp only [Option.some.injEq, Prod.mk.injEq] at h; obtain ⟨rfl, rfl⟩ := h
          exact .blockX (ih h1) (fun h => hne _ h)
        · cases h
      | loop ks a =>
        simp only [run] at h
        split at h
        · rename_i h1; exact .loopN (ih h1) (ih h)
        · rename_i e fr' m1 h1
          simp only [Option.some.injEq, Prod.mk.injEq] at h; obtain ⟨rfl, rfl⟩ := h
          exact .loopX (ih h1) (by assumption)
        · cases h
      | region r =>
        simp only [run] at h
        split at h
        · rename_i env hist m1 h1
          split at h
          · rename_i hs
            simp only [Option.some.injEq, Prod.mk.injEq] at h; obtain ⟨rfl, rfl⟩ := h
            exact .region (ih h1) (stableB_ok hs)
          · cases h
        · rename_i v env hist m1 h1
          split at h
          · rename_i hs
            simp only [Bool.and_eq_true, Bool.or_eq_true, Bool.not_eq_true', decide_eq_true_eq] at hs
            simp only [Option.some.injEq, Prod.mk.injEq] at h; obtain ⟨rfl, rfl⟩ := h
            exact .regionP (ih h1) (fun hd => hs.1.resolve_left (by simp [hd])) (stableB_ok hs.2)
          · cases h
        · cases h
    | ops os env fr d hi =>
      cases os with
      | nil => simp only [run, Option.some.injEq, Prod.mk.injEq] at h; obtain ⟨rfl, rfl⟩ := h; exact .opsNil
      | cons og os =>
        obtain ⟨o, g⟩ := og
        simp only [run] at h
        split at h
        · rename_i h1; exact .opsSkip h1 (ih h)
        · rename_i h1
          split at h
          · rename_i f args h2
            split at h
            · rename_i h3; exact .opsC h1 h2 (ih h3) (ih h)
            · rename_i h3
              simp only [Option.some.injEq, Prod.mk.injEq] at h; obtain ⟨rfl, rfl⟩ := h
              exact .opsCP h1 h2 (ih h3)
            · cases h
          · split at h
            · split at h
              · rename_i h3
                simp only [Option.some.injEq, Prod.mk.injEq] at h; obtain ⟨rfl, rfl⟩ := h
                exact .opsPan h1 h3
              · cases h
            · split at h
              · rename_i h3; exact .opsP h1 h3 (ih h)
              · cases h
        · cases h
    | call f args =>
      simp only [run] at h
      split at h
      · rename_i q hq
        obtain ⟨fn, hfn, hok⟩ := hF f _ hq
        split at h
        · rename_i hl
          split at h
          · rename_i h1
            simp only [Option.some.injEq, Prod.mk.injEq] at h; obtain ⟨rfl, rfl⟩ := h
            exact call_pan hX hm (fun _ _ _ _ _ h => h) hfn hok hl (ih h1)
          · cases h
          · rename_i e fr' m1 hn1 hn2 h1
            split at h
            · rename_i vs hv
              simp only [Option.some.injEq, Prod.mk.injEq] at h; obtain ⟨rfl, rfl⟩ := h
              refine call_ret hX hm (fun _ _ _ _ _ h => h) hfn hok hl (ih h1) ?_ hv
              cases e with
              | normal => exact .inl rfl
              | ret => exact .inr rfl
              | exit id => exact absurd rfl (hn2 id)
              | pan v => exact absurd rfl (hn1 v)
            · cases h
          · cases h
        · cases h
      · rename_i q hq
        obtain ⟨fn, gn, hfn, hgn, hok⟩ := hF f _ hq
        split at h
        · rename_i hl
          split at h
          · rename_i fr1 m1 h1
            split at h
            · rename_i e fr2 m2 h2
              split at h
              · rename_i V hV
                have hD : DEnd e V := by
                  cases e <;> simp at hV <;> subst hV
                  · exact .inl ⟨.inl rfl, rfl⟩
                  · exact .inl ⟨.inr rfl, rfl⟩
                  · exact .inr rfl
                split at h
                · rename_i h3
                  split at h
                  · rename_i vs hv
                    simp only [Option.some.injEq, Prod.mk.injEq] at h; obtain ⟨rfl, rfl⟩ := h
                    exact dfr_ret hX hm (fun _ _ _ _ _ h => h) hfn hgn hok hl (ih h1) (ih h2) hD (ih h3) (.inl rfl) hv
                  · cases h
                · rename_i h3
                  split at h
                  · rename_i vs hv
                    simp only [Option.some.injEq, Prod.mk.injEq] at h; obtain ⟨rfl, rfl⟩ := h
                    exact dfr_ret hX hm (fun _ _ _ _ _ h => h) hfn hgn hok hl (ih h1) (ih h2) hD (ih h3) (.inr rfl) hv
                  · cases h
                · cases h
              · cases h
            · cases h
          · cases h
        · cases h
      · cases h
end Go.Proofs.YtkjokjogdehonaaGreatDoor.Am
namespace Go.Proofs.YtkjokjogdehonaaGreatDoor.Am
open Go Go.RowKit
def m0 : Mem := { get := fun _ => .dead, next := 0, live := fun _ => false, ntok := 0, tty := fun _ => 0 }
def retsTrue : Option (Rs × Mem) → Bool
  | some (.ret (.bool true), _) => true
  | _ => false
theorem retsTrue_iff {x : Option (Rs × Mem)} (h : retsTrue x = true) : ∃ m', x = some (.ret (.bool true), m') := by
  unfold retsTrue at h
  split at h
  · exact ⟨_, rfl⟩
  · cases h
def flat1 : AV → Bool
  | .bool _ | .int _ _ | .str _ | .nilSl | .nilPtr | .nilMap | .nilFn | .nilIface => true
  | _ => false
def flatL : List AV → Bool
  | [] => true
  | a :: as => flat1 a && flatL as
def flatV : AV → Bool
  | .agg cs => flatL cs
  | .tup cs => flatL cs
  | a => flat1 a
theorem flat1_rep {C C' : Cx} {a : AV} {v : Value} (h : flat1 a = true) (hr : Rep C a v) : Rep C' a v := by
  cases hr <;> simp [flat1] at h <;> first | exact .bool _ | exact .int _ _ | (exact .str _ _ (by assumption)) | exact .nilSl | exact .nilPtr | exact .nilMap | exact .nilFn | exact .nilIface
theorem flatL_at : ∀ {cs : List AV}, flatL cs = true → ∀ i, i < cs.length → flat1 (cs.getD i .u) = true
  | a :: as, h, 0, _ => by simp only [flatL, Bool.and_eq_true] at h; exact h.1
  | a :: as, h, i + 1, hi => by
    simp only [flatL, Bool.and_eq_true] at h
    exact flatL_at h.2 i (by simpa using hi)
  | [], _, i, hi => absurd hi (by simp)
theorem flatV_rep {C C' : Cx} {a : AV} {v : Value} (h : flatV a = true) (hr : Rep C a v) : Rep C' a v := by
  cases hr with
  | agg cs vs h1 h2 => exact .agg cs vs h1 fun i hi => flat1_rep (flatL_at h i hi) (h2 i hi)
  | tup cs vs h1 h2 => exact .tup cs vs h1 fun i hi => flat1_rep (flatL_at h i hi) (h2 i hi)
  | bool b => exact .bool _
  | int k n => exact .int _ _
  | str l s e => exact .str _ _ e
  | nilSl => exact .nilSl
  | nilPtr => exact .nilPtr
  | nilMap => exact .nilMap
  | nilFn => exact .nilFn
  | nilIface => exact .nilIface
  | _ => simp [flatV, flat1] at h
inductive Closed : AV → Prop where
  | u : Closed .u
  | bool {b} : Closed (.bool b)
  | int {k n} : Closed (.int k n)
  | str {s} : Closed (.str s)
  | agg {cs} : (∀ i, i < cs.length → Closed (cs.getD i .u)) → Closed (.agg cs)
  | tup {cs} : (∀ i, i < cs.length → Closed (cs.getD i .u)) → Closed (.tup cs)
  | nilSl : Closed .nilSl
  | sl {o sz xs} : (∀ t, o ≠ .tok t) → (∀ i, i < xs.length → ∀ j, Closed ((xs.getD i .u).cells.getD j .u)) → Closed (.sl o sz xs)
  | nilPtr : Closed .nilPtr
  | sptr {cs off} : (∀ i, i < cs.length → Closed (cs.getD i .u)) → Closed (.sptr cs off)
  | nilMap : Closed .nilMap
  | nilFn : Closed .nilFn
  | fn {f a b} : (∀ i, i < a.length → Closed (a.getD i .u)) → (∀ i, i < b.length → Closed (b.getD i .u)) → Closed (.fn f a b)
  | nilIface : Closed .nilIface
  | iface {t v} : Closed v → Closed (.iface t v)
theorem flat1_closed {a : AV} (h : flat1 a = true) : Closed a := by
  cases a <;> simp [flat1] at h <;> first | exact .bool | exact .int | exact .str | exact .nilSl | exact .nilPtr | exact .nilMap | exact .nilFn | exact .nilIface
section
variable {G : Nat → Option (List AV)} {w0 : World} {C : Cx} {m : Mem} {w : World} {P : Program}
def Cx.still (C : Cx) : Cx := { St := C.St, I := fun _ _ => False, R := fun _ _ _ _ => False, T := fun _ _ => False, Z := fun _ => False, K := fun _ _ => False }
theorem Rep.still {C : Cx} {a : AV} {v : Value} (r : Rep C a v) : Closed a → Rep C.still a v := by
  induction r with
  | u v => intro _; exact .u v
  | bool b => intro _; exact .bool b
  | int k n => intro _; exact .int k n
  | str l s e => intro _; exact .str l s e
  | agg cs vs hl _ ih => intro h; cases h with | agg h => exact .agg cs vs hl fun i hi => ih i hi (h i hi)
  | tup cs vs hl _ ih => intro h; cases h with | tup h => exact .tup cs vs hl fun i hi => ih i hi (h i hi)
  | nilSl => intro _; exact .nilSl
  | sl o sz xs b off n cap val h1 h2 h3 h4 h5 h6 h7 _ ih =>
    intro h
    cases h with
    | sl k1 k2 => exact .sl o sz xs b off n cap val h1 h2 h3 h4 (fun t ht => absurd ht (k1 t)) h6 (fun i j hi hj => h7 i j hi hj) fun i j hi hj => ih i j hi hj (k2 i (by omega) j)
  | sl0 o sz a h1 h2 => intro _; exact .sl0 o sz a h1 h2
  | osl id off len cap sz b hi hc => intro h; cases h
  | gsl id n sz b cap hi hc hk => intro h; cases h
  | nilPtr => intro _; exact .nilPtr
  | ptr id off b hi => intro h; cases h
  | sptr cs off b base val h1 _ ih => intro h; cases h with | sptr h => exact .sptr cs off b base val (fun j hj => h1 j hj) fun j hj => ih j hj (h j hj)
  | bptr T cs b off val ht hz h1 _ ih => intro h; cases h
  | nilMap => intro _; exact .nilMap
  | map id b hi => intro h; cases h
  | nilFn => intro _; exact .nilFn
  | fn f first cap xs ys h1 _ h3 _ ih1 ih2 => intro h; cases h with | fn k1 k2 => exact .fn f first cap xs ys h1 (fun i hi => ih1 i hi (k1 i hi)) h3 (fun i hi => ih2 i hi (k2 i hi))
  | nilIface => intro _; exact .nilIface
  | iface t v x _ ih => intro h; cases h with | iface h => exact .iface t v x (ih h)
def GFlat (G : Nat → Option (List AV)) : Prop := ∀ g cs, G g = some cs → flatL cs = true
theorem Inv.still (hG : GFlat G) (h : Inv G w0 C m w) : Inv G w C.still m0 w :=
  { below := .refl _ _, st := h.st, obj := fun _ _ hb => hb.elim, inj := fun _ _ _ hb => hb.elim, func := fun _ _ _ hb => hb.elim, sti := fun _ _ _ _ _ hb => hb.elim,
    tok := fun _ _ _ _ hr => hr.elim, shp := fun _ _ ht => ht.elim, tty := fun _ _ _ _ hr => hr.elim, shut := fun _ hz => hz.elim, tokf := fun _ _ _ _ _ _ _ hr => hr.elim, toku := fun _ _ _ _ _ _ _ hr => hr.elim, kap := fun _ _ hk => hk.elim,
    glob := fun g cs hg => (h.glob g cs hg).still (.sptr fun i hi => flat1_closed (flatL_at (hG g cs hg) i hi)) }
theorem Inv.later (h : Inv G w0 C m w) {w' : World} (hb : Below w.heap.size w w') : Inv G w0 C m w' := by
  have hlt : ∀ b o v, C.St b o v → b < w.heap.size := fun b o v hs => block_lt_of_cell (a := ⟨b, o, none⟩) (h.st b o v hs)
  exact
  { below := h.below.trans (hb.mono h.below.size)
    st := fun b o v hs => by rw [World.cell?_of_block (w := w) (hb.block b (hlt b o v hs))]; exact h.st b o v hs
    obj := fun id b hi => let ⟨h1, h2, h3, h4⟩ := h.obj id b hi
      ⟨h1, h2, Nat.lt_of_lt_of_le h3 hb.size, h4.of_heap (hb.block b h3)⟩
    inj := h.inj, func := h.func, sti := h.sti
    tok := fun t b s e hr => let ⟨h1, h2, h3, h4, h5⟩ := h.tok t b s e hr
      ⟨h1, h2, Nat.lt_of_lt_of_le h3 hb.size, h4, fun hl => ⟨(h5 hl).1.of_heap (hb.block b h3), (h5 hl).2⟩⟩
    shp := fun b t ht => let ⟨⟨vs, fr, h1⟩, h2⟩ := h.shp b t ht
      ⟨⟨vs, fr, (hb.block b (Array.getElem?_eq_some_iff.1 h1).1).trans h1⟩, h2⟩
    tty := h.tty
    shut := fun b hz => let ⟨h1, h2, h3, h4⟩ := h.shut b hz; ⟨h1, Nat.lt_of_lt_of_le h2 hb.size, h3, h4⟩
    tokf := h.tokf, toku := h.toku
    kap := fun b e hk => let ⟨h1, vs, T, fr, h2, h3⟩ := h.kap b e hk; ⟨h1, vs, T, fr, (hb.block b (Array.getElem?_eq_some_iff.1 h2).1).trans h2, h3⟩
    glob := h.glob }
theorem listRep_still : ∀ {as : List AV} {vs : List Value}, listRep C as vs → (∀ a ∈ as, Closed a) → listRep C.still as vs
  | [], [], _, _ => trivial
  | _ :: _, _ :: _, h, k => ⟨h.1.still (k _ (by simp)), listRep_still h.2 fun a ha => k a (by simp [ha])⟩
  | [], _ :: _, h, _ => h.elim
  | _ :: _, [], h, _ => h.elim
theorem call_alone (hG : GFlat G) {f : FuncId} {args : List AV} {v : AV} {m1 : Mem} (h : CallSound P G f args m0 (.ret v) m1) (ha : ∀ a ∈ args, Closed a) (hv : flatV v = true) (m : Mem) : CallSound P G f args m (.ret v) m := by
  intro w0 C w argsV hI hargs
  obtain ⟨k1, k2⟩ := h w C.still w argsV (hI.still hG) (listRep_still hargs ha)
  refine ⟨k1, k2.mono fun e w' hp => ?_⟩
  obtain ⟨C', _, p2, p3⟩ := hp
  refine ⟨C, .refl C, hI.later p2.below, ?_⟩
  cases e with
  | returned cv => exact flatV_rep hv p3
  | panicked _ => exact p3
  | outgrown => exact p3
end
end Go.Proofs.YtkjokjogdehonaaGreatDoor.Am
