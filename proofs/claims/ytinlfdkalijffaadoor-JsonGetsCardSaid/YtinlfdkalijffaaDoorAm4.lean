/-
  THE ABSTRACT MACHINE, 4: constants, building, fields, indexes, numbers, comparisons, interfaces, functions: against the model's own run.
-/
import Derived.Test.YtinlfdkalijffaaDoorAm3
set_option linter.unusedSimpArgs false
set_option linter.unusedVariables false
namespace Go.Proofs.YtinlfdkalijffaaDoor.Am
open Go Go.RowKit

/-! ### constants -/
def cst1 : AV → Value → Bool
  | .bool a, .bool b => a == b
  | .int k n, .int k' n' => decide (k = k') && decide (n = n')
  | .str l, .string s => decide (s.data.toList = l)
  | .nilSl, .slice none 0 0 => true
  | .nilPtr, .pointer none => true
  | .nilMap, .map none => true
  | .nilFn, .nilFunc => true
  | .nilIface, .nilIface => true
  | _, _ => false
def csts : List AV → List Value → Bool
  | [], [] => true
  | a :: as, v :: vs => cst1 a v && csts as vs
  | _, _ => false
def cstOk : AV → Value → Bool
  | .agg cs, .agg vs => csts cs vs.toList
  | .tup [], .tuple vs => vs.isEmpty
  | .fn (.func f) [] [], .func (.func g) a b => decide (f = g) && a.isEmpty && b.isEmpty
  | a, v => cst1 a v

theorem cst1_rep (C : Cx) {a : AV} {v : Value} (h : cst1 a v = true) : Rep C a v := by
  unfold cst1 at h
  split at h
  · obtain rfl := eq_of_beq h; exact .bool _
  · simp at h; obtain ⟨rfl, rfl⟩ := h; exact .int _ _
  · exact .str _ _ (of_decide_eq_true h)
  · exact .nilSl
  · exact .nilPtr
  · exact .nilMap
  · exact .nilFn
  · exact .nilIface
  · cases h
theorem csts_rep (C : Cx) : ∀ {as : List AV} {vs : List Value}, csts as vs = true → vs.length = as.length ∧ ∀ i, i < as.length → Rep C (as.getD i .u) (vs.getD i undef)
  | [], [], _ => ⟨rfl, fun _ h => absurd h (by simp)⟩
  | a :: as, v :: vs, h => by
    simp only [csts, Bool.and_eq_true] at h
    obtain ⟨h1, h2⟩ := csts_rep C h.2
    refine ⟨by simp [h1], fun i hi => ?_⟩
    cases i with
    | zero => exact cst1_rep C h.1
    | succ i => simpa [List.getD] using h2 i (by simpa using hi)
  | [], _ :: _, h => by simp [csts] at h
  | _ :: _, [], h => by simp [csts] at h
theorem csts_arr (C : Cx) {as : List AV} {vs : Array Value} (h : csts as vs.toList = true) : vs.size = as.length ∧ ∀ i, i < as.length → Rep C (as.getD i .u) (vs.getD i undef) := by
  obtain ⟨h1, h2⟩ := csts_rep C h
  refine ⟨by simpa using h1, fun i hi => ?_⟩
  have := h2 i hi
  rwa [Array.getD_eq_getD_getElem?, ← Array.getElem?_toList]
theorem cstOk_rep (C : Cx) {a : AV} {v : Value} (h : cstOk a v = true) : Rep C a v := by
  unfold cstOk at h
  split at h
  · obtain ⟨h1, h2⟩ := csts_arr C h; exact .agg _ _ h1 h2
  · simp at h; subst h; exact .tup _ _ rfl (fun i hi => absurd hi (by simp))
  · simp at h; obtain ⟨⟨rfl, rfl⟩, rfl⟩ := h; exact .fn _ _ _ _ _ rfl (fun i hi => absurd hi (by simp)) rfl (fun i hi => absurd hi (by simp))
  · exact cst1_rep C h

/-- A type's zero value, as one value (struct or cell). -/
def zeroOk (P : Program) (t : TypeId) (z : AV) : Bool :=
  match (P.info? t).bind (·.zero) with
  | some v => cstOk z v
  | none => false
theorem zeroOk_run {P : Program} {w : World} {t : TypeId} {z : AV} (h : zeroOk P t z = true) : ∃ v, (zeroValue t).run P w = .ok v w ∧ cstOk z v = true := by
  unfold zeroOk at h
  split at h
  · rename_i v hv
    obtain ⟨i, hi, hz⟩ := Option.bind_eq_some_iff.1 hv
    exact ⟨v, by simp [zeroValue, typeInfo, hi, hz], h⟩
  · cases h

section
variable {G : Nat → Option (List AV)} {w0 : World} {C : Cx} {m : Mem} {w : World} {P : Program}

theorem alloc_ok (hI : Inv G w0 C m w) {t : TypeId} {z : List AV} (h : ∃ a, zeroOk P t a = true ∧ a.cells = z ∧ a ≠ .u) :
    Res G w0 C (m.alloc (.cells t z)) (.ptr m.next 0) ((do pure (.value (← Instr.alloc t true (.tuple #[]))) : Sem Next).run P w) := by
  obtain ⟨a, h, rfl, hu⟩ := h
  obtain ⟨v, h1, h2⟩ := zeroOk_run (w := w) h
  obtain ⟨l1, l2⟩ := rep_cells (cstOk_rep C h2) hu
  exact Res.made (by simp [Instr.alloc, h1, newVar, newRow]) (C.le_addI _ _) (alloc_row (T := t) hI l1 l2) (rep_new _ _ _)

/-! ### building a struct or an array -/
/-- The places of the parts: each part's index gives its offset and its size. -/
def placesOk (P : Program) (t : TypeId) : List (Nat × Operand) → List (Nat × Nat × Opd) → Bool
  | [], [] => true
  | (i, _) :: ps, (off, size, _) :: qs =>
    (match P.underlying t with
     | some (.struct fs) => match fs[i]? with
       | some f => f.offset == off && cellsB P f.type == some size
       | none => false
     | some (.array _ e) => cellsB P e == some size && off == i * size
     | _ => false) && placesOk P t ps qs
  | _, _ => false

theorem foldl_set (vs : Array Value) (off : Nat) : ∀ (l : List Value) (k : Nat) (cs : Array Value), (∀ j, j < l.length → vs[k + j]? = l[j]?) →
    (l.zipIdx k).foldl (fun (cs : Array Value) (p : Value × Nat) => cs.setIfInBounds (off + p.2) p.1) cs = (l.zipIdx k).foldl (fun cs p => cs.setIfInBounds (off + p.2) p.1) cs := fun _ _ _ _ => rfl

theorem fill_one_size (off : Nat) : ∀ (l : List (Value × Nat)) (cs : Array Value), (l.foldl (fun (cs : Array Value) (p : Value × Nat) => cs.setIfInBounds (off + p.2) p.1) cs).size = cs.size
  | [], _ => rfl
  | p :: l, cs => by simp [fill_one_size off l]
theorem fill_one (off : Nat) : ∀ (l : List Value) (k j : Nat) (cs : Array Value), off + k + l.length ≤ cs.size →
    ((l.zipIdx k).foldl (fun (cs : Array Value) (p : Value × Nat) => cs.setIfInBounds (off + p.2) p.1) cs).getD j undef = if off + k ≤ j ∧ j < off + k + l.length then l.getD (j - (off + k)) undef else cs.getD j undef
  | [], k, j, cs, _ => by simp; intro h1 h2; omega
  | v :: l, k, j, cs, h => by
    simp only [List.length_cons] at h
    simp only [List.zipIdx_cons, List.foldl_cons]
    rw [fill_one off l (k + 1) j _ (by simp; omega)]
    by_cases e : j = off + k
    · subst e
      rw [if_neg (by omega), if_pos (by simp)]
      simp [Array.getD_eq_getD_getElem?, Array.getElem?_setIfInBounds, show off + k < cs.size by omega]
    · by_cases h1 : off + (k + 1) ≤ j ∧ j < off + (k + 1) + l.length
      · rw [if_pos h1, if_pos (by simp; omega)]
        obtain ⟨d, rfl⟩ : ∃ d, j = off + (k + 1) + d := ⟨j - (off + (k + 1)), by omega⟩
        have e1 : off + (k + 1) + d - (off + (k + 1)) = d := by omega
        have e2 : off + (k + 1) + d - (off + k) = d + 1 := by omega
        rw [e1, e2]; simp [List.getD]
      · rw [if_neg h1, if_neg (by simp; omega)]
        simp [Array.getD_eq_getD_getElem?, Array.getElem?_setIfInBounds, show ¬ off + k = j by omega]

theorem fill_ok {place : Nat → Option (Nat × Nat)} : ∀ {ps : List (Nat × Value)} {qs : List (Nat × Nat × AV)} {cells : Array Value} {z : List AV} {v : AV},
    cells.size = z.length → (∀ i, i < z.length → Rep C (z.getD i .u) (cells.getD i undef)) →
    ps.length = qs.length → (∀ (i : Nat) (p : Nat × Value) (q : Nat × Nat × AV), ps[i]? = some p → qs[i]? = some q → place p.1 = some (q.1, q.2.1) ∧ Rep C q.2.2 p.2) →
    buildV z qs = some v → ∃ cs', Instr.fill place cells ps = some cs' ∧ Rep C v (.agg cs')
  | [], [], cells, z, v, hl, hr, _, _, h => by
    simp only [buildV, Option.some.injEq] at h; subst h
    exact ⟨cells, rfl, .agg _ _ hl hr⟩
  | (i, x) :: ps, (off, size, a) :: qs, cells, z, v, hl, hr, hlen, hp, h => by
    simp only [buildV] at h
    split at h
    · rename_i hc
      obtain ⟨k1, k2⟩ := hp 0 _ _ rfl rfl
      have hlr := rep_cells k2 (ne_u hc.2.2)
      dsimp only at hlr
      obtain ⟨l1, l2⟩ := hlr
      have hz : (x.cells.zipIdx.foldl (fun (cs : Array Value) (p : Value × Nat) => cs.setIfInBounds (off + p.2) p.1) cells).size = cells.size := by
        rw [← Array.foldl_toList, Array.toList_zipIdx]; exact fill_one_size off _ _
      obtain ⟨cs', f1, f2⟩ := fill_ok (place := place) (ps := ps) (qs := qs) (cells := x.cells.zipIdx.foldl (fun (cs : Array Value) (p : Value × Nat) => cs.setIfInBounds (off + p.2) p.1) cells) (z := setCells z off a.cells)
        (by rw [hz, setCells_length]; exact hl)
        (fun j hj => by
          rw [setCells_length] at hj
          rw [setCells_getD _ _ _ _ (by omega), ← Array.foldl_toList, Array.toList_zipIdx, fill_one off _ 0 j _ (by simp; omega)]
          simp only [Nat.add_zero, Array.length_toList, l1]
          by_cases hin : off ≤ j ∧ j < off + a.cells.length
          · rw [if_pos hin, if_pos hin]
            have := l2 (j - off) (by omega)
            rwa [Array.getD_eq_getD_getElem?, ← Array.getElem?_toList] at this
          · rw [if_neg hin, if_neg hin]; exact hr j hj)
        (by simpa using hlen) (fun i p q e1 e2 => hp (i + 1) p q (by simpa using e1) (by simpa using e2)) h
      refine ⟨cs', ?_, f2⟩
      simp only [Instr.fill]
      have k1' : place i = some (off, size) := k1
      rw [k1']
      simp only []
      rw [if_neg (by simp; omega)]
      exact f1
    · cases h
  | [], _ :: _, _, _, _, _, _, hlen, _, _ => by simp at hlen
  | _ :: _, [], _, _, _, _, _, hlen, _, _ => by simp at hlen

theorem mapM_places {fs : Array Field} {places : Array (Nat × Nat)} (hsz : places.size = fs.size) (h : ∀ (i : Nat) (f : Field), fs[i]? = some f → ∃ n, cellsB P f.type = some n ∧ places[i]? = some (f.offset, n)) :
    ((fs.mapM fun f => do pure (f.offset, ← sizeOf f.type) : Sem (Array (Nat × Nat))).run P w) = .ok places w := by
  have key : ∀ (l : List Field) (r : List (Nat × Nat)), r.length = l.length → (∀ (i : Nat) (f : Field), l[i]? = some f → ∃ n, cellsB P f.type = some n ∧ r[i]? = some (f.offset, n)) →
      ((l.mapM fun f => do pure (f.offset, ← sizeOf f.type) : Sem (List (Nat × Nat))).run P w) = .ok r w := by
    intro l
    induction l with
    | nil => intro r hr _; simp at hr; subst hr; simp
    | cons f l ih =>
      intro r hr hh
      cases r with
      | nil => simp at hr
      | cons p r =>
        obtain ⟨n, k1, k2⟩ := hh 0 f rfl
        simp at k2; subst k2
        have := ih r (by simpa using hr) (fun i g hg => by simpa using hh (i + 1) g (by simpa using hg))
        simp only [List.mapM_cons, Sem.run_bind, run_sizeOf k1, Result.andThen, Sem.run_pure, this]
  have := key fs.toList places.toList (by simpa using hsz) (fun i f hf => by simpa using h i f (by simpa using hf))
  rw [Array.mapM_eq_mapM_toList]
  simp only [Sem.run_map, this, Result.andThen, Array.toArray_toList]

theorem build_ok (hI : Inv G w0 C m w) {t : TypeId} {z : List AV} {v : AV} {ps : List (Nat × Value)} {qs : List (Nat × Nat × AV)}
    (hz : ∃ a, zeroOk P t a = true ∧ a.cells = z ∧ a ≠ .u) (hlen : ps.length = qs.length)
    (hrep : ∀ (i : Nat) (p : Nat × Value) (q : Nat × Nat × AV), ps[i]? = some p → qs[i]? = some q → Rep C q.2.2 p.2)
    (hpl : (∃ fs, P.underlying t = some (.struct fs) ∧ (∀ f ∈ fs, (cellsB P f.type).isSome = true) ∧ ∀ (i : Nat) (p : Nat × Value) (q : Nat × Nat × AV), ps[i]? = some p → qs[i]? = some q → ∃ f, fs[p.1]? = some f ∧ f.offset = q.1 ∧ cellsB P f.type = some q.2.1) ∨
      (∃ n e sz, P.underlying t = some (.array n e) ∧ cellsB P e = some sz ∧ ∀ (i : Nat) (p : Nat × Value) (q : Nat × Nat × AV), ps[i]? = some p → qs[i]? = some q → q.1 = p.1 * sz ∧ q.2.1 = sz))
    (h : buildV z qs = some v) : Res G w0 C m v ((do pure (.value (← Instr.build t ps.toArray)) : Sem Next).run P w) := by
  obtain ⟨a, hz, rfl, hu⟩ := hz
  obtain ⟨zv, h1, h2⟩ := zeroOk_run (w := w) hz
  obtain ⟨l1, l2⟩ := rep_cells (cstOk_rep C h2) hu
  rcases hpl with ⟨fs, ht, hall, hp⟩ | ⟨n, e, sz, ht, hsz, hp⟩
  · have hm := mapM_places (P := P) (w := w) (fs := fs) (places := fs.map fun f => (f.offset, (cellsB P f.type).getD 0)) (by simp) (fun i f hf => by
      obtain ⟨c, hc⟩ := Option.isSome_iff_exists.1 (hall f (Array.mem_of_getElem? hf))
      exact ⟨c, hc, by simp [hf, hc]⟩)
    obtain ⟨cs', f1, f2⟩ := fill_ok (place := fun i => (fs.map fun f => (f.offset, (cellsB P f.type).getD 0))[i]?) (ps := ps) (qs := qs) l1 l2 hlen (fun i p q e1 e2 => by
      obtain ⟨f, k1, k2, k3⟩ := hp i p q e1 e2
      exact ⟨by simp [k1, k2, k3], hrep i p q e1 e2⟩) h
    refine Res.quiet hI (cv := .agg cs') ?_ f2
    simp only [Instr.build, Sem.run_bind, h1, Result.andThen, run_underlying ht, hm, f1, Sem.run_pure]
  · obtain ⟨cs', f1, f2⟩ := fill_ok (place := fun i => some (i * sz, sz)) (ps := ps) (qs := qs) l1 l2 hlen (fun i p q e1 e2 => by
      obtain ⟨k1, k2⟩ := hp i p q e1 e2
      exact ⟨by simp [k1, k2], hrep i p q e1 e2⟩) h
    refine Res.quiet hI (cv := .agg cs') ?_ f2
    simp only [Instr.build, Sem.run_bind, h1, Result.andThen, run_underlying ht, run_sizeOf hsz, f1, Sem.run_pure]

/-! ### parts, fields, indexes -/
theorem field_ok (hI : Inv G w0 C m w) {x v : AV} {y : Value} (hx : Rep C x y) {t : TypeId} {fs : Array Field} {i off n : Nat} {g : Bool} {f : Field} (ht : P.underlying t = some (.struct fs)) (hf : fs[i]? = some f) (ho : f.offset = off)
    (hs : shapeOk P f.type g n = true) {cs : List AV} (hc : x = .agg cs) (h : Am.part g n cs off = some v) :
    Res G w0 C m v ((do pure (.value (← Instr.field t y i)) : Sem Next).run P w) := by
  subst hc
  cases hx with
  | agg cs vs h1 h2 =>
    obtain ⟨cv, k1, k2⟩ := part_rep (P := P) (w := w) h1 h2 h hs
    refine Res.quiet hI (cv := cv) ?_ k2
    simp only [Instr.field, Sem.run_bind, run_underlying ht, Result.andThen, hf, asAgg, Sem.run_pure, ho]
    exact k1

theorem fieldAddr_ok (hI : Inv G w0 C m w) {x v : AV} {y : Value} (hx : Rep C x y) {t : TypeId} {fs : Array Field} {i off n : Nat} {f : Field} (ht : P.underlying t = some (.struct fs)) (hf : fs[i]? = some f) (ho : f.offset = off)
    (hs : cellsB P f.type = some n) (hn : n ≠ 0) (h : fieldAddrV off x = some v) :
    Res G w0 C m v ((do pure (.value (← Instr.fieldAt t y i)) : Sem Next).run P w) := by
  have key : ∀ b o, (Instr.fieldAt t (.pointer (some ⟨b, o, none⟩)) i).run P w = .ok (.pointer (some ⟨b, o + off, none⟩)) w := by
    intro b o
    simp only [Instr.fieldAt, Sem.run_bind, run_underlying ht, Result.andThen, hf, Instr.sureAddr, Sem.run_pure, fieldPlace, run_sizeOf hs, Sem.run_ite, if_neg hn, ho, Addr.add_lit]
  cases hx with
  | ptr id o b hi =>
    simp only [fieldAddrV, Option.some.injEq] at h; subst h
    exact Res.quiet hI (key _ _) (.ptr _ _ _ hi)
  | sptr cs o b base val h1 h2 =>
    simp only [fieldAddrV, Option.some.injEq] at h; subst h
    refine Res.quiet hI (key _ _) ?_
    rw [Nat.add_assoc]
    exact .sptr _ _ _ _ val h1 h2
  | _ => simp [fieldAddrV] at h

theorem rep_int {x : AV} {k : IntKind} {n : Int} {y : Value} (h : Rep C x y) (e : x = .int k n) : y = .int k n := by
  subst e; cases h; rfl

theorem idxAddr_ok (hI : Inv G w0 C m w) {x i v : AV} {y j : Value} (hx : Rep C x y) (hi : Rep C i j) {t e : TypeId} {sz : Nat} (ht : P.underlying t = some (.slice e)) (hs : cellsB P e = some sz) (h : idxAddrV sz x i = some v) :
    Res G w0 C m v ((do pure (.value (← Instr.indexAt t y j)) : Sem Next).run P w) := by
  cases hi with
  | int k q =>
    cases hx with
    | sl o sz' xs b off n cap val h1 h2 h3 h4 h5 h6 h7 h8 =>
      simp only [idxAddrV] at h
      split at h
      · rename_i hc
        obtain ⟨rfl, hq⟩ := hc
        split at h
        · rename_i x hx'
          injection h with h; subst h
          have hlt : q.toNat < n := by rw [h1]; exact (List.getElem?_eq_some_iff.1 hx').1
          have hrun : (Instr.indexAt t (.slice (some ⟨b, off, none⟩) n cap) (.int k q)).run P w = .ok (.pointer (some ⟨b, off + q.toNat * sz', none⟩)) w := by
            simp only [Instr.indexAt, asIntOf, Sem.run_bind, Sem.run_pure, Result.andThen, run_underlying ht, run_sizeOf hs, Sem.run_ite]
            rw [if_pos (by omega)]
            simp [Addr.add_lit]
          refine Res.quiet hI hrun ?_
          have hxs : xs.getD q.toNat .u = x := getD_eq hx'
          have hl := h6 _ hlt
          rw [hxs] at hl
          have := Rep.sptr (C := C) x.cells 0 b (off + q.toNat * sz') (fun j => val q.toNat j) (fun j hj => h7 _ _ hlt (by omega)) (fun j hj => by have := h8 q.toNat j hlt (by omega); rwa [hxs] at this)
          simpa using this
        · cases h
      · cases h
    | sl0 o sz' a h1 h2 =>
      simp only [idxAddrV, List.getElem?_nil] at h
      split at h <;> cases h
    | osl id off len cap sz' b hb hc =>
      simp only [idxAddrV] at h
      split at h
      · rename_i hc
        obtain ⟨rfl, hq, hlt⟩ := hc
        injection h with h; subst h
        refine Res.quiet hI (cv := .pointer (some ⟨b, off + q.toNat * sz', none⟩)) ?_ (.ptr _ _ _ hb)
        simp only [Instr.indexAt, asIntOf, Sem.run_bind, Sem.run_pure, Result.andThen, run_underlying ht, run_sizeOf hs, Sem.run_ite]
        rw [if_pos ⟨hq, hlt⟩]
        simp [Addr.add_lit]
      · cases h
    | _ => simp [idxAddrV] at h
  | _ => cases x <;> simp [idxAddrV] at h

theorem idxAddrA_ok (hI : Inv G w0 C m w) {x i v : AV} {y j : Value} (hx : Rep C x y) (hi : Rep C i j) {t e : TypeId} {len sz : Nat} (ht : P.underlying t = some (.array len e)) (hs : cellsB P e = some sz) (h : idxAddrAV len sz x i = some v) :
    Res G w0 C m v ((do pure (.value (← Instr.indexAt t y j)) : Sem Next).run P w) := by
  cases hi with
  | int k q =>
    have key : ∀ b o, 0 ≤ q ∧ q < len → (Instr.indexAt t (.pointer (some ⟨b, o, none⟩)) (.int k q)).run P w = .ok (.pointer (some ⟨b, o + q.toNat * sz, none⟩)) w := by
      intro b o hq
      simp only [Instr.indexAt, asIntOf, Sem.run_bind, Sem.run_pure, Result.andThen, run_underlying ht, run_sizeOf hs, Sem.run_ite, Instr.sureAddr]
      rw [if_pos hq]
      simp [Addr.add_lit]
    cases hx with
    | ptr id o b hb =>
      simp only [idxAddrAV] at h
      split at h
      · rename_i hq; injection h with h; subst h
        exact Res.quiet hI (key _ _ hq) (.ptr _ _ _ hb)
      · cases h
    | sptr cs o b base val h1 h2 =>
      simp only [idxAddrAV] at h
      split at h
      · rename_i hq; injection h with h; subst h
        refine Res.quiet hI (key _ _ hq) ?_
        rw [Nat.add_assoc]
        exact .sptr _ _ _ _ val h1 h2
      · cases h
    | _ => simp [idxAddrAV] at h
  | _ => cases x <;> simp [idxAddrAV] at h

theorem idxS_ok (hI : Inv G w0 C m w) {x i v : AV} {y j : Value} (hx : Rep C x y) (hi : Rep C i j) {t : TypeId} (ht : P.underlying t = some .string) (h : idxSV x i = some v) :
    Res G w0 C m v ((do pure (.value (← Instr.index t y j)) : Sem Next).run P w) := by
  cases hi with
  | int k q =>
    cases hx with
    | str l s hs =>
      simp only [idxSV] at h
      split at h
      · rename_i hq
        split at h
        · rename_i b hb
          injection h with h; subst h
          have e : s[q.toNat]? = some b := by
            subst hs
            obtain ⟨h1, h2⟩ := List.getElem?_eq_some_iff.1 hb
            have h1' : q.toNat < s.size := by simpa using h1
            rw [ByteArray.getElem?_lt' s _ h1']
            exact congrArg some (by simp only [Array.getElem_toList] at h2; exact h2)
          refine Res.quiet hI (cv := .int .u8 b.toNat) ?_ (.int _ _)
          simp only [Instr.index, asIntOf, Sem.run_bind, Sem.run_pure, Result.andThen, run_underlying ht, if_pos hq, e]
        · cases h
      · cases h
    | _ => simp [idxSV] at h
  | _ => cases x <;> simp [idxSV] at h

theorem idxA_ok (hI : Inv G w0 C m w) {x i v : AV} {y j : Value} (hx : Rep C x y) (hi : Rep C i j) {t e : TypeId} {g : Bool} {len sz : Nat} (ht : P.underlying t = some (.array len e)) (hs : shapeOk P e g sz = true) (h : idxAV g len sz x i = some v) :
    Res G w0 C m v ((do pure (.value (← Instr.index t y j)) : Sem Next).run P w) := by
  cases hi with
  | int k q =>
    cases hx with
    | agg cs vs h1 h2 =>
      simp only [idxAV] at h
      split at h
      · rename_i hq
        obtain ⟨cv, k1, k2⟩ := part_rep (P := P) (w := w) h1 h2 h hs
        refine Res.quiet hI (cv := cv) ?_ k2
        simp only [Instr.index, asIntOf, Sem.run_bind, Sem.run_pure, Result.andThen, run_underlying ht, Sem.run_ite, if_pos hq, run_sizeOf (shapeOk_iff hs).2]
        exact k1
      · cases h
    | _ => simp [idxAV] at h
  | _ => cases x <;> simp [idxAV] at h

theorem nilck_ok (hI : Inv G w0 C m w) {x v : AV} {y : Value} (hx : Rep C x y) (h : nilckV x = some v) {ρ : Operand → Value} {o : Operand} (hy : ρ o = y) {p : Oper} (hp : p.op = .nilCheck o) :
    Res G w0 C m v ((execOp ρ p).run P w) := by
  have key : (∃ b, y = .pointer (some b)) ∨ (∃ f a b, y = .func (.func f) a b) → (execOp ρ p).run P w = .ok (.value y) w := by
    rintro (⟨b, rfl⟩ | ⟨f, a, b, rfl⟩) <;> simp [execOp, hp, hy]
  cases hx with
  | ptr id o b hb =>
    simp only [nilckV, Option.some.injEq] at h; subst h
    exact ⟨_, w, C, key (.inl ⟨_, rfl⟩), .refl C, hI, .ptr _ _ _ hb⟩
  | sptr cs o b base val h1 h2 =>
    simp only [nilckV, Option.some.injEq] at h; subst h
    exact ⟨_, w, C, key (.inl ⟨_, rfl⟩), .refl C, hI, .sptr _ _ _ _ val h1 h2⟩
  | fn f first cap xs ys h1 h2 h3 h4 =>
    cases f with
    | func f =>
      simp only [nilckV, Option.some.injEq] at h; subst h
      exact ⟨_, w, C, key (.inr ⟨_, _, _, rfl⟩), .refl C, hI, .fn _ _ _ _ _ h1 h2 h3 h4⟩
    | _ => simp [nilckV] at h
  | _ => simp [nilckV] at h
end
end Go.Proofs.YtinlfdkalijffaaDoor.Am
