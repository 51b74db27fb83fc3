/-
  THE ABSTRACT MACHINE, 3: each operation that computes, reads or makes memory, against the model's own run.
-/
import Derived.Test.YtinlfdkalijffaaDoorAm2
import Derived.Laws.CopyRow
import Derived.Laws.Append
import Derived.Laws.AppendOwn
import Derived.Laws.Entries
import Derived.Laws.Strings
import Derived.Laws.Slices
import Derived.Laws.BytesString
import Derived.Laws.Externs
set_option linter.unusedSimpArgs false
set_option linter.unusedVariables false
namespace Go.Proofs.YtinlfdkalijffaaDoor.Am
open Go Go.RowKit

def NextRep (C : Cx) (v : AV) : Next → Prop
  | .value cv => Rep C v cv
  | .skip => v = .tup []
  | _ => False
/-- What an operation's run must come to. -/
def Res (G : Nat → Option (List AV)) (w0 : World) (C : Cx) (m1 : Mem) (v : AV) (r : Result Next) : Prop :=
  ∃ nx w' C', r = .ok nx w' ∧ Cx.Le C C' ∧ Inv G w0 C' m1 w' ∧ NextRep C' v nx

section
variable {G : Nat → Option (List AV)} {w0 : World} {C : Cx} {m : Mem} {w : World} {P : Program}

theorem Res.quiet (hI : Inv G w0 C m w) {s : Sem Value} {cv : Value} {v : AV} (h : s.run P w = .ok cv w) (hr : Rep C v cv) :
    Res G w0 C m v ((do pure (.value (← s)) : Sem Next).run P w) :=
  ⟨.value cv, w, C, by simp [h], .refl C, hI, hr⟩
theorem Res.made {w' : World} {C' : Cx} {m1 : Mem} {s : Sem Value} {cv : Value} {v : AV} (h : s.run P w = .ok cv w') (hle : Cx.Le C C') (hI : Inv G w0 C' m1 w') (hr : Rep C' v cv) :
    Res G w0 C m1 v ((do pure (.value (← s)) : Sem Next).run P w) :=
  ⟨.value cv, w', C', by simp [h], hle, hI, hr⟩
theorem Res.done {w' : World} {C' : Cx} {m1 : Mem} {s : Sem Unit} (h : s.run P w = .ok () w') (hle : Cx.Le C C') (hI : Inv G w0 C' m1 w') :
    Res G w0 C m1 (.tup []) ((do s; pure .skip : Sem Next).run P w) :=
  ⟨.skip, w', C', by simp [h], hle, hI, rfl⟩

/-! ### small facts on Rep -/
theorem getD_eq {α : Type} {l : List α} {i : Nat} {x d : α} (h : l[i]? = some x) : l.getD i d = x := by simp [List.getD, h]
theorem agetD_eq {α : Type} {l : Array α} {i : Nat} {x d : α} (h : l[i]? = some x) : l.getD i d = x := by
  rw [Array.getD_eq_getD_getElem?]; simp [h]
theorem agetD_lt {l : Array Value} {i : Nat} (h : i < l.size) : l[i]? = some (l.getD i undef) := by
  rw [Array.getD_eq_getD_getElem?, Array.getElem?_eq_getElem h]; rfl
theorem lgetD_lt {l : List AV} {i : Nat} (h : i < l.length) : l[i]? = some (l.getD i .u) := by
  simp [List.getD, List.getElem?_eq_getElem h]

theorem rep_cells {a : AV} {v : Value} (h : Rep C a v) (hu : a ≠ .u) : v.cells.size = a.cells.length ∧ ∀ i, i < a.cells.length → Rep C (a.cells.getD i .u) (v.cells.getD i undef) := by
  have one : ∀ (a : AV) (v : Value), Rep C a v → (∀ i, i < [a].length → Rep C ([a].getD i .u) ((#[v] : Array Value).getD i undef)) := by
    intro a v h i hi
    obtain rfl : i = 0 := by simpa using hi
    exact h
  cases h with
  | u v => exact absurd rfl hu
  | agg cs vs hl hr => exact ⟨hl, hr⟩
  | bool b => exact ⟨rfl, one _ _ (.bool b)⟩
  | int k n => exact ⟨rfl, one _ _ (.int k n)⟩
  | str l s e => exact ⟨rfl, one _ _ (.str l s e)⟩
  | tup cs vs hl hr => exact ⟨rfl, one _ _ (.tup cs vs hl hr)⟩
  | nilSl => exact ⟨rfl, one _ _ .nilSl⟩
  | sl o sz xs b off n cap val h1 h2 h3 h4 h5 h6 h7 h8 => exact ⟨rfl, one _ _ (.sl o sz xs b off n cap val h1 h2 h3 h4 h5 h6 h7 h8)⟩
  | sl0 o sz a h1 h2 => exact ⟨rfl, one _ _ (.sl0 o sz a h1 h2)⟩
  | osl id off len cap sz b hi hc => exact ⟨rfl, one _ _ (.osl id off len cap sz b hi hc)⟩
  | nilPtr => exact ⟨rfl, one _ _ .nilPtr⟩
  | ptr id off b hi => exact ⟨rfl, one _ _ (.ptr id off b hi)⟩
  | sptr cs off b base val h1 h2 => exact ⟨rfl, one _ _ (.sptr cs off b base val h1 h2)⟩
  | bptr T cs b off val ht hz h1 h2 => exact ⟨rfl, one _ _ (.bptr T cs b off val ht hz h1 h2)⟩
  | nilMap => exact ⟨rfl, one _ _ .nilMap⟩
  | map id b hi => exact ⟨rfl, one _ _ (.map id b hi)⟩
  | nilFn => exact ⟨rfl, one _ _ .nilFn⟩
  | fn f first cap xs ys h1 h2 h3 h4 => exact ⟨rfl, one _ _ (.fn f first cap xs ys h1 h2 h3 h4)⟩
  | nilIface => exact ⟨rfl, one _ _ .nilIface⟩
  | iface t v x h => exact ⟨rfl, one _ _ (.iface t v x h)⟩

theorem scal_one {a : AV} {v : Value} (h : Rep C a v) (hs : scal a = true) : v.oneCell' = true := by
  cases h <;> first | rfl | (simp [scal] at hs)
theorem ne_u {a : AV} (h : a.cells.all scal = true) : a ≠ .u := by
  rintro rfl; simp [AV.cells, scal] at h

theorem cells_one {a : AV} {v : Value} (h : Rep C a v) (hs : a.cells.all scal = true) : ∀ x ∈ v.cells.toList, x.oneCell' = true := by
  obtain ⟨hl, hr⟩ := rep_cells h (ne_u hs)
  intro x hx
  obtain ⟨i, hi, rfl⟩ := List.mem_iff_getElem.1 hx
  simp only [Array.length_toList] at hi
  have h2 := hr i (by omega)
  rw [agetD_eq (Array.getElem?_eq_getElem hi)] at h2
  refine scal_one h2 ?_
  have hlt : i < a.cells.length := by omega
  rw [getD_eq (List.getElem?_eq_getElem hlt)]
  exact (List.all_eq_true.1 hs) _ (List.getElem_mem hlt)

/-! ### reading cells -/
def CellsAt (C : Cx) (w : World) (b base : Nat) (cs : List AV) : Prop := ∀ j, j < cs.length → ∃ v, w.cell? ⟨b, base + j, none⟩ = some v ∧ Rep C (cs.getD j .u) v

def aggB (P : Program) (t : TypeId) : Option Bool :=
  match P.underlying t with
  | some (.struct _) | some (.array _ _) => some true
  | some _ => some false
  | none => none
def cellsB (P : Program) (t : TypeId) : Option Nat := (P.info? t).map (·.size)
/-- The shape of a type's variables: a row of cells, or one cell; how many. -/
def shapeOk (P : Program) (t : TypeId) (g : Bool) (n : Nat) : Bool := aggB P t == some g && cellsB P t == some n

theorem run_isAgg {t : TypeId} {g : Bool} (h : aggB P t = some g) : (isAgg t).run P w = .ok g w := by
  unfold aggB at h
  unfold isAgg
  cases hu : P.underlying t with
  | none => simp [hu] at h
  | some d =>
    simp only [hu] at h
    simp only [Sem.run_bind, run_underlying hu, Result.andThen]
    cases d <;> simp at h <;> subst h <;> rfl
theorem run_sizeOf {t : TypeId} {n : Nat} (h : cellsB P t = some n) : (sizeOf t).run P w = .ok n w := by
  unfold cellsB at h
  cases hi : P.info? t with
  | none => simp [hi] at h
  | some i => simp [hi] at h; simp [sizeOf, typeInfo, hi, h]
theorem shapeOk_iff {t : TypeId} {g : Bool} {n : Nat} (h : shapeOk P t g n = true) : aggB P t = some g ∧ cellsB P t = some n := by
  simpa [shapeOk] using h

theorem part_rep {g : Bool} {n off : Nat} {cs : List AV} {vs : Array Value} {x : AV} (hl : vs.size = cs.length) (hr : ∀ j, j < cs.length → Rep C (cs.getD j .u) (vs.getD j undef)) (h : Am.part g n cs off = some x) {t : TypeId} (hs : shapeOk P t g n = true) :
    ∃ cv, (Go.part t vs off).run P w = .ok cv w ∧ Rep C x cv := by
  obtain ⟨h1, h2⟩ := shapeOk_iff hs
  unfold Go.part
  cases g with
  | true =>
    simp only [Am.part] at h
    split at h
    · rename_i hle
      injection h with h; subst h
      refine ⟨.agg (vs.extract off (off + n)), by simp [run_isAgg h1, run_sizeOf h2], .agg _ _ (by simp; omega) fun i hi => ?_⟩
      have hi' : i < n := by simp at hi; omega
      have e1 : (List.take n (List.drop off cs)).getD i .u = cs.getD (off + i) .u := by
        simp [List.getD, hi', List.getElem?_drop]
      have e2 : (vs.extract off (off + n)).getD i undef = vs.getD (off + i) undef := by
        rw [Array.getD_eq_getD_getElem?, Array.getD_eq_getD_getElem?, Array.getElem?_extract, if_pos (by omega)]
      rw [e1, e2]
      exact hr _ (by omega)
    · cases h
  | false =>
    simp only [Am.part] at h
    have hlt : off < cs.length := (List.getElem?_eq_some_iff.1 h).1
    have e := agetD_lt (l := vs) (i := off) (by omega)
    refine ⟨vs.getD off undef, by simp only [Sem.run_bind, run_isAgg h1, Result.andThen, Bool.false_eq_true, if_false]; rw [e]; rfl, ?_⟩
    have := hr off hlt
    rwa [getD_eq h] at this

theorem run_loadVar_at {b base off : Nat} {cs : List AV} (hc : CellsAt C w b base cs) {g : Bool} {n : Nat} {x : AV} (h : Am.part g n cs off = some x) {t : TypeId} (hs : shapeOk P t g n = true) :
    ∃ cv, (loadVar t ⟨b, base + off, none⟩).run P w = .ok cv w ∧ Rep C x cv := by
  obtain ⟨h1, h2⟩ := shapeOk_iff hs
  unfold loadVar
  cases g with
  | true =>
    simp only [Am.part] at h
    split at h
    · rename_i hle
      injection h with h; subst h
      have hcell : ∀ j, j < n → ∃ v, w.cell? ((⟨b, base + off, none⟩ : Addr).add j) = some v ∧ Rep C (cs.getD (off + j) .u) v := by
        intro j hj
        obtain ⟨v, k1, k2⟩ := hc (off + j) (by omega)
        exact ⟨v, by rw [Addr.add_lit, Nat.add_assoc]; exact k1, k2⟩
      have hl := run_loadCells (P := P) w ⟨b, base + off, none⟩ n (fun j => (w.cell? ((⟨b, base + off, none⟩ : Addr).add j)).getD undef)
        (fun j hj => by obtain ⟨v, k1, _⟩ := hcell j hj; simp [k1])
      refine ⟨_, by simp only [Sem.run_bind, run_isAgg h1, Result.andThen, if_true, run_sizeOf h2, hl, Sem.run_pure]; rfl, .agg _ _ (by simp; omega) fun i hi => ?_⟩
      have hi' : i < n := by simp at hi; omega
      obtain ⟨v, k1, k2⟩ := hcell i hi'
      have e1 : (List.take n (List.drop off cs)).getD i .u = cs.getD (off + i) .u := by
        simp [List.getD, hi', List.getElem?_drop]
      rw [e1, agetD_eq (x := v) (by simp [hi', k1])]
      exact k2
    · cases h
  | false =>
    simp only [Am.part] at h
    have hlt : off < cs.length := (List.getElem?_eq_some_iff.1 h).1
    obtain ⟨v, k1, k2⟩ := hc off hlt
    refine ⟨v, by simp [run_isAgg h1, k1], ?_⟩
    rwa [getD_eq h] at k2

theorem cellsAt_obj (hI : Inv G w0 C m w) {id b : Nat} (hb : C.I id b) {T : TypeId} {cs : List AV} (h : m.get id = .cells T cs) : CellsAt C w b 0 cs := by
  obtain ⟨_, _, _, ho⟩ := hI.obj id b hb
  rw [h] at ho
  obtain ⟨vs, h1, h2, h3⟩ := ho
  intro j hj
  refine ⟨vs.getD j undef, ?_, h3 j hj⟩
  rw [Nat.zero_add, cell_of_row _ _ _ _ _ _ h1]
  exact agetD_lt (by omega)

theorem load_at (hI : Inv G w0 C m w) {a : AV} {v : Value} (hr : Rep C a v) {g : Bool} {n : Nat} {x : AV} (h : m.load g n a = some x) :
    ∃ b base off cs, v = .pointer (some ⟨b, base + off, none⟩) ∧ CellsAt C w b base cs ∧ Am.part g n cs off = some x := by
  cases hr with
  | ptr id off b hi =>
    simp only [Mem.load] at h
    split at h
    · rename_i T cs hc
      exact ⟨b, 0, off, cs, by simp, cellsAt_obj hI hi hc, h⟩
    · cases h
  | sptr cs off b base val h1 h2 =>
    simp only [Mem.load] at h
    exact ⟨b, base, off, cs, rfl, fun j hj => ⟨val j, hI.st _ _ _ (h1 j hj), h2 j hj⟩, h⟩
  | _ => simp [Mem.load] at h

theorem load_ok (hI : Inv G w0 C m w) {a x : AV} {v : Value} (hr : Rep C a v) {t : TypeId} {g : Bool} {n : Nat} (hs : shapeOk P t g n = true) (h : m.load g n a = some x) :
    Res G w0 C m x ((do pure (.value (← Instr.loadAt t v)) : Sem Next).run P w) := by
  obtain ⟨b, base, off, cs, rfl, hc, hp⟩ := load_at hI hr h
  obtain ⟨cv, k1, k2⟩ := run_loadVar_at (P := P) hc hp hs
  exact Res.quiet hI (by simpa [Instr.loadAt, Instr.sureAddr] using k1) k2

/-! ### writing cells -/
theorem setCells_length : ∀ (ys cs : List AV) (off : Nat), (setCells cs off ys).length = cs.length
  | [], _, _ => rfl
  | _ :: ys, cs, off => by simp [setCells, setCells_length ys]
theorem setCells_getD : ∀ (ys cs : List AV) (off j : Nat), off + ys.length ≤ cs.length → (setCells cs off ys).getD j .u = if off ≤ j ∧ j < off + ys.length then ys.getD (j - off) .u else cs.getD j .u
  | [], cs, off, j, _ => by simp [setCells]; intro h1 h2; omega
  | y :: ys, cs, off, j, h => by
    simp only [List.length_cons] at h
    rw [setCells, setCells_getD ys _ _ _ (by simp; omega)]
    by_cases e : j = off
    · subst e
      rw [if_neg (by omega), if_pos (by simp)]
      simp [List.getD, List.getElem?_set_self (show j < cs.length by omega)]
    · by_cases h1 : off + 1 ≤ j ∧ j < off + 1 + ys.length
      · rw [if_pos h1, if_pos (by simp; omega)]
        obtain ⟨d, rfl⟩ : ∃ d, j = off + 1 + d := ⟨j - (off + 1), by omega⟩
        have e1 : off + 1 + d - (off + 1) = d := by omega
        have e2 : off + 1 + d - off = d + 1 := by omega
        rw [e1, e2]; simp [List.getD]
      · rw [if_neg h1, if_neg (by simp; omega)]
        simp [List.getD, List.getElem?_set_ne (show off ≠ j by omega)]

theorem heap_setRow_same {w : World} {g : Nat} {cs : Array Value} {cur : Array Value} {t : TypeId} {fr : Nat × Nat} (h : w.heap[g]? = some (.cells cur t fr)) : (w.setRow g cs).heap[g]? = some (.cells cs t fr) := by
  simp [World.setRow, Array.getElem?_modify, h]
theorem heap_setRow_other {w : World} {g k : Nat} {cs : Array Value} (h : k ≠ g) : (w.setRow g cs).heap[k]? = w.heap[k]? := by
  simp [World.setRow, Array.getElem?_modify]; intro e; exact absurd e.symm h
theorem Below.setRow {B : Nat} {a w : World} (h : Below B a w) {g : Nat} (hg : B ≤ g) (cs : Array Value) : Below B a (w.setRow g cs) :=
  h.trans ⟨rfl, rfl, rfl, by simp, fun k hk => heap_setRow_other (by omega)⟩

/-- A row into which a row of cells is laid. -/
theorem splice_getD {cur new : List Value} {off j : Nat} (h : off + new.length ≤ cur.length) : ((cur.take off ++ new ++ cur.drop (off + new.length)).toArray).getD j undef = if off ≤ j ∧ j < off + new.length then new.getD (j - off) undef else cur.getD j undef := by
  rw [Array.getD_eq_getD_getElem?, List.getElem?_toArray, List.append_assoc]
  have ht : (cur.take off).length = off := by rw [List.length_take]; omega
  by_cases h1 : j < off
  · rw [List.getElem?_append_left (by omega), if_neg (by omega), List.getElem?_take, if_pos h1]; simp [List.getD]
  · rw [List.getElem?_append_right (by omega), ht]
    by_cases h2 : j - off < new.length
    · rw [List.getElem?_append_left h2, if_pos (by omega)]; simp [List.getD]
    · rw [List.getElem?_append_right (by omega), if_neg (by omega), List.getElem?_drop]
      have e : off + new.length + (j - off - new.length) = j := by omega
      simp [e, List.getD]

theorem store_ok (hI : Inv G w0 C m w) {a x : AV} {v y : Value} (hr : Rep C a v) (hx : Rep C x y) {t : TypeId} {n : Nat} (hs : cellsB P t = some n) {m1 : Mem} (h : m.store n a x = some m1) :
    Res G w0 C m1 (.tup []) ((do Instr.storeAt t v y; pure .skip : Sem Next).run P w) := by
  cases hr with
  | ptr id off b hi =>
    simp only [Mem.store] at h
    split at h
    · rename_i T cs hc
      split at h
      · rename_i hcond
        obtain ⟨hn, hlen, hsc⟩ := hcond
        injection h with h; subst h
        obtain ⟨q1, q2, q3, ho⟩ := hI.obj id b hi
        rw [hc] at ho
        obtain ⟨vs, h1, h2, h3⟩ := ho
        obtain ⟨l1, l2⟩ := rep_cells hx (ne_u hsc)
        have hst := run_storeCells_at P b off T y.cells.toList 0 vs w h1 (by simp; omega) (cells_one hx hsc)
        simp only [Nat.add_zero] at hst
        have hsz : y.cells.size = n := by omega
        have hrun : (Instr.storeAt t (.pointer (some ⟨b, off, none⟩)) y).run P w = .ok () (w.setRow b (vs.toList.take off ++ y.cells.toList ++ vs.toList.drop (off + y.cells.toList.length)).toArray) := by
          simp [Instr.storeAt, Instr.sureAddr, storeVar, run_sizeOf hs, hsz] at hst ⊢
          exact hst
        refine Res.done hrun (.refl C) (hI.write_obj hi (by rw [hc]; simp) (Below.setRow hI.below q2 _) (by simp) (fun k hk => heap_setRow_other hk) ?_)
        refine ⟨_, heap_setRow_same h1, by simp [setCells_length]; omega, fun j hj => ?_⟩
        rw [setCells_length] at hj
        rw [setCells_getD _ _ _ _ (by omega), splice_getD (by simp; omega)]
        simp only [Array.length_toList, l1]
        by_cases hin : off ≤ j ∧ j < off + x.cells.length
        · rw [if_pos hin, if_pos hin]
          have := l2 (j - off) (by omega)
          rwa [Array.getD_eq_getD_getElem?, ← Array.getElem?_toList] at this
        · rw [if_neg hin, if_neg hin]
          have := h3 j hj
          rwa [Array.getD_eq_getD_getElem?, ← Array.getElem?_toList] at this
      · cases h
    · cases h
  | _ => simp [Mem.store] at h

/-! ### new variables -/
theorem alloc_row (hI : Inv G w0 C m w) {cs : List AV} {vs : Array Value} {T : TypeId} (hl : vs.size = cs.length) (hr : ∀ j, j < cs.length → Rep C (cs.getD j .u) (vs.getD j undef)) :
    Inv G w0 (C.addI m.next w.heap.size) (m.alloc (.cells T cs)) (w.alloc (.cells vs T)) :=
  hI.alloc_obj fun _ hle => ⟨vs, heap_alloc_new _ _, hl, fun j hj => (hr j hj).mono hle⟩
theorem rep_new (C : Cx) (id b : Nat) : Rep (C.addI id b) (.ptr id 0) (.pointer (some ⟨b, 0, none⟩)) := .ptr _ _ _ (.inr ⟨rfl, rfl⟩)

theorem box_ok (hI : Inv G w0 C m w) {x : AV} {y : Value} (hx : Rep C x y) (t : TypeId) (hs : x.cells.all scal = true) :
    Res G w0 C (m.alloc (.cells t x.cells)) (.ptr m.next 0) ((do pure (.value (← Instr.box t y)) : Sem Next).run P w) := by
  obtain ⟨l1, l2⟩ := rep_cells hx (ne_u hs)
  exact Res.made (by simp [Instr.box, newVar, newRow]) (C.le_addI _ _) (alloc_row (T := t) hI l1 l2) (rep_new _ _ _)
end
end Go.Proofs.YtinlfdkalijffaaDoor.Am
