/-
  THE ABSTRACT MACHINE, 20: from a row's condition to the machine, and back: tables of numbers; what arguments read as.
-/
import Derived.Test.YtinlfdkalijffaaDoorAm19
import Derived.Lib.LaidTab
import Derived.Carry
import Derived.OpenShut
import Derived.Deep.Slices
import Derived.Deep.DeepHandedRow
set_option linter.unusedSimpArgs false
set_option linter.unusedVariables false
namespace Go.Proofs.YtinlfdkalijffaaDoor.Am
open Go Go.RowKit

/-! ### tables of numbers -/
section
variable {H : Type} {enc : TypeId × Value → H} {P : Program} {w : World} {base : Nat} {sp : Nat → Bool} {held : Bool}
mutual
def flatD : DataW H → List Value
  | .lit (.int k n) => [.int k n]
  | .agg ps => flatDs ps
  | _ => []
def flatDs : List (DataW H) → List Value
  | [] => []
  | d :: ds => flatD d ++ flatDs ds
end
theorem flatDs_eq : ∀ l : List (DataW H), flatDs l = (l.map flatD).flatten
  | [] => by simp [flatDs]
  | d :: l => by simp [flatDs, flatDs_eq l]
/-- The pieces lie one behind the other, from o on. -/
def tiles : Nat → List (Nat × Nat) → Bool
  | _, [] => true
  | o, (off, n) :: l => decide (off = o) && tiles (o + n) l
def sizes' : List (Nat × Nat) → Nat
  | [] => 0
  | (_, n) :: l => n + sizes' l
theorem tile {α : Type} (cs : List α) : ∀ (l : List (Nat × Nat)) (o : Nat), tiles o l = true → cs.length = o + sizes' l → cs.drop o = (l.map fun p => (cs.drop p.1).take p.2).flatten
  | [], o, _, h => by simp only [sizes', Nat.add_zero] at h; rw [List.drop_of_length_le (by omega)]; rfl
  | (off, n) :: l, o, ht, h => by
    simp only [tiles, Bool.and_eq_true, decide_eq_true_eq] at ht
    obtain ⟨rfl, ht⟩ := ht
    simp only [sizes'] at h
    simp only [List.map_cons, List.flatten_cons]
    rw [← tile cs l (off + n) ht (by omega), ← List.drop_drop]
    exact (List.take_append_drop n (cs.drop off)).symm
/-- A type of numbers, all of whose cells are told by its parts. -/
def numT (P : Program) : Nat → TypeId → Bool
  | 0, _ => false
  | f + 1, t => match P.underlying t with
    | some (.int _) => true
    | some (.array n e) => numT P f e && decide (n * P.cellsOf e = P.cellsOf t)
    | some (.struct fs) => fs.toList.all (fun x => numT P f x.type) && tiles 0 (fs.toList.map fun x => (x.offset, P.cellsOf x.type)) && decide (sizes' (fs.toList.map fun x => (x.offset, P.cellsOf x.type)) = P.cellsOf t)
    | _ => false
theorem tiles_range (sz : Nat) : ∀ (n k : Nat), tiles (k * sz) ((List.range' k n).map fun i => (i * sz, sz)) = true
  | 0, _ => rfl
  | n + 1, k => by
    rw [List.range'_succ, List.map_cons]
    simp only [tiles, decide_true, Bool.true_and]
    have := tiles_range sz n (k + 1)
    rwa [Nat.add_mul, Nat.one_mul] at this
theorem sizes_range (sz : Nat) : ∀ (n k : Nat), sizes' ((List.range' k n).map fun i => (i * sz, sz)) = n * sz
  | 0, _ => by simp [sizes']
  | n + 1, k => by
    rw [List.range'_succ, List.map_cons]
    simp only [sizes']
    rw [sizes_range sz n (k + 1), Nat.add_mul, Nat.one_mul, Nat.add_comm]
theorem trod_nums : ∀ {f fuel : Nat} {t : TypeId} {cs : List Value} {x : DataW H × List MemPlace}, numT P f t = true → DataW.trod enc P w base sp held fuel t cs = some x → flatD x.1 = cs
  | 0, _, _, _, _, h, _ => by simp [numT] at h
  | f + 1, fuel, t, cs, x, hn, h => by
    simp only [numT] at hn
    split at hn
    · rename_i k hu
      obtain ⟨n, rfl, rfl, _⟩ := DataW.trod_int hu h
      rfl
    · rename_i n e hu
      simp only [Bool.and_eq_true, decide_eq_true_eq] at hn
      obtain ⟨xs, m, rfl, rfl, hl, hxl, hx⟩ := DataW.trod_array hu h
      simp only [flatD, flatDs_eq]
      have e1 : (xs.map (·.1)).map flatD = ((List.range' 0 n).map fun i => (i * P.cellsOf e, P.cellsOf e)).map fun p => (cs.drop p.1).take p.2 := by
        apply List.ext_getElem?
        intro i
        by_cases hi : i < n
        · have h1 := hx i hi
          rw [List.getElem?_eq_getElem (by omega)] at h1
          have h2 := trod_nums hn.1 h1
          simp [List.getElem?_eq_getElem (show i < xs.length by omega), hi, h2]
        · rw [List.getElem?_eq_none (by simp; omega), List.getElem?_eq_none (by simp; omega)]
      rw [e1, ← tile cs _ 0 (by simpa using tiles_range (P.cellsOf e) n 0) (by rw [sizes_range, hl, hn.2]; omega), List.drop_zero]
    · rename_i fs hu
      simp only [Bool.and_eq_true, decide_eq_true_eq] at hn
      obtain ⟨⟨h1, h2⟩, h3⟩ := hn
      obtain ⟨xs, m, rfl, rfl, hl, hxl, hx⟩ := DataW.trod_struct hu h
      simp only [flatD, flatDs_eq]
      have e1 : (xs.map (·.1)).map flatD = (fs.toList.map fun x => (x.offset, P.cellsOf x.type)).map fun p => (cs.drop p.1).take p.2 := by
        apply List.ext_getElem?
        intro i
        by_cases hi : i < fs.size
        · have h4 := hx i fs[i] (by simp [hi])
          rw [List.getElem?_eq_getElem (by omega)] at h4
          have h5 := trod_nums (List.all_eq_true.1 h1 fs[i] (by simp)) h4
          simp [List.getElem?_eq_getElem (show i < xs.length by omega), hi, h5]
        · rw [List.getElem?_eq_none (by simp; omega), List.getElem?_eq_none (by simp; omega)]
      rw [e1, ← tile cs _ 0 h2 (by omega), List.drop_zero]
    · cases hn
end

/-! ### the world at the call's begin -/
/-- All cells are known. -/
def cxOf (W : World) : Cx := { St := fun b o v => W.cell? ⟨b, o, none⟩ = some v, I := fun _ _ => False, R := fun _ _ _ _ => False, T := fun _ _ => False, Z := fun _ => False }
theorem inv_begin {G : Nat → Option (List AV)} {W : World} (hG : ∀ g cs, G g = some cs → Rep (cxOf W) (.sptr cs 0) (.pointer (some ⟨g, 0, none⟩))) : Inv G W (cxOf W) m0 W :=
  { below := .refl _ _, st := fun _ _ _ h => h, obj := fun _ _ hb => hb.elim, inj := fun _ _ _ hb => hb.elim, func := fun _ _ _ hb => hb.elim, sti := fun _ _ _ _ _ hb => hb.elim,
    tok := fun _ _ _ _ hr => hr.elim, shp := fun _ _ ht => ht.elim, tty := fun _ _ _ _ hr => hr.elim, shut := fun _ hz => hz.elim, tokf := fun _ _ _ _ _ _ _ hr => hr.elim, toku := fun _ _ _ _ _ _ _ hr => hr.elim,
    glob := hG }
def avInt : Value → AV
  | .int k n => .int k n
  | _ => .u
theorem avInt_rep {C : Cx} (v : Value) : Rep C (avInt v) v := by
  cases v <;> first | exact .int _ _ | exact .u _
/-- The globals that are listed, with their numbers: by name, number and type. -/
def globOk (P : Program) (G : Nat → Option (List AV)) : List (String × DataW Unit) → Bool
  | [] => true
  | (n, d) :: r => (match P.globalNamed n with
    | some g => (match P.globals[g]? with
      | some x => numT P 6 x.type && (match G g with
        | some cs => beqAVs cs ((flatD d).map avInt)
        | none => true)
      | none => false)
    | none => false) && globOk P G r
where
  beqAVs : List AV → List AV → Bool
    | [], [] => true
    | .int k a :: xs, .int k' b :: ys => decide (k = k') && decide (a = b) && beqAVs xs ys
    | _, _ => false
theorem beqAVs_eq : ∀ {xs ys : List AV}, globOk.beqAVs xs ys = true → xs = ys
  | [], [], _ => rfl
  | [], _ :: _, h => by simp [globOk.beqAVs] at h
  | x :: xs, [], h => by cases x <;> simp [globOk.beqAVs] at h
  | x :: xs, y :: ys, h => by
    cases x <;> try (simp [globOk.beqAVs] at h; done)
    cases y <;> try (simp [globOk.beqAVs] at h; done)
    simp only [globOk.beqAVs, Bool.and_eq_true, decide_eq_true_eq] at h
    obtain ⟨⟨rfl, rfl⟩, h⟩ := h
    rw [beqAVs_eq h]
theorem glob_of_laid {P : Program} {G : Nat → Option (List AV)} {W : World} : ∀ {laid : List (String × DataW Unit)} {ps : List MemPlace}, globOk P G laid = true → DataW.LaidVars P W laid ps →
    ∀ g cs, G g = some cs → (laid.any fun x => decide (P.globalNamed x.1 = some g)) = true → Rep (cxOf W) (.sptr cs 0) (.pointer (some ⟨g, 0, none⟩))
  | [], _, _, _, g, cs, _, h => by simp at h
  | (n, d) :: r, ps, hok, hl, g, cs, hg, hin => by
    obtain ⟨g', t, vs, fuel, p, q, h1, h2, h3, h4, h5, _⟩ := hl
    simp only [globOk, Bool.and_eq_true] at hok
    obtain ⟨ha, hb⟩ := hok
    by_cases e : g' = g
    · subst e
      simp only [h1] at ha
      cases hx : P.globals[g']? with
      | none => simp [hx] at h2
      | some y =>
        simp only [hx, Option.map_some, Option.some.injEq] at h2
        subst h2
        simp only [hx, hg, Bool.and_eq_true] at ha
        have hv := trod_nums ha.1 h4
        have hc := beqAVs_eq ha.2
        refine .sptr cs 0 g' 0 (fun j => vs.getD j undef) (fun j hj => ?_) (fun j hj => ?_)
        · show W.cell? _ = _
          rw [Nat.zero_add, World.var?_cell h1 h3 j]
          have hlen : cs.length = vs.size := by rw [hc, List.length_map, hv]; simp
          rw [Array.getD_eq_getD_getElem?, Array.getElem?_eq_getElem (by omega)]; rfl
        · have hlen : cs.length = vs.size := by rw [hc, List.length_map, hv]; simp
          have : cs.getD j .u = avInt (vs.getD j undef) := by
            have hj' : j < vs.size := by omega
            have e : cs = vs.toList.map avInt := by rw [hc, hv]
            rw [e]
            simp [List.getD, Array.getD_eq_getD_getElem?, hj']
          rw [this]; exact avInt_rep _
    · refine glob_of_laid hb h5 g cs hg ?_
      simp only [List.any_cons, Bool.or_eq_true, decide_eq_true_eq] at hin
      rcases hin with hin | hin
      · rw [h1] at hin; exact absurd (Option.some.inj hin) e
      · exact hin

/-! ### what arguments read as -/
section
variable {H : Type} {enc : TypeId × Value → H} {P : Program} {W : World} {base : Nat} {sp : Nat → Bool} {held : Bool} {fuel : Nat} {t : TypeId} {cs : List Value} {x : DataW H × List MemPlace}

/-- Cells are each other's, and lead to no variable. -/
structure CellsOf (W : World) (as : List AV) (cs : List Value) : Prop where
  len : cs.length = as.length
  rep : ∀ i, i < as.length → Rep (cxOf W) (as.getD i .u) (cs.getD i undef)
  closed : ∀ i, i < as.length → Closed (as.getD i .u)
theorem CellsOf.one {a : AV} {v : Value} (h : Rep (cxOf W) a v) (hc : Closed a) : CellsOf W [a] [v] :=
  ⟨rfl, fun i hi => by obtain rfl : i = 0 := by simpa using hi
                       exact h, fun i hi => by obtain rfl : i = 0 := by simpa using hi
                                               exact hc⟩
theorem CellsOf.nil : CellsOf W [] [] := ⟨rfl, fun i hi => absurd hi (Nat.not_lt_zero _), fun i hi => absurd hi (Nat.not_lt_zero _)⟩
theorem CellsOf.append {as bs : List AV} {cs ds : List Value} (h : CellsOf W as cs) (k : CellsOf W bs ds) : CellsOf W (as ++ bs) (cs ++ ds) := by
  refine ⟨by simp [h.len, k.len], fun i hi => ?_, fun i hi => ?_⟩
  · by_cases e : i < as.length
    · have := h.rep i e
      simpa [List.getD, List.getElem?_append_left e, List.getElem?_append_left (show i < cs.length by rw [h.len]; exact e)] using this
    · have := k.rep (i - as.length) (by simp at hi; omega)
      simpa [List.getD, List.getElem?_append_right (show as.length ≤ i by omega), List.getElem?_append_right (show cs.length ≤ i by rw [h.len]; omega), h.len] using this
  · by_cases e : i < as.length
    · have := h.closed i e
      simpa [List.getD, List.getElem?_append_left e] using this
    · have := k.closed (i - as.length) (by simp at hi; omega)
      simpa [List.getD, List.getElem?_append_right (show as.length ≤ i by omega)] using this

theorem read_int {k : IntKind} (ht : P.underlying t = some (.int k)) (h : DataW.trod enc P W base sp held fuel t cs = some x) :
    ∃ n, CellsOf W [.int k n] cs ∧ x.1 = .lit (.int k n) ∧ (Lit.int k n).wf = true := by
  obtain ⟨n, rfl, rfl, hw⟩ := DataW.trod_int ht h
  exact ⟨n, .one (.int _ _) .int, rfl, hw⟩
theorem read_bool (ht : P.underlying t = some .bool) (h : DataW.trod enc P W base sp held fuel t cs = some x) :
    ∃ b, CellsOf W [.bool b] cs ∧ x.1 = .lit (.bool b) := by
  obtain ⟨b, rfl, rfl⟩ := DataW.trod_bool ht h
  exact ⟨b, .one (.bool _) .bool, rfl⟩
theorem read_str (ht : P.underlying t = some .string) (h : DataW.trod enc P W base sp held fuel t cs = some x) :
    ∃ l : List UInt8, CellsOf W [.str l] cs ∧ x.1 = .lit (.string l) ∧ l.length ≤ maxLen := by
  obtain ⟨s, rfl, rfl, hs⟩ := DataW.trod_string ht h
  exact ⟨_, .one (.str _ s rfl) .str, rfl, by simpa using hs⟩
/-- Nothing in it is too long. -/
def Fits (P : Program) (t : TypeId) (d : DataW H) : Prop := ∀ n ∈ d.weights P t, n ≤ reachBytes
theorem weightsAll_mem {e : TypeId} {d : DataW H} {n : Nat} (hn : n ∈ d.weights P e) : ∀ {l : List (DataW H)}, d ∈ l → n ∈ DataW.weightsAll P e l
  | y :: l, h => by
    rw [DataW.weightsAll, List.mem_append]
    rcases List.mem_cons.1 h with rfl | h
    · exact .inl hn
    · exact .inr (weightsAll_mem hn h)
theorem weightsEach_mem {t : TypeId} {d : DataW H} {n : Nat} (hn : n ∈ d.weights P t) : ∀ {ts : List TypeId} {l : List (DataW H)} {i : Nat}, ts[i]? = some t → l[i]? = some d → n ∈ DataW.weightsEach P ts l
  | t' :: ts, d' :: l, 0, h, k => by
    simp only [List.getElem?_cons_zero, Option.some.injEq] at h k
    subst h; subst k
    rw [DataW.weightsEach, List.mem_append]; exact .inl hn
  | t' :: ts, d' :: l, i + 1, h, k => by
    rw [DataW.weightsEach, List.mem_append]; exact .inr (weightsEach_mem hn (by simpa using h) (by simpa using k))
  | [], _, _, h, _ => by simp at h
  | _ :: _, [], _, _, k => by simp at k
theorem fits_str {l : List UInt8} (h : Fits P t (.lit (.string l) : DataW H)) : l.length ≤ reachBytes := h _ (by simp [DataW.weights])
theorem read_struct {fs : Array Field} (ht : P.underlying t = some (.struct fs)) (hw : Fits P t x.1) (h : DataW.trod enc P W base sp held fuel t cs = some x) :
    cs.length = P.cellsOf t ∧ ∀ (i : Nat) (f : Field), fs[i]? = some f → ∃ n y, SizeOf.sizeOf y.1 < SizeOf.sizeOf x.1 ∧ Fits P f.type y.1 ∧ DataW.trod enc P W base sp held n f.type ((cs.drop f.offset).take (P.cellsOf f.type)) = some y := by
  obtain ⟨xs, n, rfl, rfl, hl, hxl, hx⟩ := DataW.trod_struct ht h
  refine ⟨hl, fun i f hf => ?_⟩
  have hi : i < fs.size := (Array.getElem?_eq_some_iff.1 hf).1
  have h1 := hx i f hf
  rw [List.getElem?_eq_getElem (by omega)] at h1
  refine ⟨n, _, ?_, fun m hm => hw m ?_, h1⟩
  · have : SizeOf.sizeOf (xs[i]'(by omega)).1 < SizeOf.sizeOf (xs.map (·.1)) := List.sizeOf_lt_of_mem (List.mem_map.2 ⟨_, List.getElem_mem _, rfl⟩)
    simp only [DataW.agg.sizeOf_spec]; omega
  · rw [DataW.weights, ht]
    exact weightsEach_mem hm (i := i) (by simp [hf]) (by simp [hxl, hi])
/-- A struct type's fields: types and places. -/
def structB (P : Program) (t : TypeId) (l : List (TypeId × Nat)) : Bool :=
  match P.underlying t with
  | some (.struct fs) => decide (fs.toList.map (fun f => (f.type, f.offset)) = l)
  | _ => false
theorem read_fields {l : List (TypeId × Nat)} (hb : structB P t l = true) (hw : Fits P t x.1) (h : DataW.trod enc P W base sp held fuel t cs = some x) :
    cs.length = P.cellsOf t ∧ ∀ (i : Nat) (p : TypeId × Nat), l[i]? = some p → ∃ n y, SizeOf.sizeOf y.1 < SizeOf.sizeOf x.1 ∧ Fits P p.1 y.1 ∧ DataW.trod enc P W base sp held n p.1 ((cs.drop p.2).take (P.cellsOf p.1)) = some y := by
  unfold structB at hb
  split at hb
  · rename_i fs hu
    have e := of_decide_eq_true hb
    subst e
    obtain ⟨h1, h2⟩ := read_struct hu hw h
    refine ⟨h1, fun i p hp => ?_⟩
    simp only [List.getElem?_map, Option.map_eq_some_iff, Array.getElem?_toList] at hp
    obtain ⟨f, hf, rfl⟩ := hp
    exact h2 i f hf
  · cases hb
theorem read_array {k : Nat} {e : TypeId} (ht : P.underlying t = some (.array k e)) (hw : Fits P t x.1) (h : DataW.trod enc P W base sp held fuel t cs = some x) :
    cs.length = P.cellsOf t ∧ ∀ i : Nat, i < k → ∃ n y, SizeOf.sizeOf y.1 < SizeOf.sizeOf x.1 ∧ Fits P e y.1 ∧ DataW.trod enc P W base sp held n e ((cs.drop (i * P.cellsOf e)).take (P.cellsOf e)) = some y := by
  obtain ⟨xs, n, rfl, rfl, hl, hxl, hx⟩ := DataW.trod_array ht h
  refine ⟨hl, fun i hi => ?_⟩
  have h1 := hx i hi
  rw [List.getElem?_eq_getElem (by omega)] at h1
  refine ⟨n, _, ?_, fun m hm => hw m ?_, h1⟩
  · have : SizeOf.sizeOf (xs[i]'(by omega)).1 < SizeOf.sizeOf (xs.map (·.1)) := List.sizeOf_lt_of_mem (List.mem_map.2 ⟨_, List.getElem_mem _, rfl⟩)
    simp only [DataW.agg.sizeOf_spec]; omega
  · rw [DataW.weights, ht]
    exact weightsAll_mem hm (List.mem_map.2 ⟨_, List.getElem_mem _, rfl⟩)
/-- A slice, where each element is read as something with R. -/
theorem read_slice {e : TypeId} {α : Type} [Inhabited α] {R : α → List AV → Prop} (ht : P.underlying t = some (.slice e)) (hsz : 0 < P.cellsOf e)
    (wrap : List AV → AV) (hwrap : ∀ a as, R a as → (wrap as).cells = as)
    (hw : Fits P t x.1) (h : DataW.trod enc P W base (fun _ => true) held fuel t cs = some x)
    (he : ∀ (n : Nat) (cs : List Value) (y : DataW H × List MemPlace), SizeOf.sizeOf y.1 < SizeOf.sizeOf x.1 → Fits P e y.1 → DataW.trod enc P W base (fun _ => true) held n e cs = some y → ∃ (a : α) (as : List AV), R a as ∧ CellsOf W as cs) :
    ∃ (v : AV) (l : List α) (xs : List AV), CellsOf W [v] cs ∧ SlOf (P.cellsOf e) v xs ∧ xs.length = l.length ∧ l.length * P.bytesOf e ≤ reachBytes ∧ (∀ i, i < l.length → ∃ as, R (l.getD i default) as ∧ xs.getD i .u = wrap as) := by
  rcases Go.Deep.open_slice ht h with ⟨rfl, rfl⟩ | ⟨a, len, cap, m, n, D, Pl, rfl, hb, hl, hm, hmm, rfl, hx⟩
  · exact ⟨.nilSl, [], [], .one .nilSl .nilSl, .inl ⟨rfl, rfl⟩, rfl, by simp, fun i hi => absurd hi (Nat.not_lt_zero _)⟩
  · have hlm : len ≤ m := by rw [hmm]; split <;> omega
    have hch : ∃ F : Nat → List Value × α × List AV, ∀ i, i < len → W.cells? base (a.add (i * P.cellsOf e)) (P.cellsOf e) = some (F i).1 ∧ R (F i).2.1 (F i).2.2 ∧ CellsOf W (F i).2.2 (F i).1 := by
      refine Go.Deep.choose_lt (p := fun i (F : List Value × α × List AV) => W.cells? base (a.add (i * P.cellsOf e)) (P.cellsOf e) = some F.1 ∧ R F.2.1 F.2.2 ∧ CellsOf W F.2.2 F.1) (fun i hi => ?_)
      obtain ⟨cs', h1, h2⟩ := hx i (by omega)
      have hlt : SizeOf.sizeOf (D i) < SizeOf.sizeOf (DataW.slice ((List.range len).map D) ((List.range (m - len)).map fun j => D (len + j))) := by
        have : SizeOf.sizeOf (D i) < SizeOf.sizeOf ((List.range len).map D) := List.sizeOf_lt_of_mem (List.mem_map.2 ⟨i, List.mem_range.2 hi, rfl⟩)
        simp only [DataW.slice.sizeOf_spec]; omega
      have hfit : Fits P e (D i) := fun k hk => hw k (by
        rw [DataW.weights, ht]
        refine List.mem_cons_of_mem _ (List.mem_append_left _ (weightsAll_mem hk (List.mem_map.2 ⟨i, List.mem_range.2 hi, rfl⟩))))
      obtain ⟨y, as, h3, h4⟩ := he _ _ _ hlt hfit h2
      exact ⟨⟨cs', y, as⟩, h1, h3, h4⟩
    obtain ⟨F, hF⟩ := hch
    have hget : ∀ i, i < len → ((List.range len).map fun i => wrap (F i).2.2).getD i .u = wrap (F i).2.2 := fun i hi => by simp [List.getD, hi]
    have hcell : ∀ i j, i < len → j < P.cellsOf e → W.cell? ((a.add (i * P.cellsOf e)).add j) = some ((F i).1.getD j undef) := fun i j hi hj => by
      obtain ⟨_, h2, h3⟩ := World.cells?_some (hF i hi).1
      rw [h3 j hj, List.getElem?_eq_getElem (by omega)]; simp [List.getD, h2, hj]
    have hlen : ∀ i, i < len → (F i).2.2.length = P.cellsOf e := fun i hi => by
      obtain ⟨_, h2, _⟩ := World.cells?_some (hF i hi).1
      rw [← (hF i hi).2.2.len]; exact h2
    refine ⟨.sl .no (P.cellsOf e) ((List.range len).map fun i => wrap (F i).2.2), (List.range len).map fun i => (F i).2.1, (List.range len).map fun i => wrap (F i).2.2, ?_, .inr ⟨_, rfl⟩, by simp, ?_, fun i hi => ?_⟩
    rotate_left
    · have h9 := hw ((len + (m - len)) * P.bytesOf e) (by rw [DataW.weights, ht]; simp)
      have : len * P.bytesOf e ≤ (len + (m - len)) * P.bytesOf e := Nat.mul_le_mul_right _ (by omega)
      simp; omega
    rotate_left
    · have hcl : Closed (.sl .no (P.cellsOf e) ((List.range len).map fun i => wrap (F i).2.2)) := by
        refine .sl (fun t h => by cases h) fun i hi j => ?_
        have hi' : i < len := by simpa using hi
        rw [hget i hi', hwrap _ _ (hF i hi').2.1]
        by_cases hj : j < (F i).2.2.length
        · exact (hF i hi').2.2.closed j hj
        · have : (F i).2.2.getD j .u = .u := by simp [List.getD, List.getElem?_eq_none (show (F i).2.2.length ≤ j by omega)]
          rw [this]; exact .u
      by_cases h0 : cap = 0
      · have h00 : len = 0 := by omega
        subst h0; subst h00
        exact .one (.sl0 _ _ a (fun t h => by cases h) hsz) hcl
      · -- a cell is there: the address is a place
        have hspot : a.spot = none := by
          obtain ⟨cs', h1, _⟩ := hx 0 (by rw [hmm]; simp; omega)
          obtain ⟨_, h2, h3⟩ := World.cells?_some h1
          have := h3 0 hsz
          rw [List.getElem?_eq_getElem (by omega)] at this
          simp only [Nat.zero_mul, Addr.add, if_true] at this
          unfold World.cell? at this
          split at this
          · split at this
            · cases this
            · rename_i h; simpa using h
          · cases this
        obtain ⟨b, off, spot⟩ := a
        simp only at hspot
        subst hspot
        refine .one (.sl .no _ _ b off len cap (fun i j => (F i).1.getD j undef) (by simp) hl hsz (fun h => by cases h) (fun t h => by cases h) (fun i hi => ?_) (fun i j hi hj => ?_) (fun i j hi hj => ?_)) hcl
        · rw [hget i hi, hwrap _ _ (hF i hi).2.1]; exact hlen i hi
        · have := hcell i j hi hj
          rwa [Go.Deep.add_add, Addr.add_lit, ← Nat.add_assoc] at this
        · rw [hget i hi, hwrap _ _ (hF i hi).2.1]
          exact (hF i hi).2.2.rep j (by rw [hlen i hi]; exact hj)
    · have hi' : i < len := by simpa using hi
      exact ⟨(F i).2.2, by simpa [List.getD, hi'] using (hF i hi').2.1, hget i hi'⟩
/-- A slice of strings. -/
theorem read_strs {e : TypeId} (ht : P.underlying t = some (.slice e)) (he : P.underlying e = some .string) (hce : P.cellsOf e = 1) (hw : Fits P t x.1) (h : DataW.trod enc P W base (fun _ => true) held fuel t cs = some x) :
    ∃ (v : AV) (l : List (List UInt8)), CellsOf W [v] cs ∧ SlOf 1 v (l.map .str) ∧ l.length * P.bytesOf e ≤ reachBytes ∧ ∀ s ∈ l, s.length ≤ reachBytes := by
  obtain ⟨v, l, xs, h1, h2, h3, h4, h5⟩ := read_slice (α := List UInt8) (R := fun l as => as = [.str l] ∧ l.length ≤ reachBytes) ht (by omega) (fun as => as.getD 0 .u) (fun a as h => by rw [h.1]; rfl) hw h (fun n cs y _ hf hy => by
    obtain ⟨l, k1, k3, k2⟩ := read_str he hy
    rw [k3] at hf
    exact ⟨l, _, ⟨rfl, fits_str hf⟩, k1⟩)
  refine ⟨v, l, h1, ?_, h4, fun s hs => ?_⟩
  · have : xs = l.map .str := by
      apply List.ext_getElem (by simp [h3])
      intro i hi hi'
      obtain ⟨as, ⟨rfl, _⟩, k⟩ := h5 i (by omega)
      have hil : i < l.length := by omega
      have e1 : xs.getD i .u = xs[i] := by simp [List.getD, hi]
      rw [← e1, k]
      simp [List.getD, hil]
    rw [← this, ← hce]; exact h2
  · obtain ⟨i, hi, rfl⟩ := List.mem_iff_getElem.1 hs
    obtain ⟨as, ⟨_, k⟩, _⟩ := h5 i hi
    simpa [List.getD, hi] using k
end

/-! ### the call's end -/
section
variable {H : Type} {enc : TypeId × Value → H} {P : Program}
theorem trodAll_stays (hl : laidOutB P = true) {W W' : World} (hb : Below W.heap.size W W') : ∀ {ts : List TypeId} {vs : List Value} {ds : List (DataW H)} {ps : List MemPlace}, (ts.all fun t => P.readableRec t && decide (t < P.types.size)) = true →
    DataW.TrodAll enc P W 0 (fun _ => true) true ts vs ds ps → (∀ p ∈ ps, p.block < W.heap.size) → DataW.TrodAll enc P W' 0 (fun b => decide (b < W.heap.size)) true ts vs ds ps
  | [], [], [], _, _, h, _ => h
  | t :: ts, v :: vs, d :: ds, ps, hr, ⟨p, q, h1, h2, e⟩, hlt => by
    simp only [List.all_cons, Bool.and_eq_true, decide_eq_true_eq] at hr
    subst e
    exact ⟨p, q, Below.trod hl hr.1.1 hr.1.2 h1 hb (fun x hx => hlt x (by simp [hx])), trodAll_stays hl hb hr.2 h2 (fun x hx => hlt x (by simp [hx])), rfl⟩
  | [], [], _ :: _, _, _, h, _ => h.elim
  | [], _ :: _, _, _, _, h, _ => h.elim
  | _ :: _, [], _, _, _, h, _ => h.elim
  | _ :: _, _ :: _, [], _, _, h, _ => h.elim

/-- The call returned true, and no block that was there has turned. -/
theorem post_true (hl : laidOutB P = true) {f : Func} {s : ChangeSpec} {apart fresh handsOn : Bool} {tb : TypeId} (hres : f.resultTypes = #[tb]) (htb : P.underlying tb = some .bool) (hr : (f.params.toList.all fun t => P.readableRec t && decide (t < P.types.size)) = true) (hv : s.vars = [])
    {W W' : World} {args : Array Value} {ds : List (DataW H)} {before : List MemPlace} (hW : DataW.Whole enc P f.params.toList s.vars apart W args.toList ds [] before) (hs : s.fn H ds = { results := [.lit (.bool true)], args := ds }) (hb : Below W.heap.size W W') :
    s.post enc P f apart fresh handsOn false W args (.bool true) W' := by
  have hW' := hW
  obtain ⟨p, q, hA, hV, rfl, _, _⟩ := hW
  rw [hv] at hV
  obtain rfl : q = [] := hV
  have hlt : ∀ x ∈ p, x.block < W.heap.size := fun x hx => by simpa using hW'.lt x (by simpa using hx)
  refine ⟨ds, [], p ++ [], [], p, [], hW', ?_, ?_, ?_, hb.frame _, fun h => by cases h⟩
  · rw [List.append_nil, hs, hres]
    have hbool : ∀ (b : Nat) (sp : Nat → Bool) (hd : Bool), DataW.Trod enc P W' b sp hd tb (.bool true) (.lit (.bool true)) [] := fun b sp hd => ⟨1, by simp [DataW.trod, htb, Value.cells]⟩
    exact trodAll_cons_mk (hbool _ _ _) Go.ChangeShapes.trodAll_mk0
  · rw [List.append_nil, hs]; exact trodAll_stays hl hb hr hA hlt
  · rw [List.append_nil, hs, hv]; exact rfl
end

/-- From a call in the abstract machine to the row's contract. -/
theorem calls_of_sound {P : Program} {G : Nat → Option (List AV)} {f : FuncId} {args : List AV} {m' : Mem} (h : CallSound P G f args m0 (.ret (.bool true)) m') {W : World} {argsV : Array Value}
    (hG : ∀ g cs, G g = some cs → Rep (cxOf W) (.sptr cs 0) (.pointer (some ⟨g, 0, none⟩))) (ha : listRep (cxOf W) args argsV.toList) : Calls P f argsV W fun e W' => e = .returned (.bool true) ∧ Below W.heap.size W W' := by
  refine (h W (cxOf W) W argsV (inv_begin hG) ha).2.mono fun e W' hp => ?_
  obtain ⟨C', _, hI, ho⟩ := hp
  refine ⟨?_, hI.below⟩
  cases e with
  | returned v => cases ho; rfl
  | _ => exact ho.elim
end Go.Proofs.YtinlfdkalijffaaDoor.Am
