import Derived.Test.YtinlfdkalijffaaDoorKB5
import Derived.Test.YtinlfdkalijffaaDoorKJ4
import Derived.Test.YtinlfdkalijffaaDoorKA4
set_option linter.unusedSimpArgs false
set_option linter.unusedVariables false
/-
  JSON, 59: what arguments read as, where they are of a bulk: the lifting of a law in its second form.
-/
namespace Go.Proofs.YtinlfdkalijffaaDoor.Am
open Go Go.RowKit

section
variable {H : Type}
theorem bulk_mem {d : DataW H} : ∀ {l : List (DataW H)}, d ∈ l → Rows.uptoBulk d ≤ Rows.uptoBulkAll l
  | y :: l, h => by
    simp only [Rows.uptoBulkAll]
    rcases List.mem_cons.1 h with rfl | h
    · omega
    · have := bulk_mem h; omega
theorem bulk_pos : ∀ d : DataW H, 1 ≤ Rows.uptoBulk d := by
  intro d
  cases d with
  | lit l => cases l <;> simp [Rows.uptoBulk]
  | _ => simp [Rows.uptoBulk]
theorem bulk_len : ∀ {l : List (DataW H)}, l.length ≤ Rows.uptoBulkAll l
  | [] => by simp
  | d :: l => by
    have := bulk_pos d
    have := bulk_len (l := l)
    simp only [Rows.uptoBulkAll, List.length_cons]; omega
end
section
variable {H : Type} {enc : TypeId × Value → H} {P : Program} {W : World} {base : Nat} {sp : Nat → Bool} {held : Bool} {fuel : Nat} {t : TypeId} {cs : List Value} {x : DataW H × List MemPlace}
theorem read_structB {fs : Array Field} (ht : P.underlying t = some (.struct fs)) (hw : Fits P t x.1) (h : DataW.trod enc P W base sp held fuel t cs = some x) :
    cs.length = P.cellsOf t ∧ ∀ (i : Nat) (f : Field), fs[i]? = some f → ∃ n y, SizeOf.sizeOf y.1 < SizeOf.sizeOf x.1 ∧ Fits P f.type y.1 ∧ Rows.uptoBulk y.1 ≤ Rows.uptoBulk x.1 ∧ DataW.trod enc P W base sp held n f.type ((cs.drop f.offset).take (P.cellsOf f.type)) = some y := by
  obtain ⟨xs, n, rfl, rfl, hl, hxl, hx⟩ := DataW.trod_struct ht h
  refine ⟨hl, fun i f hf => ?_⟩
  have hi : i < fs.size := (Array.getElem?_eq_some_iff.1 hf).1
  have h1 := hx i f hf
  rw [List.getElem?_eq_getElem (by omega)] at h1
  refine ⟨n, _, ?_, fun m hm => hw m ?_, ?_, h1⟩
  · have : SizeOf.sizeOf (xs[i]'(by omega)).1 < SizeOf.sizeOf (xs.map (·.1)) := List.sizeOf_lt_of_mem (List.mem_map.2 ⟨_, List.getElem_mem _, rfl⟩)
    simp only [DataW.agg.sizeOf_spec]; omega
  · rw [DataW.weights, ht]
    exact weightsEach_mem hm (i := i) (by simp [hf]) (by simp [hxl, hi])
  · have := bulk_mem (d := (xs[i]'(by omega)).1) (l := xs.map (·.1)) (List.mem_map.2 ⟨_, List.getElem_mem _, rfl⟩)
    simp only [Rows.uptoBulk]; omega
theorem read_fieldsB {l : List (TypeId × Nat)} (hb : structB P t l = true) (hw : Fits P t x.1) (h : DataW.trod enc P W base sp held fuel t cs = some x) :
    cs.length = P.cellsOf t ∧ ∀ (i : Nat) (p : TypeId × Nat), l[i]? = some p → ∃ n y, SizeOf.sizeOf y.1 < SizeOf.sizeOf x.1 ∧ Fits P p.1 y.1 ∧ Rows.uptoBulk y.1 ≤ Rows.uptoBulk x.1 ∧ DataW.trod enc P W base sp held n p.1 ((cs.drop p.2).take (P.cellsOf p.1)) = some y := by
  unfold structB at hb
  split at hb
  · rename_i fs hu
    have e := of_decide_eq_true hb
    subst e
    obtain ⟨h1, h2⟩ := read_structB hu hw h
    refine ⟨h1, fun i p hp => ?_⟩
    simp only [List.getElem?_map, Option.map_eq_some_iff, Array.getElem?_toList] at hp
    obtain ⟨f, hf, rfl⟩ := hp
    exact h2 i f hf
  · cases hb
/-- A slice, where each element is read as something with R. -/
theorem read_sliceB {e : TypeId} {α : Type} [Inhabited α] {R : α → List AV → Prop} (ht : P.underlying t = some (.slice e)) (hsz : 0 < P.cellsOf e)
    (wrap : List AV → AV) (hwrap : ∀ a vs1, R a vs1 → (wrap vs1).cells = vs1)
    (hw : Fits P t x.1) (h : DataW.trod enc P W base (fun _ => true) held fuel t cs = some x)
    (he : ∀ (n : Nat) (cs : List Value) (y : DataW H × List MemPlace), SizeOf.sizeOf y.1 < SizeOf.sizeOf x.1 → Fits P e y.1 → Rows.uptoBulk y.1 ≤ Rows.uptoBulk x.1 → DataW.trod enc P W base (fun _ => true) held n e cs = some y → ∃ (a : α) (vs1 : List AV), R a vs1 ∧ CellsOf W vs1 cs) :
    ∃ (v : AV) (l : List α) (xs : List AV), CellsOf W [v] cs ∧ SlOf (P.cellsOf e) v xs ∧ xs.length = l.length ∧ l.length ≤ Rows.uptoBulk x.1 ∧ (∀ i, i < l.length → ∃ vs1, R (l.getD i default) vs1 ∧ xs.getD i .u = wrap vs1) := by
  rcases Go.Deep.open_slice ht h with ⟨rfl, rfl⟩ | ⟨a, len, cap, m, n, D, Pl, rfl, hb, hl, hm, hmm, rfl, hx⟩
  · exact ⟨.nilSl, [], [], .one .nilSl .nilSl, .inl ⟨rfl, rfl⟩, rfl, by simp, fun i hi => absurd hi (Nat.not_lt_zero _)⟩
  · have hlm : len ≤ m := by rw [hmm]; split <;> omega
    have hch : ∃ F : Nat → List Value × α × List AV, ∀ i, i < len → W.cells? base (a.add (i * P.cellsOf e)) (P.cellsOf e) = some (F i).1 ∧ R (F i).2.1 (F i).2.2 ∧ CellsOf W (F i).2.2 (F i).1 := by
      refine Go.Deep.choose_lt (p := fun i (F : List Value × α × List AV) => W.cells? base (a.add (i * P.cellsOf e)) (P.cellsOf e) = some F.1 ∧ R F.2.1 F.2.2 ∧ CellsOf W F.2.2 F.1) (fun i hi => ?_)
      obtain ⟨cs', h1, h2⟩ := hx i (by omega)
      have hlt : SizeOf.sizeOf (D i) < SizeOf.sizeOf (DataW.slice ((List.range len).map D) ((List.range (m - len)).map fun j => D (len + j))) := by
        have : SizeOf.sizeOf (D i) < SizeOf.sizeOf ((List.range len).map D) := List.sizeOf_lt_of_mem (List.mem_map.2 ⟨i, List.mem_range.2 hi, rfl⟩)
        simp only [DataW.slice.sizeOf_spec]; omega
      have hfit : Fits P e (D i) := fun k hk => hw k (by
        rw [DataW.weights, ht]
        refine List.mem_cons_of_mem _ (List.mem_append_left _ (weightsAll_mem hk (List.mem_map.2 ⟨i, List.mem_range.2 hi, rfl⟩))))
      have hbk : Rows.uptoBulk (D i) ≤ Rows.uptoBulk (DataW.slice ((List.range len).map D) ((List.range (m - len)).map fun j => D (len + j))) := by
        have := bulk_mem (d := D i) (l := (List.range len).map D) (List.mem_map.2 ⟨i, List.mem_range.2 hi, rfl⟩)
        simp only [Rows.uptoBulk]; omega
      obtain ⟨y, vs1, h3, h4⟩ := he _ _ _ hlt hfit hbk h2
      exact ⟨⟨cs', y, vs1⟩, h1, h3, h4⟩
    obtain ⟨F, hF⟩ := hch
    have hget : ∀ i, i < len → ((List.range len).map fun i => wrap (F i).2.2).getD i .u = wrap (F i).2.2 := fun i hi => by simp [List.getD, hi]
    have hcell : ∀ i j, i < len → j < P.cellsOf e → W.cell? ((a.add (i * P.cellsOf e)).add j) = some ((F i).1.getD j undef) := fun i j hi hj => by
      obtain ⟨_, h2, h3⟩ := World.cells?_some (hF i hi).1
      rw [h3 j hj, List.getElem?_eq_getElem (by omega)]; simp [List.getD, h2, hj]
    have hlen : ∀ i, i < len → (F i).2.2.length = P.cellsOf e := fun i hi => by
      obtain ⟨_, h2, _⟩ := World.cells?_some (hF i hi).1
      rw [← (hF i hi).2.2.len]; exact h2
    refine ⟨.sl .no (P.cellsOf e) ((List.range len).map fun i => wrap (F i).2.2), (List.range len).map fun i => (F i).2.1, (List.range len).map fun i => wrap (F i).2.2, ?_, .inr ⟨_, rfl⟩, by simp, ?_, fun i hi => ?_⟩
    rotate_left
    · have := bulk_len (l := (List.range len).map D)
      simp only [List.length_map, List.length_range] at this ⊢
      simp only [Rows.uptoBulk]; omega
    rotate_left
    · have hcl : Closed (.sl .no (P.cellsOf e) ((List.range len).map fun i => wrap (F i).2.2)) := by
        refine .sl (fun t h => by cases h) fun i hi j => ?_
        have hi' : i < len := by simpa using hi
        rw [hget i hi', hwrap _ _ (hF i hi').2.1]
        by_cases hj : j < (F i).2.2.length
        · exact (hF i hi').2.2.closed j hj
        · have : (F i).2.2.getD j .u = .u := by simp [List.getD, List.getElem?_eq_none (show (F i).2.2.length ≤ j by omega)]
          rw [this]; exact .u
      by_cases h0 : cap = 0
      · have h00 : len = 0 := by omega
        subst h0; subst h00
        exact .one (.sl0 _ _ a (fun t h => by cases h) hsz) hcl
      · -- a cell is there: the address is a place
        have hspot : a.spot = none := by
          obtain ⟨cs', h1, _⟩ := hx 0 (by rw [hmm]; simp; omega)
          obtain ⟨_, h2, h3⟩ := World.cells?_some h1
          have := h3 0 hsz
          rw [List.getElem?_eq_getElem (by omega)] at this
          simp only [Nat.zero_mul, Addr.add, if_true] at this
          unfold World.cell? at this
          split at this
          · split at this
            · cases this
            · rename_i h; simpa using h
          · cases this
        obtain ⟨b, off, spot⟩ := a
        simp only at hspot
        subst hspot
        refine .one (.sl .no _ _ b off len cap (fun i j => (F i).1.getD j undef) (by simp) hl hsz (fun h => by cases h) (fun t h => by cases h) (fun i hi => ?_) (fun i j hi hj => ?_) (fun i j hi hj => ?_)) hcl
        · rw [hget i hi, hwrap _ _ (hF i hi).2.1]; exact hlen i hi
        · have := hcell i j hi hj
          rwa [Go.Deep.add_add, Addr.add_lit, ← Nat.add_assoc] at this
        · rw [hget i hi, hwrap _ _ (hF i hi).2.1]
          exact (hF i hi).2.2.rep j (by rw [hlen i hi]; exact hj)
    · have hi' : i < len := by simpa using hi
      exact ⟨(F i).2.2, by simpa [List.getD, hi'] using (hF i hi').2.1, hget i hi'⟩
/-- A slice of strings. -/
theorem read_strsB {e : TypeId} (ht : P.underlying t = some (.slice e)) (he : P.underlying e = some .string) (hce : P.cellsOf e = 1) (hw : Fits P t x.1) (h : DataW.trod enc P W base (fun _ => true) held fuel t cs = some x) :
    ∃ (v : AV) (l : List (List UInt8)), CellsOf W [v] cs ∧ SlOf 1 v (l.map .str) ∧ l.length ≤ Rows.uptoBulk x.1 ∧ ∀ s ∈ l, s.length ≤ Rows.uptoBulk x.1 := by
  obtain ⟨v, l, xs, h1, h2, h3, h4, h5⟩ := read_sliceB (α := List UInt8) (R := fun l vs1 => vs1 = [.str l] ∧ l.length ≤ Rows.uptoBulk x.1) ht (by omega) (fun vs1 => vs1.getD 0 .u) (fun a vs1 h => by rw [h.1]; rfl) hw h (fun n cs y _ hf hbk hy => by
    obtain ⟨l, k1, k3, k2⟩ := read_str he hy
    rw [k3] at hbk
    simp only [Rows.uptoBulk] at hbk
    exact ⟨l, _, ⟨rfl, by omega⟩, k1⟩)
  refine ⟨v, l, h1, ?_, h4, fun s hs => ?_⟩
  · have : xs = l.map .str := by
      apply List.ext_getElem (by simp [h3])
      intro i hi hi'
      obtain ⟨vs1, ⟨rfl, _⟩, k⟩ := h5 i (by omega)
      have hil : i < l.length := by omega
      have e1 : xs.getD i .u = xs[i] := by simp [List.getD, hi]
      rw [← e1, k]
      simp [List.getD, hil]
    rw [← this, ← hce]; exact h2
  · obtain ⟨i, hi, rfl⟩ := List.mem_iff_getElem.1 hs
    obtain ⟨vs1, ⟨_, k⟩, _⟩ := h5 i hi
    simpa [List.getD, hi] using k
end
/-- As LawAt, with the bulk. -/
def LawUpto (H : Type) (enc : TypeId × Value → H) (P : Program) (G : Nat → Option (List AV)) (f : FuncId) (fn : Func) (s : ChangeSpec) : Prop :=
  ∀ (W : World) (base : Nat) (args : List Value) (ds : List (DataW H)) (p : List MemPlace), (∀ (j : Nat) t v, fn.params[j]? = some t → args[j]? = some v → Value.okWide P W .any base t v) →
    DataW.TrodAll enc P W 0 (fun _ => true) true fn.params.toList args ds p → (∀ n ∈ DataW.weightsEach P fn.params.toList ds, n ≤ reachBytes) → Rows.uptoBulkAll ds ≤ 1048576 →
    s.fn H ds = { results := [.lit (.bool true)], args := ds } ∧ ∃ avs m', CallSound P G f avs m0 (.ret (.bool true)) m' ∧ listRep (cxOf W) avs args
theorem law_liftU {H : Type} {enc : TypeId × Value → H} {C : Checked} {os : Os} {f : FuncId} {fn : Func} {s : ChangeSpec} {F : Stop.Interp} {conds : List PathCond} {laid : List (String × DataW Unit)} {G : Nat → Option (List AV)} {tb : TypeId}
    (own : ownKnob C.prog.godebug = none) (started : os.Started) (noInit : C.prog.inits.idxOf? f = none) (hfn : C.prog.funcs[f]? = some fn) (hl : laidOutB C.prog = true) (hres : fn.resultTypes = #[tb]) (htb : C.prog.underlying tb = some .bool)
    (hr : (fn.params.toList.all fun t => C.prog.readableRec t && decide (t < C.prog.types.size)) = true) (hv : s.vars = [])
    (witness : ∃ (w : World) (tape : Tape) (i : Input), w.os = os ∧ (w.forCall tape i).Shaped C.prog ∧ i.vars = [] ∧ Input.okWide C.prog (w.forCall tape i) .any w.heap.size f i ∧
      (Rows.OpenSpec.upto s).preRow enc C.prog fn conds false laid (w.forCall tape i).memory i.args ∧ ({} : Assume).holds C.prog (lone (Frame.enter C.prog f i.args .normal) [] (w.forCall tape i)))
    (globs : ∀ W, laidMetH C.prog laid W → ∀ g cs, G g = some cs → Rep (cxOf W) (.sptr cs 0) (.pointer (some ⟨g, 0, none⟩)))
    (law : LawUpto H enc C.prog G f fn s) :
    ReturnsInHanded {} C os f .any ((Rows.OpenSpec.upto s).preRow enc C.prog fn conds false laid) (((Rows.OpenSpec.upto s).at F).post enc C.prog fn false true false false) := by
  refine returnsInHanded_of_row (C := C) (s := Rows.OpenSpec.upto s) own started noInit hfn witness ?_
  intro W base args ds gs before hval hW _ hcond hw hL _ _
  have hW' := hW
  obtain ⟨p, q, hA, hV, _, _, _⟩ := hW'
  have hV' : DataW.TrodVars enc C.prog W (fun _ => true) s.vars gs q := hV
  rw [hv] at hV'
  obtain ⟨rfl, rfl⟩ : gs = [] ∧ q = [] := by
    cases gs with
    | nil => exact ⟨rfl, hV'⟩
    | cons _ _ => exact hV'.elim
  have hval' : ∀ (j : Nat) t v, fn.params[j]? = some t → args.toList[j]? = some v → Value.okWide C.prog W .any base t v := fun j t v h1 h2 => hval j t v h1 (by simpa using h2)
  have hsm : Rows.uptoBulkAll ds ≤ 1048576 := by
    have := hcond _ rfl
    rw [List.append_nil] at this
    exact of_decide_eq_true this
  obtain ⟨hs, avs, m', hc, ha⟩ := law W base args.toList ds p hval' hA (fun n hn => by
    have := List.all_eq_true.1 hw n (weightsEach_append hn)
    simpa using this) hsm
  refine (calls_of_sound hc (globs W hL) ha).mono fun e W' ⟨he, hb⟩ => ?_
  subst he
  exact ⟨_, rfl, post_true hl hres htb hr hv hW hs hb⟩
end Go.Proofs.YtinlfdkalijffaaDoor.Am
namespace Go.Proofs.YtinlfdkalijffaaDoor.Am.Q
open Go Go.Proofs Go.Proofs.YtinlfdkalijffaaDoor.Am Go.ChangeShapes Go.WideShapes Go.ChangeAt Go.RowKit
section
variable {H : Type} {enc : TypeId × Value → H} {W : World}
theorem read_valB : ∀ (s : Nat) {fuel : Nat} {cs : List Value} {x : DataW H × List MemPlace}, SizeOf.sizeOf x.1 ≤ s → Fits Tryd.prog 26 x.1 → Rows.uptoBulk x.1 ≤ 1048576 → DataW.trod enc Tryd.prog W 0 (fun _ => true) true fuel 26 cs = some x →
    ∃ (T : VT) (us : List AV), (IsVal (.agg us) T ∧ Fit T) ∧ CellsOf W us cs
  | 0, _, _, x, hs, _, _, _ => by have : 0 < SizeOf.sizeOf x.1 := by cases x.1 <;> simp <;> omega
                                  omega
  | s + 1, fuel, cs, x, hs, hw, hbk, h => by
    obtain ⟨hl, hf⟩ := read_fieldsB uVal hw h
    rw [cVal] at hl
    obtain ⟨n0, y0, z0, w0, b0, t0⟩ := hf 0 _ rfl
    obtain ⟨n1, y1, z1, w1, b1, t1⟩ := hf 1 _ rfl
    obtain ⟨n2, y2, z2, w2, b2, t2⟩ := hf 2 _ rfl
    obtain ⟨n3, y3, z3, w3, b3, t3⟩ := hf 3 _ rfl
    rw [cInt] at t0; rw [cStr] at t1; rw [cStrs] at t2; rw [cVals] at t3
    have hcs := tile cs [(0, 1), (1, 1), (2, 1), (3, 1)] 0 rfl (by simpa [sizes'] using hl)
    obtain ⟨k, a0, _, _⟩ := read_int uInt t0
    obtain ⟨t, a1, e1, _⟩ := read_str uStr t1
    rw [e1] at b1
    simp only [Rows.uptoBulk] at b1
    obtain ⟨ka, keys, a2, d2, c2, k2⟩ := read_strsB uStrs uStr cStr w2 t2
    obtain ⟨kb, kids, xs, a3, d3, l3, c3, e3⟩ := read_sliceB (α := VT) (R := fun T us => IsVal (.agg us) T ∧ Fit T) uVals (by rw [cVal]; omega) (fun us => .agg us) (fun _ _ _ => rfl) w3 t3
      (fun n cs y hy hfy hb ht => read_valB s (by omega) hfy (by omega) ht)
    rw [cVal] at d3
    refine ⟨.node k t keys kids, [.int .i64 k, .str t, ka, kb], ⟨.mk d2 d3 l3 fun i hi => ?_, .mk (by omega) (by omega) (by omega) (fun y hy => by have := k2 y hy; omega) fun i hi => ?_⟩, ?_⟩
    · obtain ⟨us, ⟨h1, _⟩, h2⟩ := e3 i hi
      rw [h2]; exact h1
    · obtain ⟨us, ⟨_, h1⟩, _⟩ := e3 i hi
      exact h1
    · rw [List.drop_zero] at hcs
      rw [hcs]
      exact (a0.append (a1.append (a2.append (a3.append .nil))))
theorem open_valB {v : Value} {d : DataW H} {ps : List MemPlace} (hw : Fits Tryd.prog 26 d) (hb : Rows.uptoBulk d ≤ 1048576) (h : DataW.Trod enc Tryd.prog W 0 (fun _ => true) true 26 v d ps) (hv : ∃ cs, v = .agg cs) : ∃ T a, IsVal a T ∧ Fit T ∧ Rep (cxOf W) a v := by
  obtain ⟨fuel, h⟩ := h
  obtain ⟨cs, rfl⟩ := hv
  obtain ⟨T, us, ⟨h1, h2⟩, h3⟩ := read_valB _ (Nat.le_refl _) hw hb h
  refine ⟨T, .agg us, h1, h2, .agg us cs (by have := h3.len; simpa [Value.cells] using this) fun i hi => ?_⟩
  have := h3.rep i hi
  simpa [Value.cells, List.getD, Array.getD_eq_getD_getElem?] using this
end
end Go.Proofs.YtinlfdkalijffaaDoor.Am.Q
