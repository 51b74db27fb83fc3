/-
  THE ABSTRACT MACHINE, 8: append, slices that are made, bytes and strings: against the model's own run.
-/
import Derived.Test.YtinlfdkalijffaaDoorAm7
set_option linter.unusedSimpArgs false
set_option linter.unusedVariables false
namespace Go.Proofs.YtinlfdkalijffaaDoor.Am
open Go Go.RowKit

section
variable {G : Nat → Option (List AV)} {w0 : World} {C : Cx} {m : Mem} {w : World} {P : Program}

/-- Cells are laid into a row, none of them frozen. -/
theorem run_storeCells_fr (g o : Nat) (t : TypeId) (lo hi : Nat) : ∀ (vs : List Value) (i : Nat) (cur : Array Value) (w : World), w.heap[g]? = some (.cells cur t (lo, hi)) → o + i + vs.length ≤ cur.size →
    (∀ q, o + i ≤ q → q < o + i + vs.length → ¬ (lo ≤ q ∧ q < hi)) → (∀ v ∈ vs, v.oneCell' = true) →
    (storeCells ⟨g, o, none⟩ vs i).run P w = .ok () (w.setRow g (cur.toList.take (o + i) ++ vs ++ cur.toList.drop (o + i + vs.length)).toArray)
  | [], i, cur, w, hg, _, _, _ => by
    simp only [storeCells, List.append_nil, List.length_nil, Nat.add_zero, List.take_append_drop, Array.toArray_toList]
    rw [setRow_self w g cur t (lo, hi) hg]
    rfl
  | v :: rest, i, cur, w, hg, hl, hf, h1 => by
    have hi' : o + i < cur.size := by simp at hl; omega
    have hadd : (⟨g, o, none⟩ : Addr).add i = ⟨g, o + i, none⟩ := Addr.add_lit _ _ _
    have hcell : w.cell? ⟨g, o + i, none⟩ = some cur[o + i] := by simp [World.cell?, hg, hi']
    have hfro : w.frozen? ⟨g, o + i, none⟩ = false := by
      have := hf (o + i) (Nat.le_refl _) (by simp)
      simp only [World.frozen?, hg]
      simpa using this
    have hst : (store ((⟨g, o, none⟩ : Addr).add i) v).run P w = .ok () (w.setRow g (cur.setIfInBounds (o + i) v)) := by
      rw [hadd, run_store P w _ v _ (h1 v (by simp)), hcell]
      simp [hfro, setCell_eq_setRow w g (o + i) cur t (lo, hi) v hg]
    have ih := run_storeCells_fr g o t lo hi rest (i + 1) (cur.setIfInBounds (o + i) v) (w.setRow g (cur.setIfInBounds (o + i) v)) (setRow_heap w g cur _ t _ hg) (by simp at hl ⊢; omega)
      (fun q h1 h2 => hf q (by omega) (by simp at h2 ⊢; omega)) (fun x hx => h1 x (by simp [hx]))
    simp only [storeCells, Sem.run_bind, hst, Result.andThen_ok, ih, setRow_setRow]
    congr 3
    have e := list_seg_step cur.toList (o + i) v rest (by simp at hl ⊢; omega)
    simpa [Array.toList_setIfInBounds, Nat.add_assoc] using e

/-- The cells of a list of elements, one behind the other. -/
def flat (sz n : Nat) (val : Nat → Nat → Value) : List Value := (List.range (n * sz)).map fun q => val (q / sz) (q % sz)
theorem flat_length (sz n : Nat) (val : Nat → Nat → Value) : (flat sz n val).length = n * sz := by simp [flat]
theorem flat_get {sz n : Nat} {val : Nat → Nat → Value} {i j : Nat} (hj : j < sz) (hi : i < n) : (flat sz n val)[i * sz + j]? = some (val i j) := by
  have hlt : i * sz + j < n * sz := by
    calc i * sz + j < i * sz + sz := by omega
      _ = (i + 1) * sz := by rw [Nat.add_mul]; omega
      _ ≤ n * sz := Nat.mul_le_mul_right _ hi
  have e1 : (i * sz + j) / sz = i := by rw [Nat.mul_comm, Nat.mul_add_div (by omega), Nat.div_eq_of_lt hj]; omega
  have e2 : (i * sz + j) % sz = j := by rw [Nat.mul_comm, Nat.mul_add_mod, Nat.mod_eq_of_lt hj]
  simp [flat, hlt, e1, e2]
theorem flat_split {sz n q : Nat} (h : q < n * sz) : ∃ i j, q = i * sz + j ∧ j < sz ∧ i < n := by
  have hs : 0 < sz := by rcases Nat.eq_zero_or_pos sz with h' | h' <;> simp_all
  exact ⟨q / sz, q % sz, by rw [Nat.mul_comm]; exact (Nat.div_add_mod q sz).symm, Nat.mod_lt _ hs, (Nat.div_lt_iff_lt_mul hs).2 h⟩

theorem second_len {b : AV} {bv : Value} (hb : Rep C b bv) {ys : List AV} (he : elems b = some ys) : (Builtin.lenOf bv).run P w = .ok ys.length w := by
  cases hb with
  | nilSl => simp only [elems, Option.some.injEq] at he; subst he; rfl
  | sl o sz xs b off n cap val h1 => simp only [elems, Option.some.injEq] at he; subst he; simp [Builtin.lenOf, h1]
  | sl0 o sz a h1 h2 => simp only [elems, Option.some.injEq] at he; subst he; simp [Builtin.lenOf]
  | str l s e => simp only [elems, Option.some.injEq] at he; subst he; subst e; simp [Builtin.lenOf, bytesAV]
  | _ => simp [elems] at he

theorem cell_of_heap {w w' : World} (h : ∀ k, k < w.heap.size → w'.heap[k]? = w.heap[k]?) {a : Addr} {v : Value} (hc : w.cell? a = some v) : w'.cell? a = some v := by
  rw [World.cell?_of_block (w := w) (h _ (block_lt_of_cell hc))]; exact hc

theorem second_cells (hI : Inv G w0 C m w) {b : AV} {bv : Value} (hb : Rep C b bv) {ys : List AV} (he : elems b = some ys) {sz : Nat}
    (hy : ys.all (fun y => y.cells.length == sz && y.cells.all scal) = true) (hne : ys ≠ []) {w' : World} (hw : ∀ k, k < w.heap.size → w'.heap[k]? = w.heap[k]?) : ∃ new : List Value,
      (Builtin.firstCells sz ys.length bv).run P w' = .ok new.toArray w' ∧ new.length = ys.length * sz ∧ (∀ i j, i < ys.length → j < sz → Rep C ((ys.getD i .u).cells.getD j .u) (new.getD (i * sz + j) undef)) ∧ ∀ u ∈ new, u.oneCell' = true := by
  have hall : ∀ i, i < ys.length → (ys.getD i .u).cells.length = sz ∧ (ys.getD i .u).cells.all scal = true := by
    intro i hi
    have := (List.all_eq_true.1 hy) _ (List.getElem_mem hi)
    rw [getD_eq (List.getElem?_eq_getElem hi)]
    simpa using this
  have fin : ∀ val : Nat → Nat → Value, (∀ i j, i < ys.length → j < sz → Rep C ((ys.getD i .u).cells.getD j .u) (val i j)) → (Builtin.firstCells sz ys.length bv).run P w' = .ok (flat sz ys.length val).toArray w' →
      ∃ new : List Value, (Builtin.firstCells sz ys.length bv).run P w' = .ok new.toArray w' ∧ new.length = ys.length * sz ∧ (∀ i j, i < ys.length → j < sz → Rep C ((ys.getD i .u).cells.getD j .u) (new.getD (i * sz + j) undef)) ∧ ∀ u ∈ new, u.oneCell' = true := by
    intro val hr hrun
    refine ⟨_, hrun, flat_length _ _ _, fun i j hi hj => by rw [getD_eq (flat_get hj hi)]; exact hr i j hi hj, fun u hu => ?_⟩
    obtain ⟨q, hq, rfl⟩ := List.mem_iff_getElem.1 hu
    rw [flat_length] at hq
    obtain ⟨i, j, rfl, hj, hi⟩ := flat_split hq
    have e := flat_get (val := val) hj hi
    rw [List.getElem?_eq_getElem (by rw [flat_length]; exact hq)] at e
    injection e with e
    rw [e]
    have h1 := hr i j hi hj
    obtain ⟨l1, l2⟩ := hall i hi
    refine scal_one h1 ?_
    rw [getD_eq (List.getElem?_eq_getElem (show j < (ys.getD i .u).cells.length by omega))]
    exact (List.all_eq_true.1 l2) _ (List.getElem_mem _)
  cases hb with
  | nilSl => simp only [elems, Option.some.injEq] at he; subst he; exact absurd rfl hne
  | sl0 o s a h1 h2 => simp only [elems, Option.some.injEq] at he; subst he; exact absurd rfl hne
  | sl o s xs b off n cap val h1 h2 h3 h4 h5 h6 h7 h8 =>
    simp only [elems, Option.some.injEq] at he; subst he
    have hs : s = sz := by
      have h0 : 0 < xs.length := List.length_pos_iff.2 hne
      rw [← h6 0 (by omega)]; exact (hall 0 h0).1
    subst hs
    refine fin val (fun i j hi hj => h8 i j (by omega) hj) ?_
    refine run_firstCells_some w' s xs.length ⟨b, off, none⟩ n cap (flat s xs.length val) (flat_length _ _ _) (fun q v hq => ?_)
    have hlt : q < xs.length * s := by rw [← flat_length s xs.length val]; exact (List.getElem?_eq_some_iff.1 hq).1
    obtain ⟨i, j, rfl, hj, hi⟩ := flat_split hlt
    rw [flat_get hj hi] at hq
    injection hq with hq; subst hq
    rw [Addr.add_lit]
    refine cell_of_heap hw ?_
    rw [← Nat.add_assoc]
    exact hI.st _ _ _ (h7 i j (by omega) hj)
  | str l s e =>
    simp only [elems, Option.some.injEq] at he; subst he
    have hl : (bytesAV l).length = l.length := by simp [bytesAV]
    have hsz : sz = 1 := by
      have h0 : 0 < (bytesAV l).length := List.length_pos_iff.2 hne
      obtain ⟨k, _⟩ := hall 0 h0
      rw [← k]
      rw [hl] at h0
      rw [getD_eq (x := byteAV l[0]) (by simp [bytesAV, h0])]
      rfl
    subst hsz
    have hg : ∀ i, i < (bytesAV l).length → (bytesAV l).getD i .u = .int .u8 (l.getD i 0).toNat := by
      intro i hi
      rw [hl] at hi
      rw [getD_eq (x := byteAV l[i]) (by simp [bytesAV, hi]), getD_eq (List.getElem?_eq_getElem hi)]
      rfl
    refine fin (fun i _ => .int .u8 (l.getD i 0).toNat) (fun i j hi hj => ?_) ?_
    · obtain rfl : j = 0 := by omega
      rw [hg i hi]
      exact .int _ _
    · simp only [Builtin.firstCells, Sem.run_pure]
      congr 1
      subst e
      have e1 : (s.extract 0 (bytesAV s.data.toList).length).data.toList = s.data.toList := by simp [ByteArray.data_extract, bytesAV]
      have e2 : (Array.map (fun b : UInt8 => Value.int .u8 b.toNat) (s.extract 0 (bytesAV s.data.toList).length).data).toList = flat 1 (bytesAV s.data.toList).length (fun i _ => .int .u8 (s.data.toList.getD i 0).toNat) := by
        rw [Array.toList_map, e1]
        apply List.ext_getElem?
        intro q
        simp only [flat, List.getElem?_map, Nat.mul_one, hl]
        by_cases hq : q < s.data.toList.length
        · have hq' : q < s.data.size := by simpa using hq
          rw [List.getElem?_range hq, List.getElem?_eq_getElem hq]
          simp [List.getD, Array.getElem?_eq_getElem hq']
        · rw [List.getElem?_eq_none (by omega), List.getElem?_eq_none (by simp; simpa using hq)]
          rfl
      rw [← e2]
  | _ => simp [elems] at he

def notInt (P : Program) (t : TypeId) : Bool :=
  match P.underlying t with
  | some (.int _) => false
  | some _ => true
  | none => false
theorem append_types {sT xT e ty : TypeId} (ht : P.underlying sT = some (.slice e)) (hxT : notInt P xT = true) (args : Array Value) :
    (Builtin.append_ #[sT, xT] ty args).run P w = (Builtin.append_ #[sT, sT] ty args).run P w := by
  unfold notInt at hxT
  split at hxT
  · cases hxT
  · rename_i d hd hu
    have e1 : ∀ (x : Value), (Builtin.append_ #[sT, xT] ty args) = (Builtin.append_ #[sT, xT] ty args) := fun _ => rfl
    unfold Builtin.append_
    simp only [List.getElem?_toArray, List.getElem?_cons_zero, List.getElem?_cons_succ]
    cases args[0]? with
    | none => rfl
    | some s =>
      cases args[1]? with
      | none => rfl
      | some x =>
        simp only [Sem.run_bind, run_underlying ht, Result.andThen_ok]
        cases s <;> first
          | rfl
          | (simp only [Sem.run_bind]
             congr 1
             funext a w'
             simp only [run_underlying hu, run_underlying ht, Result.andThen_ok, Sem.run_pure] <;> (cases d <;> first | rfl | (rename_i k; exact absurd hu (hd k))))
  · cases hxT

section
variable {sT xT e ty : TypeId} {i : TypeInfo} (ht : P.underlying sT = some (.slice e)) (hxT : notInt P xT = true) (hi : P.info? e = some i)
include ht hxT hi

/-- Nothing is appended. -/
theorem run_append_none {base : Option Addr} {n cap : Nat} {bv : Value} (hn : n ≤ cap) (hl : (Builtin.lenOf bv).run P w = .ok 0 w) (hf : (Builtin.firstCells i.size 0 bv).run P w = .ok #[] w) :
    (Builtin.append_ #[sT, xT] ty #[.slice base n cap, bv]).run P w = .ok (.slice base n cap) w := by
  rw [append_types ht hxT]
  unfold Builtin.append_
  simp only [List.getElem?_toArray, List.getElem?_cons_zero, List.getElem?_cons_succ, Sem.run_bind, run_underlying ht, Result.andThen_ok, sizeOf, typeInfo, run_program, hi, Sem.run_pure, Bool.false_eq_true, if_false, hl, Sem.run_ite, Nat.add_zero, if_pos hn, Bool.not_false, if_true, hf]
  cases base <;> simp [storeCells]

theorem run_append_in {b o n cap k : Nat} {bv : Value} {new : List Value} {cur : Array Value} {T : TypeId} {lo hi' : Nat} (hn : n + k ≤ cap) (hl : (Builtin.lenOf bv).run P w = .ok k w)
    (hf : (Builtin.firstCells i.size k bv).run P w = .ok new.toArray w) (hg : w.heap[b]? = some (.cells cur T (lo, hi'))) (hfit : o + n * i.size + new.length ≤ cur.size)
    (hfr : ∀ q, o + n * i.size ≤ q → q < o + n * i.size + new.length → ¬ (lo ≤ q ∧ q < hi')) (h1 : ∀ v ∈ new, v.oneCell' = true) :
    (Builtin.append_ #[sT, xT] ty #[.slice (some ⟨b, o, none⟩) n cap, bv]).run P w =
      .ok (.slice (some ⟨b, o, none⟩) (n + k) cap) (w.setRow b (cur.toList.take (o + n * i.size) ++ new ++ cur.toList.drop (o + n * i.size + new.length)).toArray) := by
  have hst := run_storeCells_fr (P := P) b (o + n * i.size) T lo hi' new 0 cur w hg (by simpa using hfit) (by simpa using hfr) h1
  simp only [Nat.add_zero] at hst
  rw [append_types ht hxT]
  unfold Builtin.append_
  simp only [List.getElem?_toArray, List.getElem?_cons_zero, List.getElem?_cons_succ, Sem.run_bind, run_underlying ht, Result.andThen_ok, sizeOf, typeInfo, run_program, hi, Sem.run_pure, Bool.false_eq_true, if_false, hl, Sem.run_ite, if_pos hn, Bool.not_false, if_true, hf, Addr.add_lit, hst]

theorem run_append_new {base : Option Addr} {n cap k : Nat} {bv : Value} {new old : List Value} {z : Value} (hn : ¬ n + k ≤ cap) (hcap : n ≤ cap) (hl : (Builtin.lenOf bv).run P w = .ok k w) (hb : 0 < i.bytes) (hz' : i.zero = some z)
    (hroom : (n + k) * i.bytes ≤ roomMax) (hf : (Builtin.firstCells i.size k bv).run P w.drew = .ok new.toArray w.drew) (ho : (Builtin.firstCells i.size n (.slice base n cap)).run P w.drew = .ok old.toArray w.drew) :
    ∃ c rest, n + k ≤ c ∧ rest.size = (c - (n + k)) * z.cells.size ∧ (Builtin.append_ #[sT, xT] ty #[.slice base n cap, bv]).run P w =
      .ok (.slice (some ⟨w.heap.size, 0, none⟩) (n + k) c) (w.drew.alloc (.cells (old.toArray ++ new.toArray ++ rest) e)) := by
  refine ⟨grownCap w (n + k) cap e, Builtin.zeroCells z.cells (grownCap w (n + k) cap e - (n + k)), grownCap_ge _ _ _ _, size_zeroCells _ _, ?_⟩
  have hle : n + k ≤ (n + k) * i.bytes := Nat.le_mul_of_pos_right _ hb
  have h63 : ¬ (((n + k : Nat) : Int) > IntKind.i64.max ∧ (false = true ∨ i.bytes = 0)) := by rintro ⟨_, h | h⟩ <;> first | cases h | omega
  have h48 : ¬ (Builtin.nextslicecap (n + k) cap * i.bytes > 2 ^ 48) := by
    have := growslice_fits (need := n + k) (old := cap) (bytes := i.bytes) (by omega) (by unfold roomMax at hroom; omega)
    omega
  rw [append_types ht hxT]
  unfold Builtin.append_
  simp only [List.getElem?_toArray, List.getElem?_cons_zero, List.getElem?_cons_succ, Sem.run_bind, run_underlying ht, Result.andThen_ok, sizeOf, typeInfo, run_program, hi, Sem.run_pure, Bool.false_eq_true, if_false, hl, Sem.run_ite, if_neg hn, Bool.not_false, if_true]
  rw [if_neg (by simpa using h63), if_neg h48]
  simp only [run_choose, Question.forced, Bool.false_eq_true, if_false, Result.andThen_ok, run_askRoom, World.drew_eq, ho, hf, zeroValue, Sem.run_bind, typeInfo, run_program, hi, hz', Sem.run_pure, newRow, run_newObj, World.alloc_eq]
  rfl
end

/-- A slice in a block of its own: what is known of it, and its token. -/
theorem slice_new (hI : Inv G w0 C m w) {xs : List AV} {n c sz : Nat} {cells : Array Value} {T : TypeId} (hn : n = xs.length) (hc : n ≤ c) (hsz : 0 < sz) (hsize : cells.size = c * sz) (hlen : ∀ i, i < n → (xs.getD i .u).cells.length = sz)
    (hr : ∀ i j, i < n → j < sz → Rep C ((xs.getD i .u).cells.getD j .u) (cells.getD (i * sz + j) undef)) :
    ∃ C', Cx.Le C C' ∧ Inv G w0 C' (m.newTok T) (w.drew.alloc (.cells cells T)) ∧ Rep C' (.sl (.tok m.ntok) sz xs) (.slice (some ⟨w.heap.size, 0, none⟩) n c) ∧ ∀ id, ¬ C'.I id w.heap.size := by
  have hnew : (w.drew.alloc (.cells cells T)).heap[w.heap.size]? = some (.cells cells T (0, 0)) := heap_alloc_new w.drew _
  have hlt : ∀ b o v, C.St b o v → b < w.heap.size := fun b o v hs => block_lt_of_cell (a := ⟨b, o, none⟩) (hI.st b o v hs)
  have hmul : n * sz ≤ c * sz := Nat.mul_le_mul_right _ hc
  have hInv := hI.newTok (w' := w.drew.alloc (.cells cells T)) (b := w.heap.size) (s := n * sz) (e := c * sz) (P := fun o v => o < n * sz ∧ v = cells.getD o undef)
    (hI.drew.below.alloc hI.below.size _) hI.below.size (by simp) (by simp) (fun k hk _ => heap_alloc_old w.drew _ _ hk)
    (fun o v hs => absurd (hlt _ _ _ hs) (by omega)) (fun id hb => absurd (hI.obj _ _ hb).2.2.1 (by omega))
    (fun o v ⟨h1, h2⟩ => ⟨by rw [cell_of_row _ _ _ _ _ _ hnew, agetD_lt (by omega), h2], h1⟩) (fun o v hs => absurd (hlt _ _ _ hs) (by omega))
    ⟨cells, T, 0, 0, hnew, by omega, fun o _ _ => by omega⟩ (fun t s' e' hr => absurd (hI.tok _ _ _ _ hr).2.2.1 (by omega)) ⟨cells, _, hnew⟩
    (fun t ht => by obtain ⟨⟨vs, fr, k⟩, _⟩ := hI.shp _ t ht; exact absurd (Array.getElem?_eq_some_iff.1 k).1 (by omega)) (fun hz => absurd (hI.shut _ hz).2.1 (by omega))
  refine ⟨_, C.le_addS _ _ _ _ _ _, hInv, ?_, fun id hb => absurd (hI.obj _ _ hb).2.2.1 (by omega)⟩
  refine .sl (.tok m.ntok) sz xs w.heap.size 0 n c (fun i j => cells.getD (i * sz + j) undef) hn hc hsz (fun h => by cases h) (fun t ht => ?_) hlen (fun i j hi hj => ?_) (fun i j hi hj => (hr i j hi hj).mono (C.le_addS _ _ _ _ _ _))
  · injection ht with ht; subst ht
    right
    exact .inr ⟨rfl, rfl, by omega, by omega⟩
  · right
    have hq : i * sz + j < n * sz := by
      calc i * sz + j < i * sz + sz := by omega
        _ = (i + 1) * sz := by rw [Nat.add_mul]; omega
        _ ≤ n * sz := Nat.mul_le_mul_right _ hi
    exact ⟨rfl, by omega, by rw [Nat.zero_add]⟩

theorem getD_append_left {xs ys : List AV} {i : Nat} (h : i < xs.length) : (xs ++ ys).getD i .u = xs.getD i .u := by
  simp [List.getD, List.getElem?_append_left h]
theorem getD_append_right {xs ys : List AV} {i : Nat} (h : xs.length ≤ i) : (xs ++ ys).getD i .u = ys.getD (i - xs.length) .u := by
  simp [List.getD, List.getElem?_append_right h]

section
variable {sT xT e ty : TypeId} {i : TypeInfo} (ht : P.underlying sT = some (.slice e)) (hxT : notInt P xT = true) (hi : P.info? e = some i)
include ht hxT hi

/-- A new block. -/
theorem append_grow (hI : Inv G w0 C m w) {base : Option Addr} {n cap : Nat} {xs ys : List AV} {b : AV} {bv : Value} (hb : Rep C b bv) (he : elems b = some ys) (hne : ys ≠ [])
    (hy : ys.all (fun y => y.cells.length == i.size && y.cells.all scal) = true) {z : Value} (hsz : 0 < i.size) (hbytes : 0 < i.bytes) (hz : i.zero = some z) (hzs : z.cells.size = i.size)
    (hn : n = xs.length) (hcap : n ≤ cap) (hno : ¬ n + ys.length ≤ cap) (hroom : (xs.length + ys.length) * i.bytes ≤ roomMax) {old : List Value} (holen : old.length = n * i.size)
    (ho : (Builtin.firstCells i.size n (.slice base n cap)).run P w.drew = .ok old.toArray w.drew) (hxl : ∀ k, k < n → (xs.getD k .u).cells.length = i.size)
    (hor : ∀ p j, p < n → j < i.size → Rep C ((xs.getD p .u).cells.getD j .u) (old.getD (p * i.size + j) undef)) :
    Res G w0 C (m.newTok e) (.sl (.tok m.ntok) i.size (xs ++ ys)) ((do pure (.value (← Builtin.append_ #[sT, xT] ty #[.slice base n cap, bv])) : Sem Next).run P w) := by
  obtain ⟨new, f1, f2, f3, f4⟩ := second_cells (P := P) (w' := w.drew) hI hb he hy hne (fun _ _ => rfl)
  obtain ⟨c, rest, hc, hrs, hrun⟩ := run_append_new ht hxT hi (ty := ty) hno hcap (second_len hb he) hbytes hz (by rw [hn]; exact hroom) f1 ho
  have hyl : ∀ p, p < ys.length → (ys.getD p .u).cells.length = i.size := by
    intro p hp
    have := (List.all_eq_true.1 hy) _ (List.getElem_mem hp)
    rw [getD_eq (List.getElem?_eq_getElem hp)]
    simp only [Bool.and_eq_true, beq_iff_eq] at this
    exact this.1
  have hget : ∀ q, q < (n + ys.length) * i.size → (old.toArray ++ new.toArray ++ rest).getD q undef = if q < n * i.size then old.getD q undef else new.getD (q - n * i.size) undef := by
    intro q hq
    have hq' : q < n * i.size + ys.length * i.size := by rw [← Nat.add_mul]; exact hq
    rw [Array.getD_eq_getD_getElem?, Array.getElem?_append_left (by simp; omega)]
    by_cases h1 : q < n * i.size
    · rw [if_pos h1, Array.getElem?_append_left (by simp; omega)]; simp [List.getD]
    · rw [if_neg h1, Array.getElem?_append_right (by simp; omega)]; simp [List.getD, holen]
  have hlt : ∀ p j, p < n + ys.length → j < i.size → p * i.size + j < (n + ys.length) * i.size := by
    intro p j hp hj
    calc p * i.size + j < p * i.size + i.size := by omega
      _ = (p + 1) * i.size := by rw [Nat.add_mul]; omega
      _ ≤ (n + ys.length) * i.size := Nat.mul_le_mul_right _ hp
  obtain ⟨C', hle, hInv, hrep, _⟩ := slice_new hI (xs := xs ++ ys) (n := n + ys.length) (c := c) (sz := i.size) (cells := old.toArray ++ new.toArray ++ rest) (T := e) (by simp [hn]) hc hsz
    (by
      simp only [Array.size_append, List.size_toArray, holen, f2, hrs, hzs]
      rw [← Nat.add_mul, ← Nat.add_mul]; congr 1; omega)
    (fun p hp => by
      by_cases h : p < xs.length
      · rw [getD_append_left h]; exact hxl p (by omega)
      · rw [getD_append_right (by omega)]; exact hyl _ (by omega))
    (fun p j hp hj => by
      rw [hget _ (hlt p j hp hj)]
      by_cases h : p < xs.length
      · rw [getD_append_left h]
        have : p * i.size + j < n * i.size := by
          calc p * i.size + j < p * i.size + i.size := by omega
            _ = (p + 1) * i.size := by rw [Nat.add_mul]; omega
            _ ≤ n * i.size := Nat.mul_le_mul_right _ (by omega)
        rw [if_pos this]; exact hor p j (by omega) hj
      · rw [getD_append_right (by omega)]
        have : n * i.size ≤ p * i.size := Nat.mul_le_mul_right _ (by omega)
        rw [if_neg (by omega)]
        have e1 : p * i.size + j - n * i.size = (p - xs.length) * i.size + j := by
          rw [Nat.sub_mul, ← hn]; omega
        rw [e1]
        exact f3 _ _ (by omega) hj)
  exact ⟨.value (.slice (some ⟨w.heap.size, 0, none⟩) (n + ys.length) c), _, C', by simp only [Sem.run_bind, hrun, Result.andThen_ok, Sem.run_pure], hle, hInv, hrep⟩

theorem append_ok (hI : Inv G w0 C m w) {a b v : AV} {av bv : Value} (ha : Rep C a av) (hb : Rep C b bv) {ys : List AV} (he : elems b = some ys) {z : Value} (hsz : 0 < i.size) (hbytes : 0 < i.bytes) (hz : i.zero = some z) (hzs : z.cells.size = i.size)
    {m1 : Mem} (h : appendV m e i.size i.bytes a ys = some (v, m1)) :
    Res G w0 C m1 v ((do pure (.value (← Builtin.append_ #[sT, xT] ty #[av, bv])) : Sem Next).run P w) := by
  have zero_cells : ys = [] → (Builtin.firstCells i.size 0 bv).run P w = .ok #[] w := by
    intro hy
    subst hy
    cases hb with
    | nilSl => rfl
    | sl => simp [Builtin.firstCells, loadCells, loadCellsFrom]
    | sl0 => simp [Builtin.firstCells, loadCells, loadCellsFrom]
    | str l s e =>
      simp only [Builtin.firstCells, Sem.run_pure]
      congr 1
      simp
    | _ => simp [elems] at he
  have hl := second_len (P := P) (w := w) hb he
  cases ha with
  | nilSl =>
    simp only [appendV] at h
    split at h
    · rename_i hy
      simp only [Option.some.injEq, Prod.mk.injEq] at h
      obtain ⟨rfl, rfl⟩ := h
      rw [hy] at hl
      exact Res.quiet hI (run_append_none ht hxT hi (Nat.le_refl _) hl (zero_cells hy)) .nilSl
    · rename_i hy
      split at h
      · rename_i hc
        simp only [Option.some.injEq, Prod.mk.injEq] at h
        obtain ⟨rfl, rfl⟩ := h
        have := append_grow ht hxT hi (ty := ty) (base := none) (n := 0) (cap := 0) (xs := []) (old := []) hI hb he hy hc.2 hsz hbytes hz hzs rfl (Nat.le_refl _)
          (by have := List.length_pos_iff.2 hy; omega) (by simpa using hc.1) (by simp) (by simp [Builtin.firstCells]) (fun k hk => absurd hk (by omega)) (fun p j hp => absurd hp (by omega))
        simpa using this
      · cases h
  | sl0 o sz ad h1 h2 =>
    simp only [appendV] at h
    split at h
    · rename_i hs
      subst hs
      split at h
      · rename_i hy
        simp only [Option.some.injEq, Prod.mk.injEq] at h
        obtain ⟨rfl, rfl⟩ := h
        rw [hy] at hl
        exact Res.quiet hI (run_append_none ht hxT hi (Nat.le_refl _) hl (zero_cells hy)) (.sl0 o _ ad h1 h2)
      · rename_i hy
        have hpos := List.length_pos_iff.2 hy
        split at h
        · rename_i hc
          split at h
          · simp only [Option.some.injEq, Prod.mk.injEq] at h
            obtain ⟨rfl, rfl⟩ := h
            have := append_grow ht hxT hi (ty := ty) (base := some ad) (n := 0) (cap := 0) (xs := []) (old := []) hI hb he hy hc.2 hsz hbytes hz hzs rfl (Nat.le_refl _)
              (by omega) (by simpa using hc.1) (by simp) (by simp [Builtin.firstCells, loadCells, loadCellsFrom]) (fun k hk => absurd hk (by omega)) (fun p j hp => absurd hp (by omega))
            simpa using this
          · rename_i t; exact absurd rfl (h1 t)
          · cases h
        · cases h
    · cases h
  | sl o sz xs bk off n cap val h1 h2 h3 h4 h5 h6 h7 h8 =>
    simp only [appendV] at h
    split at h
    · rename_i hs
      subst hs
      split at h
      · rename_i hy
        simp only [Option.some.injEq, Prod.mk.injEq] at h
        obtain ⟨rfl, rfl⟩ := h
        rw [hy] at hl
        exact Res.quiet hI (run_append_none ht hxT hi h2 hl (zero_cells hy)) (.sl o _ xs bk off n cap val h1 h2 h3 h4 h5 h6 h7 h8)
      · rename_i hy
        have hpos := List.length_pos_iff.2 hy
        split at h
        · rename_i hc
          have hold : (Builtin.firstCells i.size n (.slice (some ⟨bk, off, none⟩) n cap)).run P w.drew = .ok (flat i.size n val).toArray w.drew := by
            refine run_firstCells_some w.drew i.size n ⟨bk, off, none⟩ n cap (flat i.size n val) (flat_length _ _ _) (fun q v hq => ?_)
            have hlt : q < n * i.size := by rw [← flat_length i.size n val]; exact (List.getElem?_eq_some_iff.1 hq).1
            obtain ⟨p, j, rfl, hj, hp⟩ := flat_split hlt
            rw [flat_get hj hp] at hq
            injection hq with hq; subst hq
            rw [Addr.add_lit, ← Nat.add_assoc]
            exact hI.st _ _ _ (h7 p j hp hj)
          have grow : ∀ m' : Mem, Inv G w0 C m' w → ¬ n + ys.length ≤ cap → Res G w0 C (m'.newTok e) (.sl (.tok m'.ntok) i.size (xs ++ ys)) ((do pure (.value (← Builtin.append_ #[sT, xT] ty #[.slice (some ⟨bk, off, none⟩) n cap, bv])) : Sem Next).run P w) :=
            fun m' hI' hno => append_grow ht hxT hi hI' hb he hy hc.2 hsz hbytes hz hzs h1 h2 hno hc.1 (flat_length _ _ _) hold h6 (fun p j hp hj => by rw [getD_eq (flat_get hj hp)]; exact h8 p j hp hj)
          split at h
          · simp only [Option.some.injEq, Prod.mk.injEq] at h
            obtain ⟨rfl, rfl⟩ := h
            exact grow m hI (by have := h4 rfl; omega)
          · rename_i t
            split at h
            · rename_i hlive'
              obtain ⟨hlive, htty⟩ := hlive'
              simp only [Option.some.injEq, Prod.mk.injEq] at h
              obtain ⟨rfl, rfl⟩ := h
              by_cases hno : n + ys.length ≤ cap
              · -- into the spare room
                have hR : C.R t bk (off + n * i.size) (off + cap * i.size) := (h5 t rfl).resolve_left (by omega)
                obtain ⟨t1, t2, t3, q5, t4⟩ := hI.tok _ _ _ _ hR
                obtain ⟨⟨cur, T, lo, hi', q1, q2, q3⟩, q4⟩ := t4 hlive
                have hTT : ∀ t', C.T bk t' → t' = T := fun t' ht' => by
                  obtain ⟨⟨vs, fr, k⟩, _⟩ := hI.shp _ _ ht'
                  rw [q1] at k; injection k with k; injection k with _ k _; exact k.symm
                have hTe : T = e := (hTT _ (hI.tty _ _ _ _ hR)).symm.trans htty
                obtain ⟨new, f1, f2, f3, f4⟩ := second_cells (P := P) (w' := w) hI hb he hc.2 hy (fun _ _ => rfl)
                have hmul : n * i.size + ys.length * i.size ≤ cap * i.size := by rw [← Nat.add_mul]; exact Nat.mul_le_mul_right _ hno
                have hfit : off + n * i.size + new.length ≤ cur.size := by omega
                have hrun := run_append_in ht hxT hi (ty := ty) hno hl f1 q1 hfit (fun q k1 k2 => q3 q k1 (by omega)) f4
                have hsame := heap_setRow_same (cs := (cur.toList.take (off + n * i.size) ++ new ++ cur.toList.drop (off + n * i.size + new.length)).toArray) q1
                have hcell : ∀ q, q < cur.size → (w.setRow bk (cur.toList.take (off + n * i.size) ++ new ++ cur.toList.drop (off + n * i.size + new.length)).toArray).cell? ⟨bk, q, none⟩ =
                    some (if off + n * i.size ≤ q ∧ q < off + n * i.size + new.length then new.getD (q - (off + n * i.size)) undef else cur.getD q undef) := by
                  intro q hq
                  rw [cell_of_row _ _ _ _ _ _ hsame, agetD_lt (by simp; omega), splice_getD (by simpa using hfit)]
                  simp only [Array.getD_eq_getD_getElem?, List.getD_eq_getElem?_getD, Array.getElem?_toList]
                have hI' := hI.kill t
                have hInv := hI'.newTok (w' := w.setRow bk (cur.toList.take (off + n * i.size) ++ new ++ cur.toList.drop (off + n * i.size + new.length)).toArray) (b := bk) (s := off + (n + ys.length) * i.size) (e := off + cap * i.size)
                  (P := fun q v => off + n * i.size ≤ q ∧ q < off + n * i.size + new.length ∧ v = new.getD (q - (off + n * i.size)) undef)
                  (Below.setRow hI.below t2 _) t2 (by simp) (by simpa using t3) (fun k _ hk => heap_setRow_other hk)
                  (fun q v hs => by
                    have hlt := q4 _ _ hs
                    have hold := hI.st _ _ _ hs
                    rw [cell_of_row _ _ _ _ _ _ q1] at hold
                    have hq : q < cur.size := (Array.getElem?_eq_some_iff.1 hold).1
                    rw [hcell q hq, if_neg (by omega), agetD_eq hold])
                  q5 (fun q v ⟨k1, k2, k3⟩ => ⟨by rw [hcell q (by omega), if_pos ⟨k1, k2⟩, k3], by rw [Nat.add_mul]; omega⟩)
                  (fun q v hs => by have := q4 _ _ hs; rw [Nat.add_mul]; omega)
                  ⟨_, T, lo, hi', hsame, by simp; omega, fun q k1 k2 => q3 q (by rw [Nat.add_mul] at k1; omega) k2⟩
                  (fun t' s' e' hr' => by
                    simp only [Mem.killTok]
                    split
                    · rfl
                    · rename_i hne
                      cases hl' : m.live t' with
                      | false => rfl
                      | true => exact absurd (hI.toku _ _ _ _ _ _ _ hr' hR hl' hlive) hne)
                  ⟨_, _, hTe ▸ hsame⟩ (fun t' ht' => (hTT t' ht').trans hTe) (fun hz => by have := (hI.shut _ hz).2.2.2 _ _ _ hR; rw [hlive] at this; cases this)
                refine ⟨_, _, _, by simp only [Sem.run_bind, hrun, Result.andThen_ok, Sem.run_pure]; rfl, C.le_addS _ _ _ _ _ _, hInv, ?_⟩
                have hge : ∀ p j, n ≤ p → p < n + ys.length → j < i.size → off + n * i.size ≤ off + p * i.size + j ∧ off + p * i.size + j < off + n * i.size + new.length ∧ off + p * i.size + j - (off + n * i.size) = (p - n) * i.size + j := by
                  intro p j hp hp2 hj
                  obtain ⟨d, rfl⟩ : ∃ d, p = n + d := ⟨p - n, by omega⟩
                  have e1 : n + d - n = d := by omega
                  have : d * i.size + j < ys.length * i.size := by
                    calc d * i.size + j < d * i.size + i.size := by omega
                      _ = (d + 1) * i.size := by rw [Nat.add_mul]; omega
                      _ ≤ ys.length * i.size := Nat.mul_le_mul_right _ (by omega)
                  rw [e1, Nat.add_mul, f2]
                  omega
                refine .sl _ _ _ bk off (n + ys.length) cap (fun p j => if p < n then val p j else new.getD ((p - n) * i.size + j) undef) (by simp [h1]) hno h3 (fun h => by cases h) (fun t' ht' => ?_) (fun p hp => ?_) (fun p j hp hj => ?_) (fun p j hp hj => ?_)
                · injection ht' with ht'; subst ht'
                  exact .inr (.inr ⟨rfl, rfl, rfl, rfl⟩)
                · by_cases hpn : p < xs.length
                  · rw [getD_append_left hpn]; exact h6 p (by omega)
                  · rw [getD_append_right (by omega)]
                    have hp' : p - xs.length < ys.length := by omega
                    have := (List.all_eq_true.1 hc.2) _ (List.getElem_mem hp')
                    rw [getD_eq (List.getElem?_eq_getElem hp')]
                    simp only [Bool.and_eq_true, beq_iff_eq] at this
                    exact this.1
                · by_cases hpn : p < n
                  · rw [if_pos hpn]; exact .inl (h7 p j hpn hj)
                  · rw [if_neg hpn]
                    obtain ⟨g1, g2, g3⟩ := hge p j (by omega) hp hj
                    exact .inr ⟨rfl, g1, g2, by rw [g3]⟩
                · by_cases hpn : p < n
                  · rw [if_pos hpn, getD_append_left (by omega)]; exact (h8 p j hpn hj).mono (C.le_addS _ _ _ _ _ _)
                  · rw [if_neg hpn, getD_append_right (by omega), ← h1]
                    exact (f3 _ _ (by omega) hj).mono (C.le_addS _ _ _ _ _ _)
              · exact grow (m.killTok t) (hI.kill t) hno
            · cases h
          · cases h
        · cases h
    · cases h
  | _ => simp [appendV] at h
end

/-! ### bytes and strings -/
theorem unbytes_length : ∀ {xs : List AV} {l : List UInt8}, unbytes xs = some l → l.length = xs.length
  | [], l, h => by simp only [unbytes, Option.some.injEq] at h; subst h; rfl
  | x :: xs, l, h => by
    simp only [unbytes] at h
    split at h
    · rename_i b bs h1 h2
      injection h with h; subst h
      simp [unbytes_length h2]
    · cases h
theorem unbytes_get : ∀ {xs : List AV} {l : List UInt8}, unbytes xs = some l → ∀ i, i < xs.length → ∃ n, xs.getD i .u = .int .u8 n ∧ l.getD i 0 = UInt8.ofNat n.toNat
  | [], l, h, i, hi => absurd hi (by simp)
  | x :: xs, l, h, i, hi => by
    simp only [unbytes] at h
    split at h
    · rename_i b bs h1 h2
      injection h with h; subst h
      cases i with
      | zero =>
        unfold unbyte at h1
        split at h1
        · injection h1 with h1; subst h1; exact ⟨_, rfl, rfl⟩
        · cases h1
      | succ i =>
        obtain ⟨n, k1, k2⟩ := unbytes_get h2 i (by simpa using hi)
        exact ⟨n, by simpa [List.getD] using k1, by simpa [List.getD] using k2⟩
    · cases h

theorem foldl_push (ns : List Int) : ∀ (r : ByteArray), (ns.foldl (fun (r : ByteArray) n => r.push (UInt8.ofNat n.toNat)) r).data.toList = r.data.toList ++ ns.map fun n => UInt8.ofNat n.toNat := by
  induction ns with
  | nil => intro r; simp
  | cons n ns ih => intro r; simp [ih]

def intOfAV : AV → Int
  | .int _ q => q
  | _ => 0
theorem unbytes_range {xs : List AV} {l : List UInt8} (h : unbytes xs = some l) {n : Nat} (hn : n = xs.length) : (List.range n).map (fun i => UInt8.ofNat (intOfAV (xs.getD i .u)).toNat) = l := by
  apply List.ext_getElem?
  intro q
  by_cases hq : q < n
  · obtain ⟨k, k1, k2⟩ := unbytes_get h q (by omega)
    have hlq : q < l.length := by rw [unbytes_length h]; omega
    rw [getD_eq (List.getElem?_eq_getElem hlq)] at k2
    rw [List.getElem?_eq_getElem hlq, List.getElem?_map, List.getElem?_range hq, Option.map_some, k1, k2]
    rfl
  · rw [List.getElem?_eq_none (by simp; omega), List.getElem?_eq_none (by rw [unbytes_length h]; omega)]

theorem strOf_ok (hI : Inv G w0 C m w) {x v : AV} {a : Value} (hx : Rep C x a) {src dst e : TypeId} (hs : P.underlying src = some (.slice e)) (hd : P.underlying dst = some .string) (he : P.underlying e = some (.int .u8))
    (h : strOfV x = some v) : Res G w0 C m v ((do pure (.value (← convert src dst a)) : Sem Next).run P w) := by
  cases hx with
  | nilSl =>
    simp only [strOfV, Option.some.injEq] at h; subst h
    refine Res.quiet hI (cv := .string .empty) ?_ (.str _ _ rfl)
    simp only [convert, Sem.run_bind, run_underlying hs, run_underlying hd, Result.andThen_ok, run_underlying he, Conv.bytesToString, Sem.run_pure]
  | sl0 o s ad h1 h2 =>
    simp only [strOfV, unbytes] at h
    split at h
    case isFalse => cases h
    injection h with h; subst h
    refine Res.quiet hI (cv := .string .empty) ?_ (.str _ _ rfl)
    simp [convert, run_underlying hs, run_underlying hd, run_underlying he, Conv.bytesToString, loadCells, loadCellsFrom]
  | sl o s xs b off n cap val h1 h2 h3 h4 h5 h6 h7 h8 =>
    simp only [strOfV] at h
    split at h
    case isFalse => cases h
    rename_i hs1
    subst hs1
    split at h
    · rename_i l hl
      injection h with h; subst h
      have hval : ∀ i, i < n → val i 0 = .int .u8 (intOfAV (xs.getD i .u)) := by
        intro i hi
        obtain ⟨q, k1, _⟩ := unbytes_get hl i (by omega)
        have := h8 i 0 hi (by omega)
        rw [k1] at this ⊢
        exact rep_int (k := .u8) (n := q) (by simpa [AV.cells] using this) rfl
      have hload : (loadCells ⟨b, off, none⟩ n).run P w = .ok (((List.range n).map fun i => intOfAV (xs.getD i .u)).map (Value.int .u8)).toArray w := by
        rw [run_loadCells w ⟨b, off, none⟩ n (fun i => .int .u8 (intOfAV (xs.getD i .u))) (fun j hj => by
          rw [Addr.add_lit, ← hval j hj]
          have := hI.st _ _ _ (h7 j 0 hj (by omega))
          simpa using this)]
        simp [List.map_map, Function.comp_def]
      have hrun := run_bytesToString w ⟨b, off, none⟩ n cap _ hload
      refine Res.quiet hI (cv := .string _) (by simp only [convert, Sem.run_bind, run_underlying hs, run_underlying hd, Result.andThen_ok, run_underlying he]; exact hrun) (.str _ _ ?_)
      rw [foldl_push, List.map_map, ← unbytes_range hl h1]
      rfl
    · cases h
  | _ => simp [strOfV] at h
end
end Go.Proofs.YtinlfdkalijffaaDoor.Am
