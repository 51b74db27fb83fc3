/- Part KA2 of a claim's texts, joined: what the claim needs of them. -/
import Derived.Test.YtkjokjogdehonaaGreatDoorKA1
import Derived.Calls
set_option linter.unusedSimpArgs false
set_option linter.unusedVariables false
namespace Go.Proofs.YtkjokjogdehonaaGreatDoor.Am
open Go Go.RowKit
section
variable {G : Nat → Option (List AV)} {w0 : World} {C : Cx} {m : Mem} {w : World} {P : Program}
def flat (sz n : Nat) (val : Nat → Nat → Value) : List Value := (List.range (n * sz)).map fun q => val (q / sz) (q % sz)
theorem flat_length (sz n : Nat) (val : Nat → Nat → Value) : (flat sz n val).length = n * sz := by simp [flat]
theorem flat_get {sz n : Nat} {val : Nat → Nat → Value} {i j : Nat} (hj : j < sz) (hi : i < n) : (flat sz n val)[i * sz + j]? = some (val i j) := by
  have hlt : i * sz + j < n * sz := by
    calc i * sz + j < i * sz + sz := by omega
      _ = (i + 1) * sz := by rw [Nat.add_mul]; omega
      _ ≤ n * sz := Nat.mul_le_mul_right _ hi
  have e1 : (i * sz + j) / sz = i := by rw [Nat.mul_comm, Nat.mul_add_div (by omega), Nat.div_eq_of_lt hj]; omega
  have e2 : (i * sz + j) % sz = j := by rw [Nat.mul_comm, Nat.mul_add_mod, Nat.mod_eq_of_lt hj]
  simp [flat, hlt, e1, e2]
theorem flat_split {sz n q : Nat} (h : q < n * sz) : ∃ i j, q = i * sz + j ∧ j < sz ∧ i < n := by
  have hs : 0 < sz := by rcases Nat.eq_zero_or_pos sz with h' | h' <;> simp_all
  exact ⟨q / sz, q % sz, by rw [Nat.mul_comm]; exact (Nat.div_add_mod q sz).symm, Nat.mod_lt _ hs, (Nat.div_lt_iff_lt_mul hs).2 h⟩
theorem second_len {b : AV} {bv : Value} (hb : Rep C b bv) {ys : List AV} (he : elems b = some ys) : (Builtin.lenOf bv).run P w = .ok ys.length w := by
  cases hb with
  | nilSl => simp only [elems, Option.some.injEq] at he; subst he; rfl
  | sl o sz xs b off n cap val h1 => simp only [elems, Option.some.injEq] at he; subst he; simp [Builtin.lenOf, h1]
  | sl0 o sz a h1 h2 => simp only [elems, Option.some.injEq] at he; subst he; simp [Builtin.lenOf]
  | str l s e => simp only [elems, Option.some.injEq] at he; subst he; subst e; simp [Builtin.lenOf, bytesAV]
  | _ => simp [elems] at he
theorem cell_of_heap {w w' : World} (h : ∀ k, k < w.heap.size → w'.heap[k]? = w.heap[k]?) {a : Addr} {v : Value} (hc : w.cell? a = some v) : w'.cell? a = some v := by
  rw [World.cell?_of_block (w := w) (h _ (block_lt_of_cell hc))]; exact hc
theorem second_cells (hI : Inv G w0 C m w) {b : AV} {bv : Value} (hb : Rep C b bv) {ys : List AV} (he : elems b = some ys) {sz : Nat}
    (hy : ys.all (fun y => y.cells.length == sz && y.cells.all scal) = true) (hne : ys ≠ []) {w' : World} (hw : ∀ k, k < w.heap.size → w'.heap[k]? = w.heap[k]?) : ∃ new : List Value,
      (Builtin.firstCells sz ys.length bv).run P w' = .ok new.toArray w' ∧ new.length = ys.length * sz ∧ (∀ i j, i < ys.length → j < sz → Rep C ((ys.getD i .u).cells.getD j .u) (new.getD (i * sz + j) undef)) ∧ ∀ u ∈ new, u.oneCell' = true := by
  have hall : ∀ i, i < ys.length → (ys.getD i .u).cells.length = sz ∧ (ys.getD i .u).cells.all scal = true := by
    intro i hi
    have := (List.all_eq_true.1 hy) _ (List.getElem_mem hi)
    rw [getD_eq (List.getElem?_eq_getElem hi)]
    simpa using this
  have fin : ∀ val : Nat → Nat → Value, (∀ i j, i < ys.length → j < sz → Rep C ((ys.getD i .u).cells.getD j .u) (val i j)) → (Builtin.firstCells sz ys.length bv).run P w' = .ok (flat sz ys.length val).toArray w' →
      ∃ new : List Value, (Builtin.firstCells sz ys.length bv).run P w' = .ok new.toArray w' ∧ new.length = ys.length * sz ∧ (∀ i j, i < ys.length → j < sz → Rep C ((ys.getD i .u).cells.getD j .u) (new.getD (i * sz + j) undef)) ∧ ∀ u ∈ new, u.oneCell' = true := by
    intro val hr hrun
    refine ⟨_, hrun, flat_length _ _ _, fun i j hi hj => by rw [getD_eq (flat_get hj hi)]; exact hr i j hi hj, fun u hu => ?_⟩
    obtain ⟨q, hq, rfl⟩ := List.mem_iff_getElem.1 hu
    rw [flat_length] at hq
    obtain ⟨i, j, rfl, hj, hi⟩ := flat_split hq
    have e := flat_get (val := val) hj hi
    rw [List.getElem?_eq_getElem (by rw [flat_length]; exact hq)] at e
    injection e with e
    rw [e]
    have h1 := hr i j hi hj
    obtain ⟨l1, l2⟩ := hall i hi
    refine scal_one h1 ?_
    rw [getD_eq (List.getElem?_eq_getElem (show j < (ys.getD i .u).cells.length by omega))]
    exact (List.all_eq_true.1 l2) _ (List.getElem_mem _)
  cases hb with
  | nilSl => simp only [elems, Option.some.injEq] at he; subst he; exact absurd rfl hne
  | sl0 o s a h1 h2 => simp only [elems, Option.some.injEq] at he; subst he; exact absurd rfl hne
  | sl o s xs b off n cap val h1 h2 h3 h4 h5 h6 h7 h8 =>
    simp only [elems, Option.some.injEq] at he; subst he
    have hs : s = sz := by
      have h0 : 0 < xs.length := List.length_pos_iff.2 hne
      rw [← h6 0 (by omega)]; exact (hall 0 h0).1
    subst hs
    refine fin val (fun i j hi hj => h8 i j (by omega) hj) ?_
    refine run_firstCells_some w' s xs.length ⟨b, off, none⟩ n cap (flat s xs.length val) (flat_length _ _ _) (fun q v hq => ?_)
    have hlt : q < xs.length * s := by rw [← flat_length s xs.length val]; exact (List.getElem?_eq_some_iff.1 hq).1
    obtain ⟨i, j, rfl, hj, hi⟩ := flat_split hlt
    rw [flat_get hj hi] at hq
    injection hq with hq; subst hq
    rw [Addr.add_lit]
    refine cell_of_heap hw ?_
    rw [← Nat.add_assoc]
    exact hI.st _ _ _ (h7 i j (by omega) hj)
  | str l s e =>
    simp only [elems, Option.some.injEq] at he; subst he
    have hl : (bytesAV l).length = l.length := by simp [bytesAV]
    have hsz : sz = 1 := by
      have h0 : 0 < (bytesAV l).length := List.length_pos_iff.2 hne
      obtain ⟨k, _⟩ := hall 0 h0
      rw [← k]
      rw [hl] at h0
      rw [getD_eq (x := byteAV l[0]) (by simp [bytesAV, h0])]
      rfl
    subst hsz
    have hg : ∀ i, i < (bytesAV l).length → (bytesAV l).getD i .u = .int .u8 (l.getD i 0).toNat := by
      intro i hi
      rw [hl] at hi
      rw [getD_eq (x := byteAV l[i]) (by simp [bytesAV, hi]), getD_eq (List.getElem?_eq_getElem hi)]
      rfl
    refine fin (fun i _ => .int .u8 (l.getD i 0).toNat) (fun i j hi hj => ?_) ?_
    · obtain rfl : j = 0 := by omega
      rw [hg i hi]
      exact .int _ _
    · simp only [Builtin.firstCells, Sem.run_pure]
      congr 1
      subst e
      have e1 : (s.extract 0 (bytesAV s.data.toList).length).data.toList = s.data.toList := by simp [ByteArray.data_extract, bytesAV]
      have e2 : (Array.map (fun b : UInt8 => Value.int .u8 b.toNat) (s.extract 0 (bytesAV s.data.toList).length).data).toList = flat 1 (bytesAV s.data.toList).length (fun i _ => .int .u8 (s.data.toList.getD i 0).toNat) := by
        rw [Array.toList_map, e1]
        apply List.ext_getElem?
        intro q
        simp only [flat, List.getElem?_map, Nat.mul_one, hl]
        by_cases hq : q < s.data.toList.length
        · have hq' : q < s.data.size := by simpa using hq
          rw [List.getElem?_range hq, List.getElem?_eq_getElem hq]
          simp [List.getD, Array.getElem?_eq_getElem hq']
        · rw [List.getElem?_eq_none (by omega), List.getElem?_eq_none (by simp; simpa using hq)]
          rfl
      rw [← e2]
  | _ => simp [elems] at he
def notInt (P : Program) (t : TypeId) : Bool :=
  match P.underlying t with
  | some (.int _) => false
  | some _ => true
  | none => false
theorem append_types {sT xT e ty : TypeId} (ht : P.underlying sT = some (.slice e)) (hxT : notInt P xT = true) (args : Array Value) :
    (Builtin.append_ #[sT, xT] ty args).run P w = (Builtin.append_ #[sT, sT] ty args).run P w := by
  unfold notInt at hxT
  split at hxT
  · cases hxT
  · rename_i d hd hu
    have e1 : ∀ (x : Value), (Builtin.append_ #[sT, xT] ty args) = (Builtin.append_ #[sT, xT] ty args) := fun _ => rfl
    unfold Builtin.append_
    simp only [List.getElem?_toArray, List.getElem?_cons_zero, List.getElem?_cons_succ]
    cases args[0]? with
    | none => rfl
    | some s =>
      cases args[1]? with
      | none => rfl
      | some x =>
        simp only [Sem.run_bind, run_underlying ht, Result.andThen_ok]
        cases s <;> first
          | rfl
          | (simp only [Sem.run_bind]
             congr 1
             funext a w'
             simp only [run_underlying hu, run_underlying ht, Result.andThen_ok, Sem.run_pure] <;> (cases d <;> first | rfl | (rename_i k; exact absurd hu (hd k))))
  · cases hxT
section
variable {sT xT e ty : TypeId} {i : TypeInfo} (ht : P.underlying sT = some (.slice e)) (hxT : notInt P xT = true) (hi : P.info? e = some i)
include ht hxT hi
theorem run_append_none {base : Option Addr} {n cap : Nat} {bv : Value} (hn : n ≤ cap) (hl : (Builtin.lenOf bv).run P w = .ok 0 w) (hf : (Builtin.firstCells i.size 0 bv).run P w = .ok #[] w) :
    (Builtin.append_ #[sT, xT] ty #[.slice base n cap, bv]).run P w = .ok (.slice base n cap) w := by
  rw [append_types ht hxT]
  unfold Builtin.append_
  simp only [List.getElem?_toArray, List.getElem?_cons_zero, List.getElem?_cons_succ, Sem.run_bind, run_underlying ht, Result.andThen_ok, sizeOf, typeInfo, run_program, hi, Sem.run_pure, Bool.false_eq_true, if_false, hl, Sem.run_ite, Nat.add_zero, if_pos hn, Bool.not_false, if_true, hf]
  cases base <;> simp [storeCells]
theorem run_append_in {b o n cap k : Nat} {bv : Value} {new : List Value} {cur : Array Value} {T : TypeId} {lo hi' : Nat} (hn : n + k ≤ cap) (hl : (Builtin.lenOf bv).run P w = .ok k w)
    (hf : (Builtin.firstCells i.size k bv).run P w = .ok new.toArray w) (hg : w.heap[b]? = some (.cells cur T (lo, hi'))) (hfit : o + n * i.size + new.length ≤ cur.size)
    (hfr : ∀ q, o + n * i.size ≤ q → q < o + n * i.size + new.length → ¬ (lo ≤ q ∧ q < hi')) (h1 : ∀ v ∈ new, v.oneCell' = true) :
    (Builtin.append_ #[sT, xT] ty #[.slice (some ⟨b, o, none⟩) n cap, bv]).run P w =
      .ok (.slice (some ⟨b, o, none⟩) (n + k) cap) (w.setRow b (cur.toList.take (o + n * i.size) ++ new ++ cur.toList.drop (o + n * i.size + new.length)).toArray) := by
  have hst := run_storeCells_fr P b (o + n * i.size) T lo hi' new 0 cur w hg (by simpa using hfit) (by simpa using hfr) h1
  simp only [Nat.add_zero] at hst
  rw [append_types ht hxT]
  unfold Builtin.append_
  simp only [List.getElem?_toArray, List.getElem?_cons_zero, List.getElem?_cons_succ, Sem.run_bind, run_underlying ht, Result.andThen_ok, sizeOf, typeInfo, run_program, hi, Sem.run_pure, Bool.false_eq_true, if_false, hl, Sem.run_ite, if_pos hn, Bool.not_false, if_true, hf, Addr.add_lit, hst]
theorem run_append_new {base : Option Addr} {n cap k : Nat} {bv : Value} {new old : List Value} {z : Value} (hn : ¬ n + k ≤ cap) (hcap : n ≤ cap) (hl : (Builtin.lenOf bv).run P w = .ok k w) (hb : 0 < i.bytes) (hz' : i.zero = some z)
    (hroom : (n + k) * i.bytes ≤ roomMax) (hf : (Builtin.firstCells i.size k bv).run P w.drew = .ok new.toArray w.drew) (ho : (Builtin.firstCells i.size n (.slice base n cap)).run P w.drew = .ok old.toArray w.drew) :
    ∃ c rest, n + k ≤ c ∧ rest.size = (c - (n + k)) * z.cells.size ∧ (Builtin.append_ #[sT, xT] ty #[.slice base n cap, bv]).run P w =
      .ok (.slice (some ⟨w.heap.size, 0, none⟩) (n + k) c) (w.drew.alloc (.cells (old.toArray ++ new.toArray ++ rest) e)) := by
  refine ⟨grownCap w (n + k) cap e, Builtin.zeroCells z.cells (grownCap w (n + k) cap e - (n + k)), grownCap_ge _ _ _ _, size_zeroCells _ _, ?_⟩
  have hle : n + k ≤ (n + k) * i.bytes := Nat.le_mul_of_pos_right _ hb
  have h63 : ¬ (((n + k : Nat) : Int) > IntKind.i64.max ∧ (false = true ∨ i.bytes = 0)) := by rintro ⟨_, h | h⟩ <;> first | cases h | omega
  have h48 : ¬ (Builtin.nextslicecap (n + k) cap * i.bytes > 2 ^ 48) := by
    have := growslice_fits (need := n + k) (old := cap) (bytes := i.bytes) (by omega) (by unfold roomMax at hroom; omega)
    omega
  rw [append_types ht hxT]
  unfold Builtin.append_
  simp only [List.getElem?_toArray, List.getElem?_cons_zero, List.getElem?_cons_succ, Sem.run_bind, run_underlying ht, Result.andThen_ok, sizeOf, typeInfo, run_program, hi, Sem.run_pure, Bool.false_eq_true, if_false, hl, Sem.run_ite, if_neg hn, Bool.not_false, if_true]
  rw [if_neg (by simpa using h63), if_neg h48]
  simp only [run_choose, Question.forced, Bool.false_eq_true, if_false, Result.andThen_ok, run_askRoom, World.drew_eq, ho, hf, zeroValue, Sem.run_bind, typeInfo, run_program, hi, hz', Sem.run_pure, newRow, run_newObj, World.alloc_eq]
  rfl
end
theorem slice_new (hI : Inv G w0 C m w) {xs : List AV} {n c sz : Nat} {cells : Array Value} {T : TypeId} (hn : n = xs.length) (hc : n ≤ c) (hsz : 0 < sz) (hsize : cells.size = c * sz) (hlen : ∀ i, i < n → (xs.getD i .u).cells.length = sz)
    (hr : ∀ i j, i < n → j < sz → Rep C ((xs.getD i .u).cells.getD j .u) (cells.getD (i * sz + j) undef)) :
    ∃ C', Cx.Le C C' ∧ Inv G w0 C' (m.newTok T) (w.drew.alloc (.cells cells T)) ∧ Rep C' (.sl (.tok m.ntok) sz xs) (.slice (some ⟨w.heap.size, 0, none⟩) n c) ∧ ∀ id, ¬ C'.I id w.heap.size := by
  have hnew : (w.drew.alloc (.cells cells T)).heap[w.heap.size]? = some (.cells cells T (0, 0)) := heap_alloc_new w.drew _
  have hlt : ∀ b o v, C.St b o v → b < w.heap.size := fun b o v hs => block_lt_of_cell (a := ⟨b, o, none⟩) (hI.st b o v hs)
  have hmul : n * sz ≤ c * sz := Nat.mul_le_mul_right _ hc
  have hInv := hI.newTok (w' := w.drew.alloc (.cells cells T)) (b := w.heap.size) (s := n * sz) (e := c * sz) (P := fun o v => o < n * sz ∧ v = cells.getD o undef)
    (hI.drew.below.alloc hI.below.size _) hI.below.size (by simp) (by simp) (fun k hk _ => heap_alloc_old w.drew _ _ hk)
    (fun o v hs => absurd (hlt _ _ _ hs) (by omega)) (fun id hb => absurd (hI.obj _ _ hb).2.2.1 (by omega))
    (fun o v ⟨h1, h2⟩ => ⟨by rw [cell_of_row _ _ _ _ _ _ hnew, agetD_lt (by omega), h2], h1⟩) (fun o v hs => absurd (hlt _ _ _ hs) (by omega))
    ⟨cells, T, 0, 0, hnew, by omega, fun o _ _ => by omega⟩ (fun t s' e' hr => absurd (hI.tok _ _ _ _ hr).2.2.1 (by omega)) ⟨cells, _, hnew⟩
    (fun t ht => by obtain ⟨⟨vs, fr, k⟩, _⟩ := hI.shp _ t ht; exact absurd (Array.getElem?_eq_some_iff.1 k).1 (by omega)) (fun hz => absurd (hI.shut _ hz).2.1 (by omega))
  refine ⟨_, C.le_addS _ _ _ _ _ _, hInv, ?_, fun id hb => absurd (hI.obj _ _ hb).2.2.1 (by omega)⟩
  refine .sl (.tok m.ntok) sz xs w.heap.size 0 n c (fun i j => cells.getD (i * sz + j) undef) hn hc hsz (fun h => by cases h) (fun t ht => ?_) hlen (fun i j hi hj => ?_) (fun i j hi hj => (hr i j hi hj).mono (C.le_addS _ _ _ _ _ _))
  · injection ht with ht; subst ht
    right
    exact .inr ⟨rfl, rfl, by omega, by omega⟩
  · right
    have hq : i * sz + j < n * sz := by
      calc i * sz + j < i * sz + sz := by omega
        _ = (i + 1) * sz := by rw [Nat.add_mul]; omega
        _ ≤ n * sz := Nat.mul_le_mul_right _ hi
    exact ⟨rfl, by omega, by rw [Nat.zero_add]⟩
theorem getD_append_left {xs ys : List AV} {i : Nat} (h : i < xs.length) : (xs ++ ys).getD i .u = xs.getD i .u := by
  simp [List.getD, List.getElem?_append_left h]
theorem getD_append_right {xs ys : List AV} {i : Nat} (h : xs.length ≤ i) : (xs ++ ys).getD i .u = ys.getD (i - xs.length) .u := by
  simp [List.getD, List.getElem?_append_right h]
section
variable {sT xT e ty : TypeId} {i : TypeInfo} (ht : P.underlying sT = some (.slice e)) (hxT : notInt P xT = true) (hi : P.info? e = some i)
include ht hxT hi
theorem append_grow (hI : Inv G w0 C m w) {base : Option Addr} {n cap : Nat} {xs ys : List AV} {b : AV} {bv : Value} (hb : Rep C b bv) (he : elems b = some ys) (hne : ys ≠ [])
    (hy : ys.all (fun y => y.cells.length == i.size && y.cells.all scal) = true) {z : Value} (hsz : 0 < i.size) (hbytes : 0 < i.bytes) (hz : i.zero = some z) (hzs : z.cells.size = i.size)
    (hn : n = xs.length) (hcap : n ≤ cap) (hno : ¬ n + ys.length ≤ cap) (hroom : (xs.length + ys.length) * i.bytes ≤ roomMax) {old : List Value} (holen : old.length = n * i.size)
    (ho : (Builtin.firstCells i.size n (.slice base n cap)).run P w.drew = .ok old.toArray w.drew) (hxl : ∀ k, k < n → (xs.getD k .u).cells.length = i.size)
    (hor : ∀ p j, p < n → j < i.size → Rep C ((xs.getD p .u).cells.getD j .u) (old.getD (p * i.size + j) undef)) :
    Res G w0 C (m.newTok e) (.sl (.tok m.ntok) i.size (xs ++ ys)) ((do pure (.value (← Builtin.append_ #[sT, xT] ty #[.slice base n cap, bv])) : Sem Next).run P w) := by
  obtain ⟨new, f1, f2, f3, f4⟩ := second_cells (P := P) (w' := w.drew) hI hb he hy hne (fun _ _ => rfl)
  obtain ⟨c, rest, hc, hrs, hrun⟩ := run_append_new ht hxT hi (ty := ty) hno hcap (second_len hb he) hbytes hz (by rw [hn]; exact hroom) f1 ho
  have hyl : ∀ p, p < ys.length → (ys.getD p .u).cells.length = i.size := by
    intro p hp
    have := (List.all_eq_true.1 hy) _ (List.getElem_mem hp)
    rw [getD_eq (List.getElem?_eq_getElem hp)]
    simp only [Bool.and_eq_true, beq_iff_eq] at this
    exact this.1
  have hget : ∀ q, q < (n + ys.length) * i.size → (old.toArray ++ new.toArray ++ rest).getD q undef = if q < n * i.size then old.getD q undef else new.getD (q - n * i.size) undef := by
    intro q hq
    have hq' : q < n * i.size + ys.length * i.size := by rw [← Nat.add_mul]; exact hq
    rw [Array.getD_eq_getD_getElem?, Array.getElem?_append_left (by simp; omega)]
    by_cases h1 : q < n * i.size
    · rw [if_pos h1, Array.getElem?_append_left (by simp; omega)]; simp [List.getD]
    · rw [if_neg h1, Array.getElem?_append_right (by simp; omega)]; simp [List.getD, holen]
  have hlt : ∀ p j, p < n + ys.length → j < i.size → p * i.size + j < (n + ys.length) * i.size := by
    intro p j hp hj
    calc p * i.size + j < p * i.size + i.size := by omega
      _ = (p + 1) * i.size := by rw [Nat.add_mul]; omega
      _ ≤ (n + ys.length) * i.size := Nat.mul_le_mul_right _ hp
  obtain ⟨C', hle, hInv, hrep, _⟩ := slice_new hI (xs := xs ++ ys) (n := n + ys.length) (c := c) (sz := i.size) (cells := old.toArray ++ new.toArray ++ rest) (T := e) (by simp [hn]) hc hsz
    (by
      simp only [Array.size_append, List.size_toArray, holen, f2, hrs, hzs]
      rw [← Nat.add_mul, ← Nat.add_mul]; congr 1; omega)
    (fun p hp => by
      by_cases h : p < xs.length
      · rw [getD_append_left h]; exact hxl p (by omega)
      · rw [getD_append_right (by omega)]; exact hyl _ (by omega))
    (fun p j hp hj => by
      rw [hget _ (hlt p j hp hj)]
      by_cases h : p < xs.length
      · rw [getD_append_left h]
        have : p * i.size + j < n * i.size := by
          calc p * i.size + j < p * i.size + i.size := by omega
            _ = (p + 1) * i.size := by rw [Nat.add_mul]; omega
            _ ≤ n * i.size := Nat.mul_le_mul_right _ (by omega)
        rw [if_pos this]; exact hor p j (by omega) hj
      · rw [getD_append_right (by omega)]
        have : n * i.size ≤ p * i.size := Nat.mul_le_mul_right _ (by omega)
        rw [if_neg (by omega)]
        have e1 : p * i.size + j - n * i.size = (p - xs.length) * i.size + j := by
          rw [Nat.sub_mul, ← hn]; omega
        rw [e1]
        exact f3 _ _ (by omega) hj)
  exact ⟨.value (.slice (some ⟨w.heap.size, 0, none⟩) (n + ys.length) c), _, C', by simp only [Sem.run_bind, hrun, Result.andThen_ok, Sem.run_pure], hle, hInv, hrep⟩
theorem append_ok (hI : Inv G w0 C m w) {a b v : AV} {av bv : Value} (ha : Rep C a av) (hb : Rep C b bv) {ys : List AV} (he : elems b = some ys) {z : Value} (hsz : 0 < i.size) (hbytes : 0 < i.bytes) (hz : i.zero = some z) (hzs : z.cells.size = i.size)
    {m1 : Mem} (h : appendV m e i.size i.bytes a ys = some (v, m1)) :
    Res G w0 C m1 v ((do pure (.value (← Builtin.append_ #[sT, xT] ty #[av, bv])) : Sem Next).run P w) := by
  have zero_cells : ys = [] → (Builtin.firstCells i.size 0 bv).run P w = .ok #[] w := by
    intro hy
    subst hy
    cases hb with
    | nilSl => rfl
    | sl => simp [Builtin.firstCells, loadCells, loadCellsFrom]
    | sl0 => simp [Builtin.firstCells, loadCells, loadCellsFrom]
    | str l s e =>
      simp only [Builtin.firstCells, Sem.run_pure]
      congr 1
      simp
    | _ => simp [elems] at he
  have hl := second_len (P := P) (w := w) hb he
  cases ha with
  | nilSl =>
    simp only [appendV] at h
    split at h
    · rename_i hy
      simp only [Option.some.injEq, Prod.mk.injEq] at h
      obtain ⟨rfl, rfl⟩ := h
      rw [hy] at hl
      exact Res.quiet hI (run_append_none ht hxT hi (Nat.le_refl _) hl (zero_cells hy)) .nilSl
    · rename_i hy
      split at h
      · rename_i hc
        simp only [Option.some.injEq, Prod.mk.injEq] at h
        obtain ⟨rfl, rfl⟩ := h
        have := append_grow ht hxT hi (ty := ty) (base := none) (n := 0) (cap := 0) (xs := []) (old := []) hI hb he hy hc.2 hsz hbytes hz hzs rfl (Nat.le_refl _)
          (by have := List.length_pos_iff.2 hy; omega) (by simpa using hc.1) (by simp) (by simp [Builtin.firstCells]) (fun k hk => absurd hk (by omega)) (fun p j hp => absurd hp (by omega))
        simpa using this
      · cases h
  | sl0 o sz ad h1 h2 =>
    simp only [appendV] at h
    split at h
    · rename_i hs
      subst hs
      split at h
      · rename_i hy
        simp only [Option.some.injEq, Prod.mk.injEq] at h
        obtain ⟨rfl, rfl⟩ := h
        rw [hy] at hl
        exact Res.quiet hI (run_append_none ht hxT hi (Nat.le_refl _) hl (zero_cells hy)) (.sl0 o _ ad h1 h2)
      · rename_i hy
        have hpos := List.length_pos_iff.2 hy
        split at h
        · rename_i hc
          split at h
          · simp only [Option.some.injEq, Prod.mk.injEq] at h
            obtain ⟨rfl, rfl⟩ := h
            have := append_grow ht hxT hi (ty := ty) (base := some ad) (n := 0) (cap := 0) (xs := []) (old := []) hI hb he hy hc.2 hsz hbytes hz hzs rfl (Nat.le_refl _)
              (by omega) (by simpa using hc.1) (by simp) (by simp [Builtin.firstCells, loadCells, loadCellsFrom]) (fun k hk => absurd hk (by omega)) (fun p j hp => absurd hp (by omega))
            simpa using this
          · rename_i t; exact absurd rfl (h1 t)
          · cases h
        · cases h
    · cases h
  | sl o sz xs bk off n cap val h1 h2 h3 h4 h5 h6 h7 h8 =>
    simp only [appendV] at h
    split at h
    · rename_i hs
      subst hs
      split at h
      · rename_i hy
        simp only [Option.some.injEq, Prod.mk.injEq] at h
        obtain ⟨rfl, rfl⟩ := h
        rw [hy] at hl
        exact Res.quiet hI (run_append_none ht hxT hi h2 hl (zero_cells hy)) (.sl o _ xs bk off n cap val h1 h2 h3 h4 h5 h6 h7 h8)
      · rename_i hy
        have hpos := List.length_pos_iff.2 hy
        split at h
        · rename_i hc
          have hold : (Builtin.firstCells i.size n (.slice (some ⟨bk, off, none⟩) n cap)).run P w.drew = .ok (flat i.size n val).toArray w.drew := by
            refine run_firstCells_some w.drew i.size n ⟨bk, off, none⟩ n cap (flat i.size n val) (flat_length _ _ _) (fun q v hq => ?_)
            have hlt : q < n * i.size := by rw [← flat_length i.size n val]; exact (List.getElem?_eq_some_iff.1 hq).1
            obtain ⟨p, j, rfl, hj, hp⟩ := flat_split hlt
            rw [flat_get hj hp] at hq
            injection hq with hq; subst hq
            rw [Addr.add_lit, ← Nat.add_assoc]
            exact hI.st _ _ _ (h7 p j hp hj)
          have grow : ∀ m' : Mem, Inv G w0 C m' w → ¬ n + ys.length ≤ cap → Res G w0 C (m'.newTok e) (.sl (.tok m'.ntok) i.size (xs ++ ys)) ((do pure (.value (← Builtin.append_ #[sT, xT] ty #[.slice (some ⟨bk, off, none⟩) n cap, bv])) : Sem Next).run P w) :=
            fun m' hI' hno => append_grow ht hxT hi hI' hb he hy hc.2 hsz hbytes hz hzs h1 h2 hno hc.1 (flat_length _ _ _) hold h6 (fun p j hp hj => by rw [getD_eq (flat_get hj hp)]; exact h8 p j hp hj)
          split at h
          · simp only [Option.some.injEq, Prod.mk.injEq] at h
            obtain ⟨rfl, rfl⟩ := h
            exact grow m hI (by have := h4 rfl; omega)
          · rename_i t
            split at h
            · rename_i hlive'
              obtain ⟨hlive, htty⟩ := hlive'
              simp only [Option.some.injEq, Prod.mk.injEq] at h
              obtain ⟨rfl, rfl⟩ := h
              by_cases hno : n + ys.length ≤ cap
              · -- into the spare room
                have hR : C.R t bk (off + n * i.size) (off + cap * i.size) := (h5 t rfl).resolve_left (by omega)
                obtain ⟨t1, t2, t3, q5, t4⟩ := hI.tok _ _ _ _ hR
                obtain ⟨⟨cur, T, lo, hi', q1, q2, q3⟩, q4⟩ := t4 hlive
                have hTT : ∀ t', C.T bk t' → t' = T := fun t' ht' => by
                  obtain ⟨⟨vs, fr, k⟩, _⟩ := hI.shp _ _ ht'
                  rw [q1] at k; injection k with k; injection k with _ k _; exact k.symm
                have hTe : T = e := (hTT _ (hI.tty _ _ _ _ hR)).symm.trans htty
                obtain ⟨new, f1, f2, f3, f4⟩ := second_cells (P := P) (w' := w) hI hb he hc.2 hy (fun _ _ => rfl)
                have hmul : n * i.size + ys.length * i.size ≤ cap * i.size := by rw [← Nat.add_mul]; exact Nat.mul_le_mul_right _ hno
                have hfit : off + n * i.size + new.length ≤ cur.size := by omega
                have hrun := run_append_in ht hxT hi (ty := ty) hno hl f1 q1 hfit (fun q k1 k2 => q3 q k1 (by omega)) f4
                have hsame := heap_setRow_same (cs := (cur.toList.take (off + n * i.size) ++ new ++ cur.toList.drop (off + n * i.size + new.length)).toArray) q1
                have hcell : ∀ q, q < cur.size → (w.setRow bk (cur.toList.take (off + n * i.size) ++ new ++ cur.toList.drop (off + n * i.size + new.length)).toArray).cell? ⟨bk, q, none⟩ =
                    some (if off + n * i.size ≤ q ∧ q < off + n * i.size + new.length then new.getD (q - (off + n * i.size)) undef else cur.getD q undef) := by
                  intro q hq
                  rw [cell_of_row _ _ _ _ _ _ hsame, agetD_lt (by simp; omega), splice_getD (by simpa using hfit)]
                  simp only [Array.getD_eq_getD_getElem?, List.getD_eq_getElem?_getD, Array.getElem?_toList]
                have hI' := hI.kill t
                have hInv := hI'.newTok (w' := w.setRow bk (cur.toList.take (off + n * i.size) ++ new ++ cur.toList.drop (off + n * i.size + new.length)).toArray) (b := bk) (s := off + (n + ys.length) * i.size) (e := off + cap * i.size)
                  (P := fun q v => off + n * i.size ≤ q ∧ q < off + n * i.size + new.length ∧ v = new.getD (q - (off + n * i.size)) undef)
                  (Below.setRow hI.below t2 _) t2 (by simp) (by simpa using t3) (fun k _ hk => heap_setRow_other hk)
                  (fun q v hs => by
                    have hlt := q4 _ _ hs
                    have hold := hI.st _ _ _ hs
                    rw [cell_of_row _ _ _ _ _ _ q1] at hold
                    have hq : q < cur.size := (Array.getElem?_eq_some_iff.1 hold).1
                    rw [hcell q hq, if_neg (by omega), agetD_eq hold])
                  q5 (fun q v ⟨k1, k2, k3⟩ => ⟨by rw [hcell q (by omega), if_pos ⟨k1, k2⟩, k3], by rw [Nat.add_mul]; omega⟩)
                  (fun q v hs => by have := q4 _ _ hs; rw [Nat.add_mul]; omega)
                  ⟨_, T, lo, hi', hsame, by simp; omega, fun q k1 k2 => q3 q (by rw [Nat.add_mul] at k1; omega) k2⟩
                  (fun t' s' e' hr' => by
                    simp only [Mem.killTok]
                    split
                    · rfl
                    · rename_i hne
                      cases hl' : m.live t' with
                      | false => rfl
                      | true => exact absurd (hI.toku _ _ _ _ _ _ _ hr' hR hl' hlive) hne)
                  ⟨_, _, hTe ▸ hsame⟩ (fun t' ht' => (hTT t' ht').trans hTe) (fun hz => by have := (hI.shut _ hz).2.2.2 _ _ _ hR; rw [hlive] at this; cases this)
                refine ⟨_, _, _, by simp only [Sem.run_bind, hrun, Result.andThen_ok, Sem.run_pure]; rfl, C.le_addS _ _ _ _ _ _, hInv, ?_⟩
                have hge : ∀ p j, n ≤ p → p < n + ys.length → j < i.size → off + n * i.size ≤ off + p * i.size + j ∧ off + p * i.size + j < off + n * i.size + new.length ∧ off + p * i.size + j - (off + n * i.size) = (p - n) * i.size + j := by
                  intro p j hp hp2 hj
                  obtain ⟨d, rfl⟩ : ∃ d, p = n + d := ⟨p - n, by omega⟩
                  have e1 : n + d - n = d := by omega
                  have : d * i.size + j < ys.length * i.size := by
                    calc d * i.size + j < d * i.size + i.size := by omega
                      _ = (d + 1) * i.size := by rw [Nat.add_mul]; omega
                      _ ≤ ys.length * i.size := Nat.mul_le_mul_right _ (by omega)
                  rw [e1, Nat.add_mul, f2]
                  omega
                refine .sl _ _ _ bk off (n + ys.length) cap (fun p j => if p < n then val p j else new.getD ((p - n) * i.size + j) undef) (by simp [h1]) hno h3 (fun h => by cases h) (fun t' ht' => ?_) (fun p hp => ?_) (fun p j hp hj => ?_) (fun p j hp hj => ?_)
                · injection ht' with ht'; subst ht'
                  exact .inr (.inr ⟨rfl, rfl, rfl, rfl⟩)
                · by_cases hpn : p < xs.length
                  · rw [getD_append_left hpn]; exact h6 p (by omega)
                  · rw [getD_append_right (by omega)]
                    have hp' : p - xs.length < ys.length := by omega
                    have := (List.all_eq_true.1 hc.2) _ (List.getElem_mem hp')
                    rw [getD_eq (List.getElem?_eq_getElem hp')]
                    simp only [Bool.and_eq_true, beq_iff_eq] at this
                    exact this.1
                · by_cases hpn : p < n
                  · rw [if_pos hpn]; exact .inl (h7 p j hpn hj)
                  · rw [if_neg hpn]
                    obtain ⟨g1, g2, g3⟩ := hge p j (by omega) hp hj
                    exact .inr ⟨rfl, g1, g2, by rw [g3]⟩
                · by_cases hpn : p < n
                  · rw [if_pos hpn, getD_append_left (by omega)]; exact (h8 p j hpn hj).mono (C.le_addS _ _ _ _ _ _)
                  · rw [if_neg hpn, getD_append_right (by omega), ← h1]
                    exact (f3 _ _ (by omega) hj).mono (C.le_addS _ _ _ _ _ _)
              · exact grow (m.killTok t) (hI.kill t) hno
            · cases h
          · cases h
        · cases h
    · cases h
  | _ => simp [appendV] at h
end
theorem unbytes_length : ∀ {xs : List AV} {l : List UInt8}, unbytes xs = some l → l.length = xs.length
  | [], l, h => by simp only [unbytes, Option.some.injEq] at h; subst h; rfl
  | x :: xs, l, h => by
    simp only [unbytes] at h
    split at h
    · rename_i b bs h1 h2
      injection h with h; subst h
      simp [unbytes_length h2]
    · cases h
theorem unbytes_get : ∀ {xs : List AV} {l : List UInt8}, unbytes xs = some l → ∀ i, i < xs.length → ∃ n, xs.getD i .u = .int .u8 n ∧ l.getD i 0 = UInt8.ofNat n.toNat
  | [], l, h, i, hi => absurd hi (by simp)
  | x :: xs, l, h, i, hi => by
    simp only [unbytes] at h
    split at h
    · rename_i b bs h1 h2
      injection h with h; subst h
      cases i with
      | zero =>
        unfold unbyte at h1
        split at h1
        · injection h1 with h1; subst h1; exact ⟨_, rfl, rfl⟩
        · cases h1
      | succ i =>
        obtain ⟨n, k1, k2⟩ := unbytes_get h2 i (by simpa using hi)
        exact ⟨n, by simpa [List.getD] using k1, by simpa [List.getD] using k2⟩
    · cases h
theorem foldl_push (ns : List Int) : ∀ (r : ByteArray), (ns.foldl (fun (r : ByteArray) n => r.push (UInt8.ofNat n.toNat)) r).data.toList = r.data.toList ++ ns.map fun n => UInt8.ofNat n.toNat := by
  induction ns with
  | nil => intro r; simp
  | cons n ns ih => intro r; simp [ih]
def intOfAV : AV → Int
  | .int _ q => q
  | _ => 0
theorem unbytes_range {xs : List AV} {l : List UInt8} (h : unbytes xs = some l) {n : Nat} (hn : n = xs.length) : (List.range n).map (fun i => UInt8.ofNat (intOfAV (xs.getD i .u)).toNat) = l := by
  apply List.ext_getElem?
  intro q
  by_cases hq : q < n
  · obtain ⟨k, k1, k2⟩ := unbytes_get h q (by omega)
    have hlq : q < l.length := by rw [unbytes_length h]; omega
    rw [getD_eq (List.getElem?_eq_getElem hlq)] at k2
    rw [List.getElem?_eq_getElem hlq, List.getElem?_map, List.getElem?_range hq, Option.map_some, k1, k2]
    rfl
  · rw [List.getElem?_eq_none (by simp; omega), List.getElem?_eq_none (by rw [unbytes_length h]; omega)]
theorem strOf_ok (hI : Inv G w0 C m w) {x v : AV} {a : Value} (hx : Rep C x a) {src dst e : TypeId} (hs : P.underlying src = some (.slice e)) (hd : P.underlying dst = some .string) (he : P.underlying e = some (.int .u8))
    (h : strOfV x = some v) : Res G w0 C m v ((do pure (.value (← convert src dst a)) : Sem Next).run P w) := by
  cases hx with
  | nilSl =>
    simp only [strOfV, Option.some.injEq] at h; subst h
    refine Res.quiet hI (cv := .string .empty) ?_ (.str _ _ rfl)
    simp only [convert, Sem.run_bind, run_underlying hs, run_underlying hd, Result.andThen_ok, run_underlying he, Conv.bytesToString, Sem.run_pure]
  | sl0 o s ad h1 h2 =>
    simp only [strOfV, unbytes] at h
    split at h
    case isFalse => cases h
    injection h with h; subst h
    refine Res.quiet hI (cv := .string .empty) ?_ (.str _ _ rfl)
    simp [convert, run_underlying hs, run_underlying hd, run_underlying he, Conv.bytesToString, loadCells, loadCellsFrom]
  | sl o s xs b off n cap val h1 h2 h3 h4 h5 h6 h7 h8 =>
    simp only [strOfV] at h
    split at h
    case isFalse => cases h
    rename_i hs1
    subst hs1
    split at h
    · rename_i l hl
      injection h with h; subst h
      have hval : ∀ i, i < n → val i 0 = .int .u8 (intOfAV (xs.getD i .u)) := by
        intro i hi
        obtain ⟨q, k1, _⟩ := unbytes_get hl i (by omega)
        have := h8 i 0 hi (by omega)
        rw [k1] at this ⊢
        exact rep_int (k := .u8) (n := q) (by simpa [AV.cells] using this) rfl
      have hload : (loadCells ⟨b, off, none⟩ n).run P w = .ok (((List.range n).map fun i => intOfAV (xs.getD i .u)).map (Value.int .u8)).toArray w := by
        rw [run_loadCells w ⟨b, off, none⟩ n (fun i => .int .u8 (intOfAV (xs.getD i .u))) (fun j hj => by
          rw [Addr.add_lit, ← hval j hj]
          have := hI.st _ _ _ (h7 j 0 hj (by omega))
          simpa using this)]
        simp [List.map_map, Function.comp_def]
      have hrun := run_bytesToString w ⟨b, off, none⟩ n cap _ hload
      refine Res.quiet hI (cv := .string _) (by simp only [convert, Sem.run_bind, run_underlying hs, run_underlying hd, Result.andThen_ok, run_underlying he]; exact hrun) (.str _ _ ?_)
      rw [foldl_push, List.map_map, ← unbytes_range hl h1]
      rfl
    · cases h
  | _ => simp [strOfV] at h
end
end Go.Proofs.YtkjokjogdehonaaGreatDoor.Am
namespace Go.Proofs.YtkjokjogdehonaaGreatDoor.Am
open Go Go.RowKit
section
variable {G : Nat → Option (List AV)} {w0 : World} {C : Cx} {m : Mem} {w : World} {P : Program}
def Cx.addK (C : Cx) (b : Nat) (P : Nat → Value → Prop) : Cx := { C with St := fun b' o v => C.St b' o v ∨ (b' = b ∧ P o v) }
theorem Cx.le_addK (C : Cx) (b : Nat) (P : Nat → Value → Prop) : Cx.Le C (C.addK b P) := ⟨fun _ _ _ h => .inl h, fun _ _ h => h, fun _ _ _ _ h => h, fun _ _ h => h, fun _ h => h, fun _ _ h => h⟩
theorem Inv.addK (h : Inv G w0 C m w) {o : Obj} {Q : Nat → Value → Prop} (hQ : ∀ q v, Q q v → (w.alloc o).cell? ⟨w.heap.size, q, none⟩ = some v) : Inv G w0 (C.addK w.heap.size Q) m (w.alloc o) := by
  have h' := h.alloc_any o
  have hle := C.le_addK w.heap.size Q
  exact
  { below := h'.below
    st := fun b q v hs => by
      rcases hs with hs | ⟨rfl, hq⟩
      · exact h'.st _ _ _ hs
      · exact hQ _ _ hq
    obj := fun id b hb => let ⟨h1, h2, h3, h4⟩ := h'.obj id b hb; ⟨h1, h2, h3, h4.mono hle⟩
    inj := h.inj, func := h.func
    sti := fun b q v id hs hb => by
      rcases hs with hs | ⟨rfl, _⟩
      · exact h.sti _ _ _ _ hs hb
      · exact absurd (h.obj _ _ hb).2.2.1 (by omega)
    tok := fun t b s e hr => by
      obtain ⟨h1, h2, h3, h4, h5⟩ := h'.tok t b s e hr
      refine ⟨h1, h2, h3, h4, fun hl => ?_⟩
      obtain ⟨k1, k2⟩ := h5 hl
      refine ⟨k1, fun q v hs => ?_⟩
      rcases hs with hs | ⟨rfl, _⟩
      · exact k2 _ _ hs
      · exact absurd (h.tok _ _ _ _ hr).2.2.1 (by omega)
    shp := h'.shp, tty := h.tty, shut := h'.shut, tokf := h.tokf, toku := h.toku, kap := h'.kap, glob := fun g cs hg => (h.glob g cs hg).mono hle }
theorem Inv.refreeze (h : Inv G w0 C m w) {w' : World} {b lo hi lo' hi' : Nat} {vs : Array Value} {T : TypeId} (hb : w.heap[b]? = some (.cells vs T (lo, hi))) (hb' : w'.heap[b]? = some (.cells vs T (lo', hi')))
    (hbelow : Below w0.heap.size w0 w') (hsize : w'.heap.size = w.heap.size) (hother : ∀ k, k ≠ b → w'.heap[k]? = w.heap[k]?) (hI : ∀ id, ¬ C.I id b)
    (hfr : ∀ t s e, C.R t b s e → m.live t = true → ∀ o, s ≤ o → o < e → ¬ (lo' ≤ o ∧ o < hi')) : Inv G w0 C m w' :=
  { below := hbelow
    st := fun b2 o v hs => by
      have := h.st _ _ _ hs
      by_cases e : b2 = b
      · subst e
        rw [cell_of_row _ _ _ _ _ _ hb] at this
        rw [cell_of_row _ _ _ _ _ _ hb', this]
      · rw [World.cell?_of_block (w := w) (hother b2 e)]; exact this
    obj := fun id b2 hb2 => by
      obtain ⟨h1, h2, h3, h4⟩ := h.obj id b2 hb2
      have hne : b2 ≠ b := fun e => hI id (e ▸ hb2)
      exact ⟨h1, h2, by omega, h4.of_heap (hother _ hne)⟩
    inj := h.inj, func := h.func, sti := h.sti
    tok := fun t b2 s e hr => by
      obtain ⟨h1, h2, h3, h4, h5⟩ := h.tok t b2 s e hr
      refine ⟨h1, h2, by omega, h4, fun hl => ?_⟩
      obtain ⟨⟨vs2, T2, l2, u2, k1, k2, k3⟩, k4⟩ := h5 hl
      refine ⟨?_, k4⟩
      by_cases e' : b2 = b
      · subst e'
        rw [hb] at k1; injection k1 with k1; injection k1 with q1 q2 q3
        subst q1; subst q2
        exact ⟨vs, T, lo', hi', hb', k2, hfr t s e hr hl⟩
      · exact ⟨vs2, T2, l2, u2, (hother _ e').trans k1, k2, k3⟩
    shp := fun b2 t ht => by
      obtain ⟨⟨vs2, fr, k1⟩, k2⟩ := h.shp b2 t ht
      by_cases e' : b2 = b
      · subst e'
        rw [hb] at k1; injection k1 with k1; injection k1 with q1 q2 q3
        subst q2
        exact ⟨⟨vs, _, hb'⟩, k2⟩
      · exact ⟨⟨vs2, fr, (hother _ e').trans k1⟩, k2⟩
    tty := h.tty
    shut := fun b2 hz => by obtain ⟨h1, h2, h3, h4⟩ := h.shut b2 hz; exact ⟨h1, by omega, h3, h4⟩
    kap := fun b2 e hk => by
      obtain ⟨⟨id, h1⟩, vs2, T2, fr, h2, h3⟩ := h.kap b2 e hk
      exact ⟨⟨id, h1⟩, vs2, T2, fr, (hother _ (fun e' => hI id (e' ▸ h1))).trans h2, h3⟩
    tokf := h.tokf, toku := h.toku, glob := h.glob }
theorem Inv.seals (h : Inv G w0 C m w) {b : Nat} (h1 : w0.heap.size ≤ b) (h2 : b < w.heap.size) (h3 : ∀ id, ¬ C.I id b) (h4 : ∀ t s e, C.R t b s e → m.live t = false) :
    Inv G w0 { C with Z := fun k => C.Z k ∨ k = b } m w :=
  have hle : Cx.Le C { C with Z := fun k => C.Z k ∨ k = b } := ⟨fun _ _ _ h => h, fun _ _ h => h, fun _ _ _ _ h => h, fun _ _ h => h, fun _ h => .inl h, fun _ _ h => h⟩
  { below := h.below, st := h.st, obj := fun id b hb => let ⟨q1, q2, q3, q4⟩ := h.obj id b hb; ⟨q1, q2, q3, q4.mono hle⟩, inj := h.inj, func := h.func, sti := h.sti, tok := h.tok, shp := h.shp, tty := h.tty
    shut := fun k hk => by
      rcases hk with hk | rfl
      · exact h.shut k hk
      · exact ⟨h1, h2, h3, h4⟩
    tokf := h.tokf, toku := h.toku, kap := h.kap, glob := fun g cs hg => (h.glob g cs hg).mono hle }
theorem buildSl_fill {sz n : Nat} (hsz : 0 < sz) : ∀ {ps : List (Nat × Value)} {qs : List (Nat × AV)} {xs : List AV} {cells : Array Value} {v : AV}, xs.length = n → cells.size = n * sz →
    (∀ i, i < n → (xs.getD i .u).cells.length = sz) → (∀ i j, i < n → j < sz → Rep C ((xs.getD i .u).cells.getD j .u) (cells.getD (i * sz + j) undef)) →
    ps.length = qs.length → (∀ (i : Nat) (p : Nat × Value) (q : Nat × AV), ps[i]? = some p → qs[i]? = some q → p.1 = q.1 ∧ Rep C q.2 p.2) → buildSlV sz n xs qs = some v →
    ∃ cs' xs', Instr.fill (fun i => some (i * sz, sz)) cells ps = some cs' ∧ v = .sl .full sz xs' ∧ xs'.length = n ∧ cs'.size = n * sz ∧ (∀ i, i < n → (xs'.getD i .u).cells.length = sz) ∧
      ∀ i j, i < n → j < sz → Rep C ((xs'.getD i .u).cells.getD j .u) (cs'.getD (i * sz + j) undef)
  | [], [], xs, cells, v, h1, h2, h3, h4, _, _, h => by
    simp only [buildSlV, Option.some.injEq] at h; subst h
    exact ⟨cells, xs, rfl, rfl, h1, h2, h3, h4⟩
  | (i0, x) :: ps, (i, a) :: qs, xs, cells, v, h1, h2, h3, h4, hlen, hp, h => by
    simp only [buildSlV] at h
    split at h
    · rename_i hc
      obtain ⟨hcl, hin, hsc⟩ := hc
      obtain ⟨k1, k2⟩ := hp 0 _ _ rfl rfl
      have k1' : i0 = i := k1
      subst k1'
      obtain ⟨l1, l2⟩ := rep_cells k2 (ne_u hsc)
      dsimp only at l1 l2
      have hmul : i0 * sz + sz ≤ n * sz := by
        calc i0 * sz + sz = (i0 + 1) * sz := by rw [Nat.add_mul]; omega
          _ ≤ n * sz := Nat.mul_le_mul_right _ hin
      have hz : (x.cells.zipIdx.foldl (fun (cs : Array Value) (p : Value × Nat) => cs.setIfInBounds (i0 * sz + p.2) p.1) cells).size = cells.size := by
        rw [← Array.foldl_toList, Array.toList_zipIdx]; exact fill_one_size _ _ _
      have hget : ∀ q, (x.cells.zipIdx.foldl (fun (cs : Array Value) (p : Value × Nat) => cs.setIfInBounds (i0 * sz + p.2) p.1) cells).getD q undef = if i0 * sz ≤ q ∧ q < i0 * sz + sz then x.cells.toList.getD (q - i0 * sz) undef else cells.getD q undef := by
        intro q
        rw [← Array.foldl_toList, Array.toList_zipIdx, fill_one (i0 * sz) _ 0 q _ (by simp; omega)]
        simp only [Nat.add_zero, Array.length_toList, l1, hcl]
      obtain ⟨cs', xs', f1, f2, f3, f4, f5, f6⟩ := buildSl_fill hsz (ps := ps) (qs := qs) (xs := xs.set i0 a) (cells := x.cells.zipIdx.foldl (fun (cs : Array Value) (p : Value × Nat) => cs.setIfInBounds (i0 * sz + p.2) p.1) cells)
        (by simpa using h1) (by rw [hz]; exact h2)
        (fun q hq => by
          by_cases e : q = i0
          · subst e; simp [List.getD, List.getElem?_set_self (show q < xs.length by omega), hcl]
          · have := h3 q hq; simpa [List.getD, List.getElem?_set_ne (show i0 ≠ q by omega)] using this)
        (fun q j hq hj => by
          rw [hget]
          by_cases e : q = i0
          · subst e
            rw [if_pos (by omega)]
            have e1 : q * sz + j - q * sz = j := by omega
            rw [e1]
            have e2 : (xs.set q a).getD q .u = a := by simp [List.getD, List.getElem?_set_self (show q < xs.length by omega)]
            rw [e2]
            have := l2 j (by omega)
            rwa [Array.getD_eq_getD_getElem?, ← Array.getElem?_toList] at this
          · have hout : ¬ (i0 * sz ≤ q * sz + j ∧ q * sz + j < i0 * sz + sz) := by
              rintro ⟨g1, g2⟩
              rcases Nat.lt_or_gt_of_ne e with hlt | hgt
              · have : (q + 1) * sz ≤ i0 * sz := Nat.mul_le_mul_right _ hlt
                rw [Nat.add_mul] at this; omega
              · have : (i0 + 1) * sz ≤ q * sz := Nat.mul_le_mul_right _ hgt
                rw [Nat.add_mul] at this; omega
            rw [if_neg hout]
            have e2 : (xs.set i0 a).getD q .u = xs.getD q .u := by simp [List.getD, List.getElem?_set_ne (show i0 ≠ q by omega)]
            rw [e2]
            exact h4 q j hq hj)
        (by simpa using hlen) (fun j p q e1 e2 => hp (j + 1) p q (by simpa using e1) (by simpa using e2)) h
      refine ⟨cs', xs', ?_, f2, f3, f4, f5, f6⟩
      simp only [Instr.fill]
      rw [if_neg (by simp; omega)]
      exact f1
    · cases h
  | [], _ :: _, _, _, _, _, _, _, _, hlen, _, _ => by simp at hlen
  | _ :: _, [], _, _, _, _, _, _, _, hlen, _, _ => by simp at hlen
theorem slice_full (hI : Inv G w0 C m w) {xs : List AV} {n sz : Nat} {cells : Array Value} {T : TypeId} (hn : xs.length = n) (hsz : 0 < sz) (hsize : cells.size = n * sz) (hlen : ∀ i, i < n → (xs.getD i .u).cells.length = sz)
    (hr : ∀ i j, i < n → j < sz → Rep C ((xs.getD i .u).cells.getD j .u) (cells.getD (i * sz + j) undef)) :
    ∃ C', Cx.Le C C' ∧ Inv G w0 C' m (w.alloc (.cells cells T)) ∧ Rep C' (.sl .full sz xs) (.slice (some ⟨w.heap.size, 0, none⟩) n n) := by
  have hnew : (w.alloc (.cells cells T)).heap[w.heap.size]? = some (.cells cells T (0, 0)) := heap_alloc_new w _
  refine ⟨_, C.le_addK w.heap.size (fun q v => q < n * sz ∧ v = cells.getD q undef), hI.addK (fun q v ⟨h1, h2⟩ => by rw [cell_of_row _ _ _ _ _ _ hnew, agetD_lt (by omega), h2]), ?_⟩
  refine .sl .full sz xs w.heap.size 0 n n (fun i j => cells.getD (i * sz + j) undef) hn.symm (Nat.le_refl _) hsz (fun _ => rfl) (fun t h => by cases h) hlen (fun i j hi hj => .inr ⟨rfl, ?_, by rw [Nat.zero_add]⟩) (fun i j hi hj => (hr i j hi hj).mono (C.le_addK _ _))
  have : i * sz + j < n * sz := by
    calc i * sz + j < i * sz + sz := by omega
      _ = (i + 1) * sz := by rw [Nat.add_mul]; omega
      _ ≤ n * sz := Nat.mul_le_mul_right _ hi
  omega
theorem buildSl_ok (hI : Inv G w0 C m w) {t e : TypeId} {sz n : Nat} {z v : AV} {ps : List (Nat × Value)} {qs : List (Nat × AV)} (ht : P.underlying t = some (.slice e)) (hs : cellsB P e = some sz) (hsz : 0 < sz) (hroom : n * sz ≤ 2 ^ 24)
    (hz : zeroOk P e z = true) (hzu : z ≠ .u) (hzl : z.cells.length = sz) (hlen : ps.length = qs.length) (hp : ∀ (i : Nat) (p : Nat × Value) (q : Nat × AV), ps[i]? = some p → qs[i]? = some q → p.1 = q.1 ∧ Rep C q.2 p.2)
    (h : buildSlV sz n (List.replicate n z) qs = some v) : Res G w0 C m v ((do pure (.value (← Instr.buildSlice t n ps.toArray)) : Sem Next).run P w) := by
  obtain ⟨zv, z1, z2⟩ := zeroOk_run (w := w) hz
  obtain ⟨l1, l2⟩ := rep_cells (cstOk_rep C z2) hzu
  have hzsz : zv.cells.size = sz := by omega
  have hcells : ∀ q, q < n * sz → ((Array.range (n * sz)).map (zv.cells[· % zv.cells.size]!)).getD q undef = zv.cells.getD (q % sz) undef := by
    intro q hq
    rw [agetD_eq (x := zv.cells.getD (q % sz) undef)]
    have : q % sz < zv.cells.size := by rw [hzsz]; exact Nat.mod_lt _ hsz
    simp only [Array.getElem?_map, Array.getElem?_range, if_pos hq, Option.map_some, hzsz]
    congr 1
    rw [getElem!_pos zv.cells (q % sz) this, Array.getD_eq_getD_getElem?, Array.getElem?_eq_getElem this]; rfl
  obtain ⟨cs', xs', f1, f2, f3, f4, f5, f6⟩ := buildSl_fill (C := C) hsz (ps := ps) (qs := qs) (xs := List.replicate n z) (cells := (Array.range (n * sz)).map (zv.cells[· % zv.cells.size]!)) (by simp) (by simp)
    (fun i hi => by rw [show (List.replicate n z).getD i .u = z from getD_eq (by simp [hi])]; exact hzl)
    (fun i j hi hj => by
      rw [show (List.replicate n z).getD i .u = z from getD_eq (by simp [hi]), hcells _ (by
        calc i * sz + j < i * sz + sz := by omega
          _ = (i + 1) * sz := by rw [Nat.add_mul]; omega
          _ ≤ n * sz := Nat.mul_le_mul_right _ hi)]
      have e2 : (i * sz + j) % sz = j := by rw [Nat.mul_comm, Nat.mul_add_mod, Nat.mod_eq_of_lt hj]
      rw [e2]; exact l2 j (by omega)) hlen hp h
  subst f2
  obtain ⟨C', hle, hInv, hrep⟩ := slice_full hI (T := e) f3 hsz f4 f5 f6
  refine Res.made (w' := w.alloc (.cells cs' e)) (cv := .slice (some ⟨w.heap.size, 0, none⟩) n n) ?_ hle hInv hrep
  simp only [Instr.buildSlice, Sem.run_bind, run_underlying ht, Result.andThen_ok, run_sizeOf hs, Sem.run_ite]
  rw [if_neg (by omega)]
  by_cases hn0 : n * sz = 0
  · have f1' : Instr.fill (fun i => some (i * sz, sz)) ((Array.range (n * sz)).map ((#[] : Array Value)[· % (#[] : Array Value).size]!)) ps = some cs' := by
      rw [← f1]; congr 1; rw [hn0]; simp
    simp only [hn0, if_true, Sem.run_pure, Result.andThen_ok]
    rw [hn0] at f1'
    simp only [f1', newRow, Sem.run_bind, run_newObj, Result.andThen_ok, Sem.run_pure, World.alloc_eq]
  · simp only [if_neg hn0, Sem.run_bind, z1, Result.andThen_ok, Sem.run_pure, f1, newRow, run_newObj, World.alloc_eq]
theorem slice_own (hI : Inv G w0 C m w) {xs : List AV} {n sz : Nat} {cells : Array Value} {T : TypeId} (hn : xs.length = n) (hsz : 0 < sz) (hsize : cells.size = n * sz) (hlen : ∀ i, i < n → (xs.getD i .u).cells.length = sz)
    (hr : ∀ i j, i < n → j < sz → Rep C ((xs.getD i .u).cells.getD j .u) (cells.getD (i * sz + j) undef)) :
    ∃ C', Cx.Le C C' ∧ Inv G w0 C' (m.newTok T) (w.alloc (.cells cells T)) ∧ Rep C' (.sl (.tok m.ntok) sz xs) (.slice (some ⟨w.heap.size, 0, none⟩) n n) := by
  have hnew : (w.alloc (.cells cells T)).heap[w.heap.size]? = some (.cells cells T (0, 0)) := heap_alloc_new w _
  have hlt : ∀ b o v, C.St b o v → b < w.heap.size := fun b o v hs => block_lt_of_cell (a := ⟨b, o, none⟩) (hI.st b o v hs)
  have hInv := hI.newTok (w' := w.alloc (.cells cells T)) (b := w.heap.size) (s := n * sz) (e := n * sz) (P := fun o v => o < n * sz ∧ v = cells.getD o undef)
    (hI.below.alloc hI.below.size _) hI.below.size (by simp) (by simp) (fun k hk _ => heap_alloc_old w _ _ hk)
    (fun o v hs => absurd (hlt _ _ _ hs) (by omega)) (fun id hb => absurd (hI.obj _ _ hb).2.2.1 (by omega))
    (fun o v ⟨h1, h2⟩ => ⟨by rw [cell_of_row _ _ _ _ _ _ hnew, agetD_lt (by omega), h2], h1⟩) (fun o v hs => absurd (hlt _ _ _ hs) (by omega))
    ⟨cells, T, 0, 0, hnew, by omega, fun o _ _ => by omega⟩ (fun t s' e' hr => absurd (hI.tok _ _ _ _ hr).2.2.1 (by omega)) ⟨cells, _, hnew⟩
    (fun t ht => by obtain ⟨⟨vs, fr, k⟩, _⟩ := hI.shp _ t ht; exact absurd (Array.getElem?_eq_some_iff.1 k).1 (by omega)) (fun hz => absurd (hI.shut _ hz).2.1 (by omega))
  refine ⟨_, C.le_addS _ _ _ _ _ _, hInv, ?_⟩
  refine .sl (.tok m.ntok) sz xs w.heap.size 0 n n (fun i j => cells.getD (i * sz + j) undef) hn.symm (Nat.le_refl _) hsz (fun h => by cases h) (fun t ht => ?_) hlen (fun i j hi hj => ?_) (fun i j hi hj => (hr i j hi hj).mono (C.le_addS _ _ _ _ _ _))
  · injection ht with ht; subst ht
    right
    exact .inr ⟨rfl, rfl, by omega, by omega⟩
  · right
    have hq : i * sz + j < n * sz := by
      calc i * sz + j < i * sz + sz := by omega
        _ = (i + 1) * sz := by rw [Nat.add_mul]; omega
        _ ≤ n * sz := Nat.mul_le_mul_right _ hi
    exact ⟨rfl, by omega, by rw [Nat.zero_add]⟩
theorem buildSlT_ok (hI : Inv G w0 C m w) {t e : TypeId} {sz n : Nat} {z v : AV} {ps : List (Nat × Value)} {qs : List (Nat × AV)} (ht : P.underlying t = some (.slice e)) (hs : cellsB P e = some sz) (hsz : 0 < sz) (hroom : n * sz ≤ 2 ^ 24)
    (hz : zeroOk P e z = true) (hzu : z ≠ .u) (hzl : z.cells.length = sz) (hlen : ps.length = qs.length) (hp : ∀ (i : Nat) (p : Nat × Value) (q : Nat × AV), ps[i]? = some p → qs[i]? = some q → p.1 = q.1 ∧ Rep C q.2 p.2)
    {v' : AV} {m1 : Mem} (h : buildSlV sz n (List.replicate n z) qs = some v) (h' : ownSl m e (some v) = some (v', m1)) : Res G w0 C m1 v' ((do pure (.value (← Instr.buildSlice t n ps.toArray)) : Sem Next).run P w) := by
  obtain ⟨zv, z1, z2⟩ := zeroOk_run (w := w) hz
  obtain ⟨l1, l2⟩ := rep_cells (cstOk_rep C z2) hzu
  have hzsz : zv.cells.size = sz := by omega
  have hcells : ∀ q, q < n * sz → ((Array.range (n * sz)).map (zv.cells[· % zv.cells.size]!)).getD q undef = zv.cells.getD (q % sz) undef := by
    intro q hq
    rw [agetD_eq (x := zv.cells.getD (q % sz) undef)]
    have : q % sz < zv.cells.size := by rw [hzsz]; exact Nat.mod_lt _ hsz
    simp only [Array.getElem?_map, Array.getElem?_range, if_pos hq, Option.map_some, hzsz]
    congr 1
    rw [getElem!_pos zv.cells (q % sz) this, Array.getD_eq_getD_getElem?, Array.getElem?_eq_getElem this]; rfl
  obtain ⟨cs', xs', f1, f2, f3, f4, f5, f6⟩ := buildSl_fill (C := C) hsz (ps := ps) (qs := qs) (xs := List.replicate n z) (cells := (Array.range (n * sz)).map (zv.cells[· % zv.cells.size]!)) (by simp) (by simp)
    (fun i hi => by rw [show (List.replicate n z).getD i .u = z from getD_eq (by simp [hi])]; exact hzl)
    (fun i j hi hj => by
      rw [show (List.replicate n z).getD i .u = z from getD_eq (by simp [hi]), hcells _ (by
        calc i * sz + j < i * sz + sz := by omega
          _ = (i + 1) * sz := by rw [Nat.add_mul]; omega
          _ ≤ n * sz := Nat.mul_le_mul_right _ hi)]
      have e2 : (i * sz + j) % sz = j := by rw [Nat.mul_comm, Nat.mul_add_mod, Nat.mod_eq_of_lt hj]
      rw [e2]; exact l2 j (by omega)) hlen hp h
  subst f2
  simp only [ownSl, Option.some.injEq, Prod.mk.injEq] at h'
  obtain ⟨rfl, rfl⟩ := h'
  obtain ⟨C', hle, hInv, hrep⟩ := slice_own hI (T := e) f3 hsz f4 f5 f6
  refine Res.made (w' := w.alloc (.cells cs' e)) (cv := .slice (some ⟨w.heap.size, 0, none⟩) n n) ?_ hle hInv hrep
  simp only [Instr.buildSlice, Sem.run_bind, run_underlying ht, Result.andThen_ok, run_sizeOf hs, Sem.run_ite]
  rw [if_neg (by omega)]
  by_cases hn0 : n * sz = 0
  · have f1' : Instr.fill (fun i => some (i * sz, sz)) ((Array.range (n * sz)).map ((#[] : Array Value)[· % (#[] : Array Value).size]!)) ps = some cs' := by
      rw [← f1]; congr 1; rw [hn0]; simp
    simp only [hn0, if_true, Sem.run_pure, Result.andThen_ok]
    rw [hn0] at f1'
    simp only [f1', newRow, Sem.run_bind, run_newObj, Result.andThen_ok, Sem.run_pure, World.alloc_eq]
  · simp only [if_neg hn0, Sem.run_bind, z1, Result.andThen_ok, Sem.run_pure, f1, newRow, run_newObj, World.alloc_eq]
theorem convB_ok (hI : Inv G w0 C m w) {x v : AV} {a : Value} (hx : Rep C x a) {d e : TypeId} (hd : P.underlying d = some (.slice e)) (he : P.underlying e = some (.int .u8)) {m1 : Mem} (h : convBV m x = some (v, m1)) :
    Res G w0 C m1 v ((do pure (.value (← convert d d a)) : Sem Next).run P w) := by
  cases hx with
  | sl0 o sz ad h1 h2 => cases o <;> simp [convBV] at h
  | sl o sz xs b off n cap val h1 h2 h3 h4 h5 h6 h7 h8 =>
    unfold convBV at h
    split at h
    · rename_i t sz' x0 xs0 he'
      injection he' with e1 e2 e3
      subst e1; subst e2; subst e3
      split at h
      · rename_i hlive
        simp only [Option.some.injEq, Prod.mk.injEq] at h
        obtain ⟨rfl, rfl⟩ := h
        have hn : 0 < n := by rw [h1]; simp
        have hR := (h5 t rfl).resolve_left (by omega)
        obtain ⟨t1, t2, t3, t4, t5⟩ := hI.tok _ _ _ _ hR
        obtain ⟨⟨vs, T, lo, hi, hb, k2, k3⟩, _⟩ := t5 hlive
        have hshape : w.shape? b = some (T, vs.size) := by simp only [World.shape?, hb]
        have hf1 : (w.freeze ⟨b, vs.size, none⟩ 1).heap[b]? = some (.cells vs T (if lo == hi then (vs.size, vs.size + 1) else (min lo vs.size, max hi (vs.size + 1)))) := by
          simp only [World.freeze, Nat.one_ne_zero, if_false, Array.getElem?_modify, if_true, hb]; rfl
        have hf2 : ∀ k, k ≠ b → (w.freeze ⟨b, vs.size, none⟩ 1).heap[k]? = w.heap[k]? := by
          intro k hk
          simp only [World.freeze, Nat.one_ne_zero, if_false, Array.getElem?_modify]
          rw [if_neg (Ne.symm hk)]
        have hInv := (hI.kill t).refreeze (w' := w.freeze ⟨b, vs.size, none⟩ 1) (lo' := (if lo == hi then (vs.size, vs.size + 1) else (min lo vs.size, max hi (vs.size + 1))).1) (hi' := (if lo == hi then (vs.size, vs.size + 1) else (min lo vs.size, max hi (vs.size + 1))).2) hb hf1
          (hI.below.trans ⟨rfl, rfl, rfl, by simp [World.freeze], fun k hk => hf2 k (by omega)⟩) (by simp [World.freeze]) hf2 t4
          (fun t' s e' hr hl => by
            simp only [Mem.killTok] at hl
            split at hl
            · cases hl
            · rename_i hne
              exact absurd (hI.toku _ _ _ _ _ _ _ hr hR hl hlive) hne)
        refine Res.made (w' := w.freeze ⟨b, vs.size, none⟩ 1) (cv := .slice (some ⟨b, off, none⟩) n cap) ?_ (.refl C) hInv (.sl .no _ _ b off n cap val h1 h2 h3 (fun h => by cases h) (fun t h => by cases h) h6 h7 h8)
        simp only [convert, Sem.run_bind, run_underlying hd, Result.andThen_ok, beq_self_eq_true, run_underlying he, markStringish, run_shape, hshape, run_freeze, Sem.run_pure]
      · cases h
    · cases h
  | _ => simp [convBV] at h
theorem bytesOf_ok (hI : Inv G w0 C m w) {x : AV} {a : Value} (hx : Rep C x a) {src dst e : TypeId} {s : List UInt8} (hs : P.underlying src = some .string) (hd : P.underlying dst = some (.slice e)) (he : P.underlying e = some (.int .u8)) (h : x = .str s) :
    Res G w0 C (m.newTok e) (.sl (.tok m.ntok) 1 (bytesAV s)) ((do pure (.value (← convert src dst a)) : Sem Next).run P w) := by
  subst h
  cases hx with
  | str _ b hb =>
    have hsz : b.size = s.length := by subst hb; simp
    have hge := grownCap_ge w b.size 0 e
    obtain ⟨c, hc⟩ : ∃ c, c = grownCap w b.size 0 e := ⟨_, rfl⟩
    rw [← hc] at hge
    obtain ⟨C', hle, hInv, hrep, hnI⟩ := slice_new hI (xs := bytesAV s) (n := s.length) (c := c) (sz := 1) (cells := (b.data.map fun b => Value.int .u8 b.toNat) ++ Array.replicate (c - b.size) (.int .u8 0)) (T := e) (by simp [bytesAV]) (by omega) (by omega)
      (by
        have : b.data.size = b.size := rfl
        simp only [Array.size_append, Array.size_map, Array.size_replicate, this, Nat.mul_one]; omega)
      (fun i hi => by rw [show (bytesAV s).getD i .u = byteAV s[i] from getD_eq (by simp [bytesAV, hi])]; rfl)
      (fun i j hi hj => by
        obtain rfl : j = 0 := by omega
        rw [show (bytesAV s).getD i .u = byteAV s[i] from getD_eq (by simp [bytesAV, hi])]
        have e1 : (((b.data.map fun b => Value.int .u8 b.toNat) ++ Array.replicate (c - b.size) (.int .u8 0)) : Array Value)[i * 1 + 0]? = some (.int .u8 s[i].toNat) := by
          subst hb
          simp only [Nat.mul_one, Nat.add_zero]
          have hi' : i < b.data.size := by simpa using hi
          rw [Array.getElem?_append_left (by simpa using hi'), Array.getElem?_map, Array.getElem?_eq_getElem hi']
          simp
        rw [agetD_eq e1]
        exact .int _ _)
    have hnew := heap_alloc_new w.drew (.cells ((b.data.map fun b => Value.int .u8 b.toNat) ++ Array.replicate (c - b.size) (.int .u8 0)) e)
    obtain ⟨cells, hcells⟩ : ∃ cells, cells = (b.data.map fun b => Value.int .u8 b.toNat) ++ Array.replicate (c - b.size) (.int .u8 0) := ⟨_, rfl⟩
    rw [← hcells] at hInv hnew
    have hfz : ((w.drew.alloc (.cells cells e)).freeze ⟨w.heap.size, cells.size, none⟩ 1).heap[w.heap.size]? = some (.cells cells e (cells.size, cells.size + 1)) := by
      simp only [World.freeze, Nat.one_ne_zero, if_false, Array.getElem?_modify, if_true]
      have : (w.drew.alloc (.cells cells e)).heap[w.heap.size]? = some (.cells cells e (0, 0)) := hnew
      rw [this]; rfl
    have hfo : ∀ k, k ≠ w.heap.size → ((w.drew.alloc (.cells cells e)).freeze ⟨w.heap.size, cells.size, none⟩ 1).heap[k]? = (w.drew.alloc (.cells cells e)).heap[k]? := by
      intro k hk
      simp only [World.freeze, Nat.one_ne_zero, if_false, Array.getElem?_modify]
      rw [if_neg (Ne.symm hk)]
    have hInv' := hInv.refreeze (b := w.heap.size) (w' := (w.drew.alloc (.cells cells e)).freeze ⟨w.heap.size, cells.size, none⟩ 1) (lo' := cells.size) (hi' := cells.size + 1) hnew hfz
      (by
        refine hInv.below.trans ⟨rfl, rfl, rfl, by simp [World.freeze], fun k hk => hfo k (by have := hI.below.size; omega)⟩)
      (by simp [World.freeze]) hfo
      hnI
      (fun t s' e' hr hl o h1 h2 => by
        obtain ⟨⟨vs, T, lo, hi, k1, k2, k3⟩, _⟩ := (hInv.tok _ _ _ _ hr).2.2.2.2 hl
        have k1' : (w.drew.alloc (.cells cells e)).heap[w.heap.size]? = some (.cells vs T (lo, hi)) := k1
        rw [show (w.drew.alloc (.cells cells e)).heap[w.heap.size]? = some (.cells cells e (0, 0)) from hnew] at k1'
        injection k1' with k1'; injection k1' with q1 q2 q3
        subst q1; omega)
    refine Res.made (w' := (w.drew.alloc (.cells cells e)).freeze ⟨w.heap.size, cells.size, none⟩ 1) (cv := .slice (some ⟨w.heap.size, 0, none⟩) s.length c) ?_ hle hInv' hrep
    have hshape : (w.drew.alloc (.cells cells e)).shape? w.heap.size = some (e, cells.size) := by
      have hn' : (w.drew.alloc (.cells cells e)).heap[w.heap.size]? = some (.cells cells e (0, 0)) := hnew
      simp only [World.shape?]; rw [hn']
    have hq : Question.cut (.appendCap b.size 0 e) (w.tape w.drawn (.appendCap b.size 0 e)) = c := by rw [hc]; rfl
    have hch : (choose (.appendCap b.size 0 e)).run P w = .ok c w.drew := by
      simp only [run_choose, Question.forced, Bool.false_eq_true, if_false, hq, World.drew_eq]
    simp only [convert, Sem.run_bind, run_underlying hs, run_underlying hd, Result.andThen_ok, run_underlying he, Conv.stringToBytes, hch, newRow, run_newObj, World.alloc_eq, Sem.run_pure, markStringish, run_shape, ← hcells, World.size_drew, hshape, run_freeze]
    rw [hsz]
theorem sliceData_ok (hI : Inv G w0 C m w) {x v : AV} {a : Value} (hx : Rep C x a) {ts : Array TypeId} {ty : TypeId} {m1 : Mem} (h : sliceDataV m x = some (v, m1)) :
    Res G w0 C m1 v ((do pure (.value (← Builtin.unsafeSliceData_ ts ty #[a])) : Sem Next).run P w) := by
  cases hx with
  | nilSl =>
    simp only [sliceDataV, Option.some.injEq, Prod.mk.injEq] at h
    obtain ⟨rfl, rfl⟩ := h
    exact Res.quiet hI (cv := .pointer none) rfl .nilPtr
  | sl0 o sz ad h1 h2 => cases o <;> simp [sliceDataV] at h
  | sl o sz xs b off n cap val h1 h2 h3 h4 h5 h6 h7 h8 =>
    unfold sliceDataV at h
    split at h
    · cases ‹AV.sl o sz xs = AV.nilSl›
    · rename_i t sz' x0 xs0 he
      injection he with e1 e2 e3
      subst e1; subst e2; subst e3
      split at h
      · rename_i hc
        obtain ⟨rfl, hlive, hub⟩ := hc
        simp only [Option.some.injEq, Prod.mk.injEq] at h
        obtain ⟨rfl, rfl⟩ := h
        have hn : 0 < n := by rw [h1]; simp
        have hcap : cap ≠ 0 := by omega
        have hrun : (Builtin.unsafeSliceData_ ts ty #[.slice (some ⟨b, off, none⟩) n cap]).run P w = .ok (.pointer (some ⟨b, off, none⟩)) w := by
          change Sem.run P (if cap ≠ 0 then pure (Value.pointer (some ⟨b, off, none⟩)) else _) w = _
          rw [if_pos hcap]; rfl
        have hone : ∀ i, i < n → ((x0 :: xs0).getD i .u).cells.getD 0 .u = (x0 :: xs0).getD i .u := by
          intro i hi
          obtain ⟨l, hl⟩ := Option.isSome_iff_exists.1 hub
          obtain ⟨q, k1, _⟩ := unbytes_get hl i (by omega)
          rw [k1]; rfl
        have hR := (h5 t rfl).resolve_left (by omega)
        obtain ⟨t1, t2, t3, t4, t5⟩ := hI.tok _ _ _ _ hR
        have hI' := (hI.kill t).seals (b := b) t2 t3 t4 (fun t' s e hr => by
          simp only [Mem.killTok]
          split
          · rfl
          · rename_i hne
            cases hl' : m.live t' with
            | false => rfl
            | true => exact absurd (hI.toku _ _ _ _ _ _ _ hr hR hl' hlive) hne)
        have hle : Cx.Le C { C with Z := fun k => C.Z k ∨ k = b } := ⟨fun _ _ _ h => h, fun _ _ h => h, fun _ _ _ _ h => h, fun _ _ h => h, fun _ h => .inl h, fun _ _ h => h⟩
        refine Res.made (C' := { C with Z := fun k => C.Z k ∨ k = b }) hrun hle hI' ?_
        refine .bptr _ _ b off (fun j => val j 0) (hI.tty _ _ _ _ hR) (.inr rfl) (fun j hj => ?_) (fun j hj => ?_)
        · have := h7 j 0 (by omega) (by omega)
          simpa using this
        · have := (h8 j 0 (by omega) (by omega)).mono hle
          rwa [hone j (by omega)] at this
      · cases h
    · cases h
  | _ => simp [sliceDataV] at h
theorem run_loadBytes : ∀ (l : List UInt8) (b off : Nat) (acc : ByteArray) (w : World), (∀ i, i < l.length → ∃ n : Int, w.cell? ⟨b, off + i, none⟩ = some (.int .u8 n) ∧ l.getD i 0 = n.toNat.toUInt8) →
    (loadBytes ⟨b, off, none⟩ acc l.length).run P w = .ok ⟨acc.data ++ l.toArray⟩ w
  | [], b, off, acc, w, _ => by simp [loadBytes]
  | x :: l, b, off, acc, w, h => by
    obtain ⟨n, h1, h2⟩ := h 0 (by simp)
    have ih := run_loadBytes l b (off + 1) (acc.push x) w (fun i hi => by
      obtain ⟨k, k1, k2⟩ := h (i + 1) (by simpa using hi)
      exact ⟨k, by rw [Nat.add_assoc, Nat.add_comm 1 i]; exact k1, by simpa [List.getD] using k2⟩)
    have h2' : x = n.toNat.toUInt8 := by simpa [List.getD] using h2
    simp only [Nat.add_zero] at h1
    simp only [List.length_cons, loadBytes, Sem.run_bind, run_load, h1, Result.andThen_ok, Addr.add_lit, ← h2', ih]
    congr 2
    simp
theorem unsafeStr_ok (hI : Inv G w0 C m w) {x y v : AV} {a c : Value} (hx : Rep C x a) (hy : Rep C y c) {pt u ty : TypeId} {ts : List TypeId} (hp : P.underlying pt = some (.pointer u)) (hlies : ∀ n off count, off + n ≤ count → liesAt P P.depth u count off u n = true) (hcell : P.cellsOf u = 1)
    (h : unsafeStrV u x y = some v) : Res G w0 C m v ((do pure (.value (← Builtin.unsafeString_ (pt :: ts).toArray ty #[a, c])) : Sem Next).run P w) := by
  cases hy with
  | int k n =>
    cases hx with
    | nilPtr =>
      simp only [unsafeStrV] at h
      split at h
      · rename_i hn; subst hn
        injection h with h; subst h
        refine Res.quiet hI (cv := .string .empty) ?_ (.str _ _ rfl)
        change Sem.run P (do
          let n ← asInt (.int k 0)
          let some pt := (pt :: ts).toArray[0]? | stuck "unsafe.String: no argument types"
          if n < 0 then runtimePanic (.error "unsafe.String: len out of range")
          if n > IntKind.i64.max then unsupported (.unsafePointer "String: a length above the largest int")
          if n = 0 then pure (Value.string .empty)
          else runtimePanic (.error "unsafe.String: ptr is nil and len is not zero")) w = _
        simp [asInt, asIntOf]
      · cases h
    | bptr T cs b off val ht hz h1 h2 =>
      simp only [unsafeStrV] at h
      split at h
      · rename_i hc
        obtain ⟨rfl, rfl, hroom⟩ := hc
        split at h
        · rename_i l hl
          injection h with h; subst h
          unfold roomMax at hroom
          obtain ⟨⟨vs, ⟨lo, hi⟩, hb⟩, hnI⟩ := hI.shp _ _ ht
          obtain ⟨z1, z2, z3, z4⟩ := hI.shut _ hz
          have hll := unbytes_length hl
          have hcells : ∀ i, i < cs.length → ∃ q : Int, w.cell? ⟨b, off + i, none⟩ = some (.int .u8 q) ∧ l.getD i 0 = q.toNat.toUInt8 := by
            intro i hi'
            obtain ⟨q, k1, k2⟩ := unbytes_get hl i hi'
            have := h2 i hi'
            rw [k1] at this
            have e := rep_int this rfl
            exact ⟨q, by rw [hI.st _ _ _ (h1 i hi'), e], k2⟩
          have hfit : cs.length ≠ 0 → off + cs.length ≤ vs.size := by
            intro h0
            obtain ⟨q, k1, _⟩ := hcells (cs.length - 1) (by omega)
            rw [cell_of_row _ _ _ _ _ _ hb] at k1
            have := (Array.getElem?_eq_some_iff.1 k1).1
            omega
          have hbig : ¬ ((cs.length : Int) > IntKind.i64.max) := by rw [IntKind.max_i64]; omega
          have hlb := run_loadBytes (P := P) l b off .empty w (by rw [hll]; exact hcells)
          rw [hll] at hlb
          by_cases h0 : cs.length = 0
          · have hl0 : l = [] := List.eq_nil_of_length_eq_zero (by omega)
            refine Res.quiet hI (cv := .string .empty) ?_ (.str _ _ (by rw [hl0]; rfl))
            change Sem.run P (do
              let n ← asInt (.int k cs.length)
              let some pt := (pt :: ts).toArray[0]? | stuck "unsafe.String: no argument types"
              if n < 0 then runtimePanic (.error "unsafe.String: len out of range")
              if n > IntKind.i64.max then unsupported (.unsafePointer "String: a length above the largest int")
              if n = 0 then pure (Value.string .empty)
              else if ← variablesAt ⟨b, off, none⟩ (← elemOf pt) n.toNat then do
                let s ← loadBytes ⟨b, off, none⟩ .empty n.toNat
                freeze ⟨b, off, none⟩ n.toNat
                pure (Value.string s)
              else unsupported (.unsafePointer "String: not so many bytes at ptr")) w = _
            simp [asInt, asIntOf, h0]
          · have hva : (variablesAt ⟨b, off, none⟩ T cs.length).run P w = .ok true w := by
              simp only [variablesAt, Sem.run_bind, run_program, Result.andThen_ok, run_shape, World.shape?, hb, Sem.run_pure, hcell, Nat.div_one]
              rw [hlies _ _ _ (hfit h0)]
            have hrun : (Builtin.unsafeString_ (pt :: ts).toArray ty #[.pointer (some ⟨b, off, none⟩), .int k cs.length]).run P w = .ok (.string ⟨ByteArray.empty.data ++ l.toArray⟩) (w.freeze ⟨b, off, none⟩ cs.length) := by
              change Sem.run P (do
                let n ← asInt (.int k cs.length)
                let some pt := (pt :: ts).toArray[0]? | stuck "unsafe.String: no argument types"
                if n < 0 then runtimePanic (.error "unsafe.String: len out of range")
                if n > IntKind.i64.max then unsupported (.unsafePointer "String: a length above the largest int")
                if n = 0 then pure (Value.string .empty)
                else if ← variablesAt ⟨b, off, none⟩ (← elemOf pt) n.toNat then do
                  let s ← loadBytes ⟨b, off, none⟩ .empty n.toNat
                  freeze ⟨b, off, none⟩ n.toNat
                  pure (Value.string s)
                else unsupported (.unsafePointer "String: not so many bytes at ptr")) w = _
              have hneg : ¬ ((cs.length : Int) < 0) := by omega
              have hz0 : ¬ ((cs.length : Int) = 0) := by omega
              simp only [asInt, asIntOf, Sem.run_bind, Sem.run_pure, Result.andThen_ok, List.getElem?_toArray, List.getElem?_cons_zero, Sem.run_ite, if_neg hneg, if_neg hbig, if_neg hz0, elemOf, run_underlying hp, Int.toNat_natCast, hva, if_true, hlb, run_freeze]
            have hf1 : (w.freeze ⟨b, off, none⟩ cs.length).heap[b]? = some (.cells vs T (if lo == hi then (off, off + cs.length) else (min lo off, max hi (off + cs.length)))) := by
              simp only [World.freeze, if_neg h0, Array.getElem?_modify, if_true, hb]; rfl
            have hf2 : ∀ k, k ≠ b → (w.freeze ⟨b, off, none⟩ cs.length).heap[k]? = w.heap[k]? := by
              intro k hk
              simp only [World.freeze, if_neg h0, Array.getElem?_modify]
              rw [if_neg (Ne.symm hk)]
            have hInv := hI.refreeze (lo' := (if lo == hi then (off, off + cs.length) else (min lo off, max hi (off + cs.length))).1) (hi' := (if lo == hi then (off, off + cs.length) else (min lo off, max hi (off + cs.length))).2) hb hf1
              (hI.below.trans ⟨by simp only [World.freeze, if_neg h0], by simp only [World.freeze, if_neg h0], by simp only [World.freeze, if_neg h0], by simp only [World.freeze, if_neg h0, Array.size_modify]; exact Nat.le_refl _, fun k hk => hf2 k (by omega)⟩) (by simp only [World.freeze, if_neg h0, Array.size_modify]) hf2 hnI
              (fun t s e hr hl' => by rw [z4 _ _ _ hr] at hl'; cases hl')
            exact Res.made hrun (.refl C) hInv (.str _ _ (by simp [ByteArray.empty, ByteArray.emptyWithCapacity]; rfl))
        · cases h
      · cases h
    | _ => simp [unsafeStrV] at h
  | _ => cases x <;> simp [unsafeStrV] at h
theorem convP_ok (hI : Inv G w0 C m w) {x v : AV} {a : Value} (hx : Rep C x a) {src dst t : TypeId} {n : Nat} (hs : P.underlying src = some (.pointer t)) (hd : P.underlying dst = some .unsafePointer) (hn : cellsB P t = some n) (hn0 : n ≠ 0) (h : convPV m x = some v) :
    Res G w0 C m v ((do pure (.value (← convert src dst a)) : Sem Next).run P w) := by
  cases hx with
  | nilPtr =>
    simp only [convPV, Option.some.injEq] at h; subst h
    refine Res.quiet hI (cv := .pointer none) ?_ .nilPtr
    simp only [convert, Sem.run_bind, run_underlying hs, run_underlying hd, Result.andThen_ok, Conv.unsafePointer, Sem.run_pure]
  | ptr id off b hb =>
    simp only [convPV] at h
    split at h
    · rename_i T cs hc
      split at h
      · rename_i hlt
        injection h with h; subst h
        obtain ⟨_, _, _, ho⟩ := hI.obj id b hb
        rw [hc] at ho
        obtain ⟨vs, h1, h2, h3⟩ := ho
        have hshape : w.shape? b = some (T, vs.size) := by simp [World.shape?, h1]
        refine Res.quiet hI (cv := .pointer (some ⟨b, off, none⟩)) ?_ (.ptr _ _ _ hb)
        have hge : ¬ (off ≥ vs.size) := by omega
        simp only [convert, Sem.run_bind, run_underlying hs, run_underlying hd, Result.andThen_ok, Conv.unsafePointer, Conv.seenAt, viewAt, run_shape, hshape, Option.isSome_some, if_true, Sem.run_pure, cellsIn, run_sizeOf hn, Sem.run_ite]
        simp [hn0, hge, hlt, h2]
        intro h'; omega
      · cases h
    · cases h
  | _ => simp [convPV] at h
theorem convU_ok (hI : Inv G w0 C m w) {x v : AV} {a : Value} (hx : Rep C x a) {src dst u : TypeId} {alts : List (TypeId × Nat × Nat)} (hs : P.underlying src = some .unsafePointer) (hd : P.underlying dst = some (.pointer u))
    (hal : ∀ p ∈ alts, liesAt P P.depth p.1 (p.2.1 / P.cellsOf p.1) p.2.2 u 1 = true) (hu : ∃ n, cellsB P u = some n) (h : convUV m alts x = some v) :
    Res G w0 C m v ((do pure (.value (← convert src dst a)) : Sem Next).run P w) := by
  obtain ⟨n, hn⟩ := hu
  cases hx with
  | nilPtr =>
    simp only [convUV, Option.some.injEq] at h; subst h
    refine Res.quiet hI (cv := .pointer none) ?_ .nilPtr
    simp only [convert, Sem.run_bind, run_underlying hs, run_underlying hd, Result.andThen_ok, Conv.unsafePointer, Sem.run_pure]
  | ptr id off b hb =>
    simp only [convUV] at h
    split at h
    · rename_i T cs hc
      split at h
      · rename_i hany
        injection h with h; subst h
        obtain ⟨p, hp, hq⟩ := List.any_eq_true.1 hany
        simp only [Bool.and_eq_true, decide_eq_true_eq] at hq
        obtain ⟨⟨q1, q2⟩, q3⟩ := hq
        have hl := hal p hp
        rw [q1, q2, q3] at hl
        obtain ⟨_, _, _, ho⟩ := hI.obj id b hb
        rw [hc] at ho
        obtain ⟨vs, h1, h2, h3⟩ := ho
        have hshape : w.shape? b = some (T, vs.size) := by simp [World.shape?, h1]
        have hva : (variablesAt ⟨b, off, none⟩ u 1).run P w = .ok true w := by
          simp only [variablesAt, Sem.run_bind, run_program, Result.andThen_ok, run_shape, hshape, Sem.run_pure, h2, hl]
        refine Res.quiet hI (cv := .pointer (some ⟨b, off, none⟩)) ?_ (.ptr _ _ _ hb)
        simp only [convert, Sem.run_bind, run_underlying hs, run_underlying hd, Result.andThen_ok, Conv.unsafePointer, Conv.seenAt, viewAt, run_shape, hshape, Option.isSome_some, if_true, Sem.run_pure, run_sizeOf hn, hva, Sem.run_ite]
        simp
      · cases h
    · cases h
  | _ => simp [convUV] at h
theorem indexB_spec (c : UInt8) : ∀ l : List UInt8, (indexB c l = -1 ∧ ∀ i, i < l.length → l.getD i 0 ≠ c) ∨ ∃ i : Nat, i < l.length ∧ indexB c l = i ∧ l.getD i 0 = c ∧ ∀ j, j < i → l.getD j 0 ≠ c
  | [] => .inl ⟨rfl, fun i h => absurd h (by simp)⟩
  | b :: l => by
    by_cases hb : b = c
    · exact .inr ⟨0, by simp, by simp [indexB, hb], by simp [hb], fun j hj => absurd hj (by omega)⟩
    · rcases indexB_spec c l with ⟨h1, h2⟩ | ⟨i, h1, h2, h3, h4⟩
      · refine .inl ⟨by simp [indexB, hb, h1], fun i hi => ?_⟩
        cases i with
        | zero => simpa using hb
        | succ i => simpa using h2 i (by simpa using hi)
      · refine .inr ⟨i + 1, by simpa using h1, ?_, by simpa using h3, fun j hj => ?_⟩
        · simp only [indexB, if_neg hb, h2]
          have : ¬ ((i : Int) < 0) := by omega
          simp only [if_neg this]; push_cast; rfl
        · cases j with
          | zero => simpa using hb
          | succ j => simpa using h4 j (by omega)
theorem find_range (s : ByteArray) (c : UInt8) : firstIdx s c = indexB c s.data.toList := by
  have hget : ∀ i, i < s.data.toList.length → s[i]! = s.data.toList.getD i 0 := by
    intro i hi
    have hi' : i < s.size := by simpa using hi
    rw [getElem!_pos s i hi', getD_eq (List.getElem?_eq_getElem hi)]
    rfl
  have hsz : s.size = s.data.toList.length := by simp
  unfold firstIdx
  rcases indexB_spec c s.data.toList with ⟨h1, h2⟩ | ⟨i, h1, h2, h3, h4⟩
  · have : (List.range s.size).find? (fun i => s[i]! == c) = none := by
      rw [List.find?_eq_none]
      intro i hi
      have hi' : i < s.data.toList.length := by rw [← hsz]; simpa using hi
      rw [hget i hi']
      simpa using h2 i hi'
    rw [this, h1]
  · have : (List.range s.size).find? (fun i => s[i]! == c) = some i := by
      rw [List.find?_range_eq_some]
      refine ⟨by rw [hget i h1]; simpa using h3, by simp; omega, fun j hj => ?_⟩
      rw [hget j (by omega)]
      simpa using h4 j hj
    rw [this, h2]
theorem idxByte_ok (hI : Inv G w0 C m w) {x y v : AV} {a c : Value} (hx : Rep C x a) (hy : Rep C y c) {f : FuncId} {fn : Func} (hf : P.funcs[f]? = some fn) (hname : (fn.name == "runtime.NumGoroutine") = false) (hb : fn.body.isNone = true) (hn : Extern.findNext fn = none)
    (he : Extern.find fn = some Extern.BytealgIndexByte.indexByte) (h : idxByteV x y = some v) : Res G w0 C m v ((callFunc f #[a, c]).run P w) := by
  cases hx with
  | str l s e =>
    cases hy with
    | int k n =>
      cases k <;> simp only [idxByteV] at h <;> try (cases h; done)
      injection h with h; subst h; subst e
      refine ⟨.value (.int .i64 (indexB (UInt8.ofNat n.toNat) s.data.toList)), w, C, ?_, .refl C, hI, .int _ _⟩
      rw [run_callFunc_extern hf hname hb hn he, run_indexByte_string, find_range]
      rfl
    | _ => simp [idxByteV] at h
  | _ => cases y <;> simp [idxByteV] at h
theorem noEscape_ok (hI : Inv G w0 C m w) {x : AV} {a : Value} (hx : Rep C x a) {f : FuncId} {fn : Func} (hf : P.funcs[f]? = some fn) (hname : (fn.name == "runtime.NumGoroutine") = false) (hb : fn.body.isNone = true) (hn : Extern.findNext fn = none)
    (he : Extern.find fn = some Extern.AbiNoEscape.same) : Res G w0 C m x ((callFunc f #[a]).run P w) := by
  refine ⟨.value a, w, C, ?_, .refl C, hI, hx⟩
  rw [run_callFunc_extern hf hname hb hn he]
  rfl
end
end Go.Proofs.YtkjokjogdehonaaGreatDoor.Am
namespace Go.Proofs.YtkjokjogdehonaaGreatDoor.Am
open Go Go.RowKit
section
variable {G : Nat → Option (List AV)} {w0 : World} {C : Cx} {m : Mem} {w : World} {P : Program}
theorem mkMap_ok (hI : Inv G w0 C m w) {t : TypeId} : Res G w0 C (m.alloc (.map [])) (.map m.next) ((do pure (.value (← Instr.makeMap t none)) : Sem Next).run P w) := by
  refine Res.made (w' := w.alloc (.map #[] 0)) (C' := C.addI m.next w.heap.size) (cv := .map (some w.heap.size)) ?_ (C.le_addI _ _) (hI.alloc_obj fun C' _ => ⟨#[], 0, heap_alloc_new _ _, rfl, fun i hi => absurd hi (by simp)⟩) (.map _ _ (.inr ⟨rfl, rfl⟩))
  simp [Instr.makeMap]
def kindFits (d : TypeDesc) (k : AV) : Bool :=
  match d, k with
  | .int _, .int _ _ => true
  | .string, .str _ => true
  | .bool, .bool _ => true
  | _, _ => false
theorem keyEq_sameNow {k k' : AV} {a b : Value} (hk : Rep C k a) (hk' : Rep C k' b) {r : Bool} (h : keyEq k k' = some r) {d : TypeDesc} (hd : kindFits d k = true) : Instr.sameNow d a b = some r := by
  cases hk with
  | int q n =>
    cases hk' with
    | int q' n' =>
      simp only [keyEq] at h
      split at h
      · rename_i hkk; subst hkk; injection h with h; subst h
        cases d <;> simp [kindFits] at hd <;> simp [Instr.sameNow]
      · cases h
    | _ => simp [keyEq] at h
  | str l s1 e1 =>
    cases hk' with
    | str l' s2 e2 =>
      simp only [keyEq, Option.some.injEq] at h; subst h
      cases d <;> simp [kindFits] at hd <;> simp [Instr.sameNow, beq_str e1 e2]
    | _ => simp [keyEq] at h
  | bool p =>
    cases hk' with
    | bool p' =>
      simp only [keyEq, Option.some.injEq] at h; subst h
      cases d <;> simp [kindFits] at hd <;> simp [Instr.sameNow]
    | _ => simp [keyEq] at h
  | _ => cases k' <;> simp [keyEq] at h
def Entries (C : Cx) (es : List (AV × AV)) (ents : List MapEntry) : Prop :=
  ents.length = es.length ∧ ∀ i, i < es.length → isKey (es.getD i (.u, .u)).1 = true ∧ Rep C (es.getD i (.u, .u)).1 (ents.getD i default).key ∧ Rep C (es.getD i (.u, .u)).2 (ents.getD i default).val
theorem Entries.tail {e : AV × AV} {es : List (AV × AV)} {x : MapEntry} {ents : List MapEntry} (h : Entries C (e :: es) (x :: ents)) : (isKey e.1 = true ∧ Rep C e.1 x.key ∧ Rep C e.2 x.val) ∧ Entries C es ents := by
  refine ⟨by simpa using h.2 0 (by simp), by simpa using h.1, fun i hi => ?_⟩
  have := h.2 (i + 1) (by simpa using hi)
  simpa using this
theorem findNow_run {k : AV} {a : Value} (hk : Rep C k a) {d : TypeDesc} (hd : kindFits d k = true) : ∀ {es : List (AV × AV)} {ents : List MapEntry} (n : Nat) {r : Option AV}, Entries C es ents → mapFind k es = some r →
    match r with
    | some v => ∃ i, i < es.length ∧ (∃ k', es[i]? = some (k', v) ∧ keyEq k k' = some true) ∧ (∀ j, j < i → ∃ e : AV × AV, es[j]? = some e ∧ keyEq k e.1 = some false) ∧ ∃ cv, Instr.findNow d a ents n = some (some (n + i, cv)) ∧ Rep C v cv ∧ (ents.getD i default).val = cv
    | none => Instr.findNow d a ents n = some none ∧ ∀ (j : Nat) (e : AV × AV), es[j]? = some e → keyEq k e.1 = some false
  | [], ents, n, r, he, h => by
    simp only [mapFind, Option.some.injEq] at h; subst h
    have : ents = [] := List.eq_nil_of_length_eq_zero (by simpa using he.1)
    subst this
    exact ⟨rfl, fun j e h => by simp at h⟩
  | (k', v') :: es, [], n, r, he, h => by simp [Entries] at he
  | (k', v') :: es, x :: ents, n, r, he, h => by
    obtain ⟨⟨q1, q2, q3⟩, he'⟩ := he.tail
    simp only [mapFind] at h
    split at h
    · rename_i hq
      injection h with h; subst h
      refine ⟨0, by simp, ⟨k', rfl, hq⟩, fun j hj => absurd hj (by omega), x.val, ?_, q3, rfl⟩
      simp only [Instr.findNow, keyEq_sameNow hk q2 hq hd]; rfl
    · rename_i hq
      have ih := findNow_run hk hd (n + 1) he' h
      have hstep : Instr.findNow d a (x :: ents) n = Instr.findNow d a ents (n + 1) := by
        simp only [Instr.findNow, keyEq_sameNow hk q2 hq hd]
      cases r with
      | none =>
        refine ⟨by rw [hstep]; exact ih.1, fun j e hj => ?_⟩
        cases j with
        | zero => simp at hj; subst hj; exact hq
        | succ j => exact ih.2 j e (by simpa using hj)
      | some v =>
        obtain ⟨i, h1, ⟨k2, h2, h3⟩, h4, cv, h5, h6, h7⟩ := ih
        refine ⟨i + 1, by simpa using h1, ⟨k2, by simpa using h2, h3⟩, fun j hj => ?_, cv, by rw [hstep, h5]; congr 3; omega, h6, by simpa using h7⟩
        cases j with
        | zero => exact ⟨_, rfl, hq⟩
        | succ j => simpa using h4 j (by omega)
    · cases h
def kkOk (d : TypeDesc) (kd : KK) : Bool :=
  match d, kd with
  | .int _, .int => true
  | .string, .str => true
  | .bool, .bool => true
  | _, _ => false
theorem kind_fits {d : TypeDesc} {kd : KK} {k : AV} (h : isKK kd k = true) (hd : kkOk d kd = true) : kindFits d k = true := by
  cases kd <;> cases k <;> simp [isKK] at h <;> cases d <;> simp [kkOk] at hd <;> rfl
theorem run_checkKey {e : Bool} {n : Nat} {t : TypeId} {d : TypeDesc} (hu : P.underlying t = some d) {k : AV} (hd : kindFits d k = true) (a : Value) : (Instr.checkKey e (n + 1) t a).run P w = .ok () w := by
  unfold kindFits at hd
  split at hd
  · simp [Instr.checkKey, run_underlying hu]
  · simp [Instr.checkKey, run_underlying hu]
  · simp [Instr.checkKey, run_underlying hu]
  · cases hd
theorem map_obj (hI : Inv G w0 C m w) {id b : Nat} (hb : C.I id b) {es : List (AV × AV)} (hc : m.get id = .map es) : ∃ ents clk, w.heap[b]? = some (.map ents clk) ∧ Entries C es ents.toList ∧ (getObj b).run P w = .ok (.map ents clk) w := by
  obtain ⟨_, _, _, ho⟩ := hI.obj id b hb
  rw [hc] at ho
  obtain ⟨ents, clk, h1, h2, h3⟩ := ho
  refine ⟨ents, clk, h1, ⟨by simpa using h2, fun i hi => ?_⟩, by simp [getObj, Sem.run, h1]⟩
  have := h3 i hi
  simpa [Array.getD_eq_getD_getElem?, List.getD_eq_getElem?_getD] using this
theorem lookup_ok (hI : Inv G w0 C m w) {x k v z : AV} {a c : Value} (hx : Rep C x a) (hk : Rep C k c) {t kt et : TypeId} {d : TypeDesc} {ok : Bool} (ht : P.underlying t = some (.map kt et)) (hd : P.underlying kt = some d) (hfit : kindFits d k = true) (hz : zeroOk P et z = true)
    (h : lookupV m z ok x k = some v) : Res G w0 C m v ((do pure (.value (← Instr.lookup t a c ok)) : Sem Next).run P w) := by
  obtain ⟨zv, z1, z2⟩ := zeroOk_run (w := w) hz
  have hzr := cstOk_rep C z2
  have pair : ∀ (p q : AV) (c e : Value), Rep C p c → Rep C q e → Rep C (.tup [p, q]) (.tuple #[c, e]) := by
    intro p q c e hp hq
    refine .tup _ _ rfl fun i hi => ?_
    match i, hi with
    | 0, _ => exact hp
    | 1, _ => exact hq
  cases hx with
  | nilMap =>
    simp only [lookupV, Option.some.injEq] at h; subst h
    refine Res.quiet hI (cv := if ok then .tuple #[zv, .bool false] else zv) ?_ (by cases ok <;> first | exact hzr | exact pair _ _ _ _ hzr (.bool _))
    simp only [Instr.lookup, Sem.run_bind, run_underlying ht, Result.andThen_ok, Sem.run_pure, run_checkKey hd hfit c, Instr.findKey, run_underlying hd, Instr.findNow, z1]
  | map id b hb =>
    simp only [lookupV] at h
    split at h
    · rename_i es hes
      obtain ⟨ents, clk, h1, h2, h3⟩ := map_obj (P := P) hI hb hes
      split at h
      · rename_i fv hf
        injection h with h; subst h
        obtain ⟨i, _, _, _, cv, f1, f2, _⟩ := findNow_run hk hfit 0 h2 hf
        refine Res.quiet hI (cv := if ok then .tuple #[cv, .bool true] else cv) ?_ (by cases ok <;> first | exact f2 | exact pair _ _ _ _ f2 (.bool _))
        simp only [Instr.lookup, Sem.run_bind, run_underlying ht, Result.andThen_ok, Sem.run_pure, h3, run_checkKey hd hfit c, Instr.findKey, run_underlying hd, f1]
      · rename_i hf
        injection h with h; subst h
        obtain ⟨f1, _⟩ := findNow_run hk hfit 0 h2 hf
        refine Res.quiet hI (cv := if ok then .tuple #[zv, .bool false] else zv) ?_ (by cases ok <;> first | exact hzr | exact pair _ _ _ _ hzr (.bool _))
        simp only [Instr.lookup, Sem.run_bind, run_underlying ht, Result.andThen_ok, Sem.run_pure, h3, run_checkKey hd hfit c, Instr.findKey, run_underlying hd, f1, z1]
      · cases h
    · cases h
  | _ => simp [lookupV] at h
theorem keyEq_true {k k' : AV} (h : keyEq k k' = some true) : k = k' := by
  unfold keyEq at h
  split at h
  · split at h
    · rename_i hkk; subst hkk; injection h with h; rw [eq_of_beq h]
    · cases h
  · injection h with h; rw [eq_of_beq h]
  · injection h with h; rw [eq_of_beq h]
  · cases h
theorem key_same {k : AV} {a b : Value} (hk : Rep C k a) (hk' : Rep C k b) (h : isKey k = true) : Instr.sameBits 10000 a b = true := by
  cases hk <;> simp [isKey] at h <;> cases hk'
  · simp [Instr.sameBits]
  · simp [Instr.sameBits]
  · rename_i l s1 e1 s2 e2
    have := beq_str e1 e2
    simp [Instr.sameBits, this]
theorem mapPut_hit {k v : AV} : ∀ {es : List (AV × AV)} {i : Nat} {k' y : AV}, es[i]? = some (k', y) → keyEq k k' = some true → (∀ j, j < i → ∃ e : AV × AV, es[j]? = some e ∧ keyEq k e.1 = some false) → mapPut k v es = es.set i (k, v)
  | [], i, k', y, h, _, _ => by simp at h
  | (k0, u0) :: es, i, k', y, h, hk, hb => by
    cases i with
    | zero =>
      simp only [List.getElem?_cons_zero, Option.some.injEq, Prod.mk.injEq] at h
      obtain ⟨rfl, rfl⟩ := h
      simp [mapPut, hk]
    | succ i =>
      obtain ⟨e, h1, h2⟩ := hb 0 (by omega)
      simp only [List.getElem?_cons_zero, Option.some.injEq] at h1; subst h1
      simp only [mapPut]
      rw [if_neg (by rw [h2]; simp), mapPut_hit (by simpa using h) hk (fun j hj => by simpa using hb (j + 1) (by omega))]
      rfl
theorem mapPut_miss {k v : AV} : ∀ {es : List (AV × AV)}, (∀ (j : Nat) (e : AV × AV), es[j]? = some e → keyEq k e.1 = some false) → mapPut k v es = es ++ [(k, v)]
  | [], _ => rfl
  | (k0, u0) :: es, h => by
    simp only [mapPut]
    rw [if_neg (by rw [h 0 _ rfl]; simp), mapPut_miss (fun j e he => h (j + 1) e (by simpa using he))]
    rfl
theorem mapUpd_ok (hI : Inv G w0 C m w) {x k v : AV} {a c vv : Value} (hx : Rep C x a) (hk : Rep C k c) (hv : Rep C v vv) {t kt et : TypeId} {d : TypeDesc} (ht : P.underlying t = some (.map kt et)) (hd : P.underlying kt = some d) (hfit : kindFits d k = true)
    {m1 : Mem} (h : mapUpdV m x k v = some m1) : Res G w0 C m1 (.tup []) ((do Instr.mapUpdate t a c vv; pure .skip : Sem Next).run P w) := by
  cases hx with
  | map id b hb =>
    simp only [mapUpdV] at h
    split at h
    · rename_i es hes
      split at h
      · rename_i hc
        obtain ⟨c1, c2, c3⟩ := hc
        injection h with h; subst h
        obtain ⟨ents, clk, h1, h2, h3⟩ := map_obj (P := P) hI hb hes
        obtain ⟨q1, q2, q3, _⟩ := hI.obj id b hb
        have hset : ∀ (o : Obj), (setObj b o).run P w = .ok () { w with heap := w.heap.setIfInBounds b o } := fun o => by simp [setObj, Sem.run, h1]
        have hbelow : ∀ o, Below w0.heap.size w0 { w with heap := w.heap.setIfInBounds b o } := fun o =>
          hI.below.trans ⟨rfl, rfl, rfl, by simp, fun i hi => by simp only [Array.getElem?_setIfInBounds]; rw [if_neg (by omega)]⟩
        have hother : ∀ o k, k ≠ b → ({ w with heap := w.heap.setIfInBounds b o } : World).heap[k]? = w.heap[k]? := fun o k hk => by
          simp only [Array.getElem?_setIfInBounds]; rw [if_neg (Ne.symm hk)]
        have hsame : ∀ o, ({ w with heap := w.heap.setIfInBounds b o } : World).heap[b]? = some o := fun o => by
          simp only [Array.getElem?_setIfInBounds]; simp [q3]
        cases hf : mapFind k es with
        | none => rw [hf] at c2; simp at c2
        | some r =>
          have hfr := findNow_run hk hfit 0 h2 hf
          cases r with
          | some old =>
            obtain ⟨i, f1, ⟨k', f2, f3⟩, f4, cv, f5, f6, f7⟩ := hfr
            have hkk := keyEq_true f3
            subst hkk
            rw [Nat.zero_add] at f5
            have hil : i < ents.size := by rw [← Array.length_toList, h2.1]; exact f1
            obtain ⟨e1, e2, e3⟩ := h2.2 i f1
            have ek : (es.getD i (.u, .u)).1 = k := by rw [getD_eq f2]
            rw [ek] at e1 e2
            have hkey : ents[i]? = some (ents.toList.getD i default) := by
              rw [Array.getElem?_eq_getElem hil]; simp [List.getD, hil]
            have hsb := key_same e2 hk e1
            refine Res.done (w' := { w with heap := w.heap.setIfInBounds b (.map (ents.modify i fun e => { e with key := c, val := vv }) clk) }) ?_ (.refl C)
              (hI.write_obj hb (by rw [hes]; simp) (hbelow _) (by simp) (hother _) ?_ (fun e he => absurd he (hI.kmap hb hes e)))
            · simp only [Instr.mapUpdate, Sem.run_bind, run_underlying ht, Result.andThen_ok, h3, run_checkKey hd hfit c, Instr.findKey, run_underlying hd, f5, Sem.run_pure, hkey, Option.map_some, Option.getD_some, Instr.keyThatStays, Sem.run_ite, hsb, if_true, hset]
            · rw [mapPut_hit f2 f3 f4]
              refine ⟨_, clk, hsame _, by simp; exact h2.1, fun j hj => ?_⟩
              simp only [List.length_set] at hj
              have hjl : j < ents.size := by rw [← Array.length_toList, h2.1]; exact hj
              by_cases ej : j = i
              · subst ej
                have g1 : (es.set j (k, v)).getD j (.u, .u) = (k, v) := by simp [List.getD, List.getElem?_set_self hj]
                have g2 : (ents.modify j fun e => { e with key := c, val := vv }).getD j default = { ents.toList.getD j default with key := c, val := vv } := by
                  rw [Array.getD_eq_getD_getElem?, Array.getElem?_modify, if_pos rfl, Array.getElem?_eq_getElem hjl]
                  simp [List.getD, hjl]
                rw [g1, g2]; exact ⟨c1, hk, hv⟩
              · have g1 : (es.set i (k, v)).getD j (.u, .u) = es.getD j (.u, .u) := by simp [List.getD, List.getElem?_set_ne (Ne.symm ej)]
                have g2 : (ents.modify i fun e => { e with key := c, val := vv }).getD j default = ents.toList.getD j default := by
                  simp [Array.getD_eq_getD_getElem?, Array.getElem?_modify, Ne.symm ej, List.getD]
                rw [g1, g2]; exact h2.2 j hj
          | none =>
            obtain ⟨f1, f2⟩ := hfr
            refine Res.done (w' := { w with heap := w.heap.setIfInBounds b (.map (ents.push { key := c, val := vv, born := clk }) (clk + 1)) }) ?_ (.refl C)
              (hI.write_obj hb (by rw [hes]; simp) (hbelow _) (by simp) (hother _) ?_ (fun e he => absurd he (hI.kmap hb hes e)))
            · simp only [Instr.mapUpdate, Sem.run_bind, run_underlying ht, Result.andThen_ok, h3, run_checkKey hd hfit c, Instr.findKey, run_underlying hd, f1, Sem.run_pure, hset]
            · rw [mapPut_miss f2]
              have hlen : ents.size = es.length := by rw [← Array.length_toList]; exact h2.1
              refine ⟨_, clk + 1, hsame _, by simp; exact hlen, fun j hj => ?_⟩
              simp only [List.length_append, List.length_cons, List.length_nil] at hj
              by_cases ej : j < es.length
              · have g1 : (es ++ [(k, v)]).getD j (.u, .u) = es.getD j (.u, .u) := by simp [List.getD, List.getElem?_append_left ej]
                have g2 : (ents.push { key := c, val := vv, born := clk }).getD j default = ents.toList.getD j default := by
                  have : j ≠ ents.size := by omega
                  simp [Array.getD_eq_getD_getElem?, Array.getElem?_push, this, List.getD]
                rw [g1, g2]; exact h2.2 j ej
              · have ej' : j = es.length := by omega
                subst ej'
                have g1 : (es ++ [(k, v)]).getD es.length (.u, .u) = (k, v) := by simp [List.getD]
                have g2 : (ents.push { key := c, val := vv, born := clk }).getD es.length default = { key := c, val := vv, born := clk } := by
                  simp [Array.getD_eq_getD_getElem?, ← hlen]
                rw [g1, g2]; exact ⟨c1, hk, hv⟩
      · cases h
    · cases h
  | _ => simp [mapUpdV] at h
theorem rangeS_ok (hI : Inv G w0 C m w) {x : AV} {a : Value} (hx : Rep C x a) {t : TypeId} {s : List UInt8} (ht : P.underlying t = some .string) (h : x = .str s) :
    Res G w0 C (m.alloc (.iter s 0)) (.ptr m.next 0) ((do pure (.value (← Instr.range t a)) : Sem Next).run P w) := by
  subst h
  cases hx with
  | str _ b e =>
    refine Res.made (w' := w.alloc (.stringIter b 0)) (C' := C.addI m.next w.heap.size) (cv := .pointer (some ⟨w.heap.size, 0, none⟩)) ?_ (C.le_addI _ _) (hI.alloc_obj fun C' _ => ⟨b, heap_alloc_new _ _, e⟩) (rep_new _ _ _)
    simp [Instr.range, run_underlying ht]
theorem nextS_ok (hI : Inv G w0 C m w) {x v : AV} {a : Value} (hx : Rep C x a) {ty : TypeId} {m1 : Mem} (h : nextV m x = some (v, m1)) :
    Res G w0 C m1 v ((do pure (.value (← Instr.next a true ty)) : Sem Next).run P w) := by
  cases hx with
  | ptr id off b hb =>
    unfold nextV at h
    split at h
    · rename_i id' he
      injection he with e1 e2
      subst e1; subst e2
      split at h
      · rename_i s pos hes
        obtain ⟨q1, q2, q3, ho⟩ := hI.obj id b hb
        rw [hes] at ho
        obtain ⟨bs, h1, h2⟩ := ho
        have hg : (getObj b).run P w = .ok (.stringIter bs pos) w := by simp [getObj, Sem.run, h1]
        have hsz : bs.size = s.length := by subst h2; simp
        have hbs : (⟨s.toArray⟩ : ByteArray) = bs := by subst h2; simp
        split at h
        · rename_i hlt
          simp only [Option.some.injEq, Prod.mk.injEq] at h
          obtain ⟨rfl, rfl⟩ := h
          rw [hbs]
          have hset : ∀ (o : Obj), (setObj b o).run P w = .ok () { w with heap := w.heap.setIfInBounds b o } := fun o => by simp [setObj, Sem.run, h1]
          refine Res.made (w' := { w with heap := w.heap.setIfInBounds b (.stringIter bs (pos + (Utf8.decode bs pos).2)) }) (C' := C) (cv := .tuple #[.bool true, goInt pos, .int .i32 (Utf8.decode bs pos).1]) ?_ (.refl C)
            (hI.write_obj hb (by rw [hes]; simp) (hI.below.trans ⟨rfl, rfl, rfl, by simp, fun i hi => by simp only [Array.getElem?_setIfInBounds]; rw [if_neg (by omega)]⟩) (by simp) (fun k hk => by simp only [Array.getElem?_setIfInBounds]; rw [if_neg (Ne.symm hk)])
              ⟨bs, by simp only [Array.getElem?_setIfInBounds]; simp [q3], h2⟩ (fun e he => absurd he (hI.kiter hb hes e))) ?_
          · have hlt' : pos < bs.size := by omega
            simp only [Instr.next, Sem.run_bind, hg, Result.andThen_ok, Sem.run_ite, if_pos hlt', hset, Sem.run_pure]
          · refine .tup _ _ rfl fun i hi => ?_
            match i, hi with
            | 0, _ => exact .bool _
            | 1, _ => exact .int _ _
            | 2, _ => exact .int _ _
        · rename_i hlt
          simp only [Option.some.injEq, Prod.mk.injEq] at h
          obtain ⟨rfl, rfl⟩ := h
          refine Res.quiet hI (cv := .tuple #[.bool false]) ?_ (.tup _ _ rfl fun i hi => ?_)
          · have hlt' : ¬ pos < bs.size := by omega
            simp only [Instr.next, Sem.run_bind, hg, Result.andThen_ok, Sem.run_ite, if_neg hlt', Sem.run_pure]
          · match i, hi with
            | 0, _ => exact .bool _
      · cases h
    · cases h
  | _ => simp [nextV] at h
end
end Go.Proofs.YtkjokjogdehonaaGreatDoor.Am
namespace Go.Proofs.YtkjokjogdehonaaGreatDoor.Am
open Go Go.RowKit
section
variable {G : Nat → Option (List AV)} {w0 : World} {C : Cx} {m : Mem} {w : World} {P : Program}
def Cx.addE (C : Cx) (b e : Nat) : Cx := { C with K := fun b' e' => C.K b' e' ∨ (b' = b ∧ e' = e) }
theorem Cx.le_addE (C : Cx) (b e : Nat) : Cx.Le C (C.addE b e) := ⟨fun _ _ _ h => h, fun _ _ h => h, fun _ _ _ _ h => h, fun _ _ h => h, fun _ h => h, fun _ _ h => .inl h⟩
theorem Inv.knowK (h : Inv G w0 C m w) {id b e : Nat} (hb : C.I id b) {vs : Array Value} {T : TypeId} {fr : Nat × Nat} (hv : w.heap[b]? = some (.cells vs T fr)) (he : e ≤ vs.size) : Inv G w0 (C.addE b e) m w :=
  have hle := C.le_addE b e
  { below := h.below, st := h.st, obj := fun id b hb => let ⟨q1, q2, q3, q4⟩ := h.obj id b hb; ⟨q1, q2, q3, q4.mono hle⟩, inj := h.inj, func := h.func, sti := h.sti, tok := h.tok, shp := h.shp, tty := h.tty
    shut := h.shut, tokf := h.tokf, toku := h.toku
    kap := fun b' e' hk => by
      rcases hk with hk | ⟨rfl, rfl⟩
      · exact h.kap _ _ hk
      · exact ⟨⟨id, hb⟩, vs, T, fr, hv, he⟩
    glob := fun g cs hg => (h.glob g cs hg).mono hle }
theorem Mem.set_self {m : Mem} {id : Nat} {o : AObj} (h : m.get id = o) : m.set id o = m := by
  cases m with
  | mk g n l k t =>
    simp only [Mem.set, Mem.mk.injEq, and_true]
    funext j
    by_cases e : j = id
    · rw [if_pos e, e]; exact h.symm
    · rw [if_neg e]
theorem Inv.die (h : Inv G w0 C m w) (id : Nat) : Inv G w0 C (m.set id .dead) w :=
  have hd : ∀ i, m.get i = .dead → (m.set id .dead).get i = .dead := fun i hi => by
    simp only [Mem.set]; split
    · rfl
    · exact hi
  { below := h.below, st := h.st
    obj := fun i b hb => by
      obtain ⟨h1, h2, h3, h4⟩ := h.obj i b hb
      refine ⟨h1, h2, h3, ?_⟩
      simp only [Mem.set]; split
      · trivial
      · exact h4
    inj := fun i j b hi hj => (h.inj i j b hi hj).imp (fun q => q) fun q => q.imp (hd i) (hd j)
    func := h.func, sti := fun b o v i hs hb => hd i (h.sti b o v i hs hb), tok := h.tok, shp := h.shp, tty := h.tty, shut := h.shut, tokf := h.tokf, toku := h.toku, kap := h.kap, glob := h.glob }
theorem grow_new (hI : Inv G w0 C m w) {cs : List AV} {cells : Array Value} {T : TypeId} {n cap sz : Nat} (hcap : n ≤ cap) (hlen : cs.length ≤ cells.size) (hsz : cap * sz ≤ cells.size) (hr : ∀ j, j < cs.length → Rep C (cs.getD j .u) (cells.getD j undef)) :
    ∃ C', Cx.Le C C' ∧ Inv G w0 C' (m.alloc (.grow T cs)) (w.alloc (.cells cells T)) ∧ Rep C' (.gsl m.next n sz) (.slice (some ⟨w.heap.size, 0, none⟩) n cap) ∧ C'.I m.next w.heap.size := by
  have h1 := hI.alloc_obj (o := .cells cells T) (a := .grow T cs) fun C' hle => ⟨cells, 0, 0, heap_alloc_new _ _, fun o _ h => by omega, hlen, fun j hj => (hr j hj).mono hle⟩
  have hb : (C.addI m.next w.heap.size).I m.next w.heap.size := .inr ⟨rfl, rfl⟩
  have h2 := h1.knowK hb (heap_alloc_new w (.cells cells T)) hsz
  exact ⟨_, (C.le_addI _ _).trans (Cx.le_addE _ _ _), h2, .gsl _ _ _ _ _ hb hcap (.inr ⟨rfl, rfl⟩), hb⟩
theorem Inv.pass (h : Inv G w0 C m w) {id b : Nat} (hb : C.I id b) (hd : m.get id ≠ .dead) {w' : World} {a : AObj} (hbelow : Below w0.heap.size w0 w') (hsize : w'.heap.size = w.heap.size)
    (hother : ∀ k, k ≠ b → w'.heap[k]? = w.heap[k]?) (ho : ObjRep C w' b a) (hk : ∀ e, C.K b e → ∃ vs T fr, w'.heap[b]? = some (.cells vs T fr) ∧ e ≤ vs.size) :
    Inv G w0 (C.addI m.next b) ((m.set id .dead).alloc a) w' := by
  have h1 := (h.write_obj hb hd hbelow hsize hother (a := .dead) trivial hk)
  have hle := C.le_addI m.next b
  have hnx : (m.set id .dead).next = m.next := rfl
  have hlt := fun i b' (hi : C.I i b') => (h.obj i b' hi).1
  have dead_b : ∀ i, C.I i b → (m.set id .dead).get i = .dead := fun i hi => by
    simp only [Mem.set]
    by_cases e : i = id
    · rw [if_pos e]
    · rw [if_neg e]
      rcases h.inj _ _ _ hi hb with q | q | q
      · exact absurd q e
      · exact q
      · exact absurd q hd
  exact
  { below := h1.below, st := h1.st
    obj := fun i b' hi => by
      rcases hi with hi | ⟨rfl, rfl⟩
      · obtain ⟨k1, k2, k3, k4⟩ := h1.obj i b' hi
        refine ⟨by simp only [Mem.alloc]; rw [hnx] at k1 ⊢; omega, k2, k3, ?_⟩
        rw [Mem.get_alloc_lt k1]; exact k4.mono hle
      · obtain ⟨k1, k2, k3, _⟩ := h1.obj id b' hb
        refine ⟨by simp [Mem.alloc, hnx], k2, k3, ?_⟩
        have : ((m.set id .dead).alloc a).get m.next = a := Mem.get_alloc_new (m := m.set id .dead)
        rw [this]; exact ho.mono hle
    inj := fun i j b' hi hj => by
      rcases hi with hi | ⟨rfl, rfl⟩ <;> rcases hj with hj | ⟨e1, e2⟩
      · rw [Mem.get_alloc_lt (m := m.set id .dead) (hlt _ _ hi), Mem.get_alloc_lt (m := m.set id .dead) (hlt _ _ hj)]; exact h1.inj _ _ _ hi hj
      · subst e2; right; left; rw [Mem.get_alloc_lt (m := m.set id .dead) (hlt _ _ hi)]; exact dead_b _ hi
      · right; right; rw [Mem.get_alloc_lt (m := m.set id .dead) (hlt _ _ hj)]; exact dead_b _ hj
      · exact .inl e1.symm
    func := fun i b1 b2 hi hj => by
      rcases hi with hi | ⟨rfl, rfl⟩ <;> rcases hj with hj | ⟨e1, e2⟩
      · exact h.func _ _ _ hi hj
      · have := hlt _ _ hi; omega
      · have := hlt _ _ hj; omega
      · exact e2.symm
    sti := fun b' o v i hs hi => by
      rcases hi with hi | ⟨rfl, rfl⟩
      · rw [Mem.get_alloc_lt (m := m.set id .dead) (hlt _ _ hi)]; exact h1.sti _ _ _ _ hs hi
      · exact absurd (h.sti _ _ _ _ hs hb) hd
    tok := fun t b' s e hr => by
      obtain ⟨k1, k2, k3, k4, k5⟩ := h1.tok t b' s e hr
      refine ⟨k1, k2, k3, fun i hi => ?_, k5⟩
      rcases hi with hi | ⟨rfl, rfl⟩
      · exact k4 _ hi
      · exact k4 _ hb
    shp := fun b' t ht => by
      obtain ⟨k1, k2⟩ := h1.shp b' t ht
      refine ⟨k1, fun i hi => ?_⟩
      rcases hi with hi | ⟨rfl, rfl⟩
      · exact k2 _ hi
      · exact k2 _ hb
    tty := h1.tty
    shut := fun b' hz => by
      obtain ⟨k1, k2, k3, k4⟩ := h1.shut b' hz
      refine ⟨k1, k2, fun i hi => ?_, k4⟩
      rcases hi with hi | ⟨rfl, rfl⟩
      · exact k3 _ hi
      · exact k3 _ hb
    tokf := h1.tokf, toku := h1.toku
    kap := fun b' e hk => let ⟨⟨i, k1⟩, k2⟩ := h1.kap b' e hk; ⟨⟨i, .inl k1⟩, k2⟩
    glob := fun g cs hg => (h1.glob g cs hg).mono hle }
theorem bytesO_ok (hI : Inv G w0 C m w) {x : AV} {a : Value} (hx : Rep C x a) {src dst e : TypeId} {s : List UInt8} (hs : P.underlying src = some .string) (hd : P.underlying dst = some (.slice e)) (he : P.underlying e = some (.int .u8)) (h : x = .str s) :
    Res G w0 C (m.alloc (.grow e (bytesAV s))) (.gsl m.next s.length 1) ((do pure (.value (← convert src dst a)) : Sem Next).run P w) := by
  subst h
  cases hx with
  | str _ b hb =>
    have hsz : b.size = s.length := by subst hb; simp
    have hge := grownCap_ge w b.size 0 e
    obtain ⟨c, hc⟩ : ∃ c, c = grownCap w b.size 0 e := ⟨_, rfl⟩
    rw [← hc] at hge
    obtain ⟨cells, hcells⟩ : ∃ cells, cells = (b.data.map fun b => Value.int .u8 b.toNat) ++ Array.replicate (c - b.size) (.int .u8 0) := ⟨_, rfl⟩
    have hcs : cells.size = c := by
      have : b.data.size = b.size := rfl
      rw [hcells]
      simp only [Array.size_append, Array.size_map, Array.size_replicate, this]; omega
    have hbl : (bytesAV s).length = s.length := by simp [bytesAV]
    have hrep : ∀ j, j < (bytesAV s).length → Rep C ((bytesAV s).getD j .u) (cells.getD j undef) := by
      intro j hj
      rw [hbl] at hj
      rw [show (bytesAV s).getD j .u = byteAV s[j] from getD_eq (by simp [bytesAV, hj])]
      have e1 : cells[j]? = some (.int .u8 s[j].toNat) := by
        subst hcells; subst hb
        have hi' : j < b.data.size := by simpa using hj
        rw [Array.getElem?_append_left (by simpa using hi'), Array.getElem?_map, Array.getElem?_eq_getElem hi']
        simp
      rw [agetD_eq e1]
      exact .int _ _
    obtain ⟨C', hle, hInv, hr', hb'⟩ := grow_new (cs := bytesAV s) (cells := cells) (T := e) (n := s.length) (cap := c) (sz := 1) hI.drew (by omega) (by rw [hbl]; omega) (by omega) hrep
    have hnew : (w.drew.alloc (.cells cells e)).heap[w.heap.size]? = some (.cells cells e (0, 0)) := heap_alloc_new w.drew _
    have hfz : ((w.drew.alloc (.cells cells e)).freeze ⟨w.heap.size, cells.size, none⟩ 1).heap[w.heap.size]? = some (.cells cells e (cells.size, cells.size + 1)) := by
      simp only [World.freeze, Nat.one_ne_zero, if_false, Array.getElem?_modify, if_true]
      rw [hnew]; rfl
    have hfo : ∀ k, k ≠ w.heap.size → ((w.drew.alloc (.cells cells e)).freeze ⟨w.heap.size, cells.size, none⟩ 1).heap[k]? = (w.drew.alloc (.cells cells e)).heap[k]? := by
      intro k hk
      simp only [World.freeze, Nat.one_ne_zero, if_false, Array.getElem?_modify]
      rw [if_neg (Ne.symm hk)]
    have hg : (m.alloc (.grow e (bytesAV s))).get m.next = .grow e (bytesAV s) := Mem.get_alloc_new
    have hInv' := hInv.write_obj (id := m.next) (b := w.heap.size) (a := .grow e (bytesAV s)) hb' (by rw [hg]; simp) (w' := (w.drew.alloc (.cells cells e)).freeze ⟨w.heap.size, cells.size, none⟩ 1)
      (hInv.below.trans ⟨rfl, rfl, rfl, by simp [World.freeze], fun k hk => hfo k (by have := hI.below.size; omega)⟩) (by simp [World.freeze]) hfo
      ⟨cells, cells.size, cells.size + 1, hfz, fun o h1 _ => h1, by rw [hbl]; omega, fun j hj => (hrep j hj).mono hle⟩
      (fun e' he' => by
        obtain ⟨_, vs, T, fr, k1, k2⟩ := hInv.kap _ _ he'
        have k1' : some (Obj.cells cells e (0, 0)) = some (Obj.cells vs T fr) := hnew.symm.trans k1
        injection k1' with k1'; injection k1' with q1 q2 q3
        subst q1
        exact ⟨_, _, _, hfz, k2⟩)
    rw [Mem.set_self hg] at hInv'
    refine Res.made (w' := (w.drew.alloc (.cells cells e)).freeze ⟨w.heap.size, cells.size, none⟩ 1) (cv := .slice (some ⟨w.heap.size, 0, none⟩) s.length c) ?_ hle hInv' hr'
    have hshape : (w.drew.alloc (.cells cells e)).shape? w.heap.size = some (e, cells.size) := by
      simp only [World.shape?]; rw [hnew]
    have hq : Question.cut (.appendCap b.size 0 e) (w.tape w.drawn (.appendCap b.size 0 e)) = c := by rw [hc]; rfl
    have hch : (choose (.appendCap b.size 0 e)).run P w = .ok c w.drew := by
      simp only [run_choose, Question.forced, Bool.false_eq_true, if_false, hq, World.drew_eq]
    simp only [convert, Sem.run_bind, run_underlying hs, run_underlying hd, Result.andThen_ok, run_underlying he, Conv.stringToBytes, hch, newRow, run_newObj, World.alloc_eq, Sem.run_pure, markStringish, run_shape, ← hcells, World.size_drew, hshape, run_freeze]
    rw [hsz]
theorem strO_ok (hI : Inv G w0 C m w) {x v : AV} {a : Value} (hx : Rep C x a) {src dst e : TypeId} (hs : P.underlying src = some (.slice e)) (hd : P.underlying dst = some .string) (he : P.underlying e = some (.int .u8)) (h : strOV m x = some v) :
    Res G w0 C m v ((do pure (.value (← convert src dst a)) : Sem Next).run P w) := by
  cases hx with
  | nilSl =>
    simp only [strOV, Option.some.injEq] at h; subst h
    refine strOf_ok hI .nilSl hs hd he (v := .str []) rfl
  | gsl id n sz b cap hb hc hk =>
    simp only [strOV] at h
    split at h
    · rename_i T cs hg
      split at h
      · rename_i hcond
        obtain ⟨rfl, hn⟩ := hcond
        split at h
        · rename_i l hl
          injection h with h; subst h
          have hcell := cellsAt_grow hI hb hg
          have hval : ∀ i, i < n → w.cell? ⟨b, i, none⟩ = some (.int .u8 (intOfAV (cs.getD i .u))) := by
            intro i hi
            obtain ⟨q, k1, _⟩ := unbytes_get hl i (by omega)
            obtain ⟨v, h1, h2⟩ := hcell i (by omega)
            rw [Nat.zero_add] at h1
            rw [h1, k1] at *
            rw [rep_int (k := .u8) (n := q) h2 rfl]; rfl
          have hload : (loadCells ⟨b, 0, none⟩ n).run P w = .ok (((List.range n).map fun i => intOfAV (cs.getD i .u)).map (Value.int .u8)).toArray w := by
            rw [run_loadCells w ⟨b, 0, none⟩ n (fun i => .int .u8 (intOfAV (cs.getD i .u))) (fun j hj => by
              rw [Addr.add_lit, Nat.zero_add]; exact hval j hj)]
            simp [List.map_map, Function.comp_def]
          have hrun := run_bytesToString w ⟨b, 0, none⟩ n cap _ hload
          refine Res.quiet hI (cv := .string _) (by simp only [convert, Sem.run_bind, run_underlying hs, run_underlying hd, Result.andThen_ok, run_underlying he]; exact hrun) (.str _ _ ?_)
          rw [foldl_push, List.map_map, ← unbytes_range hl hn.symm]
          rfl
        · cases h
      · cases h
    · cases h
  | _ => simp [strOV] at h
theorem cellsOf_length {sz : Nat} : ∀ {ys : List AV}, (∀ y ∈ ys, y.cells.length = sz) → (cellsOf ys).length = ys.length * sz
  | [], _ => by simp [cellsOf]
  | y :: ys, h => by
    rw [cellsOf, List.length_append, h y (by simp), cellsOf_length (fun z hz => h z (by simp [hz])), List.length_cons, Nat.add_mul]; omega
theorem cellsOf_get {sz : Nat} : ∀ {ys : List AV} {i j : Nat}, (∀ y ∈ ys, y.cells.length = sz) → i < ys.length → j < sz → (cellsOf ys).getD (i * sz + j) .u = (ys.getD i .u).cells.getD j .u
  | [], i, j, _, hi, _ => by simp at hi
  | y :: ys, 0, j, h, _, hj => by
    have := h y (by simp)
    rw [cellsOf, List.getD_eq_getElem?_getD, List.getElem?_append_left (by omega)]
    simp [List.getD_eq_getElem?_getD]
  | y :: ys, i + 1, j, h, hi, hj => by
    have hy := h y (by simp)
    have := cellsOf_get (ys := ys) (i := i) (j := j) (fun z hz => h z (by simp [hz])) (by simpa using hi) hj
    rw [cellsOf, List.getD_eq_getElem?_getD, List.getElem?_append_right (by rw [hy, Nat.add_mul]; omega), hy]
    have e : (i + 1) * sz + j - sz = i * sz + j := by rw [Nat.add_mul]; omega
    rw [e, ← List.getD_eq_getElem?_getD, this]
    simp
section
variable {sT xT e ty : TypeId} {i : TypeInfo} (ht : P.underlying sT = some (.slice e)) (hxT : notInt P xT = true) (hi : P.info? e = some i)
include ht hxT hi
theorem appendO_ok (hI : Inv G w0 C m w) {a b v : AV} {av bv : Value} (ha : Rep C a av) (hb : Rep C b bv) {ys : List AV} (he : elems b = some ys) {z : Value} (hsz : 0 < i.size) (hbytes : 0 < i.bytes) (hz : i.zero = some z) (hzs : z.cells.size = i.size)
    {m1 : Mem} (h : appendOV m e i.size i.bytes a ys = some (v, m1)) :
    Res G w0 C m1 v ((do pure (.value (← Builtin.append_ #[sT, xT] ty #[av, bv])) : Sem Next).run P w) := by
  have zero_cells : ys = [] → (Builtin.firstCells i.size 0 bv).run P w = .ok #[] w := by
    intro hy
    subst hy
    cases hb with
    | nilSl => rfl
    | sl => simp [Builtin.firstCells, loadCells, loadCellsFrom]
    | sl0 => simp [Builtin.firstCells, loadCells, loadCellsFrom]
    | str l s e =>
      simp only [Builtin.firstCells, Sem.run_pure]
      congr 1
      simp
    | _ => simp [elems] at he
  have hl := second_len (P := P) (w := w) hb he
  -- into a new block
  have grow : ∀ {m' : Mem} {base : Option Addr} {n cap : Nat} {cs : List AV} {old : List Value}, Inv G w0 C m' w → ys ≠ [] → ys.all (fun y => y.cells.length == i.size && y.cells.all scal) = true → n ≤ cap → ¬ n + ys.length ≤ cap → (n + ys.length) * i.bytes ≤ roomMax →
      cs.length = n * i.size → old.length = n * i.size → (Builtin.firstCells i.size n (.slice base n cap)).run P w.drew = .ok old.toArray w.drew → (∀ j, j < cs.length → Rep C (cs.getD j .u) (old.getD j undef)) →
      Res G w0 C (m'.alloc (.grow e (cs ++ cellsOf ys))) (.gsl m'.next (n + ys.length) i.size) ((do pure (.value (← Builtin.append_ #[sT, xT] ty #[.slice base n cap, bv])) : Sem Next).run P w) := by
    intro m' base n cap cs old hI' hy hall hnc hno hroom hcs hol hold hr
    obtain ⟨new, f1, f2, f3, f4⟩ := second_cells (P := P) (w' := w.drew) hI hb he hall hy (fun _ _ => rfl)
    obtain ⟨c, rest, c1, c2, c3⟩ := run_append_new ht hxT hi (ty := ty) hno hnc hl hbytes hz hroom f1 hold
    have hyl : ∀ y ∈ ys, y.cells.length = i.size := fun y hy => by
      have := List.all_eq_true.1 hall y hy
      simp only [Bool.and_eq_true, beq_iff_eq] at this; exact this.1
    have hco := cellsOf_length hyl
    rw [hzs] at c2
    have hsize : (old.toArray ++ new.toArray ++ rest).size = c * i.size := by
      simp only [Array.size_append, List.size_toArray, hol, f2, c2, ← Nat.add_mul]
      congr 1; omega
    have hlow : (cs ++ cellsOf ys).length ≤ (old.toArray ++ new.toArray ++ rest).size := by
      rw [hsize, List.length_append, hcs, hco, ← Nat.add_mul]; exact Nat.mul_le_mul_right _ c1
    obtain ⟨C', hle, hInv, hrep, _⟩ := grow_new (cs := cs ++ cellsOf ys) (cells := old.toArray ++ new.toArray ++ rest) (T := e) (n := n + ys.length) (cap := c) (sz := i.size) hI'.drew c1 hlow (by rw [hsize]; exact Nat.le_refl _) (fun j hj => by
      rw [List.length_append, hcs, hco] at hj
      by_cases h1 : j < n * i.size
      · rw [List.getD_eq_getElem?_getD, List.getElem?_append_left (by omega), ← List.getD_eq_getElem?_getD]
        rw [Array.getD_eq_getD_getElem?, Array.append_assoc, Array.getElem?_append_left (by simp; omega)]
        have := hr j (by omega)
        rwa [List.getD_eq_getElem?_getD (l := old), ← List.getElem?_toArray] at this
      · obtain ⟨p, q, e1, hq, hp⟩ := flat_split (sz := i.size) (n := ys.length) (q := j - n * i.size) (by omega)
        have hj' : j = n * i.size + (p * i.size + q) := by omega
        have h3 := f3 p q hp hq
        rw [List.getD_eq_getElem?_getD, List.getElem?_append_right (by omega), ← List.getD_eq_getElem?_getD, hcs, e1, cellsOf_get hyl hp hq]
        rw [Array.getD_eq_getD_getElem?, Array.getElem?_append_left (by simp; omega), Array.getElem?_append_right (by simp; omega), List.size_toArray, hol, e1, List.getElem?_toArray, ← List.getD_eq_getElem?_getD]
        exact h3)
    exact Res.made c3 hle hInv hrep
  cases ha with
  | nilSl =>
    simp only [appendOV] at h
    split at h
    · rename_i hy
      simp only [Option.some.injEq, Prod.mk.injEq] at h
      obtain ⟨rfl, rfl⟩ := h
      rw [hy] at hl
      exact Res.quiet hI (run_append_none ht hxT hi (Nat.le_refl _) hl (zero_cells hy)) .nilSl
    · rename_i hy
      split at h
      · rename_i hc
        simp only [Option.some.injEq, Prod.mk.injEq] at h
        obtain ⟨rfl, rfl⟩ := h
        have := grow (base := none) (n := 0) (cap := 0) (cs := []) (old := []) hI hy hc.2.2 (Nat.le_refl _) (by have := List.length_pos_iff.2 hy; omega) (by simpa using hc.1) (by simp) (by simp) (by simp [Builtin.firstCells]) (fun j hj => absurd hj (by simp))
        simpa using this
      · cases h
  | gsl id n sz bk cap hbk hc hk =>
    simp only [appendOV] at h
    split at h
    · rename_i T cs hg
      split at h
      · rename_i hcond
        obtain ⟨rfl, rfl, _, hy, hlen, hroom, hall⟩ := hcond
        simp only [Option.some.injEq, Prod.mk.injEq] at h
        obtain ⟨rfl, rfl⟩ := h
        obtain ⟨q1, q2, q3, ho⟩ := hI.obj id bk hbk
        rw [hg] at ho
        obtain ⟨vs, lo, hi', h1, hf, h2, h3⟩ := ho
        have hyl : ∀ y ∈ ys, y.cells.length = i.size := fun y hy => by
          have := List.all_eq_true.1 hall y hy
          simp only [Bool.and_eq_true, beq_iff_eq] at this; exact this.1
        have hco := cellsOf_length hyl
        by_cases hno : n + ys.length ≤ cap
        · -- into the spare room
          obtain ⟨_, vs', T', fr', g1, g2⟩ := hI.kap _ _ hk
          rw [h1] at g1; injection g1 with g1; injection g1 with g1 _ _; subst g1
          obtain ⟨new, f1, f2, f3, f4⟩ := second_cells (P := P) (w' := w) hI hb he hall hy (fun _ _ => rfl)
          have hmul : n * i.size + ys.length * i.size ≤ cap * i.size := by rw [← Nat.add_mul]; exact Nat.mul_le_mul_right _ hno
          have hfit : 0 + n * i.size + new.length ≤ vs.size := by omega
          have hrun := run_append_in ht hxT hi (ty := ty) hno hl f1 h1 hfit (fun q k1 k2 k3 => by have := hf q k3.1 k3.2; omega) f4
          have hsame := heap_setRow_same (cs := (vs.toList.take (0 + n * i.size) ++ new ++ vs.toList.drop (0 + n * i.size + new.length)).toArray) h1
          have hI' := hI.pass hbk (by rw [hg]; simp) (w' := w.setRow bk (vs.toList.take (0 + n * i.size) ++ new ++ vs.toList.drop (0 + n * i.size + new.length)).toArray) (a := .grow T (cs ++ cellsOf ys)) (Below.setRow hI.below q2 _) (by simp) (fun k hk => heap_setRow_other hk)
            ⟨_, lo, hi', hsame, fun o a1 a2 => by have := hf o a1 a2; simp; omega, by simp [hlen, hco]; omega, fun j hj => by
              rw [List.length_append, hlen, hco] at hj
              rw [splice_getD (by simp; omega)]
              by_cases h4 : j < n * i.size
              · rw [if_neg (by omega)]
                rw [List.getD_eq_getElem?_getD, List.getElem?_append_left (by omega), ← List.getD_eq_getElem?_getD]
                have := h3 j (by omega)
                rwa [Array.getD_eq_getD_getElem?, ← Array.getElem?_toList, ← List.getD_eq_getElem?_getD] at this
              · rw [if_pos (by omega)]
                obtain ⟨p, q, e1, hq, hp⟩ := flat_split (sz := i.size) (n := ys.length) (q := j - n * i.size) (by omega)
                have h5 := f3 p q hp hq
                rw [List.getD_eq_getElem?_getD, List.getElem?_append_right (by omega), ← List.getD_eq_getElem?_getD, hlen, e1, cellsOf_get hyl hp hq]
                rw [show j - (0 + n * i.size) = p * i.size + q by omega]
                exact h5⟩
            (fun e' he' => by
              obtain ⟨_, vs2, T2, fr2, k1, k2⟩ := hI.kap _ _ he'
              rw [h1] at k1; injection k1 with k1; injection k1 with k1 _ _; subst k1
              exact ⟨_, _, _, hsame, by simp; omega⟩)
          refine Res.made hrun (C.le_addI _ _) hI' (.gsl _ _ _ _ _ (.inr ⟨rfl, rfl⟩) hno hk)
        · have hold : (Builtin.firstCells i.size n (.slice (some ⟨bk, 0, none⟩) n cap)).run P w.drew = .ok (vs.toList.take (n * i.size)).toArray w.drew := by
            refine run_firstCells_some w.drew i.size n ⟨bk, 0, none⟩ n cap (vs.toList.take (n * i.size)) (by simp; omega) (fun q v hq => ?_)
            rw [Addr.add_lit, Nat.zero_add]
            rw [List.getElem?_take] at hq
            split at hq
            · show w.cell? _ = _
              rw [cell_of_row _ _ _ _ _ _ h1]; simpa using hq
            · cases hq
          have := grow (m' := m.set id .dead) (base := some ⟨bk, 0, none⟩) (n := n) (cap := cap) (cs := cs) (old := vs.toList.take (n * i.size)) (hI.die id) hy hall hc hno hroom hlen (by simp; omega) hold (fun j hj => by
            have h6 := h3 j hj
            rw [hlen] at hj
            have e : (vs.toList.take (n * i.size)).getD j undef = vs.getD j undef := by
              rw [List.getD_eq_getElem?_getD, List.getElem?_take_of_lt hj, Array.getD_eq_getD_getElem?, ← Array.getElem?_toList]
            rw [e]; exact h6)
          exact this
      · cases h
    · cases h
  | _ => simp [appendOV] at h
end
end
end Go.Proofs.YtkjokjogdehonaaGreatDoor.Am
namespace Go.Proofs.YtkjokjogdehonaaGreatDoor.Am
open Go Go.RowKit
def opdsOk (okd : Operand → Opd → Bool) : List Operand → List Opd → Bool
  | [], [] => true
  | x :: xs, y :: ys => okd x y && opdsOk okd xs ys
  | _, _ => false
def optOk (okd : Operand → Opd → Bool) : Option Operand → Option Opd → Bool
  | none, none => true
  | some x, some y => okd x y
  | _, _ => false
def zeroCellsOk (P : Program) (e : TypeId) (z : List AV) : Bool :=
  zeroOk P e (.agg z) || (match z with
    | [x] => zeroOk P e x && scal x
    | _ => false)
def structParts (P : Program) (okd : Operand → Opd → Bool) (fs : Array Field) : List (Nat × Operand) → List (Nat × Nat × Opd) → Bool
  | [], [] => true
  | (i, x) :: ps, (off, size, y) :: qs => (match fs[i]? with
    | some f => decide (f.offset = off) && decide (cellsB P f.type = some size)
    | none => false) && okd x y && structParts P okd fs ps qs
  | _, _ => false
def arrayParts (okd : Operand → Opd → Bool) (sz : Nat) : List (Nat × Operand) → List (Nat × Nat × Opd) → Bool
  | [], [] => true
  | (i, x) :: ps, (off, size, y) :: qs => decide (off = i * sz) && decide (size = sz) && okd x y && arrayParts okd sz ps qs
  | _, _ => false
def sliceParts (okd : Operand → Opd → Bool) : List (Nat × Operand) → List (Nat × Opd) → Bool
  | [], [] => true
  | (i, x) :: ps, (j, y) :: qs => decide (i = j) && okd x y && sliceParts okd ps qs
  | _, _ => false
def isU8 (P : Program) (e : TypeId) : Bool :=
  match P.underlying e with
  | some (.int .u8) => true
  | _ => false
def chkOp (P : Program) (xf : FuncId → Nat) (okd : Operand → Opd → Bool) (o : Oper) (a : AOp) : Bool :=
  match a with
  | .move y => (match o.op with
    | .move x => okd x y
    | .assign x => okd x y
    | .call { callee := .value (.func f), args, argTypes := _ } => decide (xf f = 2) && opdsOk okd args.toList [y]
    | _ => false)
  | .pick c x y => (match o.op with
    | .pick c' x' y' => okd c' c && okd x' x && okd y' y
    | _ => false)
  | .alloc t z => (match o.op with
    | .alloc e => decide (e = t) && zeroCellsOk P e z
    | _ => false)
  | .box t y => (match o.op with
    | .box e x => decide (e = t) && okd x y
    | _ => false)
  | .build z qs => (match o.op with
    | .build t ps => zeroCellsOk P t z && (match P.underlying t with
      | some (.struct fs) => fs.toList.all (fun f => (cellsB P f.type).isSome) && structParts P okd fs ps.toList qs
      | some (.array _ e) => (match cellsB P e with
        | some sz => arrayParts okd sz ps.toList qs
        | none => false)
      | _ => false)
    | _ => false)
  | .buildSl sz z n qs => (match o.op with
    | .buildSlice t n' ps => decide (n' = n) && decide (0 < sz) && decide (n * sz ≤ 2 ^ 24) && known z && decide (z.cells.length = sz) && (match P.underlying t with
      | some (.slice e) => decide (cellsB P e = some sz) && zeroOk P e z && sliceParts okd ps.toList qs
      | _ => false)
    | _ => false)
  | .buildSlT e' sz z n qs => (match o.op with
    | .buildSlice t n' ps => decide (n' = n) && decide (0 < sz) && decide (n * sz ≤ 2 ^ 24) && known z && decide (z.cells.length = sz) && (match P.underlying t with
      | some (.slice e) => decide (e' = e) && (decide (cellsB P e = some sz) && zeroOk P e z && sliceParts okd ps.toList qs)
      | _ => false)
    | _ => false)
  | .convB y => (match o.op with
    | .convert s d x => decide (s = d) && (match P.underlying d with
      | some (.slice e) => isU8 P e
      | _ => false) && okd x y
    | _ => false)
  | .load g n y => (match o.op with
    | .load t x => shapeOk P t g n && okd x y
    | _ => false)
  | .store n y v => (match o.op with
    | .store t x u => decide (cellsB P t = some n) && okd x y && okd u v
    | _ => false)
  | .nilck y => (match o.op with
    | .nilCheck x => okd x y
    | _ => false)
  | .bin op x y => (match o.op with
    | .binOp op' _ x' y' _ => decide (op' = op) && okd x' x && okd y' y
    | _ => false)
  | .eq neg T x y => (match o.op with
    | .binOp op' t x' y' _ => decide (op' = (if neg then .neq else .eql)) && eqOpOk P t x' y' T && okd x' x && okd y' y
    | _ => false)
  | .not y => (match o.op with
    | .unOp .not _ x => okd x y
    | _ => false)
  | .neg y => (match o.op with
    | .unOp .neg _ x => okd x y
    | _ => false)
  | .inv y => (match o.op with
    | .unOp .xor _ x => okd x y
    | _ => false)
  | .convI k y => (match o.op with
    | .convert s d x => (P.underlying s).isSome && (match P.underlying d with
      | some (.int k') => decide (k' = k)
      | _ => false) && okd x y
    | _ => false)
  | .bytesOf e y => (match o.op with
    | .convert s d x => (match P.underlying s, P.underlying d with
      | some .string, some (.slice e') => decide (e' = e) && isU8 P e
      | _, _ => false) && okd x y
    | _ => false)
  | .bytesO e y => (match o.op with
    | .convert s d x => (match P.underlying s, P.underlying d with
      | some .string, some (.slice e') => decide (e' = e) && isU8 P e
      | _, _ => false) && okd x y
    | _ => false)
  | .strOf y => (match o.op with
    | .convert s d x => (match P.underlying s, P.underlying d with
      | some (.slice e), some .string => isU8 P e
      | _, _ => false) && okd x y
    | _ => false)
  | .strO y => (match o.op with
    | .convert s d x => (match P.underlying s, P.underlying d with
      | some (.slice e), some .string => isU8 P e
      | _, _ => false) && okd x y
    | _ => false)
  | .runeStr y => (match o.op with
    | .convert s d x => (P.underlying s).isSome && (match P.underlying d with
      | some .string => true
      | _ => false) && okd x y
    | _ => false)
  | .mkIface t y => (match o.op with
    | .makeInterface t' x => decide (t' = t) && P.concrete t && okd x y
    | _ => false)
  | .mkFn f first cap => (match o.op with
    | .makeFunc f' xs ys => decide (f' = f) && opdsOk okd xs.toList first && opdsOk okd ys.toList cap
    | _ => false)
  | .mkMap => (match o.op with
    | .makeMap _ none => true
    | _ => false)
  | .mkSl _ _ _ _ _ _ => false
  | .sliceS y lo hi => (match o.op with
    | .slice t x lo' hi' none => (match P.underlying t with
      | some .string => true
      | _ => false) && okd x y && optOk okd lo' lo && optOk okd hi' hi
    | _ => false)
  | .sliceL sz y lo hi mx => (match o.op with
    | .slice t x lo' hi' mx' => (match P.underlying t with
      | some (.slice e) => decide (cellsB P e = some sz)
      | _ => false) && okd x y && optOk okd lo' lo && optOk okd hi' hi && optOk okd mx' mx
    | _ => false)
  | .fieldAddr off y => (match o.op with
    | .fieldAddr t x i => (match P.underlying t with
      | some (.struct fs) => (match fs[i]? with
        | some f => decide (f.offset = off) && (match cellsB P f.type with
          | some n => decide (n ≠ 0)
          | none => false)
        | none => false)
      | _ => false) && okd x y
    | _ => false)
  | .field g n off y => (match o.op with
    | .field t x i => (match P.underlying t with
      | some (.struct fs) => (match fs[i]? with
        | some f => decide (f.offset = off) && shapeOk P f.type g n
        | none => false)
      | _ => false) && okd x y
    | _ => false)
  | .idxAddr sz y j => (match o.op with
    | .indexAddr t x i => (match P.underlying t with
      | some (.slice e) => decide (cellsB P e = some sz)
      | _ => false) && okd x y && okd i j
    | _ => false)
  | .idxAddrA len sz y j => (match o.op with
    | .indexAddr t x i => (match P.underlying t with
      | some (.array n e) => decide (n = len) && decide (cellsB P e = some sz)
      | _ => false) && okd x y && okd i j
    | _ => false)
  | .idxS y j => (match o.op with
    | .index t x i => (match P.underlying t with
      | some .string => true
      | _ => false) && okd x y && okd i j
    | _ => false)
  | .idxA g len sz y j => (match o.op with
    | .index t x i => (match P.underlying t with
      | some (.array n e) => decide (n = len) && shapeOk P e g sz
      | _ => false) && okd x y && okd i j
    | _ => false)
  | .lookup kd z ok y k => (match o.op with
    | .lookup t x i ok' => decide (ok' = ok) && (match P.underlying t with
      | some (.map kt et) => (match P.underlying kt with
        | some d => kkOk d kd
        | none => false) && zeroOk P et z
      | _ => false) && okd x y && okd i k
    | _ => false)
  | .mapUpd kd y k v => (match o.op with
    | .mapUpdate t x i u => (match P.underlying t with
      | some (.map kt _) => (match P.underlying kt with
        | some d => kkOk d kd
        | none => false)
      | _ => false) && okd x y && okd i k && okd u v
    | _ => false)
  | .del _ _ _ => false
  | .rangeS y => (match o.op with
    | .range t x => (match P.underlying t with
      | some .string => true
      | _ => false) && okd x y
    | _ => false)
  | .nextS y => (match o.op with
    | .next x true => okd x y
    | _ => false)
  | .tassert t z ok y => (match o.op with
    | .typeAssert x _ t' ok' => decide (t' = t) && decide (ok' = ok) && zeroOk P t z && (match P.underlying t with
      | some (.interface _) => false
      | some _ => true
      | none => false) && okd x y
    | _ => false)
  | .extract i y => (match o.op with
    | .extract x i' => decide (i' = i) && okd x y
    | _ => false)
  | .len k y => (match o.op with
    | .call { callee := .builtin .len, args, argTypes } => (match argTypes.toList with
      | t :: _ => (match P.underlying t, k with
        | some .string, .str => true
        | some (.slice _), .sli => true
        | some (.map _ _), .map => true
        | _, _ => false)
      | [] => false) && opdsOk okd args.toList [y]
    | _ => false)
  | .min x y => (match o.op with
    | .call { callee := .builtin .min, args, argTypes := _ } => opdsOk okd args.toList [x, y]
    | _ => false)
  | .max x y => (match o.op with
    | .call { callee := .builtin .max, args, argTypes := _ } => opdsOk okd args.toList [x, y]
    | _ => false)
  | .append e sz bytes x y => (match o.op with
    | .call { callee := .builtin .append, args, argTypes } => (match argTypes.toList with
      | [sT, xT] => (match P.underlying sT with
        | some (.slice e') => decide (e' = e)
        | _ => false) && notInt P xT && decide (0 < sz) && decide (0 < bytes) && (match P.info? e with
        | some i => decide (i.size = sz) && decide (i.bytes = bytes) && (match i.zero with
          | some z => decide (z.cells.size = sz)
          | none => false)
        | none => false)
      | _ => false) && opdsOk okd args.toList [x, y]
    | _ => false)
  | .appendO e sz bytes x y => (match o.op with
    | .call { callee := .builtin .append, args, argTypes } => (match argTypes.toList with
      | [sT, xT] => (match P.underlying sT with
        | some (.slice e') => decide (e' = e)
        | _ => false) && notInt P xT && decide (0 < sz) && decide (0 < bytes) && (match P.info? e with
        | some i => decide (i.size = sz) && decide (i.bytes = bytes) && (match i.zero with
          | some z => decide (z.cells.size = sz)
          | none => false)
        | none => false)
      | _ => false) && opdsOk okd args.toList [x, y]
    | _ => false)
  | .convP y => (match o.op with
    | .convert s d x => (match P.underlying s, P.underlying d with
      | some (.pointer t), some .unsafePointer => (match cellsB P t with
        | some n => decide (n ≠ 0)
        | none => false)
      | _, _ => false) && okd x y
    | _ => false)
  | .convU alts y => (match o.op with
    | .convert s d x => (match P.underlying s, P.underlying d with
      | some .unsafePointer, some (.pointer u) => (cellsB P u).isSome && alts.all fun p => liesAt P P.depth p.1 (p.2.1 / P.cellsOf p.1) p.2.2 u 1
      | _, _ => false) && okd x y
    | _ => false)
  | .sliceData y => (match o.op with
    | .call { callee := .builtin .unsafeSliceData, args, argTypes := _ } => opdsOk okd args.toList [y]
    | _ => false)
  | .unsafeStr u x y => (match o.op with
    | .call { callee := .builtin .unsafeString, args, argTypes } => (match argTypes.toList with
      | pt :: _ => (match P.underlying pt with
        | some (.pointer u') => decide (u' = u) && decide (P.cellsOf u = 1) && decide (0 < P.depth)
        | _ => false)
      | [] => false) && opdsOk okd args.toList [x, y]
    | _ => false)
  | .idxByte x y => (match o.op with
    | .call { callee := .value (.func f), args, argTypes := _ } => decide (xf f = 1) && opdsOk okd args.toList [x, y]
    | _ => false)
  | .panic _ | .call _ _ | .callV _ _ => false
def XfOk (P : Program) (xf : FuncId → Nat) : Prop :=
  ∀ f, (xf f = 1 → ∃ fn, P.funcs[f]? = some fn ∧ (fn.name == "runtime.NumGoroutine") = false ∧ fn.body.isNone = true ∧ Extern.findNext fn = none ∧ Extern.find fn = some Extern.BytealgIndexByte.indexByte) ∧
    (xf f = 2 → ∃ fn, P.funcs[f]? = some fn ∧ (fn.name == "runtime.NumGoroutine") = false ∧ fn.body.isNone = true ∧ Extern.findNext fn = none ∧ Extern.find fn = some Extern.AbiNoEscape.same)
section
variable {G : Nat → Option (List AV)} {w0 : World} {C : Cx} {m : Mem} {w : World} {P : Program} {xf : FuncId → Nat} {okd : Operand → Opd → Bool} {ρv : Operand → Value} {ρa : Opd → AV}
theorem zeroCells_ex {e : TypeId} {z : List AV} (h : zeroCellsOk P e z = true) : ∃ a, zeroOk P e a = true ∧ a.cells = z ∧ a ≠ .u := by
  unfold zeroCellsOk at h
  simp only [Bool.or_eq_true] at h
  rcases h with h | h
  · exact ⟨.agg z, h, rfl, by simp⟩
  · split at h
    · rename_i x
      simp only [Bool.and_eq_true] at h
      refine ⟨x, h.1, ?_, ?_⟩
      · cases x <;> first | rfl | (simp [scal] at h)
      · rintro rfl; simp [scal] at h
    · cases h
theorem opds_rep (H : ∀ x y, okd x y = true → Rep C (ρa y) (ρv x)) : ∀ {xs : List Operand} {ys : List Opd}, opdsOk okd xs ys = true → listRep C (ys.map ρa) (xs.map ρv)
  | [], [], _ => trivial
  | x :: xs, y :: ys, h => by
    simp only [opdsOk, Bool.and_eq_true] at h
    exact ⟨H _ _ h.1, opds_rep H h.2⟩
  | [], _ :: _, h => by simp [opdsOk] at h
  | _ :: _, [], h => by simp [opdsOk] at h
theorem opds1 {xs : Array Operand} {y : Opd} (h : opdsOk okd xs.toList [y] = true) : ∃ x, xs = #[x] ∧ okd x y = true := by
  rcases xs with ⟨l⟩
  cases l with
  | nil => simp [opdsOk] at h
  | cons x l => cases l with
    | nil => exact ⟨x, rfl, by simpa [opdsOk] using h⟩
    | cons _ _ => simp [opdsOk] at h
theorem opds2 {xs : Array Operand} {y z : Opd} (h : opdsOk okd xs.toList [y, z] = true) : ∃ x u, xs = #[x, u] ∧ okd x y = true ∧ okd u z = true := by
  rcases xs with ⟨l⟩
  cases l with
  | nil => simp [opdsOk] at h
  | cons x l => cases l with
    | nil => simp [opdsOk] at h
    | cons u l => cases l with
      | nil => exact ⟨x, u, rfl, by simpa [opdsOk] using h⟩
      | cons _ _ => simp [opdsOk] at h
theorem opt_rep (H : ∀ x y, okd x y = true → Rep C (ρa y) (ρv x)) {x : Option Operand} {y : Option Opd} (h : optOk okd x y = true) : OptRep C (y.map ρa) (x.map ρv) := by
  cases x <;> cases y <;> simp [optOk] at h <;> first | trivial | exact H _ _ h
theorem rowAt_self {u : TypeId} (hc : P.cellsOf u = 1) (hd : 0 < P.depth) (n off count : Nat) (h : off + n ≤ count) : liesAt P P.depth u count off u n = true := by
  obtain ⟨d, hd'⟩ : ∃ d, P.depth = d + 1 := ⟨P.depth - 1, by omega⟩
  have hsl : sameLayout P P.depth u u = true := by rw [hd']; simp [sameLayout]
  have : rowAt P (sameLayout P P.depth · u) P.depth u count off n = true := by
    rw [hd'] at hsl ⊢
    simp only [rowAt, hc, Nat.one_ne_zero, if_false, Nat.mod_one, Nat.div_one, hsl]
    simp [h]
  rw [hd'] at this ⊢
  simp only [liesAt, hd', this, Bool.true_or]
theorem structParts_rep (H : ∀ x y, okd x y = true → Rep C (ρa y) (ρv x)) {fs : Array Field} : ∀ {ps : List (Nat × Operand)} {qs : List (Nat × Nat × Opd)}, structParts P okd fs ps qs = true →
    (ps.map fun p => (p.1, ρv p.2)).length = (qs.map fun p => (p.1, p.2.1, ρa p.2.2)).length ∧
    ∀ (i : Nat) (p : Nat × Value) (q : Nat × Nat × AV), (ps.map fun p => (p.1, ρv p.2))[i]? = some p → (qs.map fun p => (p.1, p.2.1, ρa p.2.2))[i]? = some q → Rep C q.2.2 p.2 ∧ ∃ f, fs[p.1]? = some f ∧ f.offset = q.1 ∧ cellsB P f.type = some q.2.1
  | [], [], _ => ⟨rfl, fun i p q h => by simp at h⟩
  | (i, x) :: ps, (off, size, y) :: qs, h => by
    simp only [structParts, Bool.and_eq_true] at h
    obtain ⟨⟨h1, h2⟩, h3⟩ := h
    obtain ⟨k1, k2⟩ := structParts_rep H h3
    refine ⟨by simpa using k1, fun j p q hp hq => ?_⟩
    cases j with
    | zero =>
      simp only [List.map_cons, List.getElem?_cons_zero, Option.some.injEq] at hp hq
      subst hp; subst hq
      refine ⟨H _ _ h2, ?_⟩
      split at h1
      · rename_i f hf
        simp only [Bool.and_eq_true, decide_eq_true_eq] at h1
        exact ⟨f, hf, h1.1, h1.2⟩
      · cases h1
    | succ j => exact k2 j p q (by simpa using hp) (by simpa using hq)
  | [], _ :: _, h => by simp [structParts] at h
  | _ :: _, [], h => by simp [structParts] at h
theorem arrayParts_rep (H : ∀ x y, okd x y = true → Rep C (ρa y) (ρv x)) {sz : Nat} : ∀ {ps : List (Nat × Operand)} {qs : List (Nat × Nat × Opd)}, arrayParts okd sz ps qs = true →
    (ps.map fun p => (p.1, ρv p.2)).length = (qs.map fun p => (p.1, p.2.1, ρa p.2.2)).length ∧
    ∀ (i : Nat) (p : Nat × Value) (q : Nat × Nat × AV), (ps.map fun p => (p.1, ρv p.2))[i]? = some p → (qs.map fun p => (p.1, p.2.1, ρa p.2.2))[i]? = some q → Rep C q.2.2 p.2 ∧ q.1 = p.1 * sz ∧ q.2.1 = sz
  | [], [], _ => ⟨rfl, fun i p q h => by simp at h⟩
  | (i, x) :: ps, (off, size, y) :: qs, h => by
    simp only [arrayParts, Bool.and_eq_true, decide_eq_true_eq] at h
    obtain ⟨⟨⟨h1, h1'⟩, h2⟩, h3⟩ := h
    obtain ⟨k1, k2⟩ := arrayParts_rep H h3
    refine ⟨by simpa using k1, fun j p q hp hq => ?_⟩
    cases j with
    | zero =>
      simp only [List.map_cons, List.getElem?_cons_zero, Option.some.injEq] at hp hq
      subst hp; subst hq
      exact ⟨H _ _ h2, h1, h1'⟩
    | succ j => exact k2 j p q (by simpa using hp) (by simpa using hq)
  | [], _ :: _, h => by simp [arrayParts] at h
  | _ :: _, [], h => by simp [arrayParts] at h
theorem sliceParts_rep (H : ∀ x y, okd x y = true → Rep C (ρa y) (ρv x)) : ∀ {ps : List (Nat × Operand)} {qs : List (Nat × Opd)}, sliceParts okd ps qs = true →
    (ps.map fun p => (p.1, ρv p.2)).length = (qs.map fun p => (p.1, ρa p.2)).length ∧
    ∀ (i : Nat) (p : Nat × Value) (q : Nat × AV), (ps.map fun p => (p.1, ρv p.2))[i]? = some p → (qs.map fun p => (p.1, ρa p.2))[i]? = some q → p.1 = q.1 ∧ Rep C q.2 p.2
  | [], [], _ => ⟨rfl, fun i p q h => by simp at h⟩
  | (i, x) :: ps, (j0, y) :: qs, h => by
    simp only [sliceParts, Bool.and_eq_true, decide_eq_true_eq] at h
    obtain ⟨⟨h1, h2⟩, h3⟩ := h
    obtain ⟨k1, k2⟩ := sliceParts_rep H h3
    refine ⟨by simpa using k1, fun j p q hp hq => ?_⟩
    cases j with
    | zero =>
      simp only [List.map_cons, List.getElem?_cons_zero, Option.some.injEq] at hp hq
      subst hp; subst hq
      exact ⟨h1, H _ _ h2⟩
    | succ j => exact k2 j p q (by simpa using hp) (by simpa using hq)
  | [], _ :: _, h => by simp [sliceParts] at h
  | _ :: _, [], h => by simp [sliceParts] at h
theorem parts_array (ps : Array (Nat × Operand)) (ρ : Operand → Value) : (ps.map fun (i, x) => (i, ρ x)) = (ps.toList.map fun p => (p.1, ρ p.2)).toArray := by
  rcases ps with ⟨l⟩
  simp
theorem map1 (ρ : Operand → Value) (x : Operand) : Array.map ρ #[x] = #[ρ x] := by simp
theorem map2 (ρ : Operand → Value) (x y : Operand) : Array.map ρ #[x, y] = #[ρ x, ρ y] := by simp
theorem rep_bool {t : Bool} {y : Value} (h : Rep C (.bool t) y) : y = .bool t := by cases h; rfl
theorem exec_func (Hf : ∀ f, ρv (.func f) = .func (.func f) #[] #[]) {dst : Option Tmp} {f : FuncId} {args : Array Operand} {at' : Array TypeId} {type : TypeId} {pos : String} {after : Array Edge} {guard : Option (Nat × Bool)} :
    (execOp ρv { dst, op := .call { callee := .value (.func f), args, argTypes := at' }, type, pos, after, guard }).run P w = (callFunc f (args.map ρv)).run P w := by
  simp [execOp, resolve, Deferred.ofValue, invoke, Hf]
theorem exec_builtin {dst : Option Tmp} {b : Builtin} {args : Array Operand} {at' : Array TypeId} {type : TypeId} {pos : String} {after : Array Edge} {guard : Option (Nat × Bool)} :
    ∃ consts, (execOp ρv { dst, op := .call { callee := .builtin b, args, argTypes := at' }, type, pos, after, guard }).run P w = (builtin b at' type consts (args.map ρv)).run P w :=
  ⟨_, by simp only [execOp, resolve, Sem.run_bind, Sem.run_pure, Result.andThen_ok, invoke]; rfl⟩
set_option maxHeartbeats 8000000 in
theorem op_ok (hI : Inv G w0 C m w) (hX : XfOk P xf) (H : ∀ x y, okd x y = true → Rep C (ρa y) (ρv x)) (Hf : ∀ f, ρv (.func f) = .func (.func f) #[] #[]) {o : Oper} {a : AOp} (hc : chkOp P xf okd o a = true) {v : AV} {m1 : Mem} (h : evalP ρa m a = some (v, m1)) :
    Res G w0 C m1 v ((execOp ρv o).run P w) := by
  obtain ⟨dst, op, type, pos, after, guard⟩ := o
  cases a with
  | move y =>
    simp only [evalP, Option.some.injEq, Prod.mk.injEq] at h
    obtain ⟨rfl, rfl⟩ := h
    simp only [chkOp] at hc
    split at hc
    · rename_i x
      exact ⟨_, w, C, rfl, .refl C, hI, H _ _ hc⟩
    · rename_i x
      exact ⟨_, w, C, rfl, .refl C, hI, H _ _ hc⟩
    · rename_i f args at'
      simp only [Bool.and_eq_true, decide_eq_true_eq] at hc
      obtain ⟨x, rfl, hx⟩ := opds1 hc.2
      obtain ⟨fn, q1, q2, q3, q4, q5⟩ := (hX f).2 hc.1
      rw [exec_func Hf, map1]
      exact noEscape_ok hI (H _ _ hx) q1 q2 q3 q4 q5
    · cases hc
  | pick c x y =>
    simp only [chkOp] at hc
    split at hc
    · rename_i c' x' y'
      simp only [Bool.and_eq_true] at hc
      simp only [evalP] at h
      split at h
      · rename_i t hct
        simp only [Option.some.injEq, Prod.mk.injEq] at h
        obtain ⟨rfl, rfl⟩ := h
        have hcr := H _ _ hc.1.1
        rw [hct] at hcr
        have hb : ρv c' = .bool t := rep_bool hcr
        refine ⟨.value (if t then ρv x' else ρv y'), w, C, ?_, .refl C, hI, ?_⟩
        · simp [execOp, hb, asBool]
        · cases t
          · exact H _ _ hc.2
          · exact H _ _ hc.1.2
      · cases h
    · cases hc
  | alloc t z =>
    simp only [evalP, Option.some.injEq, Prod.mk.injEq] at h
    obtain ⟨rfl, rfl⟩ := h
    simp only [chkOp] at hc
    split at hc
    · simp only [Bool.and_eq_true, decide_eq_true_eq] at hc
      obtain ⟨rfl, hc⟩ := hc
      exact alloc_ok hI (zeroCells_ex hc)
    · cases hc
  | box t y =>
    simp only [chkOp] at hc
    split at hc
    · simp only [Bool.and_eq_true, decide_eq_true_eq] at hc
      obtain ⟨rfl, hc⟩ := hc
      simp only [evalP] at h
      split at h
      · rename_i hs
        simp only [Option.some.injEq, Prod.mk.injEq] at h
        obtain ⟨rfl, rfl⟩ := h
        exact box_ok hI (H _ _ hc) _ hs
      · cases h
    · cases hc
  | build z qs =>
    simp only [chkOp] at hc
    split at hc
    · rename_i t ps
      simp only [Bool.and_eq_true] at hc
      simp only [evalP] at h
      split at h
      · rename_i vv hb
        simp only [Option.some.injEq, Prod.mk.injEq] at h
        obtain ⟨rfl, rfl⟩ := h
        obtain ⟨hz, hc⟩ := hc
        have fin : ∀ {ps' : List (Nat × Value)} (e : ps' = ps.toList.map fun p => (p.1, ρv p.2)), Res G w0 C m vv ((do pure (.value (← Instr.build t ps'.toArray)) : Sem Next).run P w) → Res G w0 C m vv ((execOp ρv { dst, op := .build t ps, type, pos, after, guard }).run P w) := by
          intro ps' e hr
          subst e
          simp only [execOp, parts_array]
          exact hr
        split at hc
        · rename_i fs hu
          simp only [Bool.and_eq_true] at hc
          obtain ⟨k1, k2⟩ := structParts_rep H hc.2
          refine fin rfl (build_ok hI (zeroCells_ex hz) k1 (fun i p q e1 e2 => (k2 i p q e1 e2).1) (.inl ⟨fs, hu, ?_, fun i p q e1 e2 => (k2 i p q e1 e2).2⟩) hb)
          intro f hf
          exact List.all_eq_true.1 hc.1 f (by simpa using hf)
        · rename_i n e hu
          split at hc
          · rename_i sz hsz
            obtain ⟨k1, k2⟩ := arrayParts_rep H hc
            exact fin rfl (build_ok hI (zeroCells_ex hz) k1 (fun i p q e1 e2 => (k2 i p q e1 e2).1) (.inr ⟨n, e, sz, hu, hsz, fun i p q e1 e2 => (k2 i p q e1 e2).2⟩) hb)
          · cases hc
        · cases hc
      · cases h
    · cases hc
  | buildSl sz z n qs =>
    simp only [chkOp] at hc
    split at hc
    · rename_i t n' ps
      simp only [Bool.and_eq_true, decide_eq_true_eq] at hc
      obtain ⟨⟨⟨⟨⟨rfl, h1⟩, h2⟩, h3⟩, h4⟩, hc⟩ := hc
      split at hc
      · rename_i e hu
        simp only [Bool.and_eq_true, decide_eq_true_eq] at hc
        obtain ⟨⟨c1, c2⟩, c3⟩ := hc
        simp only [evalP] at h
        split at h
        · rename_i vv hb
          simp only [Option.some.injEq, Prod.mk.injEq] at h
          obtain ⟨rfl, rfl⟩ := h
          obtain ⟨k1, k2⟩ := sliceParts_rep H c3
          have := buildSl_ok (P := P) hI hu c1 h1 h2 c2 (by rintro rfl; simp [known] at h3) h4 k1 k2 hb
          simp only [execOp, parts_array]
          exact this
        · cases h
      · cases hc
    · cases hc
  | buildSlT e' sz z n qs =>
    simp only [chkOp] at hc
    split at hc
    · rename_i t n' ps
      simp only [Bool.and_eq_true, decide_eq_true_eq] at hc
      obtain ⟨⟨⟨⟨⟨rfl, h1⟩, h2⟩, h3⟩, h4⟩, hc⟩ := hc
      split at hc
      · rename_i e hu
        simp only [Bool.and_eq_true, decide_eq_true_eq] at hc
        obtain ⟨rfl, ⟨c1, c2⟩, c3⟩ := hc
        simp only [evalP] at h
        cases hb : buildSlV sz n' (List.replicate n' z) (qs.map fun p => (p.1, ρa p.2)) with
        | none => rw [hb] at h; simp [ownSl] at h
        | some vv =>
          rw [hb] at h
          obtain ⟨k1, k2⟩ := sliceParts_rep H c3
          have := buildSlT_ok (P := P) hI hu c1 h1 h2 c2 (by rintro rfl; simp [known] at h3) h4 k1 k2 hb h
          simp only [execOp, parts_array]
          exact this
      · cases hc
    · cases hc
  | convB y =>
    simp only [chkOp] at hc
    split at hc
    · simp only [Bool.and_eq_true, decide_eq_true_eq] at hc
      obtain ⟨⟨rfl, h1⟩, h2⟩ := hc
      split at h1
      · rename_i e hd
        unfold isU8 at h1
        split at h1
        · rename_i hu
          simp only [evalP] at h
          exact convB_ok hI (H _ _ h2) hd hu h
        · cases h1
      · cases h1
    · cases hc
  | load g n y =>
    simp only [chkOp] at hc
    split at hc
    · simp only [Bool.and_eq_true] at hc
      simp only [evalP] at h
      split at h
      · rename_i vv hl
        simp only [Option.some.injEq, Prod.mk.injEq] at h
        obtain ⟨rfl, rfl⟩ := h
        exact load_ok hI (H _ _ hc.2) hc.1 hl
      · cases h
    · cases hc
  | store n y x =>
    simp only [chkOp] at hc
    split at hc
    · simp only [Bool.and_eq_true, decide_eq_true_eq] at hc
      simp only [evalP] at h
      split at h
      · rename_i vv hl
        simp only [Option.some.injEq, Prod.mk.injEq] at h
        obtain ⟨rfl, rfl⟩ := h
        exact store_ok hI (H _ _ hc.1.2) (H _ _ hc.2) hc.1.1 hl
      · cases h
    · cases hc
  | nilck y =>
    simp only [chkOp] at hc
    split at hc
    · simp only [evalP] at h
      split at h
      · rename_i vv hl
        simp only [Option.some.injEq, Prod.mk.injEq] at h
        obtain ⟨rfl, rfl⟩ := h
        exact nilck_ok hI (H _ _ hc) hl rfl rfl
      · cases h
    · cases hc
  | bin op x y =>
    simp only [chkOp] at hc
    split at hc
    · simp only [Bool.and_eq_true, decide_eq_true_eq] at hc
      obtain ⟨⟨rfl, h1⟩, h2⟩ := hc
      simp only [evalP] at h
      split at h
      · rename_i vv hl
        simp only [Option.some.injEq, Prod.mk.injEq] at h
        obtain ⟨rfl, rfl⟩ := h
        exact bin_ok hI (H _ _ h1) (H _ _ h2) hl
      · cases h
    · cases hc
  | eq neg T x y =>
    simp only [chkOp] at hc
    split at hc
    · simp only [Bool.and_eq_true, decide_eq_true_eq] at hc
      obtain ⟨⟨⟨rfl, h0⟩, h1⟩, h2⟩ := hc
      simp only [evalP] at h
      split at h
      · rename_i r hs hl
        simp only [Option.some.injEq, Prod.mk.injEq] at h
        obtain ⟨rfl, rfl⟩ := h
        exact eq_ok hI h0 (H _ _ h1) (H _ _ h2) hl hs
      · cases h
    · cases hc
  | not y =>
    simp only [chkOp] at hc
    split at hc
    · simp only [evalP] at h
      split at h
      · rename_i b hb
        simp only [Option.some.injEq, Prod.mk.injEq] at h
        obtain ⟨rfl, rfl⟩ := h
        exact not_ok hI (H _ _ hc) hb rfl
      · cases h
    · cases hc
  | neg y =>
    simp only [chkOp] at hc
    split at hc
    · simp only [evalP] at h
      split at h
      · rename_i b hb
        simp only [Option.some.injEq, Prod.mk.injEq] at h
        obtain ⟨rfl, rfl⟩ := h
        exact neg_ok hI (H _ _ hc) hb
      · cases h
    · cases hc
  | inv y =>
    simp only [chkOp] at hc
    split at hc
    · simp only [evalP] at h
      split at h
      · rename_i b hb
        simp only [Option.some.injEq, Prod.mk.injEq] at h
        obtain ⟨rfl, rfl⟩ := h
        exact inv_ok hI (H _ _ hc) hb
      · cases h
    · cases hc
  | convI k y =>
    simp only [chkOp] at hc
    split at hc
    · simp only [Bool.and_eq_true] at hc
      obtain ⟨⟨h0, h1⟩, h2⟩ := hc
      obtain ⟨d, hd⟩ := Option.isSome_iff_exists.1 h0
      split at h1
      · rename_i k' hk
        have h1 := of_decide_eq_true h1
        subst h1
        simp only [evalP] at h
        split at h
        · rename_i b hb
          simp only [Option.some.injEq, Prod.mk.injEq] at h
          obtain ⟨rfl, rfl⟩ := h
          exact convI_ok hI (H _ _ h2) hd hk hb
        · cases h
      · cases h1
    · cases hc
  | bytesOf e y =>
    simp only [chkOp] at hc
    split at hc
    · simp only [Bool.and_eq_true] at hc
      obtain ⟨h1, h2⟩ := hc
      split at h1
      · rename_i e' hs hd
        simp only [Bool.and_eq_true, decide_eq_true_eq] at h1
        obtain ⟨rfl, h1⟩ := h1
        unfold isU8 at h1
        split at h1
        · rename_i hu
          simp only [evalP] at h
          split at h
          · rename_i b hb
            simp only [Option.some.injEq, Prod.mk.injEq] at h
            obtain ⟨rfl, rfl⟩ := h
            exact bytesOf_ok hI (H _ _ h2) hs hd hu hb
          · cases h
        · cases h1
      · cases h1
    · cases hc
  | bytesO e y =>
    simp only [chkOp] at hc
    split at hc
    · simp only [Bool.and_eq_true] at hc
      obtain ⟨h1, h2⟩ := hc
      split at h1
      · rename_i e' hs hd
        simp only [Bool.and_eq_true, decide_eq_true_eq] at h1
        obtain ⟨rfl, h1⟩ := h1
        unfold isU8 at h1
        split at h1
        · rename_i hu
          simp only [evalP] at h
          split at h
          · rename_i b hb
            simp only [Option.some.injEq, Prod.mk.injEq] at h
            obtain ⟨rfl, rfl⟩ := h
            exact bytesO_ok hI (H _ _ h2) hs hd hu hb
          · cases h
        · cases h1
      · cases h1
    · cases hc
  | strOf y =>
    simp only [chkOp] at hc
    split at hc
    · simp only [Bool.and_eq_true] at hc
      obtain ⟨h1, h2⟩ := hc
      split at h1
      · rename_i e' hs hd
        unfold isU8 at h1
        split at h1
        · rename_i hu
          simp only [evalP] at h
          split at h
          · rename_i b hb
            simp only [Option.some.injEq, Prod.mk.injEq] at h
            obtain ⟨rfl, rfl⟩ := h
            exact strOf_ok hI (H _ _ h2) hs hd hu hb
          · cases h
        · cases h1
      · cases h1
    · cases hc
  | strO y =>
    simp only [chkOp] at hc
    split at hc
    · simp only [Bool.and_eq_true] at hc
      obtain ⟨h1, h2⟩ := hc
      split at h1
      · rename_i e' hs hd
        unfold isU8 at h1
        split at h1
        · rename_i hu
          simp only [evalP] at h
          split at h
          · rename_i b hb
            simp only [Option.some.injEq, Prod.mk.injEq] at h
            obtain ⟨rfl, rfl⟩ := h
            exact strO_ok hI (H _ _ h2) hs hd hu hb
          · cases h
        · cases h1
      · cases h1
    · cases hc
  | runeStr y =>
    simp only [chkOp] at hc
    split at hc
    · simp only [Bool.and_eq_true] at hc
      obtain ⟨⟨h0, h1⟩, h2⟩ := hc
      obtain ⟨d, hd⟩ := Option.isSome_iff_exists.1 h0
      split at h1
      · rename_i hk
        simp only [evalP] at h
        split at h
        · rename_i b hb
          simp only [Option.some.injEq, Prod.mk.injEq] at h
          obtain ⟨rfl, rfl⟩ := h
          exact runeStr_ok hI (H _ _ h2) hd hk hb
        · cases h
      · cases h1
    · cases hc
  | mkIface t y =>
    simp only [chkOp] at hc
    split at hc
    · simp only [Bool.and_eq_true, decide_eq_true_eq] at hc
      obtain ⟨⟨rfl, h1⟩, h2⟩ := hc
      simp only [evalP, Option.some.injEq, Prod.mk.injEq] at h
      obtain ⟨rfl, rfl⟩ := h
      exact mkIface_ok hI (H _ _ h2) h1
    · cases hc
  | mkFn f first cap =>
    simp only [chkOp] at hc
    split at hc
    · rename_i f' xs ys
      simp only [Bool.and_eq_true, decide_eq_true_eq] at hc
      obtain ⟨⟨rfl, h1⟩, h2⟩ := hc
      simp only [evalP, Option.some.injEq, Prod.mk.injEq] at h
      obtain ⟨rfl, rfl⟩ := h
      have k1 := opds_rep (C := C) (ρa := ρa) (ρv := ρv) H h1
      have k2 := opds_rep (C := C) (ρa := ρa) (ρv := ρv) H h2
      exact mkFn_ok hI (by simpa using k1) (by simpa using k2)
    · cases hc
  | mkMap =>
    simp only [chkOp] at hc
    split at hc
    · simp only [evalP, Option.some.injEq, Prod.mk.injEq] at h
      obtain ⟨rfl, rfl⟩ := h
      exact mkMap_ok hI
    · cases hc
  | mkSl => simp [chkOp] at hc
  | del => simp [chkOp] at hc
  | panic => simp [chkOp] at hc
  | call => simp [chkOp] at hc
  | callV => simp [chkOp] at hc
  | sliceS y lo hi =>
    simp only [chkOp] at hc
    split at hc
    · simp only [Bool.and_eq_true] at hc
      obtain ⟨⟨⟨h1, h2⟩, h3⟩, h4⟩ := hc
      split at h1
      · rename_i hu
        simp only [evalP] at h
        split at h
        · rename_i vv hl
          simp only [Option.some.injEq, Prod.mk.injEq] at h
          obtain ⟨rfl, rfl⟩ := h
          exact sliceS_ok hI (H _ _ h2) hu (opt_rep H h3) (opt_rep H h4) hl
        · cases h
      · cases h1
    · cases hc
  | sliceL sz y lo hi mx =>
    simp only [chkOp] at hc
    split at hc
    · simp only [Bool.and_eq_true] at hc
      obtain ⟨⟨⟨⟨h1, h2⟩, h3⟩, h4⟩, h5⟩ := hc
      split at h1
      · rename_i e hu
        simp only [evalP] at h
        split at h
        · rename_i vv hs hl
          simp only [Option.some.injEq, Prod.mk.injEq] at h
          obtain ⟨rfl, rfl⟩ := h
          exact sliceL_ok hI (H _ _ h2) hu (of_decide_eq_true h1) (opt_rep H h3) (opt_rep H h4) (opt_rep H h5) hs hl
        · cases h
      · cases h1
    · cases hc
  | fieldAddr off y =>
    simp only [chkOp] at hc
    split at hc
    · simp only [Bool.and_eq_true] at hc
      obtain ⟨h1, h2⟩ := hc
      split at h1
      · rename_i fs hu
        split at h1
        · rename_i f hf
          simp only [Bool.and_eq_true, decide_eq_true_eq] at h1
          obtain ⟨h0, h1⟩ := h1
          split at h1
          · rename_i n hn
            simp only [evalP] at h
            split at h
            · rename_i vv hl
              simp only [Option.some.injEq, Prod.mk.injEq] at h
              obtain ⟨rfl, rfl⟩ := h
              exact fieldAddr_ok hI (H _ _ h2) hu hf h0 hn (of_decide_eq_true h1) hl
            · cases h
          · cases h1
        · cases h1
      · cases h1
    · cases hc
  | field g n off y =>
    simp only [chkOp] at hc
    split at hc
    · simp only [Bool.and_eq_true] at hc
      obtain ⟨h1, h2⟩ := hc
      split at h1
      · rename_i fs hu
        split at h1
        · rename_i f hf
          simp only [Bool.and_eq_true, decide_eq_true_eq] at h1
          simp only [evalP] at h
          split at h
          · rename_i cs hcs
            split at h
            · rename_i vv hl
              simp only [Option.some.injEq, Prod.mk.injEq] at h
              obtain ⟨rfl, rfl⟩ := h
              exact field_ok hI (H _ _ h2) hu hf h1.1 h1.2 hcs hl
            · cases h
          · cases h
        · cases h1
      · cases h1
    · cases hc
  | idxAddr sz y j =>
    simp only [chkOp] at hc
    split at hc
    · simp only [Bool.and_eq_true] at hc
      obtain ⟨⟨h1, h2⟩, h3⟩ := hc
      split at h1
      · rename_i e hu
        simp only [evalP] at h
        split at h
        · rename_i vv hl
          simp only [Option.some.injEq, Prod.mk.injEq] at h
          obtain ⟨rfl, rfl⟩ := h
          exact idxAddr_ok hI (H _ _ h2) (H _ _ h3) hu (of_decide_eq_true h1) hl
        · cases h
      · cases h1
    · cases hc
  | idxAddrA len sz y j =>
    simp only [chkOp] at hc
    split at hc
    · simp only [Bool.and_eq_true] at hc
      obtain ⟨⟨h1, h2⟩, h3⟩ := hc
      split at h1
      · rename_i n e hu
        simp only [Bool.and_eq_true, decide_eq_true_eq] at h1
        obtain ⟨rfl, h1⟩ := h1
        simp only [evalP] at h
        split at h
        · rename_i vv hl
          simp only [Option.some.injEq, Prod.mk.injEq] at h
          obtain ⟨rfl, rfl⟩ := h
          exact idxAddrA_ok hI (H _ _ h2) (H _ _ h3) hu h1 hl
        · cases h
      · cases h1
    · cases hc
  | idxS y j =>
    simp only [chkOp] at hc
    split at hc
    · simp only [Bool.and_eq_true] at hc
      obtain ⟨⟨h1, h2⟩, h3⟩ := hc
      split at h1
      · rename_i hu
        simp only [evalP] at h
        split at h
        · rename_i vv hl
          simp only [Option.some.injEq, Prod.mk.injEq] at h
          obtain ⟨rfl, rfl⟩ := h
          exact idxS_ok hI (H _ _ h2) (H _ _ h3) hu hl
        · cases h
      · cases h1
    · cases hc
  | idxA g len sz y j =>
    simp only [chkOp] at hc
    split at hc
    · simp only [Bool.and_eq_true] at hc
      obtain ⟨⟨h1, h2⟩, h3⟩ := hc
      split at h1
      · rename_i n e hu
        simp only [Bool.and_eq_true, decide_eq_true_eq] at h1
        obtain ⟨rfl, h1⟩ := h1
        simp only [evalP] at h
        split at h
        · rename_i vv hl
          simp only [Option.some.injEq, Prod.mk.injEq] at h
          obtain ⟨rfl, rfl⟩ := h
          exact idxA_ok hI (H _ _ h2) (H _ _ h3) hu h1 hl
        · cases h
      · cases h1
    · cases hc
  | lookup kd z ok y k =>
    simp only [chkOp] at hc
    split at hc
    · simp only [Bool.and_eq_true, decide_eq_true_eq] at hc
      obtain ⟨⟨⟨rfl, h1⟩, h2⟩, h3⟩ := hc
      split at h1
      · rename_i kt et hu
        simp only [Bool.and_eq_true] at h1
        obtain ⟨h1, hz⟩ := h1
        split at h1
        · rename_i d hd
          simp only [evalP] at h
          split at h
          · rename_i vv hk hl
            simp only [Option.some.injEq, Prod.mk.injEq] at h
            obtain ⟨rfl, rfl⟩ := h
            exact lookup_ok hI (H _ _ h2) (H _ _ h3) hu hd (kind_fits hk h1) hz hl
          · cases h
        · cases h1
      · cases h1
    · cases hc
  | mapUpd kd y k x =>
    simp only [chkOp] at hc
    split at hc
    · simp only [Bool.and_eq_true] at hc
      obtain ⟨⟨⟨h1, h2⟩, h3⟩, h4⟩ := hc
      split at h1
      · rename_i kt et hu
        split at h1
        · rename_i d hd
          simp only [evalP] at h
          split at h
          · rename_i vv hk hl
            simp only [Option.some.injEq, Prod.mk.injEq] at h
            obtain ⟨rfl, rfl⟩ := h
            exact mapUpd_ok hI (H _ _ h2) (H _ _ h3) (H _ _ h4) hu hd (kind_fits hk h1) hl
          · cases h
        · cases h1
      · cases h1
    · cases hc
  | rangeS y =>
    simp only [chkOp] at hc
    split at hc
    · simp only [Bool.and_eq_true] at hc
      obtain ⟨h1, h2⟩ := hc
      split at h1
      · rename_i hu
        simp only [evalP] at h
        split at h
        · rename_i s hs
          simp only [Option.some.injEq, Prod.mk.injEq] at h
          obtain ⟨rfl, rfl⟩ := h
          exact rangeS_ok hI (H _ _ h2) hu hs
        · cases h
      · cases h1
    · cases hc
  | nextS y =>
    simp only [chkOp] at hc
    split at hc
    · exact nextS_ok hI (H _ _ hc) h
    · cases hc
  | tassert t z ok y =>
    simp only [chkOp] at hc
    split at hc
    · simp only [Bool.and_eq_true, decide_eq_true_eq] at hc
      obtain ⟨⟨⟨⟨rfl, rfl⟩, hz⟩, h1⟩, h2⟩ := hc
      split at h1
      · cases h1
      · rename_i d hd hu
        simp only [evalP] at h
        split at h
        · rename_i vv hl
          simp only [Option.some.injEq, Prod.mk.injEq] at h
          obtain ⟨rfl, rfl⟩ := h
          exact tassert_ok hI (H _ _ h2) ⟨_, hu, fun ms e => hd ms e⟩ hz hl
        · cases h
      · cases h1
    · cases hc
  | extract i y =>
    simp only [chkOp] at hc
    split at hc
    · simp only [Bool.and_eq_true, decide_eq_true_eq] at hc
      obtain ⟨rfl, h2⟩ := hc
      simp only [evalP] at h
      split at h
      · rename_i vs hvs
        split at h
        · rename_i vv hl
          simp only [Option.some.injEq, Prod.mk.injEq] at h
          obtain ⟨rfl, rfl⟩ := h
          exact extract_ok hI (H _ _ h2) hvs hl
        · cases h
      · cases h
    · cases hc
  | len k y =>
    simp only [chkOp] at hc
    split at hc
    · rename_i args at'
      simp only [Bool.and_eq_true] at hc
      obtain ⟨h1, h2⟩ := hc
      obtain ⟨x, rfl, hx⟩ := opds1 h2
      split at h1
      · rename_i t ts hts
        have hat : at' = (t :: ts).toArray := by rw [← hts]
        subst hat
        obtain ⟨cs, e⟩ := exec_builtin (P := P) (w := w) (ρv := ρv) (dst := dst) (b := .len) (args := #[x]) (at' := (t :: ts).toArray) (type := type) (pos := pos) (after := after) (guard := guard)
        rw [e, map1]
        simp only [evalP] at h
        split at h
        · rename_i vv hk hl
          simp only [Option.some.injEq, Prod.mk.injEq] at h
          obtain ⟨rfl, rfl⟩ := h
          refine len_ok hI (H _ _ hx) hk ?_ hl
          split at h1
          · assumption
          · exact ⟨_, by assumption⟩
          · exact ⟨_, _, by assumption⟩
          · cases h1
        · cases h
      · cases h1
    · cases hc
  | min x y =>
    simp only [chkOp] at hc
    split at hc
    · rename_i args at'
      obtain ⟨x', y', rfl, h1, h2⟩ := opds2 hc
      obtain ⟨cs, e⟩ := exec_builtin (P := P) (w := w) (ρv := ρv) (dst := dst) (b := .min) (args := #[x', y']) (at' := at') (type := type) (pos := pos) (after := after) (guard := guard)
      rw [e, map2]
      simp only [evalP] at h
      split at h
      · rename_i vv hl
        simp only [Option.some.injEq, Prod.mk.injEq] at h
        obtain ⟨rfl, rfl⟩ := h
        exact min_ok hI (H _ _ h1) (H _ _ h2) hl
      · cases h
    · cases hc
  | max x y =>
    simp only [chkOp] at hc
    split at hc
    · rename_i args at'
      obtain ⟨x', y', rfl, h1, h2⟩ := opds2 hc
      obtain ⟨cs, e⟩ := exec_builtin (P := P) (w := w) (ρv := ρv) (dst := dst) (b := .max) (args := #[x', y']) (at' := at') (type := type) (pos := pos) (after := after) (guard := guard)
      rw [e, map2]
      simp only [evalP] at h
      split at h
      · rename_i vv hl
        simp only [Option.some.injEq, Prod.mk.injEq] at h
        obtain ⟨rfl, rfl⟩ := h
        exact max_ok hI (H _ _ h1) (H _ _ h2) hl
      · cases h
    · cases hc
  | append e sz bytes x y =>
    simp only [chkOp] at hc
    split at hc
    · rename_i args at'
      simp only [Bool.and_eq_true] at hc
      obtain ⟨h1, h2⟩ := hc
      obtain ⟨x', y', rfl, hx, hy⟩ := opds2 h2
      split at h1
      · rename_i sT xT hts
        have hat : at' = #[sT, xT] := by rw [← Array.toList_inj, hts]
        subst hat
        simp only [Bool.and_eq_true, decide_eq_true_eq] at h1
        obtain ⟨⟨⟨⟨c1, c2⟩, c3⟩, c4⟩, c5⟩ := h1
        split at c1
        · rename_i e' hu
          have c1 := of_decide_eq_true c1
          subst c1
          split at c5
          · rename_i i hi
            simp only [Bool.and_eq_true, decide_eq_true_eq] at c5
            obtain ⟨⟨rfl, rfl⟩, c5⟩ := c5
            split at c5
            · rename_i z hz
              obtain ⟨cs, e⟩ := exec_builtin (P := P) (w := w) (ρv := ρv) (dst := dst) (b := .append) (args := #[x', y']) (at' := #[sT, xT]) (type := type) (pos := pos) (after := after) (guard := guard)
              rw [e, map2]
              simp only [evalP] at h
              split at h
              · rename_i ys hys
                exact append_ok hu c2 hi hI (H _ _ hx) (H _ _ hy) hys c3 c4 hz (of_decide_eq_true c5) h
              · cases h
            · cases c5
          · cases c5
        · cases c1
      · cases h1
    · cases hc
  | appendO e sz bytes x y =>
    simp only [chkOp] at hc
    split at hc
    · rename_i args at'
      simp only [Bool.and_eq_true] at hc
      obtain ⟨h1, h2⟩ := hc
      obtain ⟨x', y', rfl, hx, hy⟩ := opds2 h2
      split at h1
      · rename_i sT xT hts
        have hat : at' = #[sT, xT] := by rw [← Array.toList_inj, hts]
        subst hat
        simp only [Bool.and_eq_true, decide_eq_true_eq] at h1
        obtain ⟨⟨⟨⟨c1, c2⟩, c3⟩, c4⟩, c5⟩ := h1
        split at c1
        · rename_i e' hu
          have c1 := of_decide_eq_true c1
          subst c1
          split at c5
          · rename_i i hi
            simp only [Bool.and_eq_true, decide_eq_true_eq] at c5
            obtain ⟨⟨rfl, rfl⟩, c5⟩ := c5
            split at c5
            · rename_i z hz
              obtain ⟨cs, e⟩ := exec_builtin (P := P) (w := w) (ρv := ρv) (dst := dst) (b := .append) (args := #[x', y']) (at' := #[sT, xT]) (type := type) (pos := pos) (after := after) (guard := guard)
              rw [e, map2]
              simp only [evalP] at h
              split at h
              · rename_i ys hys
                exact appendO_ok hu c2 hi hI (H _ _ hx) (H _ _ hy) hys c3 c4 hz (of_decide_eq_true c5) h
              · cases h
            · cases c5
          · cases c5
        · cases c1
      · cases h1
    · cases hc
  | convP y =>
    simp only [chkOp] at hc
    split at hc
    · simp only [Bool.and_eq_true] at hc
      obtain ⟨h1, h2⟩ := hc
      split at h1
      · rename_i t hs hd
        split at h1
        · rename_i n hn
          simp only [evalP] at h
          split at h
          · rename_i vv hl
            simp only [Option.some.injEq, Prod.mk.injEq] at h
            obtain ⟨rfl, rfl⟩ := h
            exact convP_ok hI (H _ _ h2) hs hd hn (of_decide_eq_true h1) hl
          · cases h
        · cases h1
      · cases h1
    · cases hc
  | convU alts y =>
    simp only [chkOp] at hc
    split at hc
    · simp only [Bool.and_eq_true] at hc
      obtain ⟨h1, h2⟩ := hc
      split at h1
      · rename_i t hs hd
        simp only [Bool.and_eq_true] at h1
        simp only [evalP] at h
        split at h
        · rename_i vv hl
          simp only [Option.some.injEq, Prod.mk.injEq] at h
          obtain ⟨rfl, rfl⟩ := h
          exact convU_ok hI (H _ _ h2) hs hd (fun p hp => List.all_eq_true.1 h1.2 p hp) (Option.isSome_iff_exists.1 h1.1) hl
        · cases h
      · cases h1
    · cases hc
  | sliceData y =>
    simp only [chkOp] at hc
    split at hc
    · rename_i args at'
      obtain ⟨x, rfl, hx⟩ := opds1 hc
      obtain ⟨cs, e⟩ := exec_builtin (P := P) (w := w) (ρv := ρv) (dst := dst) (b := .unsafeSliceData) (args := #[x]) (at' := at') (type := type) (pos := pos) (after := after) (guard := guard)
      rw [e, map1]
      exact sliceData_ok hI (H _ _ hx) h
    · cases hc
  | unsafeStr u x y =>
    simp only [chkOp] at hc
    split at hc
    · rename_i args at'
      simp only [Bool.and_eq_true] at hc
      obtain ⟨h1, h2⟩ := hc
      obtain ⟨x', y', rfl, hx, hy⟩ := opds2 h2
      split at h1
      · rename_i pt ts hts
        have hat : at' = (pt :: ts).toArray := by rw [← hts]
        subst hat
        split at h1
        · rename_i u' hu
          simp only [Bool.and_eq_true, decide_eq_true_eq] at h1
          obtain ⟨⟨rfl, c1⟩, c2⟩ := h1
          obtain ⟨cs, e⟩ := exec_builtin (P := P) (w := w) (ρv := ρv) (dst := dst) (b := .unsafeString) (args := #[x', y']) (at' := (pt :: ts).toArray) (type := type) (pos := pos) (after := after) (guard := guard)
          rw [e, map2]
          simp only [evalP] at h
          split at h
          · rename_i r hl
            simp only [Option.some.injEq, Prod.mk.injEq] at h
            obtain ⟨rfl, rfl⟩ := h
            exact unsafeStr_ok hI (H _ _ hx) (H _ _ hy) hu (rowAt_self c1 c2) c1 hl
          · cases h
        · cases h1
      · cases h1
    · cases hc
  | idxByte x y =>
    simp only [chkOp] at hc
    split at hc
    · rename_i f args at'
      simp only [Bool.and_eq_true, decide_eq_true_eq] at hc
      obtain ⟨x', y', rfl, hx, hy⟩ := opds2 hc.2
      obtain ⟨fn, q1, q2, q3, q4, q5⟩ := (hX f).1 hc.1
      rw [exec_func Hf, map2]
      simp only [evalP] at h
      split at h
      · rename_i r hl
        simp only [Option.some.injEq, Prod.mk.injEq] at h
        obtain ⟨rfl, rfl⟩ := h
        exact idxByte_ok hI (H _ _ hx) (H _ _ hy) q1 q2 q3 q4 q5 hl
      · cases h
    · cases hc
end
end Go.Proofs.YtkjokjogdehonaaGreatDoor.Am
namespace Go.Proofs.YtkjokjogdehonaaGreatDoor.Am
open Go Go.RowKit
def OutRep (C : Cx) : Rs → Ending → Prop
  | .ret v, .returned cv => Rep C v cv
  | .raise v, .panicked chain => ∃ cv, chain = [{ v := cv, recovered := false }] ∧ Rep C v cv
  | _, _ => False
def CallSound (P : Program) (G : Nat → Option (List AV)) (f : FuncId) (args : List AV) (m : Mem) (out : Rs) (m1 : Mem) : Prop :=
  ∀ w0 C w (argsV : Array Value), Inv G w0 C m w → listRep C args argsV.toList → (∃ fn, P.funcs[f]? = some fn ∧ fn.body.isSome = true ∧ fn.name ≠ "runtime.NumGoroutine") ∧
    Calls P f argsV w fun e w' => ∃ C', Cx.Le C C' ∧ Inv G w0 C' m1 w' ∧ OutRep C' out e
inductive Tr (P : Program) (G : Nat → Option (List AV)) : List (AOp × Option (Opd × Bool)) → List AV → List AV → Bool → List Mem → Mem → Rs → Mem → Prop where
  | nil {env fr d h m} : Tr P G [] env fr d h m (.env env h) m
  | skip {o g os env fr d h m r m'} : wants (Opd.ev env fr) g = some false → Tr P G os (.tup [] :: env) fr d (pushH d m h) m r m' → Tr P G ((o, g) :: os) env fr d h m r m'
  | op {o g os env fr d h m v m1 r m'} : wants (Opd.ev env fr) g = some true → evalP (Opd.ev env fr) m o = some (v, m1) → Tr P G os (v :: env) fr d (pushH d m h) m1 r m' → Tr P G ((o, g) :: os) env fr d h m r m'
  | call {o g os env fr d h m f args v m1 r m'} : wants (Opd.ev env fr) g = some true → callOf (Opd.ev env fr) o = some (f, args) → CallSound P G f args m (.ret v) m1 →
      Tr P G os (v :: env) fr d (pushH d m h) m1 r m' → Tr P G ((o, g) :: os) env fr d h m r m'
  | callP {o g os env fr d h m f args v m1} : wants (Opd.ev env fr) g = some true → callOf (Opd.ev env fr) o = some (f, args) → CallSound P G f args m (.raise v) m1 →
      Tr P G ((o, g) :: os) env fr d h m (.pan v env (pushH d m h)) m1
  | pan {x g os env fr d h m t v} : wants (Opd.ev env fr) g = some true → Opd.ev env fr x = .iface t v → Tr P G ((.panic x, g) :: os) env fr d h m (.pan (.iface t v) env (pushH d m h)) m
def sameInts : List AV → List AV → Bool
  | [], [] => true
  | .int k n :: l, .int k' n' :: l' => decide (k = k') && decide (n = n') && sameInts l l'
  | _, _ => false
theorem sameInts_eq : ∀ {a b : List AV}, sameInts a b = true → a = b
  | [], [], _ => rfl
  | .int k n :: l, .int k' n' :: l', h => by
    simp only [sameInts, Bool.and_eq_true, decide_eq_true_eq] at h
    obtain ⟨⟨rfl, rfl⟩, h⟩ := h
    rw [sameInts_eq h]
  | [], _ :: _, h => by simp [sameInts] at h
  | x :: _, [], h => by cases x <;> simp [sameInts] at h
  | .u :: _, _ :: _, h => by simp [sameInts] at h
  | .bool _ :: _, _ :: _, h => by simp [sameInts] at h
  | .str _ :: _, _ :: _, h => by simp [sameInts] at h
  | .agg _ :: _, _ :: _, h => by simp [sameInts] at h
  | .tup _ :: _, _ :: _, h => by simp [sameInts] at h
  | .nilSl :: _, _ :: _, h => by simp [sameInts] at h
  | .sl _ _ _ :: _, _ :: _, h => by simp [sameInts] at h
  | .osl _ _ _ _ _ :: _, _ :: _, h => by simp [sameInts] at h
  | .gsl _ _ _ :: _, _ :: _, h => by simp [sameInts] at h
  | .nilPtr :: _, _ :: _, h => by simp [sameInts] at h
  | .ptr _ _ :: _, _ :: _, h => by simp [sameInts] at h
  | .sptr _ _ :: _, _ :: _, h => by simp [sameInts] at h
  | .bptr _ _ :: _, _ :: _, h => by simp [sameInts] at h
  | .nilMap :: _, _ :: _, h => by simp [sameInts] at h
  | .map _ :: _, _ :: _, h => by simp [sameInts] at h
  | .nilFn :: _, _ :: _, h => by simp [sameInts] at h
  | .fn _ _ _ :: _, _ :: _, h => by simp [sameInts] at h
  | .nilIface :: _, _ :: _, h => by simp [sameInts] at h
  | .iface _ _ :: _, _ :: _, h => by simp [sameInts] at h
  | .int _ _ :: _, y :: _, h => by cases y <;> simp [sameInts] at h ⊢ <;> (try (obtain ⟨⟨rfl, rfl⟩, h⟩ := h; exact ⟨⟨rfl, rfl⟩, sameInts_eq h⟩))
def dstOf (ops : Array Oper) (i : Nat) : Option Tmp := (ops[i]?).bind (·.dst)
def okOpd (G : Nat → Option (List AV)) (slots : List Tmp) (ops : Array Oper) (i : Nat) (x : Operand) (y : Opd) : Bool :=
  match x, y with
  | .tmp t, .loc d => decide (d < i) && decide (dstOf ops (i - 1 - d) = some t)
  | .tmp t, .var j => decide (slots[j]? = some t) && (List.range i).all fun k => decide (dstOf ops k ≠ some t)
  | .const v, .cst a => cstOk a v
  | .global g, .cst (.sptr cs 0) => (match G g with
    | some cs' => sameInts cs' cs
    | none => false)
  | .func f, .cst (.fn (.func f') [] []) => decide (f' = f)
  | _, _ => false
def guardOk (ops : Array Oper) (i : Nat) (g : Option (Nat × Bool)) (y : Option (Opd × Bool)) : Bool :=
  match g, y with
  | none, none => true
  | some (k, b), some (.loc d, b') => decide (d < i) && decide (k = i - 1 - d) && decide (b = b') && (dstOf ops k).isSome
  | _, _ => false
def chkStep (P : Program) (xf : FuncId → Nat) (okd : Operand → Opd → Bool) (o : Oper) (a : AOp) : Bool :=
  match a with
  | .call f args => (match o.op with
    | .call { callee := .value (.func f'), args := xs, argTypes := _ } => decide (f' = f) && opdsOk okd xs.toList args
    | _ => false)
  | .callV y args => (match o.op with
    | .call { callee := .value x, args := xs, argTypes := _ } => okd x y && opdsOk okd xs.toList args
    | _ => false)
  | .panic y => (match o.op with
    | .panic x => okd x y
    | .call { callee := .builtin .panic, args := xs, argTypes := _ } => opdsOk okd xs.toList [y]
    | _ => false)
  | a => chkOp P xf okd o a
def chkOps (P : Program) (xf : FuncId → Nat) (G : Nat → Option (List AV)) (slots : List Tmp) (nt : Nat) (ops : Array Oper) (okx : Nat → Operand → Opd → Bool) : Nat → List (AOp × Option (Opd × Bool)) → Bool
  | i, [] => decide (ops.size = i)
  | i, (a, g) :: os => (match ops[i]? with
    | some o => chkStep P xf (fun x y => okOpd G slots ops i x y && okx i x y) o a && guardOk ops i o.guard g && (match o.dst with
      | some t => decide (t < nt) && (List.range i).all fun k => decide (dstOf ops k ≠ some t)
      | none => true)
    | none => false) && chkOps P xf G slots nt ops okx (i + 1) os
def entryOk (slots : List Tmp) (ops : Array Oper) (n : Nat) : Nat × Opd → Bool
  | (_, .cst .u) => true
  | (j, .loc d) => decide (d < n) && (match slots[j]? with
    | some t => decide (dstOf ops (n - 1 - d) = some t)
    | none => false)
  | _ => false
def chkExp (slots : List Tmp) (ops : Array Oper) (n : Nat) (exp : List (Nat × Opd)) : Bool :=
  exp.all (entryOk slots ops n) && (List.range slots.length).all fun j => (List.range n).all fun k => decide (dstOf ops k ≠ slots[j]?) || exp.any fun e => decide (e.1 = j)
def FrameRel (C : Cx) (slots : List Tmp) (nt : Nat) (fr : List AV) (tmps : Array Value) : Prop :=
  tmps.size = nt ∧ ∀ j t, slots[j]? = some t → Rep C (fr.getD j .u) (tmps.getD t undef)
def RegRel (C : Cx) (slots : List Tmp) (nt : Nat) (ops : Array Oper) (T : Nat → AV) (fr : List AV) (ex : Nat → Prop) (tmps : Array Value) : Prop :=
  tmps.size = nt ∧ (∀ i t, dstOf ops i = some t → ex i → Rep C (T i) (tmps.getD t undef)) ∧
    ∀ j t, slots[j]? = some t → (∀ i, dstOf ops i = some t → ¬ ex i) → Rep C (fr.getD j .u) (tmps.getD t undef)
def PanFr (C : Cx) (slots : List Tmp) (nt : Nat) (ops : Array Oper) (fr : List AV) (tmps : Array Value) : Prop :=
  tmps.size = nt ∧ ∀ j t, slots[j]? = some t → (∀ i, dstOf ops i ≠ some t) → Rep C (fr.getD j .u) (tmps.getD t undef)
theorem RegRel.panFr {C C' : Cx} (h : Cx.Le C C') {slots : List Tmp} {nt : Nat} {ops : Array Oper} {T : Nat → AV} {fr : List AV} {ex : Nat → Prop} {tmps : Array Value} (hr : RegRel C slots nt ops T fr ex tmps) : PanFr C' slots nt ops fr tmps :=
  ⟨hr.1, fun j t hs hn => (hr.2.2 j t hs fun i hi => absurd hi (hn i)).mono h⟩
theorem RegRel.mono {C C' : Cx} (h : Cx.Le C C') {slots : List Tmp} {nt : Nat} {ops : Array Oper} {T : Nat → AV} {fr : List AV} {ex : Nat → Prop} {tmps : Array Value} (hr : RegRel C slots nt ops T fr ex tmps) : RegRel C' slots nt ops T fr ex tmps :=
  ⟨hr.1, fun i t hd he => (hr.2.1 i t hd he).mono h, fun j t hs hn => (hr.2.2 j t hs hn).mono h⟩
section
variable {G : Nat → Option (List AV)} {w0 : World} {C : Cx} {m : Mem} {w : World} {P : Program} {xf : FuncId → Nat} {slots : List Tmp} {nt : Nat} {ops : Array Oper}
theorem FrameRel.reg {fr : List AV} {tmps : Array Value} (h : FrameRel C slots nt fr tmps) (T : Nat → AV) : RegRel C slots nt ops T fr (fun i => i < 0) tmps :=
  ⟨h.1, fun i t _ he => absurd he (by omega), fun j t hs _ => h.2 j t hs⟩
theorem RegRel.step {T T' : Nat → AV} {fr : List AV} {ex ex' : Nat → Prop} {a : Act} (h : RegRel C slots nt ops T fr ex a.tmps) {i : Nat} {o : Oper} (ho : ops[i]? = some o) (hlt : ∀ t, o.dst = some t → t < nt) (hT : ∀ k, ex k → T' k = T k) (hi : ∀ k, ex' k ↔ ex k ∨ k = i)
    (hdis : ∀ k t, k ≠ i → dstOf ops k = some t → o.dst = some t → ¬ ex k) {cv : Value} (hv : Rep C (T' i) cv) : RegRel C slots nt ops T' fr ex' (a.put o.dst cv).tmps := by
  have hdo : dstOf ops i = o.dst := by simp [dstOf, ho]
  cases hd : o.dst with
  | none =>
    refine ⟨h.1, fun k t hk hx => ?_, fun j t hs hn => h.2.2 j t hs fun k hk hx => hn k hk ((hi k).2 (.inl hx))⟩
    rcases (hi k).1 hx with hx | rfl
    · rw [hT k hx]; exact h.2.1 k t hk hx
    · rw [hdo, hd] at hk; cases hk
  | some u =>
    have hu := hlt u hd
    have hsz : u < a.tmps.size := by rw [h.1]; exact hu
    have hput : (a.put (some u) cv).tmps = a.tmps.setIfInBounds u cv := rfl
    have hsame : (a.tmps.setIfInBounds u cv).getD u undef = cv := by simp [Array.getD_eq_getD_getElem?, hsz]
    have hother : ∀ t, t ≠ u → (a.tmps.setIfInBounds u cv).getD t undef = a.tmps.getD t undef := fun t ht => by
      simp [Array.getD_eq_getD_getElem?, Array.getElem?_setIfInBounds, Ne.symm ht]
    rw [hput]
    refine ⟨by simp [h.1], fun k t hk hx => ?_, fun j t hs hn => ?_⟩
    · by_cases hki : k = i
      · subst hki
        rw [hdo, hd] at hk; injection hk with hk; subst hk
        rw [hsame]; exact hv
      · have hx' : ex k := ((hi k).1 hx).resolve_right hki
        have hne : t ≠ u := fun e => by subst e; exact hdis k t hki hk hd hx'
        rw [hother t hne, hT k hx']
        exact h.2.1 k t hk hx'
    · have hne : t ≠ u := fun e => by subst e; exact hn i (by rw [hdo, hd]) ((hi i).2 (.inr rfl))
      rw [hother t hne]
      exact h.2.2 j t hs fun k hk hx => hn k hk ((hi k).2 (.inl hx))
theorem opd_rep (hI : Inv G w0 C m w) {env fr : List AV} {T : Nat → AV} {ex : Nat → Prop} {a : Act} (h : RegRel C slots nt ops T fr ex a.tmps) {i : Nat} (hlen : env.length = i) (hT : ∀ k, k < i → T k = env.getD (i - 1 - k) .u) {x : Operand} {y : Opd} (hc : okOpd G slots ops i x y = true)
    (hloc : ∀ t d, x = .tmp t → y = .loc d → ex (i - 1 - d)) (hvar : ∀ t j, x = .tmp t → y = .var j → ∀ k, dstOf ops k = some t → ¬ ex k) : Rep C (y.ev env fr) (a.eval x) := by
  unfold okOpd at hc
  split at hc
  · rename_i t d
    simp only [Bool.and_eq_true, decide_eq_true_eq] at hc
    have := h.2.1 _ t hc.2 (hloc t d rfl rfl)
    rw [hT _ (by omega)] at this
    have e : i - 1 - (i - 1 - d) = d := by omega
    rw [e] at this
    exact this
  · rename_i t j
    simp only [Bool.and_eq_true, decide_eq_true_eq] at hc
    exact h.2.2 j t hc.1 (hvar t j rfl rfl)
  · exact cstOk_rep C hc
  · rename_i g cs
    split at hc
    · rename_i cs' hg
      have := sameInts_eq hc
      subst this
      exact hI.glob _ _ hg
    · cases hc
  · rename_i f f'
    have := of_decide_eq_true hc
    subst this
    exact .fn _ _ _ _ _ rfl (fun i hi => absurd hi (by simp)) rfl (fun i hi => absurd hi (by simp))
  · cases hc
theorem listRep_append : ∀ {as : List AV} {vs : List Value} {bs : List AV} {us : List Value}, listRep C as vs → listRep C bs us → listRep C (as ++ bs) (vs ++ us)
  | [], [], _, _, _, h => h
  | _ :: _, _ :: _, _, _, h, k => ⟨h.1, listRep_append h.2 k⟩
  | [], _ :: _, _, _, h, _ => h.elim
  | _ :: _, [], _, _, h, _ => h.elim
theorem listRep_of : ∀ {as : List AV} {vs : List Value}, vs.length = as.length → (∀ i, i < as.length → Rep C (as.getD i .u) (vs.getD i undef)) → listRep C as vs
  | [], [], _, _ => trivial
  | a :: as, v :: vs, hl, h => ⟨h 0 (by simp), listRep_of (by simpa using hl) fun i hi => h (i + 1) (by simpa using hi)⟩
  | [], _ :: _, hl, _ => by simp at hl
  | _ :: _, [], hl, _ => by simp at hl
theorem listRep_ofArr {as : List AV} {vs : Array Value} (hl : vs.size = as.length) (h : ∀ i, i < as.length → Rep C (as.getD i .u) (vs.getD i undef)) : listRep C as vs.toList :=
  listRep_of (by simpa using hl) fun i hi => by have := h i hi; rwa [Array.getD_eq_getD_getElem?, ← Array.getElem?_toList] at this
theorem run_enter {f : FuncId} {fn : Func} (hf : P.funcs[f]? = some fn) (hb : fn.body.isSome = true) (hn : fn.name ≠ "runtime.NumGoroutine") (args : Array Value) : (callFunc f args).run P w = .ok (.enter f args) w := by
  obtain ⟨c, hc⟩ := Option.isSome_iff_exists.1 hb
  simp [callFunc, hf, hn, hc]
theorem step_eval (hI : Inv G w0 C m w) (hX : XfOk P xf) {okd : Operand → Opd → Bool} {ρa : Opd → AV} {a : Act} (H : ∀ x y, okd x y = true → Rep C (ρa y) (a.eval x)) {o : Oper} {op : AOp} (hc : chkStep P xf okd o op = true) {v : AV} {m1 : Mem} (h : evalP ρa m op = some (v, m1))
    {K : Act → World → Prop} {Q : Exit → Act → World → Prop} (hK : ∀ C' cv w', Cx.Le C C' → Inv G w0 C' m1 w' → Rep C' v cv → K (a.put o.dst cv) w') : o.wp P a w K Q := by
  have hc' : chkOp P xf okd o op = true := by
    cases op <;> first | exact hc | (simp [evalP] at h)
  obtain ⟨nx, w', C', h1, h2, h3, h4⟩ := op_ok hI hX H (fun _ => rfl) hc' h
  unfold Oper.wp
  rw [h1]
  cases nx with
  | value cv => exact hK C' cv w' h2 h3 h4
  | skip =>
    have hv : v = .tup [] := h4
    subst hv
    exact hK C' undef w' h2 h3 (.tup _ _ rfl fun i hi => absurd hi (by simp))
  | _ => exact h4.elim
theorem step_call (hI : Inv G w0 C m w) {okd : Operand → Opd → Bool} {ρa : Opd → AV} {a : Act} (H : ∀ x y, okd x y = true → Rep C (ρa y) (a.eval x)) {o : Oper} {op : AOp} (hc : chkStep P xf okd o op = true) {f : FuncId} {args : List AV} (hcall : callOf ρa op = some (f, args)) {out : Rs} {m1 : Mem}
    (hs : CallSound P G f args m out m1) {K : Act → World → Prop} {Q : Exit → Act → World → Prop} (hK : ∀ C' cv w' v, out = .ret v → Cx.Le C C' → Inv G w0 C' m1 w' → Rep C' v cv → K (a.put o.dst cv) w')
    (hQ : ∀ C' cv w' v, out = .raise v → Cx.Le C C' → Inv G w0 C' m1 w' → Rep C' v cv → Q (.panic [{ v := cv, recovered := false }]) a w') : o.wp P a w K Q := by
  have fin : ∀ (argsV : Array Value), listRep C args argsV.toList → (execOp a.eval o).run P w = (callFunc f argsV).run P w → o.wp P a w K Q := by
    intro argsV hl hrun
    obtain ⟨⟨fn, q1, q2, q3⟩, hcs⟩ := hs w0 C w argsV hI hl
    unfold Oper.wp
    rw [hrun, run_enter q1 q2 q3, Oper.upon_enter]
    refine hcs.mono fun e w' ⟨C', h1, h2, h3⟩ => ?_
    cases out with
    | ret v =>
      cases e with
      | returned cv => exact hK C' cv w' v rfl h1 h2 h3
      | panicked _ => exact h3.elim
      | outgrown => exact h3.elim
    | raise v =>
      cases e with
      | returned cv => exact h3.elim
      | panicked chain =>
        obtain ⟨cv, rfl, hr⟩ := h3
        exact hQ C' cv w' v rfl h1 h2 hr
      | outgrown => exact h3.elim
    | _ => cases e <;> exact h3.elim
  obtain ⟨dst, oop, type, pos, after, guard⟩ := o
  cases op <;> simp only [callOf] at hcall <;> try (cases hcall; done)
  case call f' as =>
    simp only [Option.some.injEq, Prod.mk.injEq] at hcall
    obtain ⟨rfl, rfl⟩ := hcall
    simp only [chkStep] at hc
    split at hc
    · rename_i f2 xs at'
      simp only [Bool.and_eq_true, decide_eq_true_eq] at hc
      obtain ⟨rfl, hc⟩ := hc
      have hl := opds_rep (C := C) (ρa := ρa) (ρv := a.eval) H hc
      exact fin (xs.map a.eval) (by simpa using hl) (exec_func (fun _ => rfl))
    · cases hc
  case callV y as =>
    split at hcall
    · rename_i f2 first cap hy
      simp only [Option.some.injEq, Prod.mk.injEq] at hcall
      obtain ⟨rfl, rfl⟩ := hcall
      simp only [chkStep] at hc
      split at hc
      · rename_i x xs at'
        simp only [Bool.and_eq_true] at hc
        have hr := H _ _ hc.1
        rw [hy] at hr
        obtain ⟨us, vs, hv, h1, h2, h3, h4⟩ : ∃ us vs, a.eval x = .func (.func f2) us vs ∧ us.size = first.length ∧ (∀ i, i < first.length → Rep C (first.getD i .u) (us.getD i undef)) ∧ vs.size = cap.length ∧ ∀ i, i < cap.length → Rep C (cap.getD i .u) (vs.getD i undef) := by
          generalize a.eval x = z at hr
          cases hr with
          | fn _ _ _ us vs h1 h2 h3 h4 => exact ⟨us, vs, rfl, h1, h2, h3, h4⟩
        have hl := opds_rep (C := C) (ρa := ρa) (ρv := a.eval) H hc.2
        refine fin (us ++ xs.map a.eval ++ vs) ?_ ?_
        · simp only [Array.toList_append]
          exact listRep_append (listRep_append (listRep_ofArr h1 h2) (by simpa using hl)) (listRep_ofArr h3 h4)
        · simp only [execOp, resolve, hv, Sem.run_bind, Deferred.ofValue, Sem.run_pure, Result.andThen_ok, invoke]
      · cases hc
    · cases hcall
theorem step_pan {okd : Operand → Opd → Bool} {ρa : Opd → AV} {a : Act} (H : ∀ x y, okd x y = true → Rep C (ρa y) (a.eval x)) {o : Oper} {x : Opd} (hc : chkStep P xf okd o (.panic x) = true) {t : TypeId} {v : AV} (hx : ρa x = .iface t v)
    {K : Act → World → Prop} {Q : Exit → Act → World → Prop} (hQ : ∀ cv, Rep C (.iface t v) cv → Q (.panic [{ v := cv, recovered := false }]) a w) : o.wp P a w K Q := by
  have fin : ∀ cv, Rep C (.iface t v) cv → (execOp a.eval o).run P w = ((do pure (.value (← Instr.panic cv)) : Sem Next)).run P w → o.wp P a w K Q := by
    intro cv hr hrun
    unfold Oper.wp
    rw [hrun]
    cases hr with
    | iface _ _ y hy =>
      have : ((do pure (.value (← Instr.panic (.iface t y))) : Sem Next)).run P w = .halt (.panic (.iface t y)) w := by simp [Instr.panic]
      rw [this, Oper.upon_panic]
      exact hQ _ (.iface _ _ _ hy)
  obtain ⟨dst, oop, type, pos, after, guard⟩ := o
  simp only [chkStep] at hc
  split at hc
  · rename_i y
    have hr := H _ _ hc
    rw [hx] at hr
    exact fin _ hr rfl
  · rename_i xs at'
    obtain ⟨y, rfl, hy⟩ := opds1 hc
    have hr := H _ _ hy
    rw [hx] at hr
    refine fin _ hr ?_
    obtain ⟨cs, e⟩ := exec_builtin (P := P) (w := w) (ρv := a.eval) (dst := dst) (b := .panic) (args := #[y]) (at' := at') (type := type) (pos := pos) (after := after) (guard := guard)
    rw [e, map1]
    rfl
  · cases hc
theorem guard_wanted {env fr : List AV} {T : Nat → AV} {ex : Nat → Prop} {a : Act} (h : RegRel C slots nt ops T fr ex a.tmps) {i : Nat} (hlen : env.length = i) (hT : ∀ k, k < i → T k = env.getD (i - 1 - k) .u) {o : Oper} {g : Option (Opd × Bool)} (hc : guardOk ops i o.guard g = true)
    (hex : ∀ k b, o.guard = some (k, b) → ex k) (hnt : ∀ k t, dstOf ops k = some t → k < i → t < nt) {r : Bool} (hw : wants (Opd.ev env fr) g = some r) : Region.wanted o (yielded ops a.tmps) = r := by
  unfold guardOk at hc
  unfold Region.wanted
  split at hc
  · rename_i hg
    simp only [wants, Option.some.injEq] at hw
    rw [hg]; exact hw
  · rename_i k b d b' hg
    simp only [Bool.and_eq_true, decide_eq_true_eq] at hc
    obtain ⟨⟨⟨h1, rfl⟩, rfl⟩, h4⟩ := hc
    rw [hg]
    obtain ⟨t, ht⟩ := Option.isSome_iff_exists.1 h4
    have hlt := hnt _ t ht (by omega)
    have hr := h.2.1 _ t ht (hex _ _ hg)
    rw [hT _ (by omega)] at hr
    have e : i - 1 - (i - 1 - d) = d := by omega
    rw [e] at hr
    have hy : yielded ops a.tmps (i - 1 - d) = (match a.tmps.getD t undef with | .bool b => some b | _ => none) := by
      unfold yielded
      have ht' : (ops[i - 1 - d]?).bind (·.dst) = some t := ht
      rw [ht']
      simp only [Option.bind_some]
      rw [agetD_lt (l := a.tmps) (by rw [h.1]; exact hlt)]
      cases a.tmps.getD t undef <;> rfl
    simp only [hy]
    simp only [wants, Opd.ev] at hw
    split at hw
    · rename_i c hb
      rw [hb] at hr
      rw [rep_bool hr]
      have hw' : (c == b) = r := Option.some.inj hw
      rw [← hw']
      cases c <;> cases b <;> rfl
    · rename_i l hb
      rw [hb] at hr
      injection hw with hw
      generalize a.tmps.getD t undef = z at hr
      cases hr
      rw [← hw]; rfl
    · cases hw
  · cases hc
theorem reg_next {C' : Cx} (hle : Cx.Le C C') {env fr : List AV} {T : Nat → AV} {a : Act} (hR : RegRel C slots nt ops T fr (fun k => k < env.length) a.tmps) (hT : ∀ k, k < env.length → T k = env.getD (env.length - 1 - k) .u) {o : Oper} (ho : ops[env.length]? = some o)
    (hc : (match o.dst with | some t => decide (t < nt) && (List.range env.length).all fun k => decide (dstOf ops k ≠ some t) | none => true) = true) {v : AV} {cv : Value} (hv : Rep C' v cv) :
    RegRel C' slots nt ops (fun k => (v :: env).getD ((v :: env).length - 1 - k) .u) fr (fun k => k < (v :: env).length) (a.put o.dst cv).tmps := by
  refine RegRel.step (i := env.length) (hR.mono hle) ho (fun t ht => ?_) (fun k hk => ?_) (fun k => by simp only [List.length_cons]; omega) (fun k t hk hd ht hlt => ?_) ?_
  · rw [ht] at hc; simp only [Bool.and_eq_true, decide_eq_true_eq] at hc; exact hc.1
  · rw [hT k hk]
    have e : (v :: env).length - 1 - k = (env.length - 1 - k) + 1 := by simp only [List.length_cons]; omega
    rw [e]; simp [List.getD]
  · rw [ht] at hc
    simp only [Bool.and_eq_true, decide_eq_true_eq, List.all_eq_true, List.mem_range] at hc
    exact hc.2 k hlt hd
  · have e : (v :: env).length - 1 - env.length = 0 := by simp
    rw [e]; exact hv
theorem okOpd_loc {i : Nat} {x : Operand} {y : Opd} {t : Tmp} {d : Nat} (h : okOpd G slots ops i x y = true) (hx : x = .tmp t) (hy : y = .loc d) : d < i := by
  subst hx; subst hy
  simp only [okOpd, Bool.and_eq_true, decide_eq_true_eq] at h
  exact h.1
theorem okOpd_var {i : Nat} {x : Operand} {y : Opd} {t : Tmp} {j : Nat} (h : okOpd G slots ops i x y = true) (hx : x = .tmp t) (hy : y = .var j) : ∀ k, dstOf ops k = some t → ¬ k < i := by
  subst hx; subst hy
  simp only [okOpd, Bool.and_eq_true, decide_eq_true_eq, List.all_eq_true, List.mem_range] at h
  exact fun k hk hlt => h.2 k hlt hk
theorem guardOk_lt {i : Nat} {o : Oper} {g : Option (Opd × Bool)} (h : guardOk ops i o.guard g = true) : ∀ k b, o.guard = some (k, b) → k < i := by
  intro k b hg
  rw [hg] at h
  unfold guardOk at h
  split at h
  · rename_i h1; cases h1
  · rename_i k' b' d b2 h1
    injection h1 with h1; injection h1 with h1 h2
    subst h1
    simp only [Bool.and_eq_true, decide_eq_true_eq] at h
    omega
  · cases h
theorem and_l {a b : Bool} (h : (a && b) = true) : a = true := by cases a <;> simp_all
theorem and_r {a b : Bool} (h : (a && b) = true) : b = true := by cases a <;> simp_all
theorem tr_text {okx : Nat → Operand → Opd → Bool} (hX : XfOk P xf) {os : List (AOp × Option (Opd × Bool))} {env fr : List AV} {d : Bool} {hist : List Mem} {r : Rs} {m' : Mem} (ht : Tr P G os env fr d hist m r m') : ∀ {C : Cx} {w : World} {a : Act} {T : Nat → AV} {Q : Exit → Act → World → Prop} {ds : List Deferred},
    chkOps P xf G slots nt ops okx env.length os = true → (∀ k t, dstOf ops k = some t → k < env.length → t < nt) → Inv G w0 C m w → a.defers = ds → (∀ k, k < env.length → T k = env.getD (env.length - 1 - k) .u) → RegRel C slots nt ops T fr (fun k => k < env.length) a.tmps →
    (∀ env' h', r = .env env' h' → env'.length = ops.size → ∀ C' T' a' w', Cx.Le C C' → Inv G w0 C' m' w' → a'.defers = ds → (∀ k, k < env'.length → T' k = env'.getD (env'.length - 1 - k) .u) → RegRel C' slots nt ops T' fr (fun k => k < env'.length) a'.tmps → Q .normal a' w') →
    (∀ v env' h', r = .pan v env' h' → ∀ C' cv a' w', Cx.Le C C' → Inv G w0 C' m' w' → a'.defers = ds → Rep C' v cv → PanFr C' slots nt ops fr a'.tmps → Q (.panic [{ v := cv, recovered := false }]) a' w') →
    wpOps P ops Q (List.range' env.length (ops.size - env.length)) a w := by
  induction ht with
  | nil =>
    intro C w a T Q ds hc _ hI hd hT hR hQn _
    simp only [chkOps, decide_eq_true_eq] at hc
    rw [hc, Nat.sub_self]
    simp only [List.range'_zero, wpOps]
    exact hQn _ _ rfl hc.symm C T a _ (.refl C) hI hd hT hR
  | @skip o g os env fr d h m r m' hw _ ih =>
    intro C w a T Q ds hc hnt hI hd hT hR hQn hQp
    simp only [chkOps, Bool.and_eq_true] at hc
    obtain ⟨hc, hrest⟩ := hc
    split at hc
    · rename_i oo ho
      simp only [Bool.and_eq_true] at hc
      obtain ⟨⟨c1, c2⟩, c3⟩ := hc
      have hlt : env.length < ops.size := (Array.getElem?_eq_some_iff.1 ho).1
      have hwant := guard_wanted hR rfl hT c2 (guardOk_lt c2) hnt hw
      have hsub : ops.size - env.length = (ops.size - (env.length + 1)) + 1 := by omega
      rw [hsub, List.range'_succ, wpOps]
      simp only [ho, hwant, Bool.false_eq_true, if_false]
      refine ih (T := fun k => (AV.tup [] :: env).getD ((AV.tup [] :: env).length - 1 - k) .u) (ds := ds) hrest (fun k t hk hl => ?_) hI ?_ (fun k _ => rfl) (reg_next (.refl C) hR hT ho c3 (.tup _ _ rfl fun i hi => absurd hi (by simp))) (fun e h hr hl C' T' a' w' hle => hQn e h hr hl C' T' a' w' hle) hQp
      · simp only [List.length_cons] at hl
        by_cases hk' : k < env.length
        · exact hnt k t hk hk'
        · obtain rfl : k = env.length := by omega
          simp only [dstOf, ho, Option.bind_some] at hk
          rw [hk] at c3; simp only [Bool.and_eq_true, decide_eq_true_eq] at c3; exact c3.1
      · cases oo.dst <;> exact hd
    · cases hc
  | @op o g os env fr d h m v m1 r m' hw he _ ih =>
    intro C w a T Q ds hc hnt hI hd hT hR hQn hQp
    simp only [chkOps, Bool.and_eq_true] at hc
    obtain ⟨hc, hrest⟩ := hc
    split at hc
    · rename_i oo ho
      simp only [Bool.and_eq_true] at hc
      obtain ⟨⟨c1, c2⟩, c3⟩ := hc
      have hlt : env.length < ops.size := (Array.getElem?_eq_some_iff.1 ho).1
      have hwant := guard_wanted hR rfl hT c2 (guardOk_lt c2) hnt hw
      have hsub : ops.size - env.length = (ops.size - (env.length + 1)) + 1 := by omega
      rw [hsub, List.range'_succ, wpOps]
      simp only [ho, hwant, if_true]
      left
      refine step_eval hI hX (fun x y hxy => opd_rep hI hR rfl hT (and_l hxy) (fun t d hx hy => by have := okOpd_loc (and_l hxy) hx hy; omega) (fun t j hx hy => okOpd_var (and_l hxy) hx hy)) c1 he (fun C' cv w' hle hI' hv => ?_)
      refine ih (T := fun k => (v :: env).getD ((v :: env).length - 1 - k) .u) (ds := ds) hrest (fun k t hk hl => ?_) hI' ?_ (fun k _ => rfl) (reg_next hle hR hT ho c3 hv) (fun e h hr hl C2 T' a' w' hle2 => hQn e h hr hl C2 T' a' w' (hle.trans hle2)) (fun v e h hr C2 cv a' w' hle2 => hQp v e h hr C2 cv a' w' (hle.trans hle2))
      · simp only [List.length_cons] at hl
        by_cases hk' : k < env.length
        · exact hnt k t hk hk'
        · obtain rfl : k = env.length := by omega
          simp only [dstOf, ho, Option.bind_some] at hk
          rw [hk] at c3; simp only [Bool.and_eq_true, decide_eq_true_eq] at c3; exact c3.1
      · cases oo.dst <;> exact hd
    · cases hc
  | @call o g os env fr d h m f args v m1 r m' hw he hcs _ ih =>
    intro C w a T Q ds hc hnt hI hd hT hR hQn hQp
    simp only [chkOps, Bool.and_eq_true] at hc
    obtain ⟨hc, hrest⟩ := hc
    split at hc
    · rename_i oo ho
      simp only [Bool.and_eq_true] at hc
      obtain ⟨⟨c1, c2⟩, c3⟩ := hc
      have hlt : env.length < ops.size := (Array.getElem?_eq_some_iff.1 ho).1
      have hwant := guard_wanted hR rfl hT c2 (guardOk_lt c2) hnt hw
      have hsub : ops.size - env.length = (ops.size - (env.length + 1)) + 1 := by omega
      rw [hsub, List.range'_succ, wpOps]
      simp only [ho, hwant, if_true]
      left
      refine step_call hI (fun x y hxy => opd_rep hI hR rfl hT (and_l hxy) (fun t d hx hy => by have := okOpd_loc (and_l hxy) hx hy; omega) (fun t j hx hy => okOpd_var (and_l hxy) hx hy)) c1 he hcs (fun C' cv w' v' hv' hle hI' hv => ?_) (fun C' cv w' v' hv' => by cases hv')
      injection hv' with hv'; subst hv'
      refine ih (T := fun k => (v :: env).getD ((v :: env).length - 1 - k) .u) (ds := ds) hrest (fun k t hk hl => ?_) hI' ?_ (fun k _ => rfl) (reg_next hle hR hT ho c3 hv) (fun e h hr hl C2 T' a' w' hle2 => hQn e h hr hl C2 T' a' w' (hle.trans hle2)) (fun v e h hr C2 cv a' w' hle2 => hQp v e h hr C2 cv a' w' (hle.trans hle2))
      · simp only [List.length_cons] at hl
        by_cases hk' : k < env.length
        · exact hnt k t hk hk'
        · obtain rfl : k = env.length := by omega
          simp only [dstOf, ho, Option.bind_some] at hk
          rw [hk] at c3; simp only [Bool.and_eq_true, decide_eq_true_eq] at c3; exact c3.1
      · cases oo.dst <;> exact hd
    · cases hc
  | @callP o g os env fr d h m f args v m1 hw he hcs =>
    intro C w a T Q ds hc hnt hI hd hT hR hQn hQp
    simp only [chkOps, Bool.and_eq_true] at hc
    obtain ⟨hc, hrest⟩ := hc
    split at hc
    · rename_i oo ho
      simp only [Bool.and_eq_true] at hc
      obtain ⟨⟨c1, c2⟩, c3⟩ := hc
      have hlt : env.length < ops.size := (Array.getElem?_eq_some_iff.1 ho).1
      have hwant := guard_wanted hR rfl hT c2 (guardOk_lt c2) hnt hw
      have hsub : ops.size - env.length = (ops.size - (env.length + 1)) + 1 := by omega
      rw [hsub, List.range'_succ, wpOps]
      simp only [ho, hwant, if_true]
      left
      refine step_call hI (fun x y hxy => opd_rep hI hR rfl hT (and_l hxy) (fun t d hx hy => by have := okOpd_loc (and_l hxy) hx hy; omega) (fun t j hx hy => okOpd_var (and_l hxy) hx hy)) c1 he hcs (fun C' cv w' v' hv' => by cases hv') (fun C' cv w' v' hv' hle hI' hv => ?_)
      injection hv' with hv'; subst hv'
      exact hQp _ _ _ rfl C' cv a w' hle hI' hd hv (hR.panFr hle)
    · cases hc
  | @pan x g os env fr d h m t v hw hx =>
    intro C w a T Q ds hc hnt hI hd hT hR hQn hQp
    simp only [chkOps, Bool.and_eq_true] at hc
    obtain ⟨hc, hrest⟩ := hc
    split at hc
    · rename_i oo ho
      simp only [Bool.and_eq_true] at hc
      obtain ⟨⟨c1, c2⟩, c3⟩ := hc
      have hlt : env.length < ops.size := (Array.getElem?_eq_some_iff.1 ho).1
      have hwant := guard_wanted hR rfl hT c2 (guardOk_lt c2) hnt hw
      have hsub : ops.size - env.length = (ops.size - (env.length + 1)) + 1 := by omega
      rw [hsub, List.range'_succ, wpOps]
      simp only [ho, hwant, if_true]
      left
      exact step_pan (fun x y hxy => opd_rep hI hR rfl hT (and_l hxy) (fun t d hx hy => by have := okOpd_loc (and_l hxy) hx hy; omega) (fun t j hx hy => okOpd_var (and_l hxy) hx hy)) c1 hx (fun cv hv => hQp _ _ _ rfl C cv a _ (.refl C) hI hd hv (hR.panFr (.refl C)))
    · cases hc
theorem exports_rel {env fr : List AV} {T : Nat → AV} {a : Act} (hR : RegRel C slots nt ops T fr (fun k => k < env.length) a.tmps) (hlen : env.length = ops.size) (hT : ∀ k, k < env.length → T k = env.getD (env.length - 1 - k) .u) {exp : List (Nat × Opd)} (hc : chkExp slots ops env.length exp = true) :
    FrameRel C slots nt (exports env fr exp) a.tmps := by
  simp only [chkExp, Bool.and_eq_true] at hc
  obtain ⟨c1, c2⟩ := hc
  refine ⟨hR.1, fun j t hs => ?_⟩
  have hj : j < slots.length := (List.getElem?_eq_some_iff.1 hs).1
  have key : ∀ exp : List (Nat × Opd), exp.all (entryOk slots ops env.length) = true → Rep C ((exports env fr exp).getD j .u) (a.tmps.getD t undef) ∨ ((∀ e ∈ exp, e.1 ≠ j) ∧ (exports env fr exp).getD j .u = fr.getD j .u) := by
    intro exp
    induction exp with
    | nil => intro _; right; exact ⟨fun e he => absurd he (by simp), rfl⟩
    | cons e es ih =>
      intro h
      simp only [List.all_cons, Bool.and_eq_true] at h
      obtain ⟨i, x⟩ := e
      simp only [exports]
      by_cases hij : i = j
      · subst hij
        left
        by_cases hin : i < (exports env fr es).length
        · have e1 : ((exports env fr es).set i (x.ev env fr)).getD i .u = x.ev env fr := by simp [List.getD, List.getElem?_set_self hin]
          rw [e1]
          have h1 := h.1
          unfold entryOk at h1
          split at h1
          · rename_i heq; injection heq with _ heq; subst heq; exact .u _
          · rename_i j' d heq
            injection heq with q1 q2; subst q1; subst q2
            simp only [Bool.and_eq_true, decide_eq_true_eq] at h1
            rw [hs] at h1
            simp only [decide_eq_true_eq] at h1
            have := hR.2.1 _ t h1.2 (by omega)
            rw [hT _ (by omega)] at this
            have e : env.length - 1 - (env.length - 1 - d) = d := by omega
            rw [e] at this
            exact this
          · cases h1
        · have e1 : ((exports env fr es).set i (x.ev env fr)).getD i .u = .u := by
            simp only [List.getD]; rw [List.getElem?_eq_none (by simpa using hin)]; rfl
          rw [e1]; exact .u _
      · have e1 : ((exports env fr es).set i (x.ev env fr)).getD j .u = (exports env fr es).getD j .u := by simp [List.getD, List.getElem?_set_ne hij]
        rw [e1]
        rcases ih h.2 with h' | ⟨h1, h2⟩
        · exact .inl h'
        · right
          refine ⟨fun e he => ?_, h2⟩
          rcases List.mem_cons.1 he with rfl | he
          · exact hij
          · exact h1 e he
  rcases key exp c1 with h | ⟨h1, h2⟩
  · exact h
  · rw [h2]
    refine hR.2.2 j t hs fun k hk hlt => ?_
    have := List.all_eq_true.1 (List.all_eq_true.1 c2 j (List.mem_range.2 hj)) k (List.mem_range.2 hlt)
    rw [hs, hk] at this
    simp only [ne_eq, not_true_eq_false, decide_false, Bool.false_or, List.any_eq_true, decide_eq_true_eq] at this
    obtain ⟨e, he, hej⟩ := this
    exact h1 e he hej
end
end Go.Proofs.YtkjokjogdehonaaGreatDoor.Am
