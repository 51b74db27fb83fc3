/-
  THE ABSTRACT MACHINE, 9: slices of parts, bytes of a string, make, a Builder's text, addresses as unsafe pointers, IndexByte: against the model's own run.
-/
import Derived.Test.YtinlfdkalijffaaDoorAm8
set_option linter.unusedSimpArgs false
set_option linter.unusedVariables false
namespace Go.Proofs.YtinlfdkalijffaaDoor.Am
open Go Go.RowKit

section
variable {G : Nat → Option (List AV)} {w0 : World} {C : Cx} {m : Mem} {w : World} {P : Program}

/-- Cells of a new block that are known for ever; no token. -/
def Cx.addK (C : Cx) (b : Nat) (P : Nat → Value → Prop) : Cx := { C with St := fun b' o v => C.St b' o v ∨ (b' = b ∧ P o v) }
theorem Cx.le_addK (C : Cx) (b : Nat) (P : Nat → Value → Prop) : Cx.Le C (C.addK b P) := ⟨fun _ _ _ h => .inl h, fun _ _ h => h, fun _ _ _ _ h => h, fun _ _ h => h, fun _ h => h⟩
theorem Inv.addK (h : Inv G w0 C m w) {o : Obj} {Q : Nat → Value → Prop} (hQ : ∀ q v, Q q v → (w.alloc o).cell? ⟨w.heap.size, q, none⟩ = some v) : Inv G w0 (C.addK w.heap.size Q) m (w.alloc o) := by
  have h' := h.alloc_any o
  have hle := C.le_addK w.heap.size Q
  exact
  { below := h'.below
    st := fun b q v hs => by
      rcases hs with hs | ⟨rfl, hq⟩
      · exact h'.st _ _ _ hs
      · exact hQ _ _ hq
    obj := fun id b hb => let ⟨h1, h2, h3, h4⟩ := h'.obj id b hb; ⟨h1, h2, h3, h4.mono hle⟩
    inj := h.inj, func := h.func
    sti := fun b q v id hs hb => by
      rcases hs with hs | ⟨rfl, _⟩
      · exact h.sti _ _ _ _ hs hb
      · exact absurd (h.obj _ _ hb).2.2.1 (by omega)
    tok := fun t b s e hr => by
      obtain ⟨h1, h2, h3, h4, h5⟩ := h'.tok t b s e hr
      refine ⟨h1, h2, h3, h4, fun hl => ?_⟩
      obtain ⟨k1, k2⟩ := h5 hl
      refine ⟨k1, fun q v hs => ?_⟩
      rcases hs with hs | ⟨rfl, _⟩
      · exact k2 _ _ hs
      · exact absurd (h.tok _ _ _ _ hr).2.2.1 (by omega)
    shp := h'.shp, tty := h.tty, shut := h'.shut, tokf := h.tokf, toku := h.toku, glob := fun g cs hg => (h.glob g cs hg).mono hle }

/-- A block's frozen range changes; nothing else. -/
theorem Inv.refreeze (h : Inv G w0 C m w) {w' : World} {b lo hi lo' hi' : Nat} {vs : Array Value} {T : TypeId} (hb : w.heap[b]? = some (.cells vs T (lo, hi))) (hb' : w'.heap[b]? = some (.cells vs T (lo', hi')))
    (hbelow : Below w0.heap.size w0 w') (hsize : w'.heap.size = w.heap.size) (hother : ∀ k, k ≠ b → w'.heap[k]? = w.heap[k]?) (hI : ∀ id, ¬ C.I id b)
    (hfr : ∀ t s e, C.R t b s e → m.live t = true → ∀ o, s ≤ o → o < e → ¬ (lo' ≤ o ∧ o < hi')) : Inv G w0 C m w' :=
  { below := hbelow
    st := fun b2 o v hs => by
      have := h.st _ _ _ hs
      by_cases e : b2 = b
      · subst e
        rw [cell_of_row _ _ _ _ _ _ hb] at this
        rw [cell_of_row _ _ _ _ _ _ hb', this]
      · rw [World.cell?_of_block (w := w) (hother b2 e)]; exact this
    obj := fun id b2 hb2 => by
      obtain ⟨h1, h2, h3, h4⟩ := h.obj id b2 hb2
      have hne : b2 ≠ b := fun e => hI id (e ▸ hb2)
      exact ⟨h1, h2, by omega, h4.of_heap (hother _ hne)⟩
    inj := h.inj, func := h.func, sti := h.sti
    tok := fun t b2 s e hr => by
      obtain ⟨h1, h2, h3, h4, h5⟩ := h.tok t b2 s e hr
      refine ⟨h1, h2, by omega, h4, fun hl => ?_⟩
      obtain ⟨⟨vs2, T2, l2, u2, k1, k2, k3⟩, k4⟩ := h5 hl
      refine ⟨?_, k4⟩
      by_cases e' : b2 = b
      · subst e'
        rw [hb] at k1; injection k1 with k1; injection k1 with q1 q2 q3
        subst q1; subst q2
        exact ⟨vs, T, lo', hi', hb', k2, hfr t s e hr hl⟩
      · exact ⟨vs2, T2, l2, u2, (hother _ e').trans k1, k2, k3⟩
    shp := fun b2 t ht => by
      obtain ⟨⟨vs2, fr, k1⟩, k2⟩ := h.shp b2 t ht
      by_cases e' : b2 = b
      · subst e'
        rw [hb] at k1; injection k1 with k1; injection k1 with q1 q2 q3
        subst q2
        exact ⟨⟨vs, _, hb'⟩, k2⟩
      · exact ⟨⟨vs2, fr, (hother _ e').trans k1⟩, k2⟩
    tty := h.tty
    shut := fun b2 hz => by obtain ⟨h1, h2, h3, h4⟩ := h.shut b2 hz; exact ⟨h1, by omega, h3, h4⟩
    tokf := h.tokf, toku := h.toku, glob := h.glob }

/-- A block is sealed: no token of it lives. -/
theorem Inv.seals (h : Inv G w0 C m w) {b : Nat} (h1 : w0.heap.size ≤ b) (h2 : b < w.heap.size) (h3 : ∀ id, ¬ C.I id b) (h4 : ∀ t s e, C.R t b s e → m.live t = false) :
    Inv G w0 { C with Z := fun k => C.Z k ∨ k = b } m w :=
  have hle : Cx.Le C { C with Z := fun k => C.Z k ∨ k = b } := ⟨fun _ _ _ h => h, fun _ _ h => h, fun _ _ _ _ h => h, fun _ _ h => h, fun _ h => .inl h⟩
  { below := h.below, st := h.st, obj := fun id b hb => let ⟨q1, q2, q3, q4⟩ := h.obj id b hb; ⟨q1, q2, q3, q4.mono hle⟩, inj := h.inj, func := h.func, sti := h.sti, tok := h.tok, shp := h.shp, tty := h.tty
    shut := fun k hk => by
      rcases hk with hk | rfl
      · exact h.shut k hk
      · exact ⟨h1, h2, h3, h4⟩
    tokf := h.tokf, toku := h.toku, glob := fun g cs hg => (h.glob g cs hg).mono hle }

/-! ### a slice of parts -/
theorem buildSl_fill {sz n : Nat} (hsz : 0 < sz) : ∀ {ps : List (Nat × Value)} {qs : List (Nat × AV)} {xs : List AV} {cells : Array Value} {v : AV}, xs.length = n → cells.size = n * sz →
    (∀ i, i < n → (xs.getD i .u).cells.length = sz) → (∀ i j, i < n → j < sz → Rep C ((xs.getD i .u).cells.getD j .u) (cells.getD (i * sz + j) undef)) →
    ps.length = qs.length → (∀ (i : Nat) (p : Nat × Value) (q : Nat × AV), ps[i]? = some p → qs[i]? = some q → p.1 = q.1 ∧ Rep C q.2 p.2) → buildSlV sz n xs qs = some v →
    ∃ cs' xs', Instr.fill (fun i => some (i * sz, sz)) cells ps = some cs' ∧ v = .sl .full sz xs' ∧ xs'.length = n ∧ cs'.size = n * sz ∧ (∀ i, i < n → (xs'.getD i .u).cells.length = sz) ∧
      ∀ i j, i < n → j < sz → Rep C ((xs'.getD i .u).cells.getD j .u) (cs'.getD (i * sz + j) undef)
  | [], [], xs, cells, v, h1, h2, h3, h4, _, _, h => by
    simp only [buildSlV, Option.some.injEq] at h; subst h
    exact ⟨cells, xs, rfl, rfl, h1, h2, h3, h4⟩
  | (i0, x) :: ps, (i, a) :: qs, xs, cells, v, h1, h2, h3, h4, hlen, hp, h => by
    simp only [buildSlV] at h
    split at h
    · rename_i hc
      obtain ⟨hcl, hin, hsc⟩ := hc
      obtain ⟨k1, k2⟩ := hp 0 _ _ rfl rfl
      have k1' : i0 = i := k1
      subst k1'
      obtain ⟨l1, l2⟩ := rep_cells k2 (ne_u hsc)
      dsimp only at l1 l2
      have hmul : i0 * sz + sz ≤ n * sz := by
        calc i0 * sz + sz = (i0 + 1) * sz := by rw [Nat.add_mul]; omega
          _ ≤ n * sz := Nat.mul_le_mul_right _ hin
      have hz : (x.cells.zipIdx.foldl (fun (cs : Array Value) (p : Value × Nat) => cs.setIfInBounds (i0 * sz + p.2) p.1) cells).size = cells.size := by
        rw [← Array.foldl_toList, Array.toList_zipIdx]; exact fill_one_size _ _ _
      have hget : ∀ q, (x.cells.zipIdx.foldl (fun (cs : Array Value) (p : Value × Nat) => cs.setIfInBounds (i0 * sz + p.2) p.1) cells).getD q undef = if i0 * sz ≤ q ∧ q < i0 * sz + sz then x.cells.toList.getD (q - i0 * sz) undef else cells.getD q undef := by
        intro q
        rw [← Array.foldl_toList, Array.toList_zipIdx, fill_one (i0 * sz) _ 0 q _ (by simp; omega)]
        simp only [Nat.add_zero, Array.length_toList, l1, hcl]
      obtain ⟨cs', xs', f1, f2, f3, f4, f5, f6⟩ := buildSl_fill hsz (ps := ps) (qs := qs) (xs := xs.set i0 a) (cells := x.cells.zipIdx.foldl (fun (cs : Array Value) (p : Value × Nat) => cs.setIfInBounds (i0 * sz + p.2) p.1) cells)
        (by simpa using h1) (by rw [hz]; exact h2)
        (fun q hq => by
          by_cases e : q = i0
          · subst e; simp [List.getD, List.getElem?_set_self (show q < xs.length by omega), hcl]
          · have := h3 q hq; simpa [List.getD, List.getElem?_set_ne (show i0 ≠ q by omega)] using this)
        (fun q j hq hj => by
          rw [hget]
          by_cases e : q = i0
          · subst e
            rw [if_pos (by omega)]
            have e1 : q * sz + j - q * sz = j := by omega
            rw [e1]
            have e2 : (xs.set q a).getD q .u = a := by simp [List.getD, List.getElem?_set_self (show q < xs.length by omega)]
            rw [e2]
            have := l2 j (by omega)
            rwa [Array.getD_eq_getD_getElem?, ← Array.getElem?_toList] at this
          · have hout : ¬ (i0 * sz ≤ q * sz + j ∧ q * sz + j < i0 * sz + sz) := by
              rintro ⟨g1, g2⟩
              rcases Nat.lt_or_gt_of_ne e with hlt | hgt
              · have : (q + 1) * sz ≤ i0 * sz := Nat.mul_le_mul_right _ hlt
                rw [Nat.add_mul] at this; omega
              · have : (i0 + 1) * sz ≤ q * sz := Nat.mul_le_mul_right _ hgt
                rw [Nat.add_mul] at this; omega
            rw [if_neg hout]
            have e2 : (xs.set i0 a).getD q .u = xs.getD q .u := by simp [List.getD, List.getElem?_set_ne (show i0 ≠ q by omega)]
            rw [e2]
            exact h4 q j hq hj)
        (by simpa using hlen) (fun j p q e1 e2 => hp (j + 1) p q (by simpa using e1) (by simpa using e2)) h
      refine ⟨cs', xs', ?_, f2, f3, f4, f5, f6⟩
      simp only [Instr.fill]
      rw [if_neg (by simp; omega)]
      exact f1
    · cases h
  | [], _ :: _, _, _, _, _, _, _, _, hlen, _, _ => by simp at hlen
  | _ :: _, [], _, _, _, _, _, _, _, hlen, _, _ => by simp at hlen

/-- A new block, all of it known, none of it spare. -/
theorem slice_full (hI : Inv G w0 C m w) {xs : List AV} {n sz : Nat} {cells : Array Value} {T : TypeId} (hn : xs.length = n) (hsz : 0 < sz) (hsize : cells.size = n * sz) (hlen : ∀ i, i < n → (xs.getD i .u).cells.length = sz)
    (hr : ∀ i j, i < n → j < sz → Rep C ((xs.getD i .u).cells.getD j .u) (cells.getD (i * sz + j) undef)) :
    ∃ C', Cx.Le C C' ∧ Inv G w0 C' m (w.alloc (.cells cells T)) ∧ Rep C' (.sl .full sz xs) (.slice (some ⟨w.heap.size, 0, none⟩) n n) := by
  have hnew : (w.alloc (.cells cells T)).heap[w.heap.size]? = some (.cells cells T (0, 0)) := heap_alloc_new w _
  refine ⟨_, C.le_addK w.heap.size (fun q v => q < n * sz ∧ v = cells.getD q undef), hI.addK (fun q v ⟨h1, h2⟩ => by rw [cell_of_row _ _ _ _ _ _ hnew, agetD_lt (by omega), h2]), ?_⟩
  refine .sl .full sz xs w.heap.size 0 n n (fun i j => cells.getD (i * sz + j) undef) hn.symm (Nat.le_refl _) hsz (fun _ => rfl) (fun t h => by cases h) hlen (fun i j hi hj => .inr ⟨rfl, ?_, by rw [Nat.zero_add]⟩) (fun i j hi hj => (hr i j hi hj).mono (C.le_addK _ _))
  have : i * sz + j < n * sz := by
    calc i * sz + j < i * sz + sz := by omega
      _ = (i + 1) * sz := by rw [Nat.add_mul]; omega
      _ ≤ n * sz := Nat.mul_le_mul_right _ hi
  omega

theorem buildSl_ok (hI : Inv G w0 C m w) {t e : TypeId} {sz n : Nat} {z v : AV} {ps : List (Nat × Value)} {qs : List (Nat × AV)} (ht : P.underlying t = some (.slice e)) (hs : cellsB P e = some sz) (hsz : 0 < sz) (hroom : n * sz ≤ 2 ^ 24)
    (hz : zeroOk P e z = true) (hzu : z ≠ .u) (hzl : z.cells.length = sz) (hlen : ps.length = qs.length) (hp : ∀ (i : Nat) (p : Nat × Value) (q : Nat × AV), ps[i]? = some p → qs[i]? = some q → p.1 = q.1 ∧ Rep C q.2 p.2)
    (h : buildSlV sz n (List.replicate n z) qs = some v) : Res G w0 C m v ((do pure (.value (← Instr.buildSlice t n ps.toArray)) : Sem Next).run P w) := by
  obtain ⟨zv, z1, z2⟩ := zeroOk_run (w := w) hz
  obtain ⟨l1, l2⟩ := rep_cells (cstOk_rep C z2) hzu
  have hzsz : zv.cells.size = sz := by omega
  have hcells : ∀ q, q < n * sz → ((Array.range (n * sz)).map (zv.cells[· % zv.cells.size]!)).getD q undef = zv.cells.getD (q % sz) undef := by
    intro q hq
    rw [agetD_eq (x := zv.cells.getD (q % sz) undef)]
    have : q % sz < zv.cells.size := by rw [hzsz]; exact Nat.mod_lt _ hsz
    simp only [Array.getElem?_map, Array.getElem?_range, if_pos hq, Option.map_some, hzsz]
    congr 1
    rw [getElem!_pos zv.cells (q % sz) this, Array.getD_eq_getD_getElem?, Array.getElem?_eq_getElem this]; rfl
  obtain ⟨cs', xs', f1, f2, f3, f4, f5, f6⟩ := buildSl_fill (C := C) hsz (ps := ps) (qs := qs) (xs := List.replicate n z) (cells := (Array.range (n * sz)).map (zv.cells[· % zv.cells.size]!)) (by simp) (by simp)
    (fun i hi => by rw [show (List.replicate n z).getD i .u = z from getD_eq (by simp [hi])]; exact hzl)
    (fun i j hi hj => by
      rw [show (List.replicate n z).getD i .u = z from getD_eq (by simp [hi]), hcells _ (by
        calc i * sz + j < i * sz + sz := by omega
          _ = (i + 1) * sz := by rw [Nat.add_mul]; omega
          _ ≤ n * sz := Nat.mul_le_mul_right _ hi)]
      have e2 : (i * sz + j) % sz = j := by rw [Nat.mul_comm, Nat.mul_add_mod, Nat.mod_eq_of_lt hj]
      rw [e2]; exact l2 j (by omega)) hlen hp h
  subst f2
  obtain ⟨C', hle, hInv, hrep⟩ := slice_full hI (T := e) f3 hsz f4 f5 f6
  refine Res.made (w' := w.alloc (.cells cs' e)) (cv := .slice (some ⟨w.heap.size, 0, none⟩) n n) ?_ hle hInv hrep
  simp only [Instr.buildSlice, Sem.run_bind, run_underlying ht, Result.andThen_ok, run_sizeOf hs, Sem.run_ite]
  rw [if_neg (by omega)]
  by_cases hn0 : n * sz = 0
  · have f1' : Instr.fill (fun i => some (i * sz, sz)) ((Array.range (n * sz)).map ((#[] : Array Value)[· % (#[] : Array Value).size]!)) ps = some cs' := by
      rw [← f1]; congr 1; rw [hn0]; simp
    simp only [hn0, if_true, Sem.run_pure, Result.andThen_ok]
    rw [hn0] at f1'
    simp only [f1', newRow, Sem.run_bind, run_newObj, Result.andThen_ok, Sem.run_pure, World.alloc_eq]
  · simp only [if_neg hn0, Sem.run_bind, z1, Result.andThen_ok, Sem.run_pure, f1, newRow, run_newObj, World.alloc_eq]

/-! ### the bytes of a string -/
theorem bytesOf_ok (hI : Inv G w0 C m w) {x : AV} {a : Value} (hx : Rep C x a) {src dst e : TypeId} {s : List UInt8} (hs : P.underlying src = some .string) (hd : P.underlying dst = some (.slice e)) (he : P.underlying e = some (.int .u8)) (h : x = .str s) :
    Res G w0 C (m.newTok e) (.sl (.tok m.ntok) 1 (bytesAV s)) ((do pure (.value (← convert src dst a)) : Sem Next).run P w) := by
  subst h
  cases hx with
  | str _ b hb =>
    have hsz : b.size = s.length := by subst hb; simp
    have hge := grownCap_ge w b.size 0 e
    obtain ⟨c, hc⟩ : ∃ c, c = grownCap w b.size 0 e := ⟨_, rfl⟩
    rw [← hc] at hge
    obtain ⟨C', hle, hInv, hrep, hnI⟩ := slice_new hI (xs := bytesAV s) (n := s.length) (c := c) (sz := 1) (cells := (b.data.map fun b => Value.int .u8 b.toNat) ++ Array.replicate (c - b.size) (.int .u8 0)) (T := e) (by simp [bytesAV]) (by omega) (by omega)
      (by
        have : b.data.size = b.size := rfl
        simp only [Array.size_append, Array.size_map, Array.size_replicate, this, Nat.mul_one]; omega)
      (fun i hi => by rw [show (bytesAV s).getD i .u = byteAV s[i] from getD_eq (by simp [bytesAV, hi])]; rfl)
      (fun i j hi hj => by
        obtain rfl : j = 0 := by omega
        rw [show (bytesAV s).getD i .u = byteAV s[i] from getD_eq (by simp [bytesAV, hi])]
        have e1 : (((b.data.map fun b => Value.int .u8 b.toNat) ++ Array.replicate (c - b.size) (.int .u8 0)) : Array Value)[i * 1 + 0]? = some (.int .u8 s[i].toNat) := by
          subst hb
          simp only [Nat.mul_one, Nat.add_zero]
          have hi' : i < b.data.size := by simpa using hi
          rw [Array.getElem?_append_left (by simpa using hi'), Array.getElem?_map, Array.getElem?_eq_getElem hi']
          simp
        rw [agetD_eq e1]
        exact .int _ _)
    have hnew := heap_alloc_new w.drew (.cells ((b.data.map fun b => Value.int .u8 b.toNat) ++ Array.replicate (c - b.size) (.int .u8 0)) e)
    obtain ⟨cells, hcells⟩ : ∃ cells, cells = (b.data.map fun b => Value.int .u8 b.toNat) ++ Array.replicate (c - b.size) (.int .u8 0) := ⟨_, rfl⟩
    rw [← hcells] at hInv hnew
    have hfz : ((w.drew.alloc (.cells cells e)).freeze ⟨w.heap.size, cells.size, none⟩ 1).heap[w.heap.size]? = some (.cells cells e (cells.size, cells.size + 1)) := by
      simp only [World.freeze, Nat.one_ne_zero, if_false, Array.getElem?_modify, if_true]
      have : (w.drew.alloc (.cells cells e)).heap[w.heap.size]? = some (.cells cells e (0, 0)) := hnew
      rw [this]; rfl
    have hfo : ∀ k, k ≠ w.heap.size → ((w.drew.alloc (.cells cells e)).freeze ⟨w.heap.size, cells.size, none⟩ 1).heap[k]? = (w.drew.alloc (.cells cells e)).heap[k]? := by
      intro k hk
      simp only [World.freeze, Nat.one_ne_zero, if_false, Array.getElem?_modify]
      rw [if_neg (Ne.symm hk)]
    have hInv' := hInv.refreeze (b := w.heap.size) (w' := (w.drew.alloc (.cells cells e)).freeze ⟨w.heap.size, cells.size, none⟩ 1) (lo' := cells.size) (hi' := cells.size + 1) hnew hfz
      (by
        refine hInv.below.trans ⟨rfl, rfl, rfl, by simp [World.freeze], fun k hk => hfo k (by have := hI.below.size; omega)⟩)
      (by simp [World.freeze]) hfo
      hnI
      (fun t s' e' hr hl o h1 h2 => by
        obtain ⟨⟨vs, T, lo, hi, k1, k2, k3⟩, _⟩ := (hInv.tok _ _ _ _ hr).2.2.2.2 hl
        have k1' : (w.drew.alloc (.cells cells e)).heap[w.heap.size]? = some (.cells vs T (lo, hi)) := k1
        rw [show (w.drew.alloc (.cells cells e)).heap[w.heap.size]? = some (.cells cells e (0, 0)) from hnew] at k1'
        injection k1' with k1'; injection k1' with q1 q2 q3
        subst q1; omega)
    refine Res.made (w' := (w.drew.alloc (.cells cells e)).freeze ⟨w.heap.size, cells.size, none⟩ 1) (cv := .slice (some ⟨w.heap.size, 0, none⟩) s.length c) ?_ hle hInv' hrep
    have hshape : (w.drew.alloc (.cells cells e)).shape? w.heap.size = some (e, cells.size) := by
      have hn' : (w.drew.alloc (.cells cells e)).heap[w.heap.size]? = some (.cells cells e (0, 0)) := hnew
      simp only [World.shape?]; rw [hn']
    have hq : Question.cut (.appendCap b.size 0 e) (w.tape w.drawn (.appendCap b.size 0 e)) = c := by rw [hc]; rfl
    have hch : (choose (.appendCap b.size 0 e)).run P w = .ok c w.drew := by
      simp only [run_choose, Question.forced, Bool.false_eq_true, if_false, hq, World.drew_eq]
    simp only [convert, Sem.run_bind, run_underlying hs, run_underlying hd, Result.andThen_ok, run_underlying he, Conv.stringToBytes, hch, newRow, run_newObj, World.alloc_eq, Sem.run_pure, markStringish, run_shape, ← hcells, World.size_drew, hshape, run_freeze]
    rw [hsz]


/-! ### a Builder's text -/
theorem sliceData_ok (hI : Inv G w0 C m w) {x v : AV} {a : Value} (hx : Rep C x a) {ts : Array TypeId} {ty : TypeId} {m1 : Mem} (h : sliceDataV m x = some (v, m1)) :
    Res G w0 C m1 v ((do pure (.value (← Builtin.unsafeSliceData_ ts ty #[a])) : Sem Next).run P w) := by
  cases hx with
  | nilSl =>
    simp only [sliceDataV, Option.some.injEq, Prod.mk.injEq] at h
    obtain ⟨rfl, rfl⟩ := h
    exact Res.quiet hI (cv := .pointer none) rfl .nilPtr
  | sl0 o sz ad h1 h2 => cases o <;> simp [sliceDataV] at h
  | sl o sz xs b off n cap val h1 h2 h3 h4 h5 h6 h7 h8 =>
    unfold sliceDataV at h
    split at h
    · cases ‹AV.sl o sz xs = AV.nilSl›
    · rename_i t sz' x0 xs0 he
      injection he with e1 e2 e3
      subst e1; subst e2; subst e3
      split at h
      · rename_i hc
        obtain ⟨rfl, hlive, hub⟩ := hc
        simp only [Option.some.injEq, Prod.mk.injEq] at h
        obtain ⟨rfl, rfl⟩ := h
        have hn : 0 < n := by rw [h1]; simp
        have hcap : cap ≠ 0 := by omega
        have hrun : (Builtin.unsafeSliceData_ ts ty #[.slice (some ⟨b, off, none⟩) n cap]).run P w = .ok (.pointer (some ⟨b, off, none⟩)) w := by
          change Sem.run P (if cap ≠ 0 then pure (Value.pointer (some ⟨b, off, none⟩)) else _) w = _
          rw [if_pos hcap]; rfl
        have hone : ∀ i, i < n → ((x0 :: xs0).getD i .u).cells.getD 0 .u = (x0 :: xs0).getD i .u := by
          intro i hi
          obtain ⟨l, hl⟩ := Option.isSome_iff_exists.1 hub
          obtain ⟨q, k1, _⟩ := unbytes_get hl i (by omega)
          rw [k1]; rfl
        have hR := (h5 t rfl).resolve_left (by omega)
        obtain ⟨t1, t2, t3, t4, t5⟩ := hI.tok _ _ _ _ hR
        have hI' := (hI.kill t).seals (b := b) t2 t3 t4 (fun t' s e hr => by
          simp only [Mem.killTok]
          split
          · rfl
          · rename_i hne
            cases hl' : m.live t' with
            | false => rfl
            | true => exact absurd (hI.toku _ _ _ _ _ _ _ hr hR hl' hlive) hne)
        have hle : Cx.Le C { C with Z := fun k => C.Z k ∨ k = b } := ⟨fun _ _ _ h => h, fun _ _ h => h, fun _ _ _ _ h => h, fun _ _ h => h, fun _ h => .inl h⟩
        refine Res.made (C' := { C with Z := fun k => C.Z k ∨ k = b }) hrun hle hI' ?_
        refine .bptr _ _ b off (fun j => val j 0) (hI.tty _ _ _ _ hR) (.inr rfl) (fun j hj => ?_) (fun j hj => ?_)
        · have := h7 j 0 (by omega) (by omega)
          simpa using this
        · have := (h8 j 0 (by omega) (by omega)).mono hle
          rwa [hone j (by omega)] at this
      · cases h
    · cases h
  | _ => simp [sliceDataV] at h

theorem run_loadBytes : ∀ (l : List UInt8) (b off : Nat) (acc : ByteArray) (w : World), (∀ i, i < l.length → ∃ n : Int, w.cell? ⟨b, off + i, none⟩ = some (.int .u8 n) ∧ l.getD i 0 = n.toNat.toUInt8) →
    (loadBytes ⟨b, off, none⟩ acc l.length).run P w = .ok ⟨acc.data ++ l.toArray⟩ w
  | [], b, off, acc, w, _ => by simp [loadBytes]
  | x :: l, b, off, acc, w, h => by
    obtain ⟨n, h1, h2⟩ := h 0 (by simp)
    have ih := run_loadBytes l b (off + 1) (acc.push x) w (fun i hi => by
      obtain ⟨k, k1, k2⟩ := h (i + 1) (by simpa using hi)
      exact ⟨k, by rw [Nat.add_assoc, Nat.add_comm 1 i]; exact k1, by simpa [List.getD] using k2⟩)
    have h2' : x = n.toNat.toUInt8 := by simpa [List.getD] using h2
    simp only [Nat.add_zero] at h1
    simp only [List.length_cons, loadBytes, Sem.run_bind, run_load, h1, Result.andThen_ok, Addr.add_lit, ← h2', ih]
    congr 2
    simp

theorem unsafeStr_ok (hI : Inv G w0 C m w) {x y v : AV} {a c : Value} (hx : Rep C x a) (hy : Rep C y c) {pt u ty : TypeId} {ts : List TypeId} (hp : P.underlying pt = some (.pointer u)) (hlies : ∀ n off count, off + n ≤ count → liesAt P P.depth u count off u n = true) (hcell : P.cellsOf u = 1)
    (h : unsafeStrV u x y = some v) : Res G w0 C m v ((do pure (.value (← Builtin.unsafeString_ (pt :: ts).toArray ty #[a, c])) : Sem Next).run P w) := by
  cases hy with
  | int k n =>
    cases hx with
    | nilPtr =>
      simp only [unsafeStrV] at h
      split at h
      · rename_i hn; subst hn
        injection h with h; subst h
        refine Res.quiet hI (cv := .string .empty) ?_ (.str _ _ rfl)
        change Sem.run P (do
          let n ← asInt (.int k 0)
          let some pt := (pt :: ts).toArray[0]? | stuck "unsafe.String: no argument types"
          if n < 0 then runtimePanic (.error "unsafe.String: len out of range")
          if n > IntKind.i64.max then unsupported (.unsafePointer "String: a length above the largest int")
          if n = 0 then pure (Value.string .empty)
          else runtimePanic (.error "unsafe.String: ptr is nil and len is not zero")) w = _
        simp [asInt, asIntOf]
      · cases h
    | bptr T cs b off val ht hz h1 h2 =>
      simp only [unsafeStrV] at h
      split at h
      · rename_i hc
        obtain ⟨rfl, rfl, hroom⟩ := hc
        split at h
        · rename_i l hl
          injection h with h; subst h
          unfold roomMax at hroom
          obtain ⟨⟨vs, ⟨lo, hi⟩, hb⟩, hnI⟩ := hI.shp _ _ ht
          obtain ⟨z1, z2, z3, z4⟩ := hI.shut _ hz
          have hll := unbytes_length hl
          have hcells : ∀ i, i < cs.length → ∃ q : Int, w.cell? ⟨b, off + i, none⟩ = some (.int .u8 q) ∧ l.getD i 0 = q.toNat.toUInt8 := by
            intro i hi'
            obtain ⟨q, k1, k2⟩ := unbytes_get hl i hi'
            have := h2 i hi'
            rw [k1] at this
            have e := rep_int this rfl
            exact ⟨q, by rw [hI.st _ _ _ (h1 i hi'), e], k2⟩
          have hfit : cs.length ≠ 0 → off + cs.length ≤ vs.size := by
            intro h0
            obtain ⟨q, k1, _⟩ := hcells (cs.length - 1) (by omega)
            rw [cell_of_row _ _ _ _ _ _ hb] at k1
            have := (Array.getElem?_eq_some_iff.1 k1).1
            omega
          have hbig : ¬ ((cs.length : Int) > IntKind.i64.max) := by rw [IntKind.max_i64]; omega
          have hlb := run_loadBytes (P := P) l b off .empty w (by rw [hll]; exact hcells)
          rw [hll] at hlb
          by_cases h0 : cs.length = 0
          · have hl0 : l = [] := List.eq_nil_of_length_eq_zero (by omega)
            refine Res.quiet hI (cv := .string .empty) ?_ (.str _ _ (by rw [hl0]; rfl))
            change Sem.run P (do
              let n ← asInt (.int k cs.length)
              let some pt := (pt :: ts).toArray[0]? | stuck "unsafe.String: no argument types"
              if n < 0 then runtimePanic (.error "unsafe.String: len out of range")
              if n > IntKind.i64.max then unsupported (.unsafePointer "String: a length above the largest int")
              if n = 0 then pure (Value.string .empty)
              else if ← variablesAt ⟨b, off, none⟩ (← elemOf pt) n.toNat then do
                let s ← loadBytes ⟨b, off, none⟩ .empty n.toNat
                freeze ⟨b, off, none⟩ n.toNat
                pure (Value.string s)
              else unsupported (.unsafePointer "String: not so many bytes at ptr")) w = _
            simp [asInt, asIntOf, h0]
          · have hva : (variablesAt ⟨b, off, none⟩ T cs.length).run P w = .ok true w := by
              simp only [variablesAt, Sem.run_bind, run_program, Result.andThen_ok, run_shape, World.shape?, hb, Sem.run_pure, hcell, Nat.div_one]
              rw [hlies _ _ _ (hfit h0)]
            have hrun : (Builtin.unsafeString_ (pt :: ts).toArray ty #[.pointer (some ⟨b, off, none⟩), .int k cs.length]).run P w = .ok (.string ⟨ByteArray.empty.data ++ l.toArray⟩) (w.freeze ⟨b, off, none⟩ cs.length) := by
              change Sem.run P (do
                let n ← asInt (.int k cs.length)
                let some pt := (pt :: ts).toArray[0]? | stuck "unsafe.String: no argument types"
                if n < 0 then runtimePanic (.error "unsafe.String: len out of range")
                if n > IntKind.i64.max then unsupported (.unsafePointer "String: a length above the largest int")
                if n = 0 then pure (Value.string .empty)
                else if ← variablesAt ⟨b, off, none⟩ (← elemOf pt) n.toNat then do
                  let s ← loadBytes ⟨b, off, none⟩ .empty n.toNat
                  freeze ⟨b, off, none⟩ n.toNat
                  pure (Value.string s)
                else unsupported (.unsafePointer "String: not so many bytes at ptr")) w = _
              have hneg : ¬ ((cs.length : Int) < 0) := by omega
              have hz0 : ¬ ((cs.length : Int) = 0) := by omega
              simp only [asInt, asIntOf, Sem.run_bind, Sem.run_pure, Result.andThen_ok, List.getElem?_toArray, List.getElem?_cons_zero, Sem.run_ite, if_neg hneg, if_neg hbig, if_neg hz0, elemOf, run_underlying hp, Int.toNat_natCast, hva, if_true, hlb, run_freeze]
            have hf1 : (w.freeze ⟨b, off, none⟩ cs.length).heap[b]? = some (.cells vs T (if lo == hi then (off, off + cs.length) else (min lo off, max hi (off + cs.length)))) := by
              simp only [World.freeze, if_neg h0, Array.getElem?_modify, if_true, hb]; rfl
            have hf2 : ∀ k, k ≠ b → (w.freeze ⟨b, off, none⟩ cs.length).heap[k]? = w.heap[k]? := by
              intro k hk
              simp only [World.freeze, if_neg h0, Array.getElem?_modify]
              rw [if_neg (Ne.symm hk)]
            have hInv := hI.refreeze (lo' := (if lo == hi then (off, off + cs.length) else (min lo off, max hi (off + cs.length))).1) (hi' := (if lo == hi then (off, off + cs.length) else (min lo off, max hi (off + cs.length))).2) hb hf1
              (hI.below.trans ⟨by simp only [World.freeze, if_neg h0], by simp only [World.freeze, if_neg h0], by simp only [World.freeze, if_neg h0], by simp only [World.freeze, if_neg h0, Array.size_modify]; exact Nat.le_refl _, fun k hk => hf2 k (by omega)⟩) (by simp only [World.freeze, if_neg h0, Array.size_modify]) hf2 hnI
              (fun t s e hr hl' => by rw [z4 _ _ _ hr] at hl'; cases hl')
            exact Res.made hrun (.refl C) hInv (.str _ _ (by simp [ByteArray.empty, ByteArray.emptyWithCapacity]; rfl))
        · cases h
      · cases h
    | _ => simp [unsafeStrV] at h
  | _ => cases x <;> simp [unsafeStrV] at h

/-! ### addresses as unsafe pointers -/
theorem convP_ok (hI : Inv G w0 C m w) {x v : AV} {a : Value} (hx : Rep C x a) {src dst t : TypeId} {n : Nat} (hs : P.underlying src = some (.pointer t)) (hd : P.underlying dst = some .unsafePointer) (hn : cellsB P t = some n) (hn0 : n ≠ 0) (h : convPV m x = some v) :
    Res G w0 C m v ((do pure (.value (← convert src dst a)) : Sem Next).run P w) := by
  cases hx with
  | nilPtr =>
    simp only [convPV, Option.some.injEq] at h; subst h
    refine Res.quiet hI (cv := .pointer none) ?_ .nilPtr
    simp only [convert, Sem.run_bind, run_underlying hs, run_underlying hd, Result.andThen_ok, Conv.unsafePointer, Sem.run_pure]
  | ptr id off b hb =>
    simp only [convPV] at h
    split at h
    · rename_i T cs hc
      split at h
      · rename_i hlt
        injection h with h; subst h
        obtain ⟨_, _, _, ho⟩ := hI.obj id b hb
        rw [hc] at ho
        obtain ⟨vs, h1, h2, h3⟩ := ho
        have hshape : w.shape? b = some (T, vs.size) := by simp [World.shape?, h1]
        refine Res.quiet hI (cv := .pointer (some ⟨b, off, none⟩)) ?_ (.ptr _ _ _ hb)
        have hge : ¬ (off ≥ vs.size) := by omega
        simp only [convert, Sem.run_bind, run_underlying hs, run_underlying hd, Result.andThen_ok, Conv.unsafePointer, Conv.seenAt, viewAt, run_shape, hshape, Option.isSome_some, if_true, Sem.run_pure, cellsIn, run_sizeOf hn, Sem.run_ite]
        simp [hn0, hge, hlt, h2]
        intro h'; omega
      · cases h
    · cases h
  | _ => simp [convPV] at h

theorem convU_ok (hI : Inv G w0 C m w) {x v : AV} {a : Value} (hx : Rep C x a) {src dst u : TypeId} {alts : List (TypeId × Nat × Nat)} (hs : P.underlying src = some .unsafePointer) (hd : P.underlying dst = some (.pointer u))
    (hal : ∀ p ∈ alts, liesAt P P.depth p.1 (p.2.1 / P.cellsOf p.1) p.2.2 u 1 = true) (hu : ∃ n, cellsB P u = some n) (h : convUV m alts x = some v) :
    Res G w0 C m v ((do pure (.value (← convert src dst a)) : Sem Next).run P w) := by
  obtain ⟨n, hn⟩ := hu
  cases hx with
  | nilPtr =>
    simp only [convUV, Option.some.injEq] at h; subst h
    refine Res.quiet hI (cv := .pointer none) ?_ .nilPtr
    simp only [convert, Sem.run_bind, run_underlying hs, run_underlying hd, Result.andThen_ok, Conv.unsafePointer, Sem.run_pure]
  | ptr id off b hb =>
    simp only [convUV] at h
    split at h
    · rename_i T cs hc
      split at h
      · rename_i hany
        injection h with h; subst h
        obtain ⟨p, hp, hq⟩ := List.any_eq_true.1 hany
        simp only [Bool.and_eq_true, decide_eq_true_eq] at hq
        obtain ⟨⟨q1, q2⟩, q3⟩ := hq
        have hl := hal p hp
        rw [q1, q2, q3] at hl
        obtain ⟨_, _, _, ho⟩ := hI.obj id b hb
        rw [hc] at ho
        obtain ⟨vs, h1, h2, h3⟩ := ho
        have hshape : w.shape? b = some (T, vs.size) := by simp [World.shape?, h1]
        have hva : (variablesAt ⟨b, off, none⟩ u 1).run P w = .ok true w := by
          simp only [variablesAt, Sem.run_bind, run_program, Result.andThen_ok, run_shape, hshape, Sem.run_pure, h2, hl]
        refine Res.quiet hI (cv := .pointer (some ⟨b, off, none⟩)) ?_ (.ptr _ _ _ hb)
        simp only [convert, Sem.run_bind, run_underlying hs, run_underlying hd, Result.andThen_ok, Conv.unsafePointer, Conv.seenAt, viewAt, run_shape, hshape, Option.isSome_some, if_true, Sem.run_pure, run_sizeOf hn, hva, Sem.run_ite]
        simp
      · cases h
    · cases h
  | _ => simp [convUV] at h

/-! ### IndexByte -/
theorem indexB_spec (c : UInt8) : ∀ l : List UInt8, (indexB c l = -1 ∧ ∀ i, i < l.length → l.getD i 0 ≠ c) ∨ ∃ i : Nat, i < l.length ∧ indexB c l = i ∧ l.getD i 0 = c ∧ ∀ j, j < i → l.getD j 0 ≠ c
  | [] => .inl ⟨rfl, fun i h => absurd h (by simp)⟩
  | b :: l => by
    by_cases hb : b = c
    · exact .inr ⟨0, by simp, by simp [indexB, hb], by simp [hb], fun j hj => absurd hj (by omega)⟩
    · rcases indexB_spec c l with ⟨h1, h2⟩ | ⟨i, h1, h2, h3, h4⟩
      · refine .inl ⟨by simp [indexB, hb, h1], fun i hi => ?_⟩
        cases i with
        | zero => simpa using hb
        | succ i => simpa using h2 i (by simpa using hi)
      · refine .inr ⟨i + 1, by simpa using h1, ?_, by simpa using h3, fun j hj => ?_⟩
        · simp only [indexB, if_neg hb, h2]
          have : ¬ ((i : Int) < 0) := by omega
          simp only [if_neg this]; push_cast; rfl
        · cases j with
          | zero => simpa using hb
          | succ j => simpa using h4 j (by omega)
theorem find_range (s : ByteArray) (c : UInt8) : firstIdx s c = indexB c s.data.toList := by
  have hget : ∀ i, i < s.data.toList.length → s[i]! = s.data.toList.getD i 0 := by
    intro i hi
    have hi' : i < s.size := by simpa using hi
    rw [getElem!_pos s i hi', getD_eq (List.getElem?_eq_getElem hi)]
    rfl
  have hsz : s.size = s.data.toList.length := by simp
  unfold firstIdx
  rcases indexB_spec c s.data.toList with ⟨h1, h2⟩ | ⟨i, h1, h2, h3, h4⟩
  · have : (List.range s.size).find? (fun i => s[i]! == c) = none := by
      rw [List.find?_eq_none]
      intro i hi
      have hi' : i < s.data.toList.length := by rw [← hsz]; simpa using hi
      rw [hget i hi']
      simpa using h2 i hi'
    rw [this, h1]
  · have : (List.range s.size).find? (fun i => s[i]! == c) = some i := by
      rw [List.find?_range_eq_some]
      refine ⟨by rw [hget i h1]; simpa using h3, by simp; omega, fun j hj => ?_⟩
      rw [hget j (by omega)]
      simpa using h4 j hj
    rw [this, h2]

theorem idxByte_ok (hI : Inv G w0 C m w) {x y v : AV} {a c : Value} (hx : Rep C x a) (hy : Rep C y c) {f : FuncId} {fn : Func} (hf : P.funcs[f]? = some fn) (hname : (fn.name == "runtime.NumGoroutine") = false) (hb : fn.body.isNone = true) (hn : Extern.findNext fn = none)
    (he : Extern.find fn = some Extern.BytealgIndexByte.indexByte) (h : idxByteV x y = some v) : Res G w0 C m v ((callFunc f #[a, c]).run P w) := by
  cases hx with
  | str l s e =>
    cases hy with
    | int k n =>
      cases k <;> simp only [idxByteV] at h <;> try (cases h; done)
      injection h with h; subst h; subst e
      refine ⟨.value (.int .i64 (indexB (UInt8.ofNat n.toNat) s.data.toList)), w, C, ?_, .refl C, hI, .int _ _⟩
      rw [run_callFunc_extern hf hname hb hn he, run_indexByte_string, find_range]
      rfl
    | _ => simp [idxByteV] at h
  | _ => cases y <;> simp [idxByteV] at h

/-- internal/abi.NoEscape: its argument. -/
theorem noEscape_ok (hI : Inv G w0 C m w) {x : AV} {a : Value} (hx : Rep C x a) {f : FuncId} {fn : Func} (hf : P.funcs[f]? = some fn) (hname : (fn.name == "runtime.NumGoroutine") = false) (hb : fn.body.isNone = true) (hn : Extern.findNext fn = none)
    (he : Extern.find fn = some Extern.AbiNoEscape.same) : Res G w0 C m x ((callFunc f #[a]).run P w) := by
  refine ⟨.value a, w, C, ?_, .refl C, hI, hx⟩
  rw [run_callFunc_extern hf hname hb hn he]
  rfl
end
end Go.Proofs.YtinlfdkalijffaaDoor.Am
