/-
  THE ABSTRACT MACHINE, 2: how abstract values and memory stand to the model's world: 'Rep', 'Inv', and what keeps them.
-/
import Derived.Test.YtinlfdkalijffaaDoorAm1
import Derived.Below
import Derived.Laws.Rows
import Derived.Laws.Cells
set_option linter.unusedSimpArgs false
set_option linter.unusedVariables false
namespace Go.Proofs.YtinlfdkalijffaaDoor.Am
open Go Go.RowKit

/-- What is known of the world: cells that are never written again; which block is which variable; which spare room is which token's. -/
structure Cx where
  St : Nat → Nat → Value → Prop
  I : Nat → Nat → Prop
  R : Nat → Nat → Nat → Nat → Prop
  T : Nat → TypeId → Prop
  Z : Nat → Prop

structure Cx.Le (C C' : Cx) : Prop where
  st : ∀ b o v, C.St b o v → C'.St b o v
  i : ∀ id b, C.I id b → C'.I id b
  r : ∀ t b s e, C.R t b s e → C'.R t b s e
  t : ∀ b t, C.T b t → C'.T b t
  z : ∀ b, C.Z b → C'.Z b
theorem Cx.Le.refl (C : Cx) : Cx.Le C C := ⟨fun _ _ _ h => h, fun _ _ h => h, fun _ _ _ _ h => h, fun _ _ h => h, fun _ h => h⟩
theorem Cx.Le.trans {A B C : Cx} (h : Cx.Le A B) (k : Cx.Le B C) : Cx.Le A C :=
  ⟨fun _ _ _ x => k.st _ _ _ (h.st _ _ _ x), fun _ _ x => k.i _ _ (h.i _ _ x), fun _ _ _ _ x => k.r _ _ _ _ (h.r _ _ _ _ x), fun _ _ x => k.t _ _ (h.t _ _ x), fun _ x => k.z _ (h.z _ x)⟩

inductive Rep (C : Cx) : AV → Value → Prop where
  | u (v : Value) : Rep C .u v
  | bool (b : Bool) : Rep C (.bool b) (.bool b)
  | int (k : IntKind) (n : Int) : Rep C (.int k n) (.int k n)
  | str (l : List UInt8) (s : ByteArray) : s.data.toList = l → Rep C (.str l) (.string s)
  | agg (cs : List AV) (vs : Array Value) : vs.size = cs.length → (∀ i, i < cs.length → Rep C (cs.getD i .u) (vs.getD i undef)) → Rep C (.agg cs) (.agg vs)
  | tup (cs : List AV) (vs : Array Value) : vs.size = cs.length → (∀ i, i < cs.length → Rep C (cs.getD i .u) (vs.getD i undef)) → Rep C (.tup cs) (.tuple vs)
  | nilSl : Rep C .nilSl (.slice none 0 0)
  | sl (o : Own) (sz : Nat) (xs : List AV) (b off n cap : Nat) (val : Nat → Nat → Value) : n = xs.length → n ≤ cap → 0 < sz → (o = .full → cap = n) →
      (∀ t, o = .tok t → (n = 0 ∧ cap = 0) ∨ C.R t b (off + n * sz) (off + cap * sz)) → (∀ i, i < n → (xs.getD i .u).cells.length = sz) →
      (∀ i j, i < n → j < sz → C.St b (off + i * sz + j) (val i j)) → (∀ i j, i < n → j < sz → Rep C ((xs.getD i .u).cells.getD j .u) (val i j)) →
      Rep C (.sl o sz xs) (.slice (some ⟨b, off, none⟩) n cap)
  /-- Empty, without spare room, and somewhere. -/
  | sl0 (o : Own) (sz : Nat) (a : Addr) : (∀ t, o ≠ .tok t) → 0 < sz → Rep C (.sl o sz []) (.slice (some a) 0 0)
  | osl (id off len cap sz b : Nat) : C.I id b → len ≤ cap → Rep C (.osl id off len cap sz) (.slice (some ⟨b, off, none⟩) len cap)
  | nilPtr : Rep C .nilPtr (.pointer none)
  | ptr (id off b : Nat) : C.I id b → Rep C (.ptr id off) (.pointer (some ⟨b, off, none⟩))
  | sptr (cs : List AV) (off b base : Nat) (val : Nat → Value) : (∀ j, j < cs.length → C.St b (base + j) (val j)) → (∀ j, j < cs.length → Rep C (cs.getD j .u) (val j)) →
      Rep C (.sptr cs off) (.pointer (some ⟨b, base + off, none⟩))
  | bptr (T : TypeId) (cs : List AV) (b off : Nat) (val : Nat → Value) : C.T b T → C.Z b → (∀ j, j < cs.length → C.St b (off + j) (val j)) → (∀ j, j < cs.length → Rep C (cs.getD j .u) (val j)) →
      Rep C (.bptr T cs) (.pointer (some ⟨b, off, none⟩))
  | nilMap : Rep C .nilMap (.map none)
  | map (id b : Nat) : C.I id b → Rep C (.map id) (.map (some b))
  | nilFn : Rep C .nilFn .nilFunc
  | fn (f : Fn) (first cap : List AV) (xs ys : Array Value) : xs.size = first.length → (∀ i, i < first.length → Rep C (first.getD i .u) (xs.getD i undef)) →
      ys.size = cap.length → (∀ i, i < cap.length → Rep C (cap.getD i .u) (ys.getD i undef)) → Rep C (.fn f first cap) (.func f xs ys)
  | nilIface : Rep C .nilIface .nilIface
  | iface (t : TypeId) (v : AV) (x : Value) : Rep C v x → Rep C (.iface t v) (.iface t x)

theorem Rep.mono {C C' : Cx} (h : Cx.Le C C') : ∀ {a : AV} {v : Value}, Rep C a v → Rep C' a v := by
  intro a v r
  induction r with
  | u v => exact .u v
  | bool b => exact .bool b
  | int k n => exact .int k n
  | str l s e => exact .str l s e
  | agg cs vs hl _ ih => exact .agg cs vs hl ih
  | tup cs vs hl _ ih => exact .tup cs vs hl ih
  | nilSl => exact .nilSl
  | sl o sz xs b off n cap val h1 h2 h3 h4 h5 h6 h7 _ ih => exact .sl o sz xs b off n cap val h1 h2 h3 h4 (fun t ht => (h5 t ht).imp id (h.r _ _ _ _)) h6 (fun i j hi hj => h.st _ _ _ (h7 i j hi hj)) ih
  | sl0 o sz a h1 h2 => exact .sl0 o sz a h1 h2
  | osl id off len cap sz b hi hc => exact .osl id off len cap sz b (h.i _ _ hi) hc
  | nilPtr => exact .nilPtr
  | ptr id off b hi => exact .ptr id off b (h.i _ _ hi)
  | sptr cs off b base val h1 _ ih => exact .sptr cs off b base val (fun j hj => h.st _ _ _ (h1 j hj)) ih
  | bptr T cs b off val ht hz h1 _ ih => exact .bptr T cs b off val (h.t _ _ ht) (h.z _ hz) (fun j hj => h.st _ _ _ (h1 j hj)) ih
  | nilMap => exact .nilMap
  | map id b hi => exact .map id b (h.i _ _ hi)
  | nilFn => exact .nilFn
  | fn f first cap xs ys h1 _ h3 _ ih1 ih2 => exact .fn f first cap xs ys h1 ih1 h3 ih2
  | nilIface => exact .nilIface
  | iface t v x _ ih => exact .iface t v x ih

/-- The lists of values are each other's, cell by cell. -/
def Reps (C : Cx) (cs : List AV) (vs : List Value) : Prop := vs.length = cs.length ∧ ∀ i, i < cs.length → Rep C (cs.getD i .u) (vs.getD i undef)

def ObjRep (C : Cx) (w : World) (b : Nat) : AObj → Prop
  | .dead => True
  | .cells T cs => ∃ vs, w.heap[b]? = some (.cells vs T (0, 0)) ∧ vs.size = cs.length ∧ ∀ j, j < cs.length → Rep C (cs.getD j .u) (vs.getD j undef)
  | .map es => ∃ ents clk, w.heap[b]? = some (.map ents clk) ∧ ents.size = es.length ∧ ∀ i, i < es.length → isKey (es.getD i (.u, .u)).1 = true ∧ Rep C (es.getD i (.u, .u)).1 (ents.getD i default).key ∧ Rep C (es.getD i (.u, .u)).2 (ents.getD i default).val
  | .iter s pos => ∃ bs : ByteArray, w.heap[b]? = some (.stringIter bs pos) ∧ bs.data.toList = s

theorem ObjRep.mono {C C' : Cx} (h : Cx.Le C C') {w : World} {b : Nat} : ∀ {o : AObj}, ObjRep C w b o → ObjRep C' w b o
  | .dead, _ => trivial
  | .cells _ _, ⟨vs, h1, h2, h3⟩ => ⟨vs, h1, h2, fun j hj => (h3 j hj).mono h⟩
  | .map _, ⟨ents, clk, h1, h2, h3⟩ => ⟨ents, clk, h1, h2, fun i hi => ⟨(h3 i hi).1, (h3 i hi).2.1.mono h, (h3 i hi).2.2.mono h⟩⟩
  | .iter _ _, ⟨bs, h1, h2⟩ => ⟨bs, h1, h2⟩
theorem ObjRep.of_heap {C : Cx} {w w' : World} {b : Nat} (h : w'.heap[b]? = w.heap[b]?) : ∀ {o : AObj}, ObjRep C w b o → ObjRep C w' b o
  | .dead, _ => trivial
  | .cells _ _, ⟨vs, h1, h2, h3⟩ => ⟨vs, h.trans h1, h2, h3⟩
  | .map _, ⟨ents, clk, h1, h2, h3⟩ => ⟨ents, clk, h.trans h1, h2, h3⟩
  | .iter _ _, ⟨bs, h1, h2⟩ => ⟨bs, h.trans h1, h2⟩

/-- The spare room of a token that lives: it is there, and not frozen. -/
def TokRep (w : World) (b s e : Nat) : Prop := ∃ vs T lo hi, w.heap[b]? = some (.cells vs T (lo, hi)) ∧ e ≤ vs.size ∧ ∀ o, s ≤ o → o < e → ¬ (lo ≤ o ∧ o < hi)

structure Inv (G : Nat → Option (List AV)) (w0 : World) (C : Cx) (m : Mem) (w : World) : Prop where
  below : Below w0.heap.size w0 w
  st : ∀ b o v, C.St b o v → w.cell? ⟨b, o, none⟩ = some v
  obj : ∀ id b, C.I id b → id < m.next ∧ w0.heap.size ≤ b ∧ b < w.heap.size ∧ ObjRep C w b (m.get id)
  inj : ∀ id id' b, C.I id b → C.I id' b → id = id'
  func : ∀ id b b', C.I id b → C.I id b' → b = b'
  sti : ∀ b o v id, C.St b o v → C.I id b → m.get id = .dead
  tok : ∀ t b s e, C.R t b s e → t < m.ntok ∧ w0.heap.size ≤ b ∧ b < w.heap.size ∧ (∀ id, ¬ C.I id b) ∧ (m.live t = true → TokRep w b s e ∧ ∀ o v, C.St b o v → o < s)
  shp : ∀ b t, C.T b t → (∃ vs fr, w.heap[b]? = some (.cells vs t fr)) ∧ ∀ id, ¬ C.I id b
  tty : ∀ t b s e, C.R t b s e → C.T b (m.tty t)
  shut : ∀ b, C.Z b → w0.heap.size ≤ b ∧ b < w.heap.size ∧ (∀ id, ¬ C.I id b) ∧ ∀ t s e, C.R t b s e → m.live t = false
  tokf : ∀ t b s e b' s' e', C.R t b s e → C.R t b' s' e' → b = b' ∧ s = s' ∧ e = e'
  toku : ∀ t t' b s e s' e', C.R t b s e → C.R t' b s' e' → m.live t = true → m.live t' = true → t = t'
  glob : ∀ g cs, G g = some cs → Rep C (.sptr cs 0) (.pointer (some ⟨g, 0, none⟩))

section
variable {G : Nat → Option (List AV)} {w0 : World} {C : Cx} {m : Mem} {w : World}

theorem Inv.drew (h : Inv G w0 C m w) : Inv G w0 C m w.drew :=
  { below := h.below.drew, st := h.st, obj := fun id b hb => (h.obj id b hb), inj := h.inj, func := h.func, sti := h.sti,
    tok := fun t b s e hr => h.tok t b s e hr, shp := h.shp, tty := h.tty, shut := h.shut, tokf := h.tokf, toku := h.toku, glob := h.glob }

/-- A new block that is no variable's and no token's: nothing is lost. -/
theorem TokRep.of_heap {w w' : World} {b s e : Nat} (h : w'.heap[b]? = w.heap[b]?) : TokRep w b s e → TokRep w' b s e
  | ⟨vs, T, lo, hi, h1, h2, h3⟩ => ⟨vs, T, lo, hi, h.trans h1, h2, h3⟩

theorem Inv.alloc_any (h : Inv G w0 C m w) (o : Obj) : Inv G w0 C m (w.alloc o) :=
  { below := h.below.alloc h.below.size o
    st := fun b o' v hs => by
      have hc := h.st b o' v hs
      rw [World.cell?_alloc_lt]
      · exact hc
      · exact block_lt_of_cell hc
    obj := fun id b hb => let ⟨h1, h2, h3, h4⟩ := h.obj id b hb
      ⟨h1, h2, by simp; omega, h4.of_heap (heap_alloc_old _ _ _ h3)⟩
    inj := h.inj, func := h.func, sti := h.sti
    tok := fun t b s e hr => let ⟨h1, h2, h3, h3', h4⟩ := h.tok t b s e hr
      ⟨h1, h2, by simp; omega, h3', fun hl => let ⟨k1, k2⟩ := h4 hl; ⟨k1.of_heap (heap_alloc_old _ _ _ h3), k2⟩⟩
    shp := fun b t ht => let ⟨⟨vs, fr, h1⟩, h2⟩ := h.shp b t ht
      ⟨⟨vs, fr, (heap_alloc_old _ _ _ (Array.getElem?_eq_some_iff.1 h1).1).trans h1⟩, h2⟩
    tty := h.tty
    shut := fun b hz => let ⟨h1, h2, h3, h4⟩ := h.shut b hz; ⟨h1, by simp; omega, h3, h4⟩
    tokf := h.tokf, toku := h.toku, glob := h.glob }

/-- A new variable. -/
def Cx.addI (C : Cx) (id b : Nat) : Cx := { C with I := fun i c => C.I i c ∨ (i = id ∧ c = b) }
theorem Cx.le_addI (C : Cx) (id b : Nat) : Cx.Le C (C.addI id b) := ⟨fun _ _ _ h => h, fun _ _ h => .inl h, fun _ _ _ _ h => h, fun _ _ h => h, fun _ h => h⟩
theorem Mem.get_alloc_lt {m : Mem} {o : AObj} {i : Nat} (h : i < m.next) : (m.alloc o).get i = m.get i := by
  simp only [Mem.alloc]; rw [if_neg (by omega)]
theorem Mem.get_alloc_new {m : Mem} {o : AObj} : (m.alloc o).get m.next = o := by simp [Mem.alloc]

theorem Inv.alloc_obj (h : Inv G w0 C m w) {o : Obj} {a : AObj} (ho : ∀ C', Cx.Le C C' → ObjRep C' (w.alloc o) w.heap.size a) :
    Inv G w0 (C.addI m.next w.heap.size) (m.alloc a) (w.alloc o) := by
  have hle := C.le_addI m.next w.heap.size
  have h' := h.alloc_any o
  have hns : ∀ b s v, C.St b s v → b < w.heap.size := fun b s v hs => block_lt_of_cell (a := ⟨b, s, none⟩) (h.st b s v hs)
  exact
  { below := h'.below, st := h'.st
    obj := fun id b hb => by
      rcases hb with hb | ⟨rfl, rfl⟩
      · obtain ⟨h1, h2, h3, h4⟩ := h'.obj id b hb
        exact ⟨by simp only [Mem.alloc]; omega, h2, h3, by rw [Mem.get_alloc_lt h1]; exact h4.mono hle⟩
      · exact ⟨by simp [Mem.alloc], h.below.size, by simp, by rw [Mem.get_alloc_new]; exact ho _ hle⟩
    inj := fun id id' b hb hb' => by
      rcases hb with hb | ⟨rfl, rfl⟩ <;> rcases hb' with hb' | ⟨e1, e2⟩
      · exact h.inj _ _ _ hb hb'
      · have := (h.obj _ _ hb).2.2.1; omega
      · have := (h.obj _ _ hb').2.2.1; omega
      · exact e1.symm
    func := fun id b b' hb hb' => by
      rcases hb with hb | ⟨rfl, rfl⟩ <;> rcases hb' with hb' | ⟨e1, e2⟩
      · exact h.func _ _ _ hb hb'
      · have := (h.obj _ _ hb).1; omega
      · have := (h.obj _ _ hb').1; omega
      · exact e2.symm
    sti := fun b o' v id hs hb => by
      rcases hb with hb | ⟨rfl, rfl⟩
      · rw [Mem.get_alloc_lt (h.obj _ _ hb).1]; exact h.sti _ _ _ _ hs hb
      · exact absurd (hns _ _ _ hs) (by omega)
    tok := fun t b s e hr => by
      obtain ⟨h1, h2, h3, h3', h4⟩ := h'.tok t b s e hr
      refine ⟨h1, h2, h3, fun id hb => ?_, h4⟩
      rcases hb with hb | ⟨rfl, rfl⟩
      · exact h3' _ hb
      · exact absurd (h.tok t _ s e hr).2.2.1 (by omega)
    shp := fun b t ht => by
      obtain ⟨h1, h2⟩ := h'.shp b t ht
      refine ⟨h1, fun id hb => ?_⟩
      rcases hb with hb | ⟨rfl, rfl⟩
      · exact h2 _ hb
      · obtain ⟨⟨vs, fr, k⟩, _⟩ := h.shp _ t ht
        exact absurd (Array.getElem?_eq_some_iff.1 k).1 (by omega)
    tty := h.tty
    shut := fun b hz => by
      obtain ⟨h1, h2, h3, h4⟩ := h'.shut b hz
      refine ⟨h1, h2, fun id hb => ?_, h4⟩
      rcases hb with hb | ⟨rfl, rfl⟩
      · exact h3 _ hb
      · exact absurd (h.shut _ hz).2.1 (by omega)
    tokf := h.tokf, toku := h.toku, glob := fun g cs hg => (h.glob g cs hg).mono hle }

/-- A variable is written. -/
theorem Inv.write_obj (h : Inv G w0 C m w) {id b : Nat} (hb : C.I id b) (hd : m.get id ≠ .dead) {w' : World} {a : AObj} (hbelow : Below w0.heap.size w0 w') (hsize : w'.heap.size = w.heap.size)
    (hother : ∀ k, k ≠ b → w'.heap[k]? = w.heap[k]?) (ho : ObjRep C w' b a) : Inv G w0 C (m.set id a) w' :=
  { below := hbelow
    st := fun b' o v hs => by
      have hne : b' ≠ b := fun e => hd (h.sti _ _ _ _ hs (e ▸ hb))
      rw [World.cell?_of_block (w := w) (hother b' hne)]; exact h.st _ _ _ hs
    obj := fun id' b' hb' => by
      obtain ⟨h1, h2, h3, h4⟩ := h.obj id' b' hb'
      by_cases e : id' = id
      · subst e
        obtain rfl := h.func _ _ _ hb hb'
        exact ⟨h1, h2, by omega, by simpa [Mem.set] using ho⟩
      · have hne : b' ≠ b := fun e' => e (h.inj _ _ _ hb' (e' ▸ hb))
        exact ⟨h1, h2, by omega, by simp only [Mem.set]; rw [if_neg e]; exact h4.of_heap (hother _ hne)⟩
    inj := h.inj, func := h.func
    sti := fun b' o v id' hs hb' => by
      have := h.sti _ _ _ _ hs hb'
      by_cases e : id' = id
      · subst e; exact absurd this hd
      · simp only [Mem.set]; rw [if_neg e]; exact this
    tok := fun t b' s e hr => by
      obtain ⟨h1, h2, h3, h3', h4⟩ := h.tok t b' s e hr
      refine ⟨h1, h2, by omega, h3', fun hl => ?_⟩
      obtain ⟨k1, k2⟩ := h4 hl
      exact ⟨k1.of_heap (hother _ fun e' => h3' id (e' ▸ hb)), k2⟩
    shp := fun b' t ht => by
      obtain ⟨⟨vs, fr, h1⟩, h2⟩ := h.shp b' t ht
      exact ⟨⟨vs, fr, (hother b' (fun e' => h2 id (e' ▸ hb))).trans h1⟩, h2⟩
    tty := h.tty
    shut := fun b' hz => by obtain ⟨h1, h2, h3, h4⟩ := h.shut b' hz; exact ⟨h1, by omega, h3, h4⟩
    tokf := h.tokf, toku := h.toku, glob := h.glob }

/-- A token is given up. -/
theorem Inv.kill (h : Inv G w0 C m w) (t : Nat) : Inv G w0 C (m.killTok t) w :=
  { below := h.below, st := h.st, obj := h.obj, inj := h.inj, func := h.func, sti := h.sti
    tok := fun t' b s e hr => by
      obtain ⟨h1, h2, h3, h3', h4⟩ := h.tok t' b s e hr
      refine ⟨h1, h2, h3, h3', fun hl => h4 ?_⟩
      simp only [Mem.killTok] at hl
      split at hl
      · cases hl
      · exact hl
    shp := h.shp, tty := h.tty
    shut := fun b hz => by
      obtain ⟨h1, h2, h3, h4⟩ := h.shut b hz
      refine ⟨h1, h2, h3, fun t' s e hr => ?_⟩
      simp only [Mem.killTok]
      split
      · rfl
      · exact h4 t' s e hr
    tokf := h.tokf
    toku := fun t1 t2 b s e s' e' r1 r2 l1 l2 => by
      refine h.toku t1 t2 b s e s' e' r1 r2 ?_ ?_
      · simp only [Mem.killTok] at l1; split at l1 <;> simp_all
      · simp only [Mem.killTok] at l2; split at l2 <;> simp_all
    glob := h.glob }

/-- Cells become known for ever, in a block of which no variable is made, behind which a token's spare room begins. -/
def Cx.addS (C : Cx) (b : Nat) (P : Nat → Value → Prop) (t s e : Nat) (ty : TypeId) : Cx :=
  { St := fun b' o v => C.St b' o v ∨ (b' = b ∧ P o v), I := C.I, R := fun t' b' s' e' => C.R t' b' s' e' ∨ (t' = t ∧ b' = b ∧ s' = s ∧ e' = e)
    T := fun b' t' => C.T b' t' ∨ (b' = b ∧ t' = ty), Z := C.Z }
theorem Cx.le_addS (C : Cx) (b : Nat) (P : Nat → Value → Prop) (t s e : Nat) (ty : TypeId) : Cx.Le C (C.addS b P t s e ty) :=
  ⟨fun _ _ _ h => .inl h, fun _ _ h => h, fun _ _ _ _ h => .inl h, fun _ _ h => .inl h, fun _ h => h⟩

/-- A new token over a block: the world w' is w but for that block, where what was known still reads as it did. -/
theorem Inv.newTok (h : Inv G w0 C m w) {w' : World} {b s e : Nat} {ty : TypeId} {P : Nat → Value → Prop} (hbelow : Below w0.heap.size w0 w') (hb0 : w0.heap.size ≤ b) (hsize : w.heap.size ≤ w'.heap.size) (hb : b < w'.heap.size)
    (hother : ∀ k, k < w.heap.size → k ≠ b → w'.heap[k]? = w.heap[k]?) (hold : ∀ o v, C.St b o v → w'.cell? ⟨b, o, none⟩ = some v)
    (hI : ∀ id, ¬ C.I id b) (hP : ∀ o v, P o v → w'.cell? ⟨b, o, none⟩ = some v ∧ o < s) (hS : ∀ o v, C.St b o v → o < s)
    (htok : TokRep w' b s e) (hdead : ∀ t s' e', C.R t b s' e' → m.live t = false) (hT : ∃ vs fr, w'.heap[b]? = some (.cells vs ty fr)) (hTo : ∀ t, C.T b t → t = ty) (hZ : ¬ C.Z b) : Inv G w0 (C.addS b P m.ntok s e ty) (m.newTok ty) w' := by
  have hle := C.le_addS b P m.ntok s e ty
  have live_old : ∀ t, t < m.ntok → (m.newTok ty).live t = m.live t := fun t ht => by simp only [Mem.newTok]; rw [if_neg (by omega)]
  exact
  { below := hbelow
    st := fun b' o v hs => by
      rcases hs with hs | ⟨rfl, hp⟩
      · by_cases e' : b' = b
        · subst e'; exact hold _ _ hs
        · rw [World.cell?_of_block (w := w) (hother b' (block_lt_of_cell (a := ⟨b', o, none⟩) (h.st _ _ _ hs)) e')]; exact h.st _ _ _ hs
      · exact (hP _ _ hp).1
    obj := fun id b' hb' => by
      obtain ⟨h1, h2, h3, h4⟩ := h.obj id b' hb'
      have hne : b' ≠ b := fun e' => hI id (e' ▸ hb')
      exact ⟨h1, h2, by omega, (h4.of_heap (hother _ h3 hne)).mono hle⟩
    inj := h.inj, func := h.func
    sti := fun b' o v id hs hb' => by
      rcases hs with hs | ⟨rfl, _⟩
      · exact h.sti _ _ _ _ hs hb'
      · exact absurd hb' (hI _)
    tok := fun t b' s' e' hr => by
      rcases hr with hr | ⟨rfl, rfl, rfl, rfl⟩
      · obtain ⟨h1, h2, h3, h3', h4⟩ := h.tok t b' s' e' hr
        refine ⟨by simp only [Mem.newTok]; omega, h2, by omega, h3', fun hl => ?_⟩
        rw [live_old t h1] at hl
        have hne : b' ≠ b := fun e'' => by subst e''; rw [hdead _ _ _ hr] at hl; cases hl
        obtain ⟨k1, k2⟩ := h4 hl
        refine ⟨k1.of_heap (hother _ h3 hne), fun o v hs => ?_⟩
        rcases hs with hs | ⟨e1, _⟩
        · exact k2 _ _ hs
        · exact absurd e1 hne
      · refine ⟨by simp [Mem.newTok], hb0, hb, hI, fun _ => ⟨htok, fun o v hs => ?_⟩⟩
        rcases hs with hs | ⟨_, hp⟩
        · exact hS _ _ hs
        · exact (hP _ _ hp).2
    shp := fun b' t ht => by
      by_cases e' : b' = b
      · subst e'
        have : t = ty := by
          rcases ht with ht | ⟨_, rfl⟩
          · exact hTo _ ht
          · rfl
        subst this
        exact ⟨hT, hI⟩
      · rcases ht with ht | ⟨e1, _⟩
        · obtain ⟨⟨vs, fr, h1⟩, h2⟩ := h.shp b' t ht
          exact ⟨⟨vs, fr, (hother _ (Array.getElem?_eq_some_iff.1 h1).1 e').trans h1⟩, h2⟩
        · exact absurd e1 e'
    tty := fun t b' s' e' hr => by
      rcases hr with hr | ⟨rfl, rfl, rfl, rfl⟩
      · have := (h.tok _ _ _ _ hr).1
        left
        simp only [Mem.newTok]; rw [if_neg (by omega)]
        exact h.tty _ _ _ _ hr
      · right; exact ⟨rfl, by simp [Mem.newTok]⟩
    shut := fun b' hz => by
      obtain ⟨h1, h2, h3, h4⟩ := h.shut b' hz
      refine ⟨h1, by omega, h3, fun t s' e' hr => ?_⟩
      rcases hr with hr | ⟨rfl, rfl, _⟩
      · rw [live_old _ (h.tok _ _ _ _ hr).1]; exact h4 _ _ _ hr
      · exact absurd hz hZ
    tokf := fun t b1 s1 e1 b2 s2 e2 r1 r2 => by
      rcases r1 with r1 | ⟨rfl, rfl, rfl, rfl⟩ <;> rcases r2 with r2 | ⟨f1, rfl, rfl, rfl⟩
      · exact h.tokf _ _ _ _ _ _ _ r1 r2
      · have := (h.tok _ _ _ _ r1).1; omega
      · have := (h.tok _ _ _ _ r2).1; omega
      · exact ⟨rfl, rfl, rfl⟩
    toku := fun t1 t2 b' s1 e1 s2 e2 r1 r2 l1 l2 => by
      rcases r1 with r1 | ⟨rfl, rfl, rfl, rfl⟩ <;> rcases r2 with r2 | ⟨f1, f2, f3, f4⟩
      · rw [live_old _ (h.tok _ _ _ _ r1).1] at l1; rw [live_old _ (h.tok _ _ _ _ r2).1] at l2
        exact h.toku _ _ _ _ _ _ _ r1 r2 l1 l2
      · subst f2; rw [live_old _ (h.tok _ _ _ _ r1).1, hdead _ _ _ r1] at l1; cases l1
      · rw [live_old _ (h.tok _ _ _ _ r2).1, hdead _ _ _ r2] at l2; cases l2
      · exact f1.symm
    glob := fun g cs hg => (h.glob g cs hg).mono hle }
end
end Go.Proofs.YtinlfdkalijffaaDoor.Am
