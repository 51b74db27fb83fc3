/-
  THE ABSTRACT MACHINE, 17: a call that is evaluated in a memory of its own.
-/
import Derived.Test.YtinlfdkalijffaaDoorAm16
set_option linter.unusedSimpArgs false
set_option linter.unusedVariables false
namespace Go.Proofs.YtinlfdkalijffaaDoor.Am
open Go Go.RowKit

def m0 : Mem := { get := fun _ => .dead, next := 0, live := fun _ => false, ntok := 0, tty := fun _ => 0 }
def retsTrue : Option (Rs × Mem) → Bool
  | some (.ret (.bool true), _) => true
  | _ => false
theorem retsTrue_iff {x : Option (Rs × Mem)} (h : retsTrue x = true) : ∃ m', x = some (.ret (.bool true), m') := by
  unfold retsTrue at h
  split at h
  · exact ⟨_, rfl⟩
  · cases h

/-- What can be told without memory. -/
def flat1 : AV → Bool
  | .bool _ | .int _ _ | .str _ | .nilSl | .nilPtr | .nilMap | .nilFn | .nilIface => true
  | _ => false
def flatL : List AV → Bool
  | [] => true
  | a :: as => flat1 a && flatL as
def flatV : AV → Bool
  | .agg cs => flatL cs
  | .tup cs => flatL cs
  | a => flat1 a
theorem flat1_rep {C C' : Cx} {a : AV} {v : Value} (h : flat1 a = true) (hr : Rep C a v) : Rep C' a v := by
  cases hr <;> simp [flat1] at h <;> first | exact .bool _ | exact .int _ _ | (exact .str _ _ (by assumption)) | exact .nilSl | exact .nilPtr | exact .nilMap | exact .nilFn | exact .nilIface
theorem flatL_at : ∀ {cs : List AV}, flatL cs = true → ∀ i, i < cs.length → flat1 (cs.getD i .u) = true
  | a :: as, h, 0, _ => by simp only [flatL, Bool.and_eq_true] at h; exact h.1
  | a :: as, h, i + 1, hi => by
    simp only [flatL, Bool.and_eq_true] at h
    exact flatL_at h.2 i (by simpa using hi)
  | [], _, i, hi => absurd hi (by simp)
theorem flatV_rep {C C' : Cx} {a : AV} {v : Value} (h : flatV a = true) (hr : Rep C a v) : Rep C' a v := by
  cases hr with
  | agg cs vs h1 h2 => exact .agg cs vs h1 fun i hi => flat1_rep (flatL_at h i hi) (h2 i hi)
  | tup cs vs h1 h2 => exact .tup cs vs h1 fun i hi => flat1_rep (flatL_at h i hi) (h2 i hi)
  | bool b => exact .bool _
  | int k n => exact .int _ _
  | str l s e => exact .str _ _ e
  | nilSl => exact .nilSl
  | nilPtr => exact .nilPtr
  | nilMap => exact .nilMap
  | nilFn => exact .nilFn
  | nilIface => exact .nilIface
  | _ => simp [flatV, flat1] at h

/-- Values that lead to no variable and to no spare room. -/
inductive Closed : AV → Prop where
  | u : Closed .u
  | bool {b} : Closed (.bool b)
  | int {k n} : Closed (.int k n)
  | str {s} : Closed (.str s)
  | agg {cs} : (∀ i, i < cs.length → Closed (cs.getD i .u)) → Closed (.agg cs)
  | tup {cs} : (∀ i, i < cs.length → Closed (cs.getD i .u)) → Closed (.tup cs)
  | nilSl : Closed .nilSl
  | sl {o sz xs} : (∀ t, o ≠ .tok t) → (∀ i, i < xs.length → ∀ j, Closed ((xs.getD i .u).cells.getD j .u)) → Closed (.sl o sz xs)
  | nilPtr : Closed .nilPtr
  | sptr {cs off} : (∀ i, i < cs.length → Closed (cs.getD i .u)) → Closed (.sptr cs off)
  | nilMap : Closed .nilMap
  | nilFn : Closed .nilFn
  | fn {f a b} : (∀ i, i < a.length → Closed (a.getD i .u)) → (∀ i, i < b.length → Closed (b.getD i .u)) → Closed (.fn f a b)
  | nilIface : Closed .nilIface
  | iface {t v} : Closed v → Closed (.iface t v)

theorem flat1_closed {a : AV} (h : flat1 a = true) : Closed a := by
  cases a <;> simp [flat1] at h <;> first | exact .bool | exact .int | exact .str | exact .nilSl | exact .nilPtr | exact .nilMap | exact .nilFn | exact .nilIface

section
variable {G : Nat → Option (List AV)} {w0 : World} {C : Cx} {m : Mem} {w : World} {P : Program}

/-- The known cells alone. -/
def Cx.still (C : Cx) : Cx := { St := C.St, I := fun _ _ => False, R := fun _ _ _ _ => False, T := fun _ _ => False, Z := fun _ => False }
theorem Rep.still {C : Cx} {a : AV} {v : Value} (r : Rep C a v) : Closed a → Rep C.still a v := by
  induction r with
  | u v => intro _; exact .u v
  | bool b => intro _; exact .bool b
  | int k n => intro _; exact .int k n
  | str l s e => intro _; exact .str l s e
  | agg cs vs hl _ ih => intro h; cases h with | agg h => exact .agg cs vs hl fun i hi => ih i hi (h i hi)
  | tup cs vs hl _ ih => intro h; cases h with | tup h => exact .tup cs vs hl fun i hi => ih i hi (h i hi)
  | nilSl => intro _; exact .nilSl
  | sl o sz xs b off n cap val h1 h2 h3 h4 h5 h6 h7 _ ih =>
    intro h
    cases h with
    | sl k1 k2 => exact .sl o sz xs b off n cap val h1 h2 h3 h4 (fun t ht => absurd ht (k1 t)) h6 (fun i j hi hj => h7 i j hi hj) fun i j hi hj => ih i j hi hj (k2 i (by omega) j)
  | sl0 o sz a h1 h2 => intro _; exact .sl0 o sz a h1 h2
  | osl id off len cap sz b hi hc => intro h; cases h
  | nilPtr => intro _; exact .nilPtr
  | ptr id off b hi => intro h; cases h
  | sptr cs off b base val h1 _ ih => intro h; cases h with | sptr h => exact .sptr cs off b base val (fun j hj => h1 j hj) fun j hj => ih j hj (h j hj)
  | bptr T cs b off val ht hz h1 _ ih => intro h; cases h
  | nilMap => intro _; exact .nilMap
  | map id b hi => intro h; cases h
  | nilFn => intro _; exact .nilFn
  | fn f first cap xs ys h1 _ h3 _ ih1 ih2 => intro h; cases h with | fn k1 k2 => exact .fn f first cap xs ys h1 (fun i hi => ih1 i hi (k1 i hi)) h3 (fun i hi => ih2 i hi (k2 i hi))
  | nilIface => intro _; exact .nilIface
  | iface t v x _ ih => intro h; cases h with | iface h => exact .iface t v x (ih h)

def GFlat (G : Nat → Option (List AV)) : Prop := ∀ g cs, G g = some cs → flatL cs = true
theorem Inv.still (hG : GFlat G) (h : Inv G w0 C m w) : Inv G w C.still m0 w :=
  { below := .refl _ _, st := h.st, obj := fun _ _ hb => hb.elim, inj := fun _ _ _ hb => hb.elim, func := fun _ _ _ hb => hb.elim, sti := fun _ _ _ _ _ hb => hb.elim,
    tok := fun _ _ _ _ hr => hr.elim, shp := fun _ _ ht => ht.elim, tty := fun _ _ _ _ hr => hr.elim, shut := fun _ hz => hz.elim, tokf := fun _ _ _ _ _ _ _ hr => hr.elim, toku := fun _ _ _ _ _ _ _ hr => hr.elim,
    glob := fun g cs hg => (h.glob g cs hg).still (.sptr fun i hi => flat1_closed (flatL_at (hG g cs hg) i hi)) }
/-- What stood stands on, where no block that was there has turned. -/
theorem Inv.later (h : Inv G w0 C m w) {w' : World} (hb : Below w.heap.size w w') : Inv G w0 C m w' := by
  have hlt : ∀ b o v, C.St b o v → b < w.heap.size := fun b o v hs => block_lt_of_cell (a := ⟨b, o, none⟩) (h.st b o v hs)
  exact
  { below := h.below.trans (hb.mono h.below.size)
    st := fun b o v hs => by rw [World.cell?_of_block (w := w) (hb.block b (hlt b o v hs))]; exact h.st b o v hs
    obj := fun id b hi => let ⟨h1, h2, h3, h4⟩ := h.obj id b hi
      ⟨h1, h2, Nat.lt_of_lt_of_le h3 hb.size, h4.of_heap (hb.block b h3)⟩
    inj := h.inj, func := h.func, sti := h.sti
    tok := fun t b s e hr => let ⟨h1, h2, h3, h4, h5⟩ := h.tok t b s e hr
      ⟨h1, h2, Nat.lt_of_lt_of_le h3 hb.size, h4, fun hl => ⟨(h5 hl).1.of_heap (hb.block b h3), (h5 hl).2⟩⟩
    shp := fun b t ht => let ⟨⟨vs, fr, h1⟩, h2⟩ := h.shp b t ht
      ⟨⟨vs, fr, (hb.block b (Array.getElem?_eq_some_iff.1 h1).1).trans h1⟩, h2⟩
    tty := h.tty
    shut := fun b hz => let ⟨h1, h2, h3, h4⟩ := h.shut b hz; ⟨h1, Nat.lt_of_lt_of_le h2 hb.size, h3, h4⟩
    tokf := h.tokf, toku := h.toku, glob := h.glob }

theorem listRep_still : ∀ {as : List AV} {vs : List Value}, listRep C as vs → (∀ a ∈ as, Closed a) → listRep C.still as vs
  | [], [], _, _ => trivial
  | _ :: _, _ :: _, h, k => ⟨h.1.still (k _ (by simp)), listRep_still h.2 fun a ha => k a (by simp [ha])⟩
  | [], _ :: _, h, _ => h.elim
  | _ :: _, [], h, _ => h.elim

/-- A call whose arguments lead to no variable, and whose result is plain, does in every memory what it does in an empty one, and leaves memory. -/
theorem call_alone (hG : GFlat G) {f : FuncId} {args : List AV} {v : AV} {m1 : Mem} (h : CallSound P G f args m0 (.ret v) m1) (ha : ∀ a ∈ args, Closed a) (hv : flatV v = true) (m : Mem) : CallSound P G f args m (.ret v) m := by
  intro w0 C w argsV hI hargs
  obtain ⟨k1, k2⟩ := h w C.still w argsV (hI.still hG) (listRep_still hargs ha)
  refine ⟨k1, k2.mono fun e w' hp => ?_⟩
  obtain ⟨C', _, p2, p3⟩ := hp
  refine ⟨C, .refl C, hI.later p2.below, ?_⟩
  cases e with
  | returned cv => exact flatV_rep hv p3
  | panicked _ => exact p3
  | outgrown => exact p3
end
end Go.Proofs.YtinlfdkalijffaaDoor.Am
