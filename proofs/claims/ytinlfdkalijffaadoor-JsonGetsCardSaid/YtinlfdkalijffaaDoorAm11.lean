/-
  THE ABSTRACT MACHINE, 11: whether an abstract operation is the model's: a check that the kernel reckons, and what it is worth.
-/
import Derived.Test.YtinlfdkalijffaaDoorAm10
set_option linter.unusedSimpArgs false
set_option linter.unusedVariables false
namespace Go.Proofs.YtinlfdkalijffaaDoor.Am
open Go Go.RowKit

def opdsOk (okd : Operand → Opd → Bool) : List Operand → List Opd → Bool
  | [], [] => true
  | x :: xs, y :: ys => okd x y && opdsOk okd xs ys
  | _, _ => false
def optOk (okd : Operand → Opd → Bool) : Option Operand → Option Opd → Bool
  | none, none => true
  | some x, some y => okd x y
  | _, _ => false

def zeroCellsOk (P : Program) (e : TypeId) (z : List AV) : Bool :=
  zeroOk P e (.agg z) || (match z with
    | [x] => zeroOk P e x && scal x
    | _ => false)

def structParts (P : Program) (okd : Operand → Opd → Bool) (fs : Array Field) : List (Nat × Operand) → List (Nat × Nat × Opd) → Bool
  | [], [] => true
  | (i, x) :: ps, (off, size, y) :: qs => (match fs[i]? with
    | some f => decide (f.offset = off) && decide (cellsB P f.type = some size)
    | none => false) && okd x y && structParts P okd fs ps qs
  | _, _ => false
def arrayParts (okd : Operand → Opd → Bool) (sz : Nat) : List (Nat × Operand) → List (Nat × Nat × Opd) → Bool
  | [], [] => true
  | (i, x) :: ps, (off, size, y) :: qs => decide (off = i * sz) && decide (size = sz) && okd x y && arrayParts okd sz ps qs
  | _, _ => false
def sliceParts (okd : Operand → Opd → Bool) : List (Nat × Operand) → List (Nat × Opd) → Bool
  | [], [] => true
  | (i, x) :: ps, (j, y) :: qs => decide (i = j) && okd x y && sliceParts okd ps qs
  | _, _ => false
def isU8 (P : Program) (e : TypeId) : Bool :=
  match P.underlying e with
  | some (.int .u8) => true
  | _ => false

/-- Is the model's operation this abstract one? 'xf' names the functions without a body that are served: 1 IndexByteString, 2 NoEscape. -/
def chkOp (P : Program) (xf : FuncId → Nat) (okd : Operand → Opd → Bool) (o : Oper) (a : AOp) : Bool :=
  match a with
  | .move y => (match o.op with
    | .move x => okd x y
    | .assign x => okd x y
    | .call { callee := .value (.func f), args, argTypes := _ } => decide (xf f = 2) && opdsOk okd args.toList [y]
    | _ => false)
  | .pick c x y => (match o.op with
    | .pick c' x' y' => okd c' c && okd x' x && okd y' y
    | _ => false)
  | .alloc t z => (match o.op with
    | .alloc e => decide (e = t) && zeroCellsOk P e z
    | _ => false)
  | .box t y => (match o.op with
    | .box e x => decide (e = t) && okd x y
    | _ => false)
  | .build z qs => (match o.op with
    | .build t ps => zeroCellsOk P t z && (match P.underlying t with
      | some (.struct fs) => fs.toList.all (fun f => (cellsB P f.type).isSome) && structParts P okd fs ps.toList qs
      | some (.array _ e) => (match cellsB P e with
        | some sz => arrayParts okd sz ps.toList qs
        | none => false)
      | _ => false)
    | _ => false)
  | .buildSl sz z n qs => (match o.op with
    | .buildSlice t n' ps => decide (n' = n) && decide (0 < sz) && decide (n * sz ≤ 2 ^ 24) && known z && decide (z.cells.length = sz) && (match P.underlying t with
      | some (.slice e) => decide (cellsB P e = some sz) && zeroOk P e z && sliceParts okd ps.toList qs
      | _ => false)
    | _ => false)
  | .load g n y => (match o.op with
    | .load t x => shapeOk P t g n && okd x y
    | _ => false)
  | .store n y v => (match o.op with
    | .store t x u => decide (cellsB P t = some n) && okd x y && okd u v
    | _ => false)
  | .nilck y => (match o.op with
    | .nilCheck x => okd x y
    | _ => false)
  | .bin op x y => (match o.op with
    | .binOp op' _ x' y' _ => decide (op' = op) && okd x' x && okd y' y
    | _ => false)
  | .eq neg T x y => (match o.op with
    | .binOp op' t x' y' _ => decide (op' = (if neg then .neq else .eql)) && eqOpOk P t x' y' T && okd x' x && okd y' y
    | _ => false)
  | .not y => (match o.op with
    | .unOp .not _ x => okd x y
    | _ => false)
  | .neg y => (match o.op with
    | .unOp .neg _ x => okd x y
    | _ => false)
  | .inv y => (match o.op with
    | .unOp .xor _ x => okd x y
    | _ => false)
  | .convI k y => (match o.op with
    | .convert s d x => (P.underlying s).isSome && (match P.underlying d with
      | some (.int k') => decide (k' = k)
      | _ => false) && okd x y
    | _ => false)
  | .bytesOf e y => (match o.op with
    | .convert s d x => (match P.underlying s, P.underlying d with
      | some .string, some (.slice e') => decide (e' = e) && isU8 P e
      | _, _ => false) && okd x y
    | _ => false)
  | .strOf y => (match o.op with
    | .convert s d x => (match P.underlying s, P.underlying d with
      | some (.slice e), some .string => isU8 P e
      | _, _ => false) && okd x y
    | _ => false)
  | .runeStr y => (match o.op with
    | .convert s d x => (P.underlying s).isSome && (match P.underlying d with
      | some .string => true
      | _ => false) && okd x y
    | _ => false)
  | .mkIface t y => (match o.op with
    | .makeInterface t' x => decide (t' = t) && P.concrete t && okd x y
    | _ => false)
  | .mkFn f first cap => (match o.op with
    | .makeFunc f' xs ys => decide (f' = f) && opdsOk okd xs.toList first && opdsOk okd ys.toList cap
    | _ => false)
  | .mkMap => (match o.op with
    | .makeMap _ none => true
    | _ => false)
  | .mkSl _ _ _ _ _ _ => false
  | .sliceS y lo hi => (match o.op with
    | .slice t x lo' hi' none => (match P.underlying t with
      | some .string => true
      | _ => false) && okd x y && optOk okd lo' lo && optOk okd hi' hi
    | _ => false)
  | .sliceL sz y lo hi mx => (match o.op with
    | .slice t x lo' hi' mx' => (match P.underlying t with
      | some (.slice e) => decide (cellsB P e = some sz)
      | _ => false) && okd x y && optOk okd lo' lo && optOk okd hi' hi && optOk okd mx' mx
    | _ => false)
  | .fieldAddr off y => (match o.op with
    | .fieldAddr t x i => (match P.underlying t with
      | some (.struct fs) => (match fs[i]? with
        | some f => decide (f.offset = off) && (match cellsB P f.type with
          | some n => decide (n ≠ 0)
          | none => false)
        | none => false)
      | _ => false) && okd x y
    | _ => false)
  | .field g n off y => (match o.op with
    | .field t x i => (match P.underlying t with
      | some (.struct fs) => (match fs[i]? with
        | some f => decide (f.offset = off) && shapeOk P f.type g n
        | none => false)
      | _ => false) && okd x y
    | _ => false)
  | .idxAddr sz y j => (match o.op with
    | .indexAddr t x i => (match P.underlying t with
      | some (.slice e) => decide (cellsB P e = some sz)
      | _ => false) && okd x y && okd i j
    | _ => false)
  | .idxAddrA len sz y j => (match o.op with
    | .indexAddr t x i => (match P.underlying t with
      | some (.array n e) => decide (n = len) && decide (cellsB P e = some sz)
      | _ => false) && okd x y && okd i j
    | _ => false)
  | .idxS y j => (match o.op with
    | .index t x i => (match P.underlying t with
      | some .string => true
      | _ => false) && okd x y && okd i j
    | _ => false)
  | .idxA g len sz y j => (match o.op with
    | .index t x i => (match P.underlying t with
      | some (.array n e) => decide (n = len) && shapeOk P e g sz
      | _ => false) && okd x y && okd i j
    | _ => false)
  | .lookup kd z ok y k => (match o.op with
    | .lookup t x i ok' => decide (ok' = ok) && (match P.underlying t with
      | some (.map kt et) => (match P.underlying kt with
        | some d => kkOk d kd
        | none => false) && zeroOk P et z
      | _ => false) && okd x y && okd i k
    | _ => false)
  | .mapUpd kd y k v => (match o.op with
    | .mapUpdate t x i u => (match P.underlying t with
      | some (.map kt _) => (match P.underlying kt with
        | some d => kkOk d kd
        | none => false)
      | _ => false) && okd x y && okd i k && okd u v
    | _ => false)
  | .del _ _ _ => false
  | .rangeS y => (match o.op with
    | .range t x => (match P.underlying t with
      | some .string => true
      | _ => false) && okd x y
    | _ => false)
  | .nextS y => (match o.op with
    | .next x true => okd x y
    | _ => false)
  | .tassert t z ok y => (match o.op with
    | .typeAssert x _ t' ok' => decide (t' = t) && decide (ok' = ok) && zeroOk P t z && (match P.underlying t with
      | some (.interface _) => false
      | some _ => true
      | none => false) && okd x y
    | _ => false)
  | .extract i y => (match o.op with
    | .extract x i' => decide (i' = i) && okd x y
    | _ => false)
  | .len k y => (match o.op with
    | .call { callee := .builtin .len, args, argTypes } => (match argTypes.toList with
      | t :: _ => (match P.underlying t, k with
        | some .string, .str => true
        | some (.slice _), .sli => true
        | some (.map _ _), .map => true
        | _, _ => false)
      | [] => false) && opdsOk okd args.toList [y]
    | _ => false)
  | .min x y => (match o.op with
    | .call { callee := .builtin .min, args, argTypes := _ } => opdsOk okd args.toList [x, y]
    | _ => false)
  | .max x y => (match o.op with
    | .call { callee := .builtin .max, args, argTypes := _ } => opdsOk okd args.toList [x, y]
    | _ => false)
  | .append e sz bytes x y => (match o.op with
    | .call { callee := .builtin .append, args, argTypes } => (match argTypes.toList with
      | [sT, xT] => (match P.underlying sT with
        | some (.slice e') => decide (e' = e)
        | _ => false) && notInt P xT && decide (0 < sz) && decide (0 < bytes) && (match P.info? e with
        | some i => decide (i.size = sz) && decide (i.bytes = bytes) && (match i.zero with
          | some z => decide (z.cells.size = sz)
          | none => false)
        | none => false)
      | _ => false) && opdsOk okd args.toList [x, y]
    | _ => false)
  | .convP y => (match o.op with
    | .convert s d x => (match P.underlying s, P.underlying d with
      | some (.pointer t), some .unsafePointer => (match cellsB P t with
        | some n => decide (n ≠ 0)
        | none => false)
      | _, _ => false) && okd x y
    | _ => false)
  | .convU alts y => (match o.op with
    | .convert s d x => (match P.underlying s, P.underlying d with
      | some .unsafePointer, some (.pointer u) => (cellsB P u).isSome && alts.all fun p => liesAt P P.depth p.1 (p.2.1 / P.cellsOf p.1) p.2.2 u 1
      | _, _ => false) && okd x y
    | _ => false)
  | .sliceData y => (match o.op with
    | .call { callee := .builtin .unsafeSliceData, args, argTypes := _ } => opdsOk okd args.toList [y]
    | _ => false)
  | .unsafeStr u x y => (match o.op with
    | .call { callee := .builtin .unsafeString, args, argTypes } => (match argTypes.toList with
      | pt :: _ => (match P.underlying pt with
        | some (.pointer u') => decide (u' = u) && decide (P.cellsOf u = 1) && decide (0 < P.depth)
        | _ => false)
      | [] => false) && opdsOk okd args.toList [x, y]
    | _ => false)
  | .idxByte x y => (match o.op with
    | .call { callee := .value (.func f), args, argTypes := _ } => decide (xf f = 1) && opdsOk okd args.toList [x, y]
    | _ => false)
  | .panic _ | .call _ _ | .callV _ _ => false

/-- What the table of functions without a body says. -/
def XfOk (P : Program) (xf : FuncId → Nat) : Prop :=
  ∀ f, (xf f = 1 → ∃ fn, P.funcs[f]? = some fn ∧ (fn.name == "runtime.NumGoroutine") = false ∧ fn.body.isNone = true ∧ Extern.findNext fn = none ∧ Extern.find fn = some Extern.BytealgIndexByte.indexByte) ∧
    (xf f = 2 → ∃ fn, P.funcs[f]? = some fn ∧ (fn.name == "runtime.NumGoroutine") = false ∧ fn.body.isNone = true ∧ Extern.findNext fn = none ∧ Extern.find fn = some Extern.AbiNoEscape.same)

section
variable {G : Nat → Option (List AV)} {w0 : World} {C : Cx} {m : Mem} {w : World} {P : Program} {xf : FuncId → Nat} {okd : Operand → Opd → Bool} {ρv : Operand → Value} {ρa : Opd → AV}

theorem zeroCells_ex {e : TypeId} {z : List AV} (h : zeroCellsOk P e z = true) : ∃ a, zeroOk P e a = true ∧ a.cells = z ∧ a ≠ .u := by
  unfold zeroCellsOk at h
  simp only [Bool.or_eq_true] at h
  rcases h with h | h
  · exact ⟨.agg z, h, rfl, by simp⟩
  · split at h
    · rename_i x
      simp only [Bool.and_eq_true] at h
      refine ⟨x, h.1, ?_, ?_⟩
      · cases x <;> first | rfl | (simp [scal] at h)
      · rintro rfl; simp [scal] at h
    · cases h

theorem opds_rep (H : ∀ x y, okd x y = true → Rep C (ρa y) (ρv x)) : ∀ {xs : List Operand} {ys : List Opd}, opdsOk okd xs ys = true → listRep C (ys.map ρa) (xs.map ρv)
  | [], [], _ => trivial
  | x :: xs, y :: ys, h => by
    simp only [opdsOk, Bool.and_eq_true] at h
    exact ⟨H _ _ h.1, opds_rep H h.2⟩
  | [], _ :: _, h => by simp [opdsOk] at h
  | _ :: _, [], h => by simp [opdsOk] at h
theorem opds1 {xs : Array Operand} {y : Opd} (h : opdsOk okd xs.toList [y] = true) : ∃ x, xs = #[x] ∧ okd x y = true := by
  rcases xs with ⟨l⟩
  cases l with
  | nil => simp [opdsOk] at h
  | cons x l => cases l with
    | nil => exact ⟨x, rfl, by simpa [opdsOk] using h⟩
    | cons _ _ => simp [opdsOk] at h
theorem opds2 {xs : Array Operand} {y z : Opd} (h : opdsOk okd xs.toList [y, z] = true) : ∃ x u, xs = #[x, u] ∧ okd x y = true ∧ okd u z = true := by
  rcases xs with ⟨l⟩
  cases l with
  | nil => simp [opdsOk] at h
  | cons x l => cases l with
    | nil => simp [opdsOk] at h
    | cons u l => cases l with
      | nil => exact ⟨x, u, rfl, by simpa [opdsOk] using h⟩
      | cons _ _ => simp [opdsOk] at h
theorem opt_rep (H : ∀ x y, okd x y = true → Rep C (ρa y) (ρv x)) {x : Option Operand} {y : Option Opd} (h : optOk okd x y = true) : OptRep C (y.map ρa) (x.map ρv) := by
  cases x <;> cases y <;> simp [optOk] at h <;> first | trivial | exact H _ _ h

theorem rowAt_self {u : TypeId} (hc : P.cellsOf u = 1) (hd : 0 < P.depth) (n off count : Nat) (h : off + n ≤ count) : liesAt P P.depth u count off u n = true := by
  obtain ⟨d, hd'⟩ : ∃ d, P.depth = d + 1 := ⟨P.depth - 1, by omega⟩
  have hsl : sameLayout P P.depth u u = true := by rw [hd']; simp [sameLayout]
  have : rowAt P (sameLayout P P.depth · u) P.depth u count off n = true := by
    rw [hd'] at hsl ⊢
    simp only [rowAt, hc, Nat.one_ne_zero, if_false, Nat.mod_one, Nat.div_one, hsl]
    simp [h]
  rw [hd'] at this ⊢
  simp only [liesAt, hd', this, Bool.true_or]

theorem structParts_rep (H : ∀ x y, okd x y = true → Rep C (ρa y) (ρv x)) {fs : Array Field} : ∀ {ps : List (Nat × Operand)} {qs : List (Nat × Nat × Opd)}, structParts P okd fs ps qs = true →
    (ps.map fun p => (p.1, ρv p.2)).length = (qs.map fun p => (p.1, p.2.1, ρa p.2.2)).length ∧
    ∀ (i : Nat) (p : Nat × Value) (q : Nat × Nat × AV), (ps.map fun p => (p.1, ρv p.2))[i]? = some p → (qs.map fun p => (p.1, p.2.1, ρa p.2.2))[i]? = some q → Rep C q.2.2 p.2 ∧ ∃ f, fs[p.1]? = some f ∧ f.offset = q.1 ∧ cellsB P f.type = some q.2.1
  | [], [], _ => ⟨rfl, fun i p q h => by simp at h⟩
  | (i, x) :: ps, (off, size, y) :: qs, h => by
    simp only [structParts, Bool.and_eq_true] at h
    obtain ⟨⟨h1, h2⟩, h3⟩ := h
    obtain ⟨k1, k2⟩ := structParts_rep H h3
    refine ⟨by simpa using k1, fun j p q hp hq => ?_⟩
    cases j with
    | zero =>
      simp only [List.map_cons, List.getElem?_cons_zero, Option.some.injEq] at hp hq
      subst hp; subst hq
      refine ⟨H _ _ h2, ?_⟩
      split at h1
      · rename_i f hf
        simp only [Bool.and_eq_true, decide_eq_true_eq] at h1
        exact ⟨f, hf, h1.1, h1.2⟩
      · cases h1
    | succ j => exact k2 j p q (by simpa using hp) (by simpa using hq)
  | [], _ :: _, h => by simp [structParts] at h
  | _ :: _, [], h => by simp [structParts] at h
theorem arrayParts_rep (H : ∀ x y, okd x y = true → Rep C (ρa y) (ρv x)) {sz : Nat} : ∀ {ps : List (Nat × Operand)} {qs : List (Nat × Nat × Opd)}, arrayParts okd sz ps qs = true →
    (ps.map fun p => (p.1, ρv p.2)).length = (qs.map fun p => (p.1, p.2.1, ρa p.2.2)).length ∧
    ∀ (i : Nat) (p : Nat × Value) (q : Nat × Nat × AV), (ps.map fun p => (p.1, ρv p.2))[i]? = some p → (qs.map fun p => (p.1, p.2.1, ρa p.2.2))[i]? = some q → Rep C q.2.2 p.2 ∧ q.1 = p.1 * sz ∧ q.2.1 = sz
  | [], [], _ => ⟨rfl, fun i p q h => by simp at h⟩
  | (i, x) :: ps, (off, size, y) :: qs, h => by
    simp only [arrayParts, Bool.and_eq_true, decide_eq_true_eq] at h
    obtain ⟨⟨⟨h1, h1'⟩, h2⟩, h3⟩ := h
    obtain ⟨k1, k2⟩ := arrayParts_rep H h3
    refine ⟨by simpa using k1, fun j p q hp hq => ?_⟩
    cases j with
    | zero =>
      simp only [List.map_cons, List.getElem?_cons_zero, Option.some.injEq] at hp hq
      subst hp; subst hq
      exact ⟨H _ _ h2, h1, h1'⟩
    | succ j => exact k2 j p q (by simpa using hp) (by simpa using hq)
  | [], _ :: _, h => by simp [arrayParts] at h
  | _ :: _, [], h => by simp [arrayParts] at h
theorem sliceParts_rep (H : ∀ x y, okd x y = true → Rep C (ρa y) (ρv x)) : ∀ {ps : List (Nat × Operand)} {qs : List (Nat × Opd)}, sliceParts okd ps qs = true →
    (ps.map fun p => (p.1, ρv p.2)).length = (qs.map fun p => (p.1, ρa p.2)).length ∧
    ∀ (i : Nat) (p : Nat × Value) (q : Nat × AV), (ps.map fun p => (p.1, ρv p.2))[i]? = some p → (qs.map fun p => (p.1, ρa p.2))[i]? = some q → p.1 = q.1 ∧ Rep C q.2 p.2
  | [], [], _ => ⟨rfl, fun i p q h => by simp at h⟩
  | (i, x) :: ps, (j0, y) :: qs, h => by
    simp only [sliceParts, Bool.and_eq_true, decide_eq_true_eq] at h
    obtain ⟨⟨h1, h2⟩, h3⟩ := h
    obtain ⟨k1, k2⟩ := sliceParts_rep H h3
    refine ⟨by simpa using k1, fun j p q hp hq => ?_⟩
    cases j with
    | zero =>
      simp only [List.map_cons, List.getElem?_cons_zero, Option.some.injEq] at hp hq
      subst hp; subst hq
      exact ⟨h1, H _ _ h2⟩
    | succ j => exact k2 j p q (by simpa using hp) (by simpa using hq)
  | [], _ :: _, h => by simp [sliceParts] at h
  | _ :: _, [], h => by simp [sliceParts] at h

theorem parts_array (ps : Array (Nat × Operand)) (ρ : Operand → Value) : (ps.map fun (i, x) => (i, ρ x)) = (ps.toList.map fun p => (p.1, ρ p.2)).toArray := by
  rcases ps with ⟨l⟩
  simp

theorem map1 (ρ : Operand → Value) (x : Operand) : Array.map ρ #[x] = #[ρ x] := by simp
theorem map2 (ρ : Operand → Value) (x y : Operand) : Array.map ρ #[x, y] = #[ρ x, ρ y] := by simp
theorem rep_bool {t : Bool} {y : Value} (h : Rep C (.bool t) y) : y = .bool t := by cases h; rfl
theorem exec_func (Hf : ∀ f, ρv (.func f) = .func (.func f) #[] #[]) {dst : Option Tmp} {f : FuncId} {args : Array Operand} {at' : Array TypeId} {type : TypeId} {pos : String} {after : Array Edge} {guard : Option (Nat × Bool)} :
    (execOp ρv { dst, op := .call { callee := .value (.func f), args, argTypes := at' }, type, pos, after, guard }).run P w = (callFunc f (args.map ρv)).run P w := by
  simp [execOp, resolve, Deferred.ofValue, invoke, Hf]
theorem exec_builtin {dst : Option Tmp} {b : Builtin} {args : Array Operand} {at' : Array TypeId} {type : TypeId} {pos : String} {after : Array Edge} {guard : Option (Nat × Bool)} :
    ∃ consts, (execOp ρv { dst, op := .call { callee := .builtin b, args, argTypes := at' }, type, pos, after, guard }).run P w = (builtin b at' type consts (args.map ρv)).run P w :=
  ⟨_, by simp only [execOp, resolve, Sem.run_bind, Sem.run_pure, Result.andThen_ok, invoke]; rfl⟩

set_option maxHeartbeats 8000000 in
theorem op_ok (hI : Inv G w0 C m w) (hX : XfOk P xf) (H : ∀ x y, okd x y = true → Rep C (ρa y) (ρv x)) (Hf : ∀ f, ρv (.func f) = .func (.func f) #[] #[]) {o : Oper} {a : AOp} (hc : chkOp P xf okd o a = true) {v : AV} {m1 : Mem} (h : evalP ρa m a = some (v, m1)) :
    Res G w0 C m1 v ((execOp ρv o).run P w) := by
  obtain ⟨dst, op, type, pos, after, guard⟩ := o
  cases a with
  | move y =>
    simp only [evalP, Option.some.injEq, Prod.mk.injEq] at h
    obtain ⟨rfl, rfl⟩ := h
    simp only [chkOp] at hc
    split at hc
    · rename_i x
      exact ⟨_, w, C, rfl, .refl C, hI, H _ _ hc⟩
    · rename_i x
      exact ⟨_, w, C, rfl, .refl C, hI, H _ _ hc⟩
    · rename_i f args at'
      simp only [Bool.and_eq_true, decide_eq_true_eq] at hc
      obtain ⟨x, rfl, hx⟩ := opds1 hc.2
      obtain ⟨fn, q1, q2, q3, q4, q5⟩ := (hX f).2 hc.1
      rw [exec_func Hf, map1]
      exact noEscape_ok hI (H _ _ hx) q1 q2 q3 q4 q5
    · cases hc
  | pick c x y =>
    simp only [chkOp] at hc
    split at hc
    · rename_i c' x' y'
      simp only [Bool.and_eq_true] at hc
      simp only [evalP] at h
      split at h
      · rename_i t hct
        simp only [Option.some.injEq, Prod.mk.injEq] at h
        obtain ⟨rfl, rfl⟩ := h
        have hcr := H _ _ hc.1.1
        rw [hct] at hcr
        have hb : ρv c' = .bool t := rep_bool hcr
        refine ⟨.value (if t then ρv x' else ρv y'), w, C, ?_, .refl C, hI, ?_⟩
        · simp [execOp, hb, asBool]
        · cases t
          · exact H _ _ hc.2
          · exact H _ _ hc.1.2
      · cases h
    · cases hc
  | alloc t z =>
    simp only [evalP, Option.some.injEq, Prod.mk.injEq] at h
    obtain ⟨rfl, rfl⟩ := h
    simp only [chkOp] at hc
    split at hc
    · simp only [Bool.and_eq_true, decide_eq_true_eq] at hc
      obtain ⟨rfl, hc⟩ := hc
      exact alloc_ok hI (zeroCells_ex hc)
    · cases hc
  | box t y =>
    simp only [chkOp] at hc
    split at hc
    · simp only [Bool.and_eq_true, decide_eq_true_eq] at hc
      obtain ⟨rfl, hc⟩ := hc
      simp only [evalP] at h
      split at h
      · rename_i hs
        simp only [Option.some.injEq, Prod.mk.injEq] at h
        obtain ⟨rfl, rfl⟩ := h
        exact box_ok hI (H _ _ hc) _ hs
      · cases h
    · cases hc
  | build z qs =>
    simp only [chkOp] at hc
    split at hc
    · rename_i t ps
      simp only [Bool.and_eq_true] at hc
      simp only [evalP] at h
      split at h
      · rename_i vv hb
        simp only [Option.some.injEq, Prod.mk.injEq] at h
        obtain ⟨rfl, rfl⟩ := h
        obtain ⟨hz, hc⟩ := hc
        have fin : ∀ {ps' : List (Nat × Value)} (e : ps' = ps.toList.map fun p => (p.1, ρv p.2)), Res G w0 C m vv ((do pure (.value (← Instr.build t ps'.toArray)) : Sem Next).run P w) → Res G w0 C m vv ((execOp ρv { dst, op := .build t ps, type, pos, after, guard }).run P w) := by
          intro ps' e hr
          subst e
          simp only [execOp, parts_array]
          exact hr
        split at hc
        · rename_i fs hu
          simp only [Bool.and_eq_true] at hc
          obtain ⟨k1, k2⟩ := structParts_rep H hc.2
          refine fin rfl (build_ok hI (zeroCells_ex hz) k1 (fun i p q e1 e2 => (k2 i p q e1 e2).1) (.inl ⟨fs, hu, ?_, fun i p q e1 e2 => (k2 i p q e1 e2).2⟩) hb)
          intro f hf
          exact List.all_eq_true.1 hc.1 f (by simpa using hf)
        · rename_i n e hu
          split at hc
          · rename_i sz hsz
            obtain ⟨k1, k2⟩ := arrayParts_rep H hc
            exact fin rfl (build_ok hI (zeroCells_ex hz) k1 (fun i p q e1 e2 => (k2 i p q e1 e2).1) (.inr ⟨n, e, sz, hu, hsz, fun i p q e1 e2 => (k2 i p q e1 e2).2⟩) hb)
          · cases hc
        · cases hc
      · cases h
    · cases hc
  | buildSl sz z n qs =>
    simp only [chkOp] at hc
    split at hc
    · rename_i t n' ps
      simp only [Bool.and_eq_true, decide_eq_true_eq] at hc
      obtain ⟨⟨⟨⟨⟨rfl, h1⟩, h2⟩, h3⟩, h4⟩, hc⟩ := hc
      split at hc
      · rename_i e hu
        simp only [Bool.and_eq_true, decide_eq_true_eq] at hc
        obtain ⟨⟨c1, c2⟩, c3⟩ := hc
        simp only [evalP] at h
        split at h
        · rename_i vv hb
          simp only [Option.some.injEq, Prod.mk.injEq] at h
          obtain ⟨rfl, rfl⟩ := h
          obtain ⟨k1, k2⟩ := sliceParts_rep H c3
          have := buildSl_ok (P := P) hI hu c1 h1 h2 c2 (by rintro rfl; simp [known] at h3) h4 k1 k2 hb
          simp only [execOp, parts_array]
          exact this
        · cases h
      · cases hc
    · cases hc
  | load g n y =>
    simp only [chkOp] at hc
    split at hc
    · simp only [Bool.and_eq_true] at hc
      simp only [evalP] at h
      split at h
      · rename_i vv hl
        simp only [Option.some.injEq, Prod.mk.injEq] at h
        obtain ⟨rfl, rfl⟩ := h
        exact load_ok hI (H _ _ hc.2) hc.1 hl
      · cases h
    · cases hc
  | store n y x =>
    simp only [chkOp] at hc
    split at hc
    · simp only [Bool.and_eq_true, decide_eq_true_eq] at hc
      simp only [evalP] at h
      split at h
      · rename_i vv hl
        simp only [Option.some.injEq, Prod.mk.injEq] at h
        obtain ⟨rfl, rfl⟩ := h
        exact store_ok hI (H _ _ hc.1.2) (H _ _ hc.2) hc.1.1 hl
      · cases h
    · cases hc
  | nilck y =>
    simp only [chkOp] at hc
    split at hc
    · simp only [evalP] at h
      split at h
      · rename_i vv hl
        simp only [Option.some.injEq, Prod.mk.injEq] at h
        obtain ⟨rfl, rfl⟩ := h
        exact nilck_ok hI (H _ _ hc) hl rfl rfl
      · cases h
    · cases hc
  | bin op x y =>
    simp only [chkOp] at hc
    split at hc
    · simp only [Bool.and_eq_true, decide_eq_true_eq] at hc
      obtain ⟨⟨rfl, h1⟩, h2⟩ := hc
      simp only [evalP] at h
      split at h
      · rename_i vv hl
        simp only [Option.some.injEq, Prod.mk.injEq] at h
        obtain ⟨rfl, rfl⟩ := h
        exact bin_ok hI (H _ _ h1) (H _ _ h2) hl
      · cases h
    · cases hc
  | eq neg T x y =>
    simp only [chkOp] at hc
    split at hc
    · simp only [Bool.and_eq_true, decide_eq_true_eq] at hc
      obtain ⟨⟨⟨rfl, h0⟩, h1⟩, h2⟩ := hc
      simp only [evalP] at h
      split at h
      · rename_i r hs hl
        simp only [Option.some.injEq, Prod.mk.injEq] at h
        obtain ⟨rfl, rfl⟩ := h
        exact eq_ok hI h0 (H _ _ h1) (H _ _ h2) hl hs
      · cases h
    · cases hc
  | not y =>
    simp only [chkOp] at hc
    split at hc
    · simp only [evalP] at h
      split at h
      · rename_i b hb
        simp only [Option.some.injEq, Prod.mk.injEq] at h
        obtain ⟨rfl, rfl⟩ := h
        exact not_ok hI (H _ _ hc) hb rfl
      · cases h
    · cases hc
  | neg y =>
    simp only [chkOp] at hc
    split at hc
    · simp only [evalP] at h
      split at h
      · rename_i b hb
        simp only [Option.some.injEq, Prod.mk.injEq] at h
        obtain ⟨rfl, rfl⟩ := h
        exact neg_ok hI (H _ _ hc) hb
      · cases h
    · cases hc
  | inv y =>
    simp only [chkOp] at hc
    split at hc
    · simp only [evalP] at h
      split at h
      · rename_i b hb
        simp only [Option.some.injEq, Prod.mk.injEq] at h
        obtain ⟨rfl, rfl⟩ := h
        exact inv_ok hI (H _ _ hc) hb
      · cases h
    · cases hc
  | convI k y =>
    simp only [chkOp] at hc
    split at hc
    · simp only [Bool.and_eq_true] at hc
      obtain ⟨⟨h0, h1⟩, h2⟩ := hc
      obtain ⟨d, hd⟩ := Option.isSome_iff_exists.1 h0
      split at h1
      · rename_i k' hk
        have h1 := of_decide_eq_true h1
        subst h1
        simp only [evalP] at h
        split at h
        · rename_i b hb
          simp only [Option.some.injEq, Prod.mk.injEq] at h
          obtain ⟨rfl, rfl⟩ := h
          exact convI_ok hI (H _ _ h2) hd hk hb
        · cases h
      · cases h1
    · cases hc
  | bytesOf e y =>
    simp only [chkOp] at hc
    split at hc
    · simp only [Bool.and_eq_true] at hc
      obtain ⟨h1, h2⟩ := hc
      split at h1
      · rename_i e' hs hd
        simp only [Bool.and_eq_true, decide_eq_true_eq] at h1
        obtain ⟨rfl, h1⟩ := h1
        unfold isU8 at h1
        split at h1
        · rename_i hu
          simp only [evalP] at h
          split at h
          · rename_i b hb
            simp only [Option.some.injEq, Prod.mk.injEq] at h
            obtain ⟨rfl, rfl⟩ := h
            exact bytesOf_ok hI (H _ _ h2) hs hd hu hb
          · cases h
        · cases h1
      · cases h1
    · cases hc
  | strOf y =>
    simp only [chkOp] at hc
    split at hc
    · simp only [Bool.and_eq_true] at hc
      obtain ⟨h1, h2⟩ := hc
      split at h1
      · rename_i e' hs hd
        unfold isU8 at h1
        split at h1
        · rename_i hu
          simp only [evalP] at h
          split at h
          · rename_i b hb
            simp only [Option.some.injEq, Prod.mk.injEq] at h
            obtain ⟨rfl, rfl⟩ := h
            exact strOf_ok hI (H _ _ h2) hs hd hu hb
          · cases h
        · cases h1
      · cases h1
    · cases hc
  | runeStr y =>
    simp only [chkOp] at hc
    split at hc
    · simp only [Bool.and_eq_true] at hc
      obtain ⟨⟨h0, h1⟩, h2⟩ := hc
      obtain ⟨d, hd⟩ := Option.isSome_iff_exists.1 h0
      split at h1
      · rename_i hk
        simp only [evalP] at h
        split at h
        · rename_i b hb
          simp only [Option.some.injEq, Prod.mk.injEq] at h
          obtain ⟨rfl, rfl⟩ := h
          exact runeStr_ok hI (H _ _ h2) hd hk hb
        · cases h
      · cases h1
    · cases hc
  | mkIface t y =>
    simp only [chkOp] at hc
    split at hc
    · simp only [Bool.and_eq_true, decide_eq_true_eq] at hc
      obtain ⟨⟨rfl, h1⟩, h2⟩ := hc
      simp only [evalP, Option.some.injEq, Prod.mk.injEq] at h
      obtain ⟨rfl, rfl⟩ := h
      exact mkIface_ok hI (H _ _ h2) h1
    · cases hc
  | mkFn f first cap =>
    simp only [chkOp] at hc
    split at hc
    · rename_i f' xs ys
      simp only [Bool.and_eq_true, decide_eq_true_eq] at hc
      obtain ⟨⟨rfl, h1⟩, h2⟩ := hc
      simp only [evalP, Option.some.injEq, Prod.mk.injEq] at h
      obtain ⟨rfl, rfl⟩ := h
      have k1 := opds_rep (C := C) (ρa := ρa) (ρv := ρv) H h1
      have k2 := opds_rep (C := C) (ρa := ρa) (ρv := ρv) H h2
      exact mkFn_ok hI (by simpa using k1) (by simpa using k2)
    · cases hc
  | mkMap =>
    simp only [chkOp] at hc
    split at hc
    · simp only [evalP, Option.some.injEq, Prod.mk.injEq] at h
      obtain ⟨rfl, rfl⟩ := h
      exact mkMap_ok hI
    · cases hc
  | mkSl => simp [chkOp] at hc
  | del => simp [chkOp] at hc
  | panic => simp [chkOp] at hc
  | call => simp [chkOp] at hc
  | callV => simp [chkOp] at hc
  | sliceS y lo hi =>
    simp only [chkOp] at hc
    split at hc
    · simp only [Bool.and_eq_true] at hc
      obtain ⟨⟨⟨h1, h2⟩, h3⟩, h4⟩ := hc
      split at h1
      · rename_i hu
        simp only [evalP] at h
        split at h
        · rename_i vv hl
          simp only [Option.some.injEq, Prod.mk.injEq] at h
          obtain ⟨rfl, rfl⟩ := h
          exact sliceS_ok hI (H _ _ h2) hu (opt_rep H h3) (opt_rep H h4) hl
        · cases h
      · cases h1
    · cases hc
  | sliceL sz y lo hi mx =>
    simp only [chkOp] at hc
    split at hc
    · simp only [Bool.and_eq_true] at hc
      obtain ⟨⟨⟨⟨h1, h2⟩, h3⟩, h4⟩, h5⟩ := hc
      split at h1
      · rename_i e hu
        simp only [evalP] at h
        split at h
        · rename_i vv hs hl
          simp only [Option.some.injEq, Prod.mk.injEq] at h
          obtain ⟨rfl, rfl⟩ := h
          exact sliceL_ok hI (H _ _ h2) hu (of_decide_eq_true h1) (opt_rep H h3) (opt_rep H h4) (opt_rep H h5) hs hl
        · cases h
      · cases h1
    · cases hc
  | fieldAddr off y =>
    simp only [chkOp] at hc
    split at hc
    · simp only [Bool.and_eq_true] at hc
      obtain ⟨h1, h2⟩ := hc
      split at h1
      · rename_i fs hu
        split at h1
        · rename_i f hf
          simp only [Bool.and_eq_true, decide_eq_true_eq] at h1
          obtain ⟨h0, h1⟩ := h1
          split at h1
          · rename_i n hn
            simp only [evalP] at h
            split at h
            · rename_i vv hl
              simp only [Option.some.injEq, Prod.mk.injEq] at h
              obtain ⟨rfl, rfl⟩ := h
              exact fieldAddr_ok hI (H _ _ h2) hu hf h0 hn (of_decide_eq_true h1) hl
            · cases h
          · cases h1
        · cases h1
      · cases h1
    · cases hc
  | field g n off y =>
    simp only [chkOp] at hc
    split at hc
    · simp only [Bool.and_eq_true] at hc
      obtain ⟨h1, h2⟩ := hc
      split at h1
      · rename_i fs hu
        split at h1
        · rename_i f hf
          simp only [Bool.and_eq_true, decide_eq_true_eq] at h1
          simp only [evalP] at h
          split at h
          · rename_i cs hcs
            split at h
            · rename_i vv hl
              simp only [Option.some.injEq, Prod.mk.injEq] at h
              obtain ⟨rfl, rfl⟩ := h
              exact field_ok hI (H _ _ h2) hu hf h1.1 h1.2 hcs hl
            · cases h
          · cases h
        · cases h1
      · cases h1
    · cases hc
  | idxAddr sz y j =>
    simp only [chkOp] at hc
    split at hc
    · simp only [Bool.and_eq_true] at hc
      obtain ⟨⟨h1, h2⟩, h3⟩ := hc
      split at h1
      · rename_i e hu
        simp only [evalP] at h
        split at h
        · rename_i vv hl
          simp only [Option.some.injEq, Prod.mk.injEq] at h
          obtain ⟨rfl, rfl⟩ := h
          exact idxAddr_ok hI (H _ _ h2) (H _ _ h3) hu (of_decide_eq_true h1) hl
        · cases h
      · cases h1
    · cases hc
  | idxAddrA len sz y j =>
    simp only [chkOp] at hc
    split at hc
    · simp only [Bool.and_eq_true] at hc
      obtain ⟨⟨h1, h2⟩, h3⟩ := hc
      split at h1
      · rename_i n e hu
        simp only [Bool.and_eq_true, decide_eq_true_eq] at h1
        obtain ⟨rfl, h1⟩ := h1
        simp only [evalP] at h
        split at h
        · rename_i vv hl
          simp only [Option.some.injEq, Prod.mk.injEq] at h
          obtain ⟨rfl, rfl⟩ := h
          exact idxAddrA_ok hI (H _ _ h2) (H _ _ h3) hu h1 hl
        · cases h
      · cases h1
    · cases hc
  | idxS y j =>
    simp only [chkOp] at hc
    split at hc
    · simp only [Bool.and_eq_true] at hc
      obtain ⟨⟨h1, h2⟩, h3⟩ := hc
      split at h1
      · rename_i hu
        simp only [evalP] at h
        split at h
        · rename_i vv hl
          simp only [Option.some.injEq, Prod.mk.injEq] at h
          obtain ⟨rfl, rfl⟩ := h
          exact idxS_ok hI (H _ _ h2) (H _ _ h3) hu hl
        · cases h
      · cases h1
    · cases hc
  | idxA g len sz y j =>
    simp only [chkOp] at hc
    split at hc
    · simp only [Bool.and_eq_true] at hc
      obtain ⟨⟨h1, h2⟩, h3⟩ := hc
      split at h1
      · rename_i n e hu
        simp only [Bool.and_eq_true, decide_eq_true_eq] at h1
        obtain ⟨rfl, h1⟩ := h1
        simp only [evalP] at h
        split at h
        · rename_i vv hl
          simp only [Option.some.injEq, Prod.mk.injEq] at h
          obtain ⟨rfl, rfl⟩ := h
          exact idxA_ok hI (H _ _ h2) (H _ _ h3) hu h1 hl
        · cases h
      · cases h1
    · cases hc
  | lookup kd z ok y k =>
    simp only [chkOp] at hc
    split at hc
    · simp only [Bool.and_eq_true, decide_eq_true_eq] at hc
      obtain ⟨⟨⟨rfl, h1⟩, h2⟩, h3⟩ := hc
      split at h1
      · rename_i kt et hu
        simp only [Bool.and_eq_true] at h1
        obtain ⟨h1, hz⟩ := h1
        split at h1
        · rename_i d hd
          simp only [evalP] at h
          split at h
          · rename_i vv hk hl
            simp only [Option.some.injEq, Prod.mk.injEq] at h
            obtain ⟨rfl, rfl⟩ := h
            exact lookup_ok hI (H _ _ h2) (H _ _ h3) hu hd (kind_fits hk h1) hz hl
          · cases h
        · cases h1
      · cases h1
    · cases hc
  | mapUpd kd y k x =>
    simp only [chkOp] at hc
    split at hc
    · simp only [Bool.and_eq_true] at hc
      obtain ⟨⟨⟨h1, h2⟩, h3⟩, h4⟩ := hc
      split at h1
      · rename_i kt et hu
        split at h1
        · rename_i d hd
          simp only [evalP] at h
          split at h
          · rename_i vv hk hl
            simp only [Option.some.injEq, Prod.mk.injEq] at h
            obtain ⟨rfl, rfl⟩ := h
            exact mapUpd_ok hI (H _ _ h2) (H _ _ h3) (H _ _ h4) hu hd (kind_fits hk h1) hl
          · cases h
        · cases h1
      · cases h1
    · cases hc
  | rangeS y =>
    simp only [chkOp] at hc
    split at hc
    · simp only [Bool.and_eq_true] at hc
      obtain ⟨h1, h2⟩ := hc
      split at h1
      · rename_i hu
        simp only [evalP] at h
        split at h
        · rename_i s hs
          simp only [Option.some.injEq, Prod.mk.injEq] at h
          obtain ⟨rfl, rfl⟩ := h
          exact rangeS_ok hI (H _ _ h2) hu hs
        · cases h
      · cases h1
    · cases hc
  | nextS y =>
    simp only [chkOp] at hc
    split at hc
    · exact nextS_ok hI (H _ _ hc) h
    · cases hc
  | tassert t z ok y =>
    simp only [chkOp] at hc
    split at hc
    · simp only [Bool.and_eq_true, decide_eq_true_eq] at hc
      obtain ⟨⟨⟨⟨rfl, rfl⟩, hz⟩, h1⟩, h2⟩ := hc
      split at h1
      · cases h1
      · rename_i d hd hu
        simp only [evalP] at h
        split at h
        · rename_i vv hl
          simp only [Option.some.injEq, Prod.mk.injEq] at h
          obtain ⟨rfl, rfl⟩ := h
          exact tassert_ok hI (H _ _ h2) ⟨_, hu, fun ms e => hd ms e⟩ hz hl
        · cases h
      · cases h1
    · cases hc
  | extract i y =>
    simp only [chkOp] at hc
    split at hc
    · simp only [Bool.and_eq_true, decide_eq_true_eq] at hc
      obtain ⟨rfl, h2⟩ := hc
      simp only [evalP] at h
      split at h
      · rename_i vs hvs
        split at h
        · rename_i vv hl
          simp only [Option.some.injEq, Prod.mk.injEq] at h
          obtain ⟨rfl, rfl⟩ := h
          exact extract_ok hI (H _ _ h2) hvs hl
        · cases h
      · cases h
    · cases hc
  | len k y =>
    simp only [chkOp] at hc
    split at hc
    · rename_i args at'
      simp only [Bool.and_eq_true] at hc
      obtain ⟨h1, h2⟩ := hc
      obtain ⟨x, rfl, hx⟩ := opds1 h2
      split at h1
      · rename_i t ts hts
        have hat : at' = (t :: ts).toArray := by rw [← hts]
        subst hat
        obtain ⟨cs, e⟩ := exec_builtin (P := P) (w := w) (ρv := ρv) (dst := dst) (b := .len) (args := #[x]) (at' := (t :: ts).toArray) (type := type) (pos := pos) (after := after) (guard := guard)
        rw [e, map1]
        simp only [evalP] at h
        split at h
        · rename_i vv hk hl
          simp only [Option.some.injEq, Prod.mk.injEq] at h
          obtain ⟨rfl, rfl⟩ := h
          refine len_ok hI (H _ _ hx) hk ?_ hl
          split at h1
          · assumption
          · exact ⟨_, by assumption⟩
          · exact ⟨_, _, by assumption⟩
          · cases h1
        · cases h
      · cases h1
    · cases hc
  | min x y =>
    simp only [chkOp] at hc
    split at hc
    · rename_i args at'
      obtain ⟨x', y', rfl, h1, h2⟩ := opds2 hc
      obtain ⟨cs, e⟩ := exec_builtin (P := P) (w := w) (ρv := ρv) (dst := dst) (b := .min) (args := #[x', y']) (at' := at') (type := type) (pos := pos) (after := after) (guard := guard)
      rw [e, map2]
      simp only [evalP] at h
      split at h
      · rename_i vv hl
        simp only [Option.some.injEq, Prod.mk.injEq] at h
        obtain ⟨rfl, rfl⟩ := h
        exact min_ok hI (H _ _ h1) (H _ _ h2) hl
      · cases h
    · cases hc
  | max x y =>
    simp only [chkOp] at hc
    split at hc
    · rename_i args at'
      obtain ⟨x', y', rfl, h1, h2⟩ := opds2 hc
      obtain ⟨cs, e⟩ := exec_builtin (P := P) (w := w) (ρv := ρv) (dst := dst) (b := .max) (args := #[x', y']) (at' := at') (type := type) (pos := pos) (after := after) (guard := guard)
      rw [e, map2]
      simp only [evalP] at h
      split at h
      · rename_i vv hl
        simp only [Option.some.injEq, Prod.mk.injEq] at h
        obtain ⟨rfl, rfl⟩ := h
        exact max_ok hI (H _ _ h1) (H _ _ h2) hl
      · cases h
    · cases hc
  | append e sz bytes x y =>
    simp only [chkOp] at hc
    split at hc
    · rename_i args at'
      simp only [Bool.and_eq_true] at hc
      obtain ⟨h1, h2⟩ := hc
      obtain ⟨x', y', rfl, hx, hy⟩ := opds2 h2
      split at h1
      · rename_i sT xT hts
        have hat : at' = #[sT, xT] := by rw [← Array.toList_inj, hts]
        subst hat
        simp only [Bool.and_eq_true, decide_eq_true_eq] at h1
        obtain ⟨⟨⟨⟨c1, c2⟩, c3⟩, c4⟩, c5⟩ := h1
        split at c1
        · rename_i e' hu
          have c1 := of_decide_eq_true c1
          subst c1
          split at c5
          · rename_i i hi
            simp only [Bool.and_eq_true, decide_eq_true_eq] at c5
            obtain ⟨⟨rfl, rfl⟩, c5⟩ := c5
            split at c5
            · rename_i z hz
              obtain ⟨cs, e⟩ := exec_builtin (P := P) (w := w) (ρv := ρv) (dst := dst) (b := .append) (args := #[x', y']) (at' := #[sT, xT]) (type := type) (pos := pos) (after := after) (guard := guard)
              rw [e, map2]
              simp only [evalP] at h
              split at h
              · rename_i ys hys
                exact append_ok hu c2 hi hI (H _ _ hx) (H _ _ hy) hys c3 c4 hz (of_decide_eq_true c5) h
              · cases h
            · cases c5
          · cases c5
        · cases c1
      · cases h1
    · cases hc
  | convP y =>
    simp only [chkOp] at hc
    split at hc
    · simp only [Bool.and_eq_true] at hc
      obtain ⟨h1, h2⟩ := hc
      split at h1
      · rename_i t hs hd
        split at h1
        · rename_i n hn
          simp only [evalP] at h
          split at h
          · rename_i vv hl
            simp only [Option.some.injEq, Prod.mk.injEq] at h
            obtain ⟨rfl, rfl⟩ := h
            exact convP_ok hI (H _ _ h2) hs hd hn (of_decide_eq_true h1) hl
          · cases h
        · cases h1
      · cases h1
    · cases hc
  | convU alts y =>
    simp only [chkOp] at hc
    split at hc
    · simp only [Bool.and_eq_true] at hc
      obtain ⟨h1, h2⟩ := hc
      split at h1
      · rename_i t hs hd
        simp only [Bool.and_eq_true] at h1
        simp only [evalP] at h
        split at h
        · rename_i vv hl
          simp only [Option.some.injEq, Prod.mk.injEq] at h
          obtain ⟨rfl, rfl⟩ := h
          exact convU_ok hI (H _ _ h2) hs hd (fun p hp => List.all_eq_true.1 h1.2 p hp) (Option.isSome_iff_exists.1 h1.1) hl
        · cases h
      · cases h1
    · cases hc
  | sliceData y =>
    simp only [chkOp] at hc
    split at hc
    · rename_i args at'
      obtain ⟨x, rfl, hx⟩ := opds1 hc
      obtain ⟨cs, e⟩ := exec_builtin (P := P) (w := w) (ρv := ρv) (dst := dst) (b := .unsafeSliceData) (args := #[x]) (at' := at') (type := type) (pos := pos) (after := after) (guard := guard)
      rw [e, map1]
      exact sliceData_ok hI (H _ _ hx) h
    · cases hc
  | unsafeStr u x y =>
    simp only [chkOp] at hc
    split at hc
    · rename_i args at'
      simp only [Bool.and_eq_true] at hc
      obtain ⟨h1, h2⟩ := hc
      obtain ⟨x', y', rfl, hx, hy⟩ := opds2 h2
      split at h1
      · rename_i pt ts hts
        have hat : at' = (pt :: ts).toArray := by rw [← hts]
        subst hat
        split at h1
        · rename_i u' hu
          simp only [Bool.and_eq_true, decide_eq_true_eq] at h1
          obtain ⟨⟨rfl, c1⟩, c2⟩ := h1
          obtain ⟨cs, e⟩ := exec_builtin (P := P) (w := w) (ρv := ρv) (dst := dst) (b := .unsafeString) (args := #[x', y']) (at' := (pt :: ts).toArray) (type := type) (pos := pos) (after := after) (guard := guard)
          rw [e, map2]
          simp only [evalP] at h
          split at h
          · rename_i r hl
            simp only [Option.some.injEq, Prod.mk.injEq] at h
            obtain ⟨rfl, rfl⟩ := h
            exact unsafeStr_ok hI (H _ _ hx) (H _ _ hy) hu (rowAt_self c1 c2) c1 hl
          · cases h
        · cases h1
      · cases h1
    · cases hc
  | idxByte x y =>
    simp only [chkOp] at hc
    split at hc
    · rename_i f args at'
      simp only [Bool.and_eq_true, decide_eq_true_eq] at hc
      obtain ⟨x', y', rfl, hx, hy⟩ := opds2 hc.2
      obtain ⟨fn, q1, q2, q3, q4, q5⟩ := (hX f).1 hc.1
      rw [exec_func Hf, map2]
      simp only [evalP] at h
      split at h
      · rename_i r hl
        simp only [Option.some.injEq, Prod.mk.injEq] at h
        obtain ⟨rfl, rfl⟩ := h
        exact idxByte_ok hI (H _ _ hx) (H _ _ hy) q1 q2 q3 q4 q5 hl
      · cases h
    · cases hc
end
end Go.Proofs.YtinlfdkalijffaaDoor.Am
