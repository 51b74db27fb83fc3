/- Part KA5 of a claim's texts, joined: what the claim needs of them. -/
import Derived.Test.YtkjokjogdehonaaGreatDoorKA4
import Derived.IntWalk
set_option linter.unusedSimpArgs false
set_option linter.unusedVariables false
namespace Go.Proofs.YtkjokjogdehonaaGreatDoor.Am
open Go Go.RowKit
def one : AV → Bool
  | .u | .agg _ | .tup _ => false
  | _ => true
theorem one_cells {x : AV} (h : one x = true) : x.cells = [x] := by cases x <;> simp [one] at h <;> rfl
theorem one_scal {x : AV} : one x = scal x := by cases x <;> rfl
theorem one_int {k : IntKind} {n : Int} : one (.int k n) = true := rfl
theorem one_str {s : List UInt8} : one (.str s) = true := rfl
theorem one_bool {b : Bool} : one (.bool b) = true := rfl
theorem one_nilSl : one .nilSl = true := rfl
theorem one_nilPtr : one .nilPtr = true := rfl
theorem one_nilMap : one .nilMap = true := rfl
theorem one_nilFn : one .nilFn = true := rfl
theorem one_nilIface : one .nilIface = true := rfl
theorem one_sl {o : Own} {sz : Nat} {xs : List AV} : one (.sl o sz xs) = true := rfl
theorem one_osl {a b c d e : Nat} : one (.osl a b c d e) = true := rfl
theorem one_gsl {a b c : Nat} : one (.gsl a b c) = true := rfl
theorem one_ptr {i o : Nat} : one (.ptr i o) = true := rfl
theorem one_sptr {cs : List AV} {o : Nat} : one (.sptr cs o) = true := rfl
theorem one_map {i : Nat} : one (.map i) = true := rfl
theorem one_fn {f : Fn} {a b : List AV} : one (.fn f a b) = true := rfl
theorem one_iface {t : TypeId} {v : AV} : one (.iface t v) = true := rfl
theorem SlOf.cells {sz : Nat} {x : AV} {xs : List AV} (h : SlOf sz x xs) : x.cells = [x] := by
  rcases h with ⟨rfl, rfl⟩ | ⟨o, rfl⟩ <;> rfl
theorem SlOf.one {sz : Nat} {x : AV} {xs : List AV} (h : SlOf sz x xs) : Am.one x = true := by
  rcases h with ⟨rfl, rfl⟩ | ⟨o, rfl⟩ <;> rfl
def allOne : List AV → Bool
  | [] => true
  | x :: xs => one x && allOne xs
theorem allOne_nil : allOne [] = true := rfl
theorem allOne_cons {x : AV} {xs : List AV} : allOne (x :: xs) = (one x && allOne xs) := rfl
theorem all_scal : ∀ {xs : List AV}, xs.all scal = allOne xs
  | [] => rfl
  | x :: xs => by rw [List.all_cons, all_scal, allOne, one_scal]
def fitsB : Nat → Nat → List AV → Bool
  | 0, 0, _ => true
  | 0, n + 1, _ :: cs => fitsB 0 n cs
  | o + 1, n, _ :: cs => fitsB o n cs
  | _, _, _ => false
theorem fitsB_00 {cs : List AV} : fitsB 0 0 cs = true := by cases cs <;> rfl
theorem fitsB_0S {n : Nat} {c : AV} {cs : List AV} : fitsB 0 (n + 1) (c :: cs) = fitsB 0 n cs := rfl
theorem fitsB_S {o n : Nat} {c : AV} {cs : List AV} : fitsB (o + 1) n (c :: cs) = fitsB o n cs := by cases n <;> rfl
theorem fitsB_iff : ∀ {o n : Nat} {cs : List AV}, fitsB o n cs = true → o + n ≤ cs.length
  | 0, 0, _, _ => Nat.zero_le _
  | 0, n + 1, c :: cs, h => by have := fitsB_iff (o := 0) (n := n) (cs := cs) h; simp only [List.length_cons]; omega
  | o + 1, n, c :: cs, h => by rw [fitsB_S] at h; have := fitsB_iff h; simp only [List.length_cons]; omega
  | 0, n + 1, [], h => by simp [fitsB] at h
  | o + 1, n, [], h => by simp [fitsB] at h
theorem fitsB_of : ∀ {o n : Nat} {cs : List AV}, o + n ≤ cs.length → fitsB o n cs = true
  | 0, 0, _, _ => fitsB_00
  | 0, n + 1, c :: cs, h => by rw [fitsB_0S]; exact fitsB_of (by simp only [List.length_cons] at h; omega)
  | o + 1, n, c :: cs, h => by rw [fitsB_S]; exact fitsB_of (by simp only [List.length_cons] at h; omega)
  | 0, n + 1, [], h => by simp at h
  | o + 1, n, [], h => by simp at h
def setL : List AV → Nat → List AV → List AV
  | c :: cs, o + 1, ys => c :: setL cs o ys
  | _ :: cs, 0, y :: ys => y :: setL cs 0 ys
  | cs, _, _ => cs
theorem setL_S {c : AV} {cs : List AV} {o : Nat} {ys : List AV} : setL (c :: cs) (o + 1) ys = c :: setL cs o ys := by cases ys <;> rfl
theorem setL_0 {c y : AV} {cs ys : List AV} : setL (c :: cs) 0 (y :: ys) = y :: setL cs 0 ys := rfl
theorem setL_nil {cs : List AV} : setL cs 0 [] = cs := by cases cs <;> rfl
theorem setCells_cons {c : AV} {cs : List AV} {o : Nat} : ∀ {ys : List AV}, setCells (c :: cs) (o + 1) ys = c :: setCells cs o ys
  | [] => rfl
  | y :: ys => by
    simp only [setCells, List.set_cons_succ]
    exact setCells_cons
theorem setL_cells : ∀ {cs : List AV} {o : Nat} {ys : List AV}, o + ys.length ≤ cs.length → setCells cs o ys = setL cs o ys
  | [], _, [], _ => rfl
  | [], o, y :: ys, h => by simp at h
  | c :: cs, o + 1, ys, h => by
    rw [setCells_cons, setL_S, setL_cells (by simp only [List.length_cons] at h; omega)]
  | c :: cs, 0, [], _ => rfl
  | c :: cs, 0, y :: ys, h => by
    simp only [setCells, List.set_cons_zero]
    rw [setCells_cons, setL_0, setL_cells (by simp only [List.length_cons] at h; omega)]
def lenB : Nat → List AV → Bool
  | 0, [] => true
  | n + 1, _ :: xs => lenB n xs
  | _, _ => false
theorem lenB_0 : lenB 0 [] = true := rfl
theorem lenB_S {n : Nat} {x : AV} {xs : List AV} : lenB (n + 1) (x :: xs) = lenB n xs := rfl
theorem lenB_iff : ∀ {n : Nat} {xs : List AV}, lenB n xs = true ↔ xs.length = n
  | 0, [] => by simp [lenB]
  | n + 1, x :: xs => by rw [lenB_S, lenB_iff]; simp
  | 0, _ :: _ => by simp [lenB]
  | n + 1, [] => by simp [lenB]
def storeO (o : AObj) (m : Mem) (id n off : Nat) (x : AV) : Option Mem :=
  match o with
  | .cells t cs => if x.cells.length = n ∧ off + n ≤ cs.length ∧ x.cells.all scal = true then some (m.set id (.cells t (setCells cs off x.cells))) else none
  | .grow t cs => if x.cells.length = n ∧ off + n ≤ cs.length ∧ x.cells.all scal = true then some (m.set id (.grow t (setCells cs off x.cells))) else none
  | _ => none
def storeG (b : Bool) (t : TypeId) (cs : List AV) (m : Mem) (id off : Nat) (ys : List AV) : Option Mem :=
  match b with
  | true => some (m.set id (.cells t (setL cs off ys)))
  | false => none
theorem storeG_true {t : TypeId} {cs : List AV} {m : Mem} {id off : Nat} {ys : List AV} : storeG true t cs m id off ys = some (m.set id (.cells t (setL cs off ys))) := rfl
theorem store_ptr {m : Mem} {n id off : Nat} {x : AV} : m.store n (.ptr id off) x = storeO (m.get id) m id n off x := by
  simp only [Mem.store, storeO]; split <;> simp_all
theorem storeO_cells {t : TypeId} {cs : List AV} {m : Mem} {id n off : Nat} {x : AV} : storeO (.cells t cs) m id n off x = storeG (fitsB off n cs && (lenB n x.cells && allOne x.cells)) t cs m id off x.cells := by
  simp only [storeO, all_scal]
  cases hf : (fitsB off n cs && (lenB n x.cells && allOne x.cells)) with
  | true =>
    simp only [Bool.and_eq_true] at hf
    have h1 := fitsB_iff hf.1
    have h2 := lenB_iff.1 hf.2.1
    rw [storeG_true, if_pos ⟨h2, h1, hf.2.2⟩, setL_cells (by omega)]
  | false =>
    rw [if_neg]
    · rfl
    · rintro ⟨h1, h2, h3⟩
      rw [fitsB_of h2, lenB_iff.2 h1, h3] at hf; simp at hf
theorem set_set {m : Mem} {i : Nat} {o o' : AObj} : (m.set i o).set i o' = m.set i o' := by
  simp only [Mem.set, Mem.mk.injEq, and_true]
  funext j; split <;> rfl
def buildF (b : Bool) (z : List AV) (ps : List (Nat × Nat × AV)) : Option AV :=
  match b with
  | true => buildV z ps
  | false => none
theorem buildF_true {z : List AV} {ps : List (Nat × Nat × AV)} : buildF true z ps = buildV z ps := rfl
theorem buildV_nil {z : List AV} : buildV z [] = some (.agg z) := by cases z <;> rfl
theorem buildV_cons {z : List AV} {off n : Nat} {x : AV} {ps : List (Nat × Nat × AV)} : buildV z ((off, n, x) :: ps) = buildF (fitsB off n z && (lenB n x.cells && allOne x.cells)) (setL z off x.cells) ps := by
  have e : buildV z ((off, n, x) :: ps) = if x.cells.length = n ∧ off + n ≤ z.length ∧ x.cells.all scal = true then buildV (setCells z off x.cells) ps else none := by cases z <;> rfl
  rw [e, all_scal]
  cases hf : (fitsB off n z && (lenB n x.cells && allOne x.cells)) with
  | true =>
    simp only [Bool.and_eq_true] at hf
    have h1 := fitsB_iff hf.1
    have h2 := lenB_iff.1 hf.2.1
    rw [buildF_true, if_pos ⟨h2, h1, hf.2.2⟩, setL_cells (by omega)]
  | false =>
    rw [if_neg]
    · rfl
    · rintro ⟨h1, h2, h3⟩
      rw [fitsB_of h2, lenB_iff.2 h1, h3] at hf; simp at hf
def buildSlF (b : Bool) (sz n : Nat) (xs : List AV) (ps : List (Nat × AV)) : Option AV :=
  match b with
  | true => buildSlV sz n xs ps
  | false => none
theorem buildSlF_true {sz n : Nat} {xs : List AV} {ps : List (Nat × AV)} : buildSlF true sz n xs ps = buildSlV sz n xs ps := rfl
def ltB : Nat → Nat → Bool
  | 0, _ + 1 => true
  | a + 1, b + 1 => ltB a b
  | _, 0 => false
theorem ltB_0 {b : Nat} : ltB 0 (b + 1) = true := rfl
theorem ltB_S {a b : Nat} : ltB (a + 1) (b + 1) = ltB a b := rfl
theorem ltB_iff : ∀ {a b : Nat}, ltB a b = true ↔ a < b
  | 0, b + 1 => by simp [ltB]
  | a + 1, b + 1 => by rw [ltB_S, ltB_iff]; omega
  | 0, 0 => by simp [ltB]
  | a + 1, 0 => by simp [ltB]
theorem buildSlV_nil {sz n : Nat} {xs : List AV} : buildSlV sz n xs [] = some (.sl .full sz xs) := by cases xs <;> rfl
theorem buildSlV_cons {sz n i : Nat} {xs : List AV} {x : AV} {ps : List (Nat × AV)} : buildSlV sz n xs ((i, x) :: ps) = buildSlF (ltB i n && (lenB sz x.cells && allOne x.cells)) sz n (xs.set i x) ps := by
  have e : buildSlV sz n xs ((i, x) :: ps) = if x.cells.length = sz ∧ i < n ∧ x.cells.all scal = true then buildSlV sz n (xs.set i x) ps else none := by cases xs <;> rfl
  rw [e, all_scal]
  cases hf : (ltB i n && (lenB sz x.cells && allOne x.cells)) with
  | true =>
    simp only [Bool.and_eq_true] at hf
    rw [buildSlF_true, if_pos ⟨lenB_iff.1 hf.2.1, ltB_iff.1 hf.1, hf.2.2⟩]
  | false =>
    rw [if_neg]
    · rfl
    · rintro ⟨h1, h2, h3⟩
      rw [ltB_iff.2 h2, lenB_iff.2 h1, h3] at hf; simp at hf
structure ExtB (p : Nat) (m m' : Mem) : Prop where
  get : ∀ i, i < m.next → i ≠ p → m'.get i = m.get i
  next : m.next ≤ m'.next
  live : ∀ t, t < m.ntok → m'.live t = m.live t
  ntok : m.ntok ≤ m'.ntok
  tty : ∀ t, t < m.ntok → m'.tty t = m.tty t
theorem ExtB.refl (p : Nat) (m : Mem) : ExtB p m m := ⟨fun _ _ _ => rfl, Nat.le_refl _, fun _ _ => rfl, Nat.le_refl _, fun _ _ => rfl⟩
theorem ExtB.trans {p : Nat} {a b c : Mem} (h : ExtB p a b) (k : ExtB p b c) : ExtB p a c :=
  ⟨fun i hi hp => (k.get i (Nat.lt_of_lt_of_le hi h.next) hp).trans (h.get i hi hp), Nat.le_trans h.next k.next, fun t ht => (k.live t (Nat.lt_of_lt_of_le ht h.ntok)).trans (h.live t ht), Nat.le_trans h.ntok k.ntok, fun t ht => (k.tty t (Nat.lt_of_lt_of_le ht h.ntok)).trans (h.tty t ht)⟩
theorem ExtB.alloc {p : Nat} {m m' : Mem} (h : ExtB p m m') (o : AObj) : ExtB p m (m'.alloc o) :=
  ⟨fun i hi hp => by have := h.next; simp only [Mem.alloc]; rw [if_neg (by omega)]; exact h.get i hi hp, by have := h.next; simp only [Mem.alloc]; omega, h.live, h.ntok, h.tty⟩
theorem ExtB.set {p : Nat} {m m' : Mem} (h : ExtB p m m') {i : Nat} (hi : m.next ≤ i) (o : AObj) : ExtB p m (m'.set i o) :=
  ⟨fun j hj hp => by simp only [Mem.set]; rw [if_neg (by omega)]; exact h.get j hj hp, h.next, h.live, h.ntok, h.tty⟩
theorem ExtB.setp {p : Nat} {m m' : Mem} (h : ExtB p m m') (o : AObj) : ExtB p m (m'.set p o) :=
  ⟨fun j hj hp => by simp only [Mem.set]; rw [if_neg hp]; exact h.get j hj hp, h.next, h.live, h.ntok, h.tty⟩
theorem ExtB.newTok {p : Nat} {m m' : Mem} (h : ExtB p m m') (t : TypeId) : ExtB p m (m'.newTok t) :=
  ⟨h.get, h.next, fun t ht => by have := h.ntok; simp only [Mem.newTok]; rw [if_neg (by omega)]; exact h.live t ht, by have := h.ntok; simp only [Mem.newTok]; omega, fun t ht => by have := h.ntok; simp only [Mem.newTok]; rw [if_neg (by omega)]; exact h.tty t ht⟩
theorem ExtB.killTok {p : Nat} {m m' : Mem} (h : ExtB p m m') {t : Nat} (ht : m.ntok ≤ t) : ExtB p m (m'.killTok t) :=
  ⟨h.get, h.next, fun u hu => by simp only [Mem.killTok]; rw [if_neg (by omega)]; exact h.live u hu, h.ntok, h.tty⟩
def Mine (m0 m : Mem) (e : TypeId) (sz : Nat) (a : AV) (xs : List AV) : Prop := (a = .nilSl ∧ xs = []) ∨ ∃ t, a = .sl (.tok t) sz xs ∧ m.live t = true ∧ m.tty t = e ∧ m0.ntok ≤ t ∧ t < m.ntok
theorem Mine.sl {m0 m : Mem} {e : TypeId} {sz : Nat} {a : AV} {xs : List AV} (h : Mine m0 m e sz a xs) : SlOf sz a xs := by
  rcases h with ⟨rfl, rfl⟩ | ⟨t, rfl, _⟩
  · exact .inl ⟨rfl, rfl⟩
  · exact .inr ⟨_, rfl⟩
theorem Mine.nil {m0 m : Mem} {e : TypeId} {sz : Nat} : Mine m0 m e sz .nilSl [] := .inl ⟨rfl, rfl⟩
theorem Mine.ext {p : Nat} {m0 m m' : Mem} {e : TypeId} {sz : Nat} {a : AV} {xs : List AV} (h : Mine m0 m e sz a xs) (k : ExtB p m m') : Mine m0 m' e sz a xs := by
  rcases h with h | ⟨t, h1, h2, h3, h4, h5⟩
  · exact .inl h
  · exact .inr ⟨t, h1, (k.live t h5).trans h2, (k.tty t h5).trans h3, h4, Nat.lt_of_lt_of_le h5 k.ntok⟩
theorem Mine.append {m0 m : Mem} {e : TypeId} {sz bytes : Nat} {a : AV} {xs ys : List AV} (h : Mine m0 m e sz a xs) (hm : m0.ntok ≤ m.ntok) (hb : (xs.length + ys.length) * bytes ≤ roomMax) (hall : ys.all (fun y => y.cells.length == sz && y.cells.all scal) = true) :
    ∃ a' m', appendV m e sz bytes a ys = some (a', m') ∧ Mine m0 m' e sz a' (xs ++ ys) ∧ m'.get = m.get ∧ m'.next = m.next ∧ (∀ p, ExtB p m0 m → ExtB p m0 m') ∧ m.ntok ≤ m'.ntok := by
  by_cases hy : ys = []
  · subst hy
    rcases h with ⟨rfl, rfl⟩ | ⟨t, rfl, h2, h3, h4, h5⟩
    · exact ⟨.nilSl, m, rfl, .inl ⟨rfl, rfl⟩, rfl, rfl, fun _ h => h, Nat.le_refl _⟩
    · exact ⟨.sl (.tok t) sz xs, m, by simp [appendV], by rw [List.append_nil]; exact .inr ⟨t, rfl, h2, h3, h4, h5⟩, rfl, rfl, fun _ h => h, Nat.le_refl _⟩
  · rcases h with ⟨rfl, rfl⟩ | ⟨t, rfl, h2, h3, h4, h5⟩
    · refine ⟨.sl (.tok m.ntok) sz ys, m.newTok e, ?_, .inr ⟨m.ntok, rfl, by simp [Mem.newTok], by simp [Mem.newTok], hm, by simp [Mem.newTok]⟩, rfl, rfl, fun p hp => hp.newTok e, by simp [Mem.newTok]⟩
      simp only [appendV]
      rw [if_neg hy, if_pos ⟨by simpa using hb, hall⟩]
    · refine ⟨.sl (.tok m.ntok) sz (xs ++ ys), (m.killTok t).newTok e, ?_, .inr ⟨m.ntok, rfl, by simp [Mem.newTok, Mem.killTok], by simp [Mem.newTok, Mem.killTok], hm, by simp [Mem.newTok, Mem.killTok]⟩, rfl, rfl, fun p hp => (hp.killTok h4).newTok e, by simp [Mem.newTok, Mem.killTok]⟩
      simp only [appendV]
      rw [if_pos trivial, if_neg hy, if_pos ⟨hb, hall⟩]
      simp only [h2, h3]
      rfl
def retsV (x : Option (Rs × Mem)) (v : AV) : Bool :=
  match x with
  | some (.ret r, _) => sameV r v
  | _ => false
theorem retsV_iff {x : Option (Rs × Mem)} {v : AV} (h : retsV x v = true) : ∃ m', x = some (.ret v, m') := by
  unfold retsV at h
  split at h
  · rw [sameV_eq h]; exact ⟨_, rfl⟩
  · cases h
theorem byte_fn {P : Program} {xf : FuncId → Nat} {G : Nat → Option (List AV)} {F : FuncId → Option FEntry} (hX : XfOk P xf) (hm : P.follows .mixedOrders = true) (hF : FTOk P xf G F) (hG : GFlat G) {f : FuncId} {g : Nat → AV}
    (h : ((List.range 256).all fun n => retsV (run F 2000 (.call f [.int .u8 n]) m0) (g n) && flatV (g n)) = true) (c : UInt8) (m : Mem) : CallSound P G f [.int .u8 c.toNat] m (.ret (g c.toNat)) m := by
  have h1 := List.all_eq_true.1 h c.toNat (List.mem_range.2 c.toNat_lt)
  simp only [Bool.and_eq_true] at h1
  obtain ⟨m', hr⟩ := retsV_iff h1.1
  have h2 : CallSound P G f [.int .u8 c.toNat] m0 (.ret (g c.toNat)) m' := run_sound hX hm hF hr
  refine call_alone hG h2 (fun a ha => ?_) h1.2 m
  simp only [List.mem_cons, List.not_mem_nil, or_false] at ha
  subst ha; exact .int
theorem len_str' {m : Mem} {s : List UInt8} : lenV m (.str s) = some (.int .i64 s.length) := rfl
theorem lk_str' {s : List UInt8} : isLK .str (.str s) = true := rfl
attribute [go_sem] one_int one_str one_bool one_nilSl one_nilPtr one_nilMap one_nilFn one_nilIface one_sl one_osl one_gsl one_ptr one_sptr one_map one_fn one_iface allOne_nil allOne_cons all_scal fitsB_00 fitsB_0S fitsB_S setL_S setL_0 setL_nil lenB_0 lenB_S storeG_true store_ptr storeO_cells set_set buildF_true buildV_nil buildV_cons buildSlF_true ltB_0 ltB_S buildSlV_nil buildSlV_cons get_set_same len_str' lk_str' Bool.and_true Bool.true_and
end Go.Proofs.YtkjokjogdehonaaGreatDoor.Am
