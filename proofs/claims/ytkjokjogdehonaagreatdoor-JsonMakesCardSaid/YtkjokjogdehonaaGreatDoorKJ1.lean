/- Part KJ1 of a claim's texts, joined: what the claim needs of them. -/
import Derived.Test.YtkjokjogdehonaaGreatDoorKQT
import Derived.Test.YtkjokjogdehonaaGreatDoorKA4
import Derived.IntWalk
set_option linter.unusedSimpArgs false
set_option linter.unusedVariables false
namespace Go.Proofs.YtkjokjogdehonaaGreatDoor.Am.Q
open Go Go.Proofs Go.Proofs.YtkjokjogdehonaaGreatDoor.Am
theorem xfok : XfOk Tryz.prog xfT := by
  intro f
  refine ⟨fun h => ?_, fun h => ?_⟩
  · have : f = 277 := by
      simp only [xfT] at h
      split at h
      · simp at h
      · split at h
        · assumption
        · simp at h
    subst this
    exact ⟨Tryz.f277, by kernel_rfl, by kernel_rfl, by kernel_rfl, by kernel_rfl, by kernel_rfl⟩
  · have : f = 276 := by
      simp only [xfT] at h
      split at h
      · assumption
      · split at h <;> simp at h
    subst this
    exact ⟨Tryz.f276, by kernel_rfl, by kernel_rfl, by kernel_rfl, by kernel_rfl, by kernel_rfl⟩
theorem mixed : Tryz.prog.follows .mixedOrders = true := by kernel_rfl
abbrev CS := CallSound Tryz.prog gT
theorem texts_loop (m : Mem) {a b : AV} {l r : List (List UInt8)} (ha : SlOf 1 a (l.map .str)) (hb : SlOf 1 b (r.map .str)) (hl : l.length = r.length) (hlen : l.length < 2 ^ 62) {Q : AExit → List AV → Mem → Prop}
    (hx : l = r → ∀ g3 g4 g5 g6, Q (.exit 0) [a, b, .u, g3, g4, g5, g6] m) (hr : l ≠ r → ∀ g3 g4 g5 g6, Q .ret [a, b, .bool false, g3, g4, g5, g6] m) :
    ∀ (n i : Nat) (g : AV), i + n = l.length → l.take i = r.take i → wl CS [2, 4, 5, 6] q65l8 Q [a, b, .u, .int .i64 i, g, .u, .u] m := by
  intro n
  induction n with
  | zero =>
    intro i g hi ht
    refine wl_step ?_
    have h1 : decide ((i : Int) < ((List.map AV.str l).length : Nat)) = false := by simp; omega
    simp only [go_sem, reduceIte, Nat.reduceEqDiff, Nat.reduceAdd, q65l8, q65r4, ha.isLK, ha.len, h1]
    have : l = r := by
      rw [List.take_of_length_le (by omega), List.take_of_length_le (by omega)] at ht
      exact ht
    exact hx this _ _ _ _
  | succ n ih =>
    intro i g hi ht
    refine wl_step ?_
    have h1 : decide ((i : Int) < ((List.map AV.str l).length : Nat)) = true := by simp; omega
    have hi1 : i < l.length := by omega
    have hi2 : i < r.length := by omega
    have ea := ha.idx (k := .i64) (i := (i : Int)) (y := .str l[i]) (by omega) (by simp [hi1])
    have eb := hb.idx (k := .i64) (i := (i : Int)) (y := .str r[i]) (by omega) (by simp [hi2])
    have hw : IntKind.i64.wrap ((i : Int) + 1) = ((i + 1 : Nat) : Int) := by rw [Go.IntWalk.i64_in _ (by omega)]; omega
    simp only [go_sem, reduceIte, Nat.reduceEqDiff, Nat.reduceAdd, q65l8, q65r4, q65r5, q65r6, q65r7, ha.isLK, ha.len, h1, ea, eb, Mem.load, part, AV.cells, List.getElem?_cons_zero, hw]
    refine boolW_intro (fun hne => ?_) (fun hne => ?_)
    · simp only [go_sem, reduceIte, Nat.reduceEqDiff, Nat.reduceAdd, q65r6]
      refine hr (fun e => ?_) _ _ _ _
      subst e
      simp at hne
    · simp only [go_sem, reduceIte, Nat.reduceEqDiff, Nat.reduceAdd, q65r7, hw]
      refine ih (i + 1) _ (by omega) ?_
      have he : l[i] = r[i] := by simpa using hne
      rw [List.take_succ_eq_append_getElem hi1, List.take_succ_eq_append_getElem hi2, ht, he]
theorem texts_ok (m : Mem) {a b : AV} {l r : List (List UInt8)} (ha : SlOf 1 a (l.map .str)) (hb : SlOf 1 b (r.map .str)) (hlen : l.length < 2 ^ 62) : CS 65 [a, b] m (.ret (.bool (decide (l = r)))) m := by
  refine call_by xfok mixed q65at q65ok rfl ?_
  simp only [go_sem, reduceIte, Nat.reduceEqDiff, Nat.reduceAdd, q65, q65r0, q65r1, q65r2, q65r3, ha.isLK, hb.isLK, ha.len, hb.len]
  refine boolW_intro (fun h => ?_) (fun h => ?_)
  · simp only [go_sem, reduceIte, Nat.reduceEqDiff, Nat.reduceAdd, q65r2]
    have : l ≠ r := fun e => by subst e; simp at h
    simp [this]
  · simp only [go_sem, reduceIte, Nat.reduceEqDiff, Nat.reduceAdd, q65r3]
    have hl : l.length = r.length := by simp at h; omega
    refine texts_loop m ha hb hl hlen (fun e g3 g4 g5 g6 => ?_) (fun e g3 g4 g5 g6 => ?_) l.length 0 _ (by omega) (by simp)
    · simp only [go_sem, reduceIte, Nat.reduceEqDiff, Nat.reduceAdd, q65r9, e]
      simp
    · simp only [go_sem, reduceIte, Nat.reduceEqDiff, Nat.reduceAdd]
      simp [e]
end Go.Proofs.YtkjokjogdehonaaGreatDoor.Am.Q
namespace Go.Proofs.YtkjokjogdehonaaGreatDoor.Am.Q
open Go Go.Proofs Go.Proofs.YtkjokjogdehonaaGreatDoor.Am
inductive VT where
  | node (k : Int) (t : List UInt8) (keys : List (List UInt8)) (kids : List VT)
def VT.zero : VT := .node 0 [] [] []
def VT.keys : VT → List (List UInt8) | .node _ _ ks _ => ks
def VT.kids : VT → List VT | .node _ _ _ l => l
inductive IsVal : AV → VT → Prop where
  | mk {k : Int} {t : List UInt8} {ka kb : AV} {keys : List (List UInt8)} {kids : List VT} {xs : List AV} : SlOf 1 ka (keys.map .str) → SlOf 4 kb xs → xs.length = kids.length →
      (∀ i, i < kids.length → IsVal (xs.getD i .u) (kids.getD i VT.zero)) → IsVal (.agg [.int .i64 k, .str t, ka, kb]) (.node k t keys kids)
theorem zero_val : IsVal (.agg [.int .i64 0, .str [], .nilSl, .nilSl]) VT.zero := .mk (.inl ⟨rfl, rfl⟩) (.inl ⟨rfl, rfl⟩) rfl (fun i hi => absurd hi (Nat.not_lt_zero _))
theorem scal_int {k : IntKind} {n : Int} : scal (.int k n) = true := rfl
theorem scal_str {t : List UInt8} : scal (.str t) = true := rfl
theorem IsVal.shape {x : AV} {T : VT} (h : IsVal x T) : ∃ k t ka kb, x = .agg [.int .i64 k, .str t, ka, kb] ∧ List.all [AV.int .i64 k, .str t, ka, kb] scal = true := by
  cases h with
  | mk a1 a2 => exact ⟨_, _, _, _, rfl, by simp [scal_int, scal_str, a1.scal, a2.scal]⟩
theorem IsVal.store {a b c d : AV} {T : VT} (h : IsVal (.agg [a, b, c, d]) T) : storeAll [a, b, c, d] = true := by
  obtain ⟨k, t, ka, kb, e, hs⟩ := h.shape
  simp only [AV.agg.injEq, List.cons.injEq, and_true] at e
  obtain ⟨rfl, rfl, rfl, rfl⟩ := e
  exact hs
structure Ext (m m' : Mem) : Prop where
  get : ∀ i, i < m.next → m'.get i = m.get i
  next : m.next ≤ m'.next
  live : ∀ t, t < m.ntok → m'.live t = m.live t
  ntok : m.ntok ≤ m'.ntok
  tty : ∀ t, t < m.ntok → m'.tty t = m.tty t
theorem Ext.refl (m : Mem) : Ext m m := ⟨fun _ _ => rfl, Nat.le_refl _, fun _ _ => rfl, Nat.le_refl _, fun _ _ => rfl⟩
theorem Ext.trans {a b c : Mem} (h : Ext a b) (k : Ext b c) : Ext a c :=
  ⟨fun i hi => (k.get i (Nat.lt_of_lt_of_le hi h.next)).trans (h.get i hi), Nat.le_trans h.next k.next, fun t ht => (k.live t (Nat.lt_of_lt_of_le ht h.ntok)).trans (h.live t ht), Nat.le_trans h.ntok k.ntok, fun t ht => (k.tty t (Nat.lt_of_lt_of_le ht h.ntok)).trans (h.tty t ht)⟩
theorem Ext.alloc (m : Mem) (o : AObj) : Ext m (m.alloc o) :=
  ⟨fun i hi => by simp only [Mem.alloc]; rw [if_neg (by omega)], by simp [Mem.alloc], fun _ _ => rfl, Nat.le_refl _, fun _ _ => rfl⟩
theorem Ext.set {m m' : Mem} (h : Ext m m') {i : Nat} (hi : m.next ≤ i) (o : AObj) : Ext m (m'.set i o) :=
  ⟨fun j hj => by simp only [Mem.set]; rw [if_neg (by omega)]; exact h.get j hj, h.next, h.live, h.ntok, h.tty⟩
def find (k : List UInt8) : List (List UInt8) → Option Nat
  | [] => none
  | x :: l => if x = k then some 0 else (find k l).map (· + 1)
def findI (k : List UInt8) (l : List (List UInt8)) : Int := match find k l with | some i => i | none => -1
theorem index_loop (m : Mem) {a : AV} {l : List (List UInt8)} {k : List UInt8} (ha : SlOf 1 a (l.map .str)) (hlen : l.length < 2 ^ 62) {Q : AExit → List AV → Mem → Prop}
    (hx : find k l = none → ∀ g2 g3 g4 g5 g6 g7, Q (.exit 0) [a, .str k, g2, g3, g4, g5, g6, g7] m) (hr : ∀ i, find k l = some i → ∀ g3 g4 g5 g6 g7, Q .ret [a, .str k, .int .i64 i, g3, g4, g5, g6, g7] m) :
    ∀ (n i : Nat) (g2 g3 g6 g7 : AV), i + n = l.length → find k l = (find k (l.drop i)).map (· + i) → wl CS [2, 3, 6, 7] q147l7 Q [a, .str k, g2, g3, .int .i64 l.length, .int .i64 i, g6, g7] m := by
  intro n
  induction n with
  | zero =>
    intro i g2 g3 g6 g7 hi ht
    refine wl_step ?_
    have h1 : decide ((i : Int) < (l.length : Nat)) = false := by simp; omega
    simp only [go_sem, reduceIte, Nat.reduceEqDiff, Nat.reduceAdd, q147l7, q147r2, h1]
    refine hx ?_ _ _ _ _ _ _
    rw [ht, List.drop_of_length_le (by omega)]; rfl
  | succ n ih =>
    intro i g2 g3 g6 g7 hi ht
    refine wl_step ?_
    have h1 : decide ((i : Int) < (l.length : Nat)) = true := by simp; omega
    have hi1 : i < l.length := by omega
    have ea := ha.idx (k := .i64) (i := (i : Int)) (y := .str l[i]) (by omega) (by simp [hi1])
    have hw : IntKind.i64.wrap ((i : Int) + 1) = ((i + 1 : Nat) : Int) := by rw [Go.IntWalk.i64_in _ (by omega)]; omega
    have hd : l.drop i = l[i] :: l.drop (i + 1) := (List.drop_eq_getElem_cons hi1)
    simp only [go_sem, reduceIte, Nat.reduceEqDiff, Nat.reduceAdd, q147l7, q147r2, q147r3, q147r4, h1, ea, List.getElem?_cons_zero]
    refine boolW_intro (fun he => ?_) (fun hne => ?_)
    · simp only [go_sem, reduceIte, Nat.reduceEqDiff, Nat.reduceAdd, q147r5]
      refine hr i ?_ _ _ _ _ _
      rw [ht, hd]
      have : k = l[i] := by simpa using he
      simp [find, this]
    · simp only [go_sem, reduceIte, Nat.reduceEqDiff, Nat.reduceAdd, q147r6, hw]
      refine ih (i + 1) _ _ _ _ (by omega) ?_
      rw [ht, hd]
      have : ¬ l[i] = k := by intro e; rw [e] at hne; simp at hne
      simp only [find, this, if_false, Option.map_map]
      congr 1
      funext x
      simp; omega
theorem index_ok (m : Mem) {a : AV} {l : List (List UInt8)} {k : List UInt8} (ha : SlOf 1 a (l.map .str)) (hlen : l.length < 2 ^ 62) : CS 147 [a, .str k] m (.ret (.int .i64 (findI k l))) m := by
  refine call_by xfok mixed q147at q147ok rfl ?_
  simp only [go_sem, reduceIte, Nat.reduceEqDiff, Nat.reduceAdd, q147, q147r0, q147r1, ha.isLK, ha.len, List.length_map]
  refine index_loop m ha hlen (fun e _ _ _ _ _ _ => ?_) (fun i e _ _ _ _ _ => ?_) l.length 0 _ _ _ _ (by omega) (by simp)
  · simp only [go_sem, reduceIte, Nat.reduceEqDiff, Nat.reduceAdd, q147r8]
    simp [findI, e]
  · simp only [go_sem, reduceIte, Nat.reduceEqDiff, Nat.reduceAdd]
    simp [findI, e]
end Go.Proofs.YtkjokjogdehonaaGreatDoor.Am.Q
namespace Go.Proofs.YtkjokjogdehonaaGreatDoor.Am.Q
open Go Go.Proofs Go.Proofs.YtkjokjogdehonaaGreatDoor.Am
inductive Small : VT → Prop where
  | mk {k : Int} {t : List UInt8} {keys : List (List UInt8)} {kids : List VT} : keys.length < 2 ^ 47 → kids.length < 2 ^ 47 → (∀ i, i < kids.length → Small (kids.getD i VT.zero)) → Small (.node k t keys kids)
end Go.Proofs.YtkjokjogdehonaaGreatDoor.Am.Q
namespace Go.Proofs.YtkjokjogdehonaaGreatDoor.Am.Q
open Go Go.Proofs Go.Proofs.YtkjokjogdehonaaGreatDoor.Am
end Go.Proofs.YtkjokjogdehonaaGreatDoor.Am.Q
namespace Go.Proofs.YtkjokjogdehonaaGreatDoor.Am.Q
open Go Go.Proofs Go.Proofs.YtkjokjogdehonaaGreatDoor.Am
theorem call_weak {P : Program} {G : Nat → Option (List AV)} (hG : GFlat G) {f : FuncId} {xs bs : List AV} {v : AV} {m1 : Mem} (h : CallSound P G f bs m0 (.ret v) m1) (hb : ∀ b ∈ bs, Closed b) (hw : ∀ C vs, listRep C xs vs → listRep C bs vs) (hv : flatV v = true) (m : Mem) : CallSound P G f xs m (.ret v) m := by
  intro w0 C w argsV hI hargs
  exact call_alone hG h hb hv m w0 C w argsV hI (hw _ _ hargs)
theorem slice_weak {sz : Nat} {x : AV} {xs ys : List AV} (h : SlOf sz x xs) (hl : ys.length = xs.length) (hc : ∀ i, i < xs.length → (ys.getD i .u).cells.length = (xs.getD i .u).cells.length)
    (hcl : ∀ i, i < ys.length → ∀ j, Closed ((ys.getD i .u).cells.getD j .u))
    (hr : ∀ C i j v, i < xs.length → Rep C ((xs.getD i .u).cells.getD j .u) v → Rep C ((ys.getD i .u).cells.getD j .u) v) :
    ∃ y, SlOf sz y ys ∧ Closed y ∧ ∀ C v, Rep C x v → Rep C y v := by
  rcases h with ⟨rfl, rfl⟩ | ⟨o, rfl⟩
  · refine ⟨.nilSl, .inl ⟨rfl, ?_⟩, .nilSl, fun _ _ h => h⟩
    cases ys with
    | nil => rfl
    | cons _ _ => simp at hl
  · refine ⟨.sl .no sz ys, .inr ⟨_, rfl⟩, .sl (fun t h => by cases h) hcl, fun C v h => ?_⟩
    cases h with
    | sl0 _ _ a h1 h2 =>
      obtain rfl : ys = [] := by cases ys with
        | nil => rfl
        | cons _ _ => simp at hl
      exact .sl0 .no sz a (fun t h => by cases h) h2
    | sl _ _ _ b off n cap val h1 h2 h3 h4 h5 h6 h7 h8 =>
      exact .sl .no sz ys b off n cap val (by omega) h2 h3 (fun h => by cases h) (fun t h => by cases h) (fun i hi => by rw [hc i (by omega)]; exact h6 i hi) h7
        (fun i j hi hj => hr C i j _ (by omega) (h8 i j hi hj))
theorem strs_weak {x : AV} {l : List (List UInt8)} (h : SlOf 1 x (l.map .str)) : ∃ y, SlOf 1 y (l.map .str) ∧ Closed y ∧ ∀ C v, Rep C x v → Rep C y v := by
  refine slice_weak h rfl (fun _ _ => rfl) (fun i hi j => ?_) (fun _ _ _ _ _ h => h)
  have hi' : i < l.length := by simpa using hi
  have e : (l.map AV.str).getD i .u = .str l[i] := by simp [List.getD, hi']
  rw [e]
  cases j with
  | zero => exact .str
  | succ j => exact .u
theorem IsVal.weak {a : AV} {T : VT} (h : IsVal a T) : ∃ b, IsVal b T ∧ Closed b ∧ (∀ j, Closed (b.cells.getD j .u)) ∧ (∀ C v, Rep C a v → Rep C b v) ∧ ∀ C j v, Rep C (a.cells.getD j .u) v → Rep C (b.cells.getD j .u) v := by
  induction h with
  | @mk k t ka kb keys kids xs ha hb hxl hx ih =>
    obtain ⟨ka', h1, h2, h3⟩ := strs_weak ha
    have hch : ∃ Y : Nat → AV, ∀ i, i < kids.length → IsVal (Y i) (kids.getD i VT.zero) ∧ (∀ j, Closed ((Y i).cells.getD j .u)) ∧ ∀ C j v, Rep C ((xs.getD i .u).cells.getD j .u) v → Rep C ((Y i).cells.getD j .u) v := by
      refine ⟨fun i => if hi : i < kids.length then Classical.choose (ih i hi) else .u, fun i hi => ?_⟩
      simp only [hi, dif_pos]
      have := Classical.choose_spec (ih i hi)
      exact ⟨this.1, this.2.2.1, this.2.2.2.2⟩
    obtain ⟨Y, hY⟩ := hch
    have eY : ∀ i, i < kids.length → ((List.range kids.length).map Y).getD i .u = Y i := fun i hi => by simp [List.getD, hi]
    obtain ⟨kb', g1, g2, g3⟩ := slice_weak (ys := (List.range kids.length).map Y) hb (by simp [hxl]) (fun i hi => by
        rw [eY i (by omega)]
        obtain ⟨_, _, _, _, e1, _⟩ := (hY i (by omega)).1.shape
        obtain ⟨_, _, _, _, e2, _⟩ := (hx i (by omega)).shape
        rw [e1, e2]; rfl) (fun i hi j => by
        have hi' : i < kids.length := by simpa using hi
        rw [eY i hi']; exact (hY i hi').2.1 j) (fun C i j v hi hr => by
        rw [eY i (by omega)]; exact (hY i (by omega)).2.2 C j v hr)
    refine ⟨.agg [.int .i64 k, .str t, ka', kb'], .mk h1 g1 (by simp) (fun i hi => by rw [eY i hi]; exact (hY i hi).1), ?_, ?_, ?_, ?_⟩
    · refine .agg fun i hi => ?_
      match i, hi with
      | 0, _ => exact .int
      | 1, _ => exact .str
      | 2, _ => exact h2
      | 3, _ => exact g2
    · intro j
      match j with
      | 0 => exact .int
      | 1 => exact .str
      | 2 => exact h2
      | 3 => exact g2
      | j + 4 => exact .u
    · intro C v hr
      cases hr with
      | agg _ vs e1 e2 =>
        refine .agg _ vs e1 fun i hi => ?_
        have := e2 i hi
        match i, hi with
        | 0, _ => exact this
        | 1, _ => exact this
        | 2, _ => exact h3 C _ this
        | 3, _ => exact g3 C _ this
    · intro C j v hr
      match j with
      | 0 => exact hr
      | 1 => exact hr
      | 2 => exact h3 C _ hr
      | 3 => exact g3 C _ hr
      | j + 4 => exact .u _
theorem gflat : GFlat gT := by
  intro g cs h
  simp only [gT] at h
  split at h
  · injection h with h; subst h; kernel_rfl
  · split at h
    · injection h with h; subst h; kernel_rfl
    · cases h
end Go.Proofs.YtkjokjogdehonaaGreatDoor.Am.Q
namespace Go.Proofs.YtkjokjogdehonaaGreatDoor.Am.Q
open Go Go.Proofs Go.Proofs.YtkjokjogdehonaaGreatDoor.Am
theorem VT.ext_kids {k k' : Int} {t t' : List UInt8} {ks ks' : List (List UInt8)} {l l' : List VT} : (VT.node k t ks l = VT.node k' t' ks' l') ↔ k = k' ∧ t = t' ∧ ks = ks' ∧ l = l' := by
  constructor
  · intro h; injection h with h1 h2 h3 h4; exact ⟨h1, h2, h3, h4⟩
  · rintro ⟨rfl, rfl, rfl, rfl⟩; rfl
theorem getD_ext {l l' : List VT} (h : l.length = l'.length) (hk : ∀ i, i < l.length → l.getD i VT.zero = l'.getD i VT.zero) : l = l' := by
  apply List.ext_getElem h
  intro i h1 h2
  have := hk i h1
  simpa [List.getD, h1, h2] using this
def Same12 (T U : VT) : Prop := ∀ (m : Mem) (a b : AV) (r : Bool), IsVal a T → IsVal b U → (r = true ↔ T = U) → CS 16 [a, b] m (.ret (.bool r)) m
theorem same12_loop (m : Mem) {p q : Nat} {k k' : Int} {t t' : List UInt8} {ka kb ka' kb' : AV} {xs ys : List AV} {kids kids' : List VT} (hb : SlOf 4 kb xs) (hb' : SlOf 4 kb' ys) (hxl : xs.length = kids.length) (hyl : ys.length = kids'.length)
    (hx2 : ∀ i, i < kids.length → IsVal (xs.getD i .u) (kids.getD i VT.zero)) (hy2 : ∀ i, i < kids'.length → IsVal (ys.getD i .u) (kids'.getD i VT.zero)) (hl : kids.length = kids'.length) (hlen : kids.length < 2 ^ 47)
    (hgp : m.get p = .cells 27 [.int .i64 k, .str t, ka, kb]) (hgq : m.get q = .cells 27 [.int .i64 k', .str t', ka', kb']) (ih : ∀ i, i < kids.length → ∀ U, Same12 (kids.getD i VT.zero) U) {Q : AExit → List AV → Mem → Prop}
    (hx : kids = kids' → ∀ g0 g1 g4 g5 g6 g7 g8, Q (.exit 0) [g0, g1, .ptr p 0, .ptr q 0, g4, g5, g6, g7, g8] m) (hr : kids ≠ kids' → ∀ g0 g1 g5 g6 g7 g8, Q .ret [g0, g1, .ptr p 0, .ptr q 0, .bool false, g5, g6, g7, g8] m) :
    ∀ (n i : Nat) (g0 g1 g4 g6 g7 g8 : AV), i + n = kids.length → (∀ j, j < i → kids.getD j VT.zero = kids'.getD j VT.zero) → wl CS [0, 1, 4, 6, 7, 8] q16l8 Q [g0, g1, .ptr p 0, .ptr q 0, g4, .int .i64 i, g6, g7, g8] m := by
  intro n
  induction n with
  | zero =>
    intro i g0 g1 g4 g6 g7 g8 hi hs
    refine wl_step ?_
    have h1 : decide ((i : Int) < (kids.length : Nat)) = false := by simp; omega
    simp only [go_sem, reduceIte, Nat.reduceEqDiff, Nat.reduceAdd, q16l8, q16r4, hgp, hb.isLK, hb.len, hxl, h1]
    exact hx (getD_ext hl fun j hj => hs j (by omega)) _ _ _ _ _ _ _
  | succ n ihn =>
    intro i g0 g1 g4 g6 g7 g8 hi hs
    refine wl_step ?_
    have h1 : decide ((i : Int) < (kids.length : Nat)) = true := by simp; omega
    have hi1 : i < kids.length := by omega
    have hw : IntKind.i64.wrap ((i : Int) + 1) = ((i + 1 : Nat) : Int) := by rw [Go.IntWalk.i64_in _ (by omega)]; omega
    have hxi := hx2 i hi1
    have hyi := hy2 i (by omega)
    have ea := hb.idx (k := .i64) (i := (i : Int)) (y := xs.getD i .u) (by omega) (by simp [List.getD, show i < xs.length by omega])
    have eb := hb'.idx (k := .i64) (i := (i : Int)) (y := ys.getD i .u) (by omega) (by simp [List.getD, show i < ys.length by omega])
    obtain ⟨k1, t1, a1, b1, e1, _⟩ := hxi.shape
    obtain ⟨k2, t2, a2, b2, e2, _⟩ := hyi.shape
    rw [e1] at ea hxi
    rw [e2] at eb hyi
    simp only [go_sem, reduceIte, Nat.reduceEqDiff, Nat.reduceAdd, q16l8, q16r4, q16r5, hgp, hgq, hb.isLK, hb.len, hxl, h1, ea, eb]
    by_cases he : kids.getD i VT.zero = kids'.getD i VT.zero
    · refine callW_ret (ih i hi1 _ m _ _ true hxi hyi ⟨fun _ => he, fun _ => rfl⟩) ?_
      simp only [go_sem, reduceIte, Nat.reduceEqDiff, Nat.reduceAdd, q16r7, hw]
      refine ihn (i + 1) _ _ _ _ _ _ (by omega) fun j hj => ?_
      by_cases hji : j = i
      · subst hji; exact he
      · exact hs j (by omega)
    · refine callW_ret (ih i hi1 _ m _ _ false hxi hyi ⟨(fun h => by cases h), fun h => absurd h he⟩) ?_
      simp only [go_sem, reduceIte, Nat.reduceEqDiff, Nat.reduceAdd, q16r6]
      exact hr (fun e => he (by rw [e])) _ _ _ _ _ _
theorem same12 {T : VT} (hs : Small T) : ∀ U, Same12 T U := by
  induction hs with
  | @mk k t keys kids s1 s2 _ ih =>
    intro U m a b r ha hb hr
    obtain ⟨a', wa1, wa2, _, wa3, _⟩ := ha.weak
    obtain ⟨b', wb1, wb2, _, wb3, _⟩ := hb.weak
    have key : ∃ r' m', CS 16 [a', b'] m0 (.ret r') m' ∧ r' = .bool r := by
      refine call_some (R := fun r' _ => r' = .bool r) xfok mixed q16at q16ok rfl ?_
      clear wa2 wa3 wb2 wb3
      have wa := wa1
      have wb := wb1
      cases wa1 with
      | @mk _ _ ka kb _ _ xs h1 h2 h3 h4 =>
      cases wb1 with
      | @mk k' t' ka' kb' keys' kids' ys g1 g2 g3 g4 =>
      have sa : List.all [AV.int .i64 k, .str t, ka, kb] scal = true := wa.store
      have sb : List.all [AV.int .i64 k', .str t', ka', kb'] scal = true := wb.store
      have hg0 : ((m0.alloc (.cells 27 [.int .i64 k, .str t, ka, kb])).alloc (.cells 27 [.int .i64 k', .str t', ka', kb'])).get m0.next = .cells 27 [.int .i64 k, .str t, ka, kb] := by
        rw [get_old (by simp [Mem.alloc])]; exact get_new
      have hg1 : ((m0.alloc (.cells 27 [.int .i64 k, .str t, ka, kb])).alloc (.cells 27 [.int .i64 k', .str t', ka', kb'])).get (m0.next + 1) = .cells 27 [.int .i64 k', .str t', ka', kb'] := get_new
      rw [VT.ext_kids] at hr
      simp only [go_sem, reduceIte, Nat.reduceEqDiff, Nat.reduceAdd, q16, q16r0, sa, sb, next_alloc]
      generalize ((m0.alloc (.cells 27 [.int .i64 k, .str t, ka, kb])).alloc (.cells 27 [.int .i64 k', .str t', ka', kb'])) = m1 at hg0 hg1
      by_cases hk : k = k'
      · have ek : (k != k') = false := by simp [hk]
        by_cases ht : t = t'
        · have et : (!(t == t')) = false := by simp [ht]
          simp only [go_sem, reduceIte, Nat.reduceEqDiff, Nat.reduceAdd, q16r1, hg0, hg1, ek, et]
          refine callW_ret (texts_ok m1 h1 g1 (by omega)) ?_
          by_cases hks : keys = keys'
          · by_cases hl : kids.length = kids'.length
            · have el : (((kids.length : Nat) : Int) != (kids'.length : Nat)) = false := by simp [hl]
              simp only [go_sem, reduceIte, Nat.reduceEqDiff, Nat.reduceAdd, hks, decide_true, hg0, hg1, h2.isLK, g2.isLK, h2.len, g2.len, h3, g3, el, q16r3]
              refine same12_loop m1 h2 g2 h3 g3 h4 g4 hl s2 hg0 hg1 ih (fun e g0 g1 g4 g5 g6 g7 g8 => ?_) (fun e g0 g1 g5 g6 g7 g8 => ?_) kids.length 0 _ _ _ _ _ _ (by omega) (fun j hj => absurd hj (by omega))
              · simp only [go_sem, reduceIte, Nat.reduceEqDiff, Nat.reduceAdd, q16r9]
                rw [hr.2 ⟨hk, ht, hks, e⟩]
              · simp only [go_sem, reduceIte, Nat.reduceEqDiff, Nat.reduceAdd]
                cases r
                · rfl
                · exact absurd (hr.1 rfl).2.2.2 e
            · have el : (((kids.length : Nat) : Int) != (kids'.length : Nat)) = true := by simp; omega
              simp only [go_sem, reduceIte, Nat.reduceEqDiff, Nat.reduceAdd, hks, decide_true, hg0, hg1, h2.isLK, g2.isLK, h2.len, g2.len, h3, g3, el, q16r2]
              cases r
              · rfl
              · exact absurd (congrArg List.length (hr.1 rfl).2.2.2) hl
          · have ed : decide (keys = keys') = false := by simp [hks]
            simp only [go_sem, reduceIte, Nat.reduceEqDiff, Nat.reduceAdd, ed, q16r2]
            cases r
            · rfl
            · exact absurd (hr.1 rfl).2.2.1 hks
        · have et : (!(t == t')) = true := by simp [ht]
          simp only [go_sem, reduceIte, Nat.reduceEqDiff, Nat.reduceAdd, q16r1, hg0, hg1, ek, et, q16r2]
          cases r
          · rfl
          · exact absurd (hr.1 rfl).2.1 ht
      · have ek : (k != k') = true := by simp [hk]
        simp only [go_sem, reduceIte, Nat.reduceEqDiff, Nat.reduceAdd, q16r1, hg0, hg1, ek, q16r2]
        cases r
        · rfl
        · exact absurd (hr.1 rfl).1 hk
    obtain ⟨r', m', h1, rfl⟩ := key
    refine call_weak gflat h1 (fun x hx => ?_) (fun C vs h => ?_) rfl m
    · simp only [List.mem_cons, List.not_mem_nil, or_false] at hx
      rcases hx with rfl | rfl
      · exact wa2
      · exact wb2
    · match vs, h with
      | [v1, v2], h => exact ⟨wa3 C _ h.1, wb3 C _ h.2.1, trivial⟩
end Go.Proofs.YtkjokjogdehonaaGreatDoor.Am.Q
