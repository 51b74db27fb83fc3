/-
  JSON, 2: trees of values; slices.Index, the two Gets.
-/
import Derived.Test.YtinlfdkalijffaaDoorJ1
set_option linter.unusedSimpArgs false
set_option linter.unusedVariables false
namespace Go.Proofs.YtinlfdkalijffaaDoor.Am.Q
open Go Go.Proofs Go.Proofs.YtinlfdkalijffaaDoor.Am

inductive VT where
  | node (k : Int) (t : List UInt8) (keys : List (List UInt8)) (kids : List VT)
def VT.zero : VT := .node 0 [] [] []
def VT.kind : VT → Int | .node k _ _ _ => k
def VT.text : VT → List UInt8 | .node _ t _ _ => t
def VT.keys : VT → List (List UInt8) | .node _ _ ks _ => ks
def VT.kids : VT → List VT | .node _ _ _ l => l
inductive IsVal : AV → VT → Prop where
  | mk {k : Int} {t : List UInt8} {ka kb : AV} {keys : List (List UInt8)} {kids : List VT} {xs : List AV} : SlOf 1 ka (keys.map .str) → SlOf 4 kb xs → xs.length = kids.length →
      (∀ i, i < kids.length → IsVal (xs.getD i .u) (kids.getD i VT.zero)) → IsVal (.agg [.int .i64 k, .str t, ka, kb]) (.node k t keys kids)
theorem zero_val : IsVal (.agg [.int .i64 0, .str [], .nilSl, .nilSl]) VT.zero := .mk (.inl ⟨rfl, rfl⟩) (.inl ⟨rfl, rfl⟩) rfl (fun i hi => absurd hi (Nat.not_lt_zero _))

theorem scal_int {k : IntKind} {n : Int} : scal (.int k n) = true := rfl
theorem scal_str {t : List UInt8} : scal (.str t) = true := rfl
theorem IsVal.shape {x : AV} {T : VT} (h : IsVal x T) : ∃ k t ka kb, x = .agg [.int .i64 k, .str t, ka, kb] ∧ List.all [AV.int .i64 k, .str t, ka, kb] scal = true := by
  cases h with
  | mk a1 a2 => exact ⟨_, _, _, _, rfl, by simp [scal_int, scal_str, a1.scal, a2.scal]⟩
theorem IsVal.store {a b c d : AV} {T : VT} (h : IsVal (.agg [a, b, c, d]) T) : storeAll [a, b, c, d] = true := by
  obtain ⟨k, t, ka, kb, e, hs⟩ := h.shape
  simp only [AV.agg.injEq, List.cons.injEq, and_true] at e
  obtain ⟨rfl, rfl, rfl, rfl⟩ := e
  exact hs

/-- Memory grown: what was there stands. -/
structure Ext (m m' : Mem) : Prop where
  get : ∀ i, i < m.next → m'.get i = m.get i
  next : m.next ≤ m'.next
  live : ∀ t, t < m.ntok → m'.live t = m.live t
  ntok : m.ntok ≤ m'.ntok
  tty : ∀ t, t < m.ntok → m'.tty t = m.tty t
theorem Ext.refl (m : Mem) : Ext m m := ⟨fun _ _ => rfl, Nat.le_refl _, fun _ _ => rfl, Nat.le_refl _, fun _ _ => rfl⟩
theorem Ext.trans {a b c : Mem} (h : Ext a b) (k : Ext b c) : Ext a c :=
  ⟨fun i hi => (k.get i (Nat.lt_of_lt_of_le hi h.next)).trans (h.get i hi), Nat.le_trans h.next k.next, fun t ht => (k.live t (Nat.lt_of_lt_of_le ht h.ntok)).trans (h.live t ht), Nat.le_trans h.ntok k.ntok, fun t ht => (k.tty t (Nat.lt_of_lt_of_le ht h.ntok)).trans (h.tty t ht)⟩
theorem Ext.alloc (m : Mem) (o : AObj) : Ext m (m.alloc o) :=
  ⟨fun i hi => by simp only [Mem.alloc]; rw [if_neg (by omega)], by simp [Mem.alloc], fun _ _ => rfl, Nat.le_refl _, fun _ _ => rfl⟩
theorem Ext.set {m m' : Mem} (h : Ext m m') {i : Nat} (hi : m.next ≤ i) (o : AObj) : Ext m (m'.set i o) :=
  ⟨fun j hj => by simp only [Mem.set]; rw [if_neg (by omega)]; exact h.get j hj, h.next, h.live, h.ntok, h.tty⟩

/-- Where a text stands first. -/
def find (k : List UInt8) : List (List UInt8) → Option Nat
  | [] => none
  | x :: l => if x = k then some 0 else (find k l).map (· + 1)
def findI (k : List UInt8) (l : List (List UInt8)) : Int := match find k l with | some i => i | none => -1

theorem index_loop (m : Mem) {a : AV} {l : List (List UInt8)} {k : List UInt8} (ha : SlOf 1 a (l.map .str)) (hlen : l.length < 2 ^ 62) {Q : AExit → List AV → Mem → Prop}
    (hx : find k l = none → ∀ g2 g3 g4 g5 g6 g7, Q (.exit 0) [a, .str k, g2, g3, g4, g5, g6, g7] m) (hr : ∀ i, find k l = some i → ∀ g3 g4 g5 g6 g7, Q .ret [a, .str k, .int .i64 i, g3, g4, g5, g6, g7] m) :
    ∀ (n i : Nat) (g2 g3 g6 g7 : AV), i + n = l.length → find k l = (find k (l.drop i)).map (· + i) → wl CS [2, 3, 6, 7] q28l7 Q [a, .str k, g2, g3, .int .i64 l.length, .int .i64 i, g6, g7] m := by
  intro n
  induction n with
  | zero =>
    intro i g2 g3 g6 g7 hi ht
    refine wl_step ?_
    have h1 : decide ((i : Int) < (l.length : Nat)) = false := by simp; omega
    simp only [go_sem, reduceIte, Nat.reduceEqDiff, Nat.reduceAdd, q28l7, q28r2, h1]
    refine hx ?_ _ _ _ _ _ _
    rw [ht, List.drop_of_length_le (by omega)]; rfl
  | succ n ih =>
    intro i g2 g3 g6 g7 hi ht
    refine wl_step ?_
    have h1 : decide ((i : Int) < (l.length : Nat)) = true := by simp; omega
    have hi1 : i < l.length := by omega
    have ea := ha.idx (k := .i64) (i := (i : Int)) (y := .str l[i]) (by omega) (by simp [hi1])
    have hw : IntKind.i64.wrap ((i : Int) + 1) = ((i + 1 : Nat) : Int) := by rw [Go.IntWalk.i64_in _ (by omega)]; omega
    have hd : l.drop i = l[i] :: l.drop (i + 1) := (List.drop_eq_getElem_cons hi1)
    simp only [go_sem, reduceIte, Nat.reduceEqDiff, Nat.reduceAdd, q28l7, q28r2, q28r3, q28r4, h1, ea, List.getElem?_cons_zero]
    refine boolW_intro (fun he => ?_) (fun hne => ?_)
    · simp only [go_sem, reduceIte, Nat.reduceEqDiff, Nat.reduceAdd, q28r5]
      refine hr i ?_ _ _ _ _ _
      rw [ht, hd]
      have : k = l[i] := by simpa using he
      simp [find, this]
    · simp only [go_sem, reduceIte, Nat.reduceEqDiff, Nat.reduceAdd, q28r6, hw]
      refine ih (i + 1) _ _ _ _ (by omega) ?_
      rw [ht, hd]
      have : ¬ l[i] = k := by intro e; rw [e] at hne; simp at hne
      simp only [find, this, if_false, Option.map_map]
      congr 1
      funext x
      simp; omega

theorem index_ok (m : Mem) {a : AV} {l : List (List UInt8)} {k : List UInt8} (ha : SlOf 1 a (l.map .str)) (hlen : l.length < 2 ^ 62) : CS 28 [a, .str k] m (.ret (.int .i64 (findI k l))) m := by
  refine call_by xfok mixed q28at q28ok rfl ?_
  simp only [go_sem, reduceIte, Nat.reduceEqDiff, Nat.reduceAdd, q28, q28r0, q28r1, ha.isLK, ha.len, List.length_map]
  refine index_loop m ha hlen (fun e _ _ _ _ _ _ => ?_) (fun i e _ _ _ _ _ => ?_) l.length 0 _ _ _ _ (by omega) (by simp)
  · simp only [go_sem, reduceIte, Nat.reduceEqDiff, Nat.reduceAdd, q28r8]
    simp [findI, e]
  · simp only [go_sem, reduceIte, Nat.reduceEqDiff, Nat.reduceAdd]
    simp [findI, e]
end Go.Proofs.YtinlfdkalijffaaDoor.Am.Q
