/- Part KJ1 of a claim's texts, joined: what the claim needs of them. -/
import Derived.Test.YtinlfdkalijffaaDoorKQT
import Derived.Test.YtinlfdkalijffaaDoorKA4
import Derived.IntWalk
set_option linter.unusedSimpArgs false
set_option linter.unusedVariables false
namespace Go.Proofs.YtinlfdkalijffaaDoor.Am.Q
open Go Go.Proofs Go.Proofs.YtinlfdkalijffaaDoor.Am
theorem xfok : XfOk Tryd.prog xfT := by
  intro f
  refine ⟨fun h => ?_, fun h => ?_⟩
  · have : f = 99 := by
      simp only [xfT] at h
      split at h
      · simp at h
      · split at h
        · assumption
        · simp at h
    subst this
    exact ⟨Tryd.f99, by kernel_rfl, by kernel_rfl, by kernel_rfl, by kernel_rfl, by kernel_rfl⟩
  · have : f = 89 := by
      simp only [xfT] at h
      split at h
      · assumption
      · split at h <;> simp at h
    subst this
    exact ⟨Tryd.f89, by kernel_rfl, by kernel_rfl, by kernel_rfl, by kernel_rfl, by kernel_rfl⟩
theorem mixed : Tryd.prog.follows .mixedOrders = true := by kernel_rfl
abbrev CS := CallSound Tryd.prog gT
end Go.Proofs.YtinlfdkalijffaaDoor.Am.Q
namespace Go.Proofs.YtinlfdkalijffaaDoor.Am.Q
open Go Go.Proofs Go.Proofs.YtinlfdkalijffaaDoor.Am
inductive VT where
  | node (k : Int) (t : List UInt8) (keys : List (List UInt8)) (kids : List VT)
def VT.zero : VT := .node 0 [] [] []
def VT.keys : VT → List (List UInt8) | .node _ _ ks _ => ks
def VT.kids : VT → List VT | .node _ _ _ l => l
inductive IsVal : AV → VT → Prop where
  | mk {k : Int} {t : List UInt8} {ka kb : AV} {keys : List (List UInt8)} {kids : List VT} {xs : List AV} : SlOf 1 ka (keys.map .str) → SlOf 4 kb xs → xs.length = kids.length →
      (∀ i, i < kids.length → IsVal (xs.getD i .u) (kids.getD i VT.zero)) → IsVal (.agg [.int .i64 k, .str t, ka, kb]) (.node k t keys kids)
theorem zero_val : IsVal (.agg [.int .i64 0, .str [], .nilSl, .nilSl]) VT.zero := .mk (.inl ⟨rfl, rfl⟩) (.inl ⟨rfl, rfl⟩) rfl (fun i hi => absurd hi (Nat.not_lt_zero _))
theorem scal_int {k : IntKind} {n : Int} : scal (.int k n) = true := rfl
theorem scal_str {t : List UInt8} : scal (.str t) = true := rfl
theorem IsVal.shape {x : AV} {T : VT} (h : IsVal x T) : ∃ k t ka kb, x = .agg [.int .i64 k, .str t, ka, kb] ∧ List.all [AV.int .i64 k, .str t, ka, kb] scal = true := by
  cases h with
  | mk a1 a2 => exact ⟨_, _, _, _, rfl, by simp [scal_int, scal_str, a1.scal, a2.scal]⟩
theorem IsVal.store {a b c d : AV} {T : VT} (h : IsVal (.agg [a, b, c, d]) T) : storeAll [a, b, c, d] = true := by
  obtain ⟨k, t, ka, kb, e, hs⟩ := h.shape
  simp only [AV.agg.injEq, List.cons.injEq, and_true] at e
  obtain ⟨rfl, rfl, rfl, rfl⟩ := e
  exact hs
structure Ext (m m' : Mem) : Prop where
  get : ∀ i, i < m.next → m'.get i = m.get i
  next : m.next ≤ m'.next
  live : ∀ t, t < m.ntok → m'.live t = m.live t
  ntok : m.ntok ≤ m'.ntok
  tty : ∀ t, t < m.ntok → m'.tty t = m.tty t
theorem Ext.refl (m : Mem) : Ext m m := ⟨fun _ _ => rfl, Nat.le_refl _, fun _ _ => rfl, Nat.le_refl _, fun _ _ => rfl⟩
theorem Ext.trans {a b c : Mem} (h : Ext a b) (k : Ext b c) : Ext a c :=
  ⟨fun i hi => (k.get i (Nat.lt_of_lt_of_le hi h.next)).trans (h.get i hi), Nat.le_trans h.next k.next, fun t ht => (k.live t (Nat.lt_of_lt_of_le ht h.ntok)).trans (h.live t ht), Nat.le_trans h.ntok k.ntok, fun t ht => (k.tty t (Nat.lt_of_lt_of_le ht h.ntok)).trans (h.tty t ht)⟩
theorem Ext.alloc (m : Mem) (o : AObj) : Ext m (m.alloc o) :=
  ⟨fun i hi => by simp only [Mem.alloc]; rw [if_neg (by omega)], by simp [Mem.alloc], fun _ _ => rfl, Nat.le_refl _, fun _ _ => rfl⟩
theorem Ext.set {m m' : Mem} (h : Ext m m') {i : Nat} (hi : m.next ≤ i) (o : AObj) : Ext m (m'.set i o) :=
  ⟨fun j hj => by simp only [Mem.set]; rw [if_neg (by omega)]; exact h.get j hj, h.next, h.live, h.ntok, h.tty⟩
def find (k : List UInt8) : List (List UInt8) → Option Nat
  | [] => none
  | x :: l => if x = k then some 0 else (find k l).map (· + 1)
end Go.Proofs.YtinlfdkalijffaaDoor.Am.Q
namespace Go.Proofs.YtinlfdkalijffaaDoor.Am.Q
open Go Go.Proofs Go.Proofs.YtinlfdkalijffaaDoor.Am
inductive Small : VT → Prop where
  | mk {k : Int} {t : List UInt8} {keys : List (List UInt8)} {kids : List VT} : keys.length < 2 ^ 47 → kids.length < 2 ^ 47 → (∀ i, i < kids.length → Small (kids.getD i VT.zero)) → Small (.node k t keys kids)
end Go.Proofs.YtinlfdkalijffaaDoor.Am.Q
namespace Go.Proofs.YtinlfdkalijffaaDoor.Am.Q
open Go Go.Proofs Go.Proofs.YtinlfdkalijffaaDoor.Am
end Go.Proofs.YtinlfdkalijffaaDoor.Am.Q
namespace Go.Proofs.YtinlfdkalijffaaDoor.Am.Q
open Go Go.Proofs Go.Proofs.YtinlfdkalijffaaDoor.Am
theorem gflat : GFlat gT := by
  intro g cs h
  simp only [gT] at h
  split at h
  · injection h with h; subst h; kernel_rfl
  · split at h
    · injection h with h; subst h; kernel_rfl
    · cases h
end Go.Proofs.YtinlfdkalijffaaDoor.Am.Q
namespace Go.Proofs.YtinlfdkalijffaaDoor.Am.Q
open Go Go.Proofs Go.Proofs.YtinlfdkalijffaaDoor.Am
theorem VT.ext_kids {k k' : Int} {t t' : List UInt8} {ks ks' : List (List UInt8)} {l l' : List VT} : (VT.node k t ks l = VT.node k' t' ks' l') ↔ k = k' ∧ t = t' ∧ ks = ks' ∧ l = l' := by
  constructor
  · intro h; injection h with h1 h2 h3 h4; exact ⟨h1, h2, h3, h4⟩
  · rintro ⟨rfl, rfl, rfl, rfl⟩; rfl
theorem getD_ext {l l' : List VT} (h : l.length = l'.length) (hk : ∀ i, i < l.length → l.getD i VT.zero = l'.getD i VT.zero) : l = l' := by
  apply List.ext_getElem h
  intro i h1 h2
  have := hk i h1
  simpa [List.getD, h1, h2] using this
end Go.Proofs.YtinlfdkalijffaaDoor.Am.Q
