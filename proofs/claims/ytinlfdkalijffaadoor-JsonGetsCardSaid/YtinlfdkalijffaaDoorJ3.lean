/-
  JSON, 3: json.Get.
-/
import Derived.Test.YtinlfdkalijffaaDoorJ2
set_option linter.unusedSimpArgs false
set_option linter.unusedVariables false
namespace Go.Proofs.YtinlfdkalijffaaDoor.Am.Q
open Go Go.Proofs Go.Proofs.YtinlfdkalijffaaDoor.Am

def getT : VT → List (List UInt8) → Option VT
  | v, [] => some v
  | v, k :: ks => if v.kind = 6 then (match find k v.keys with
    | some i => if i < v.kids.length then getT (v.kids.getD i VT.zero) ks else none
    | none => none) else none
/-- No list in a tree is too long to be counted. -/
inductive Small : VT → Prop where
  | mk {k : Int} {t : List UInt8} {keys : List (List UInt8)} {kids : List VT} : keys.length < 2 ^ 47 → kids.length < 2 ^ 47 → (∀ i, i < kids.length → Small (kids.getD i VT.zero)) → Small (.node k t keys kids)

theorem box_ok' {m : Mem} {t : TypeId} {a b c d : AV} (h : storeAll [a, b, c, d] = true) : True := trivial

theorem get_loop (m0 : Mem) {ks : AV} {keys : List (List UInt8)} (hk : SlOf 1 ks (keys.map .str)) (hlen : keys.length < 2 ^ 47) {R : Option VT} {Q : AExit → List AV → Mem → Prop} {p q : Nat} (hpq : p ≠ q) (hp : m0.next ≤ p) (hq : m0.next ≤ q)
    (hx : ∀ m c T g0 g1 g4 g5 g6 g7 g8 g9 g10 g11, Ext m0 m → m.get p = .cells 26 c → IsVal (.agg c) T → m.get q = .cells 26 [.int .i64 0, .str [], .nilSl, .nilSl] → R = some T → Q (.exit 0) [g0, g1, .ptr p 0, .ptr q 0, g4, g5, g6, g7, g8, g9, g10, g11] m)
    (hr : ∀ m g0 g1 g5 g6 g7 g8 g9 g10 g11, Ext m0 m → m.get q = .cells 26 [.int .i64 0, .str [], .nilSl, .nilSl] → R = none → Q .ret [g0, g1, .ptr p 0, .ptr q 0, .bool false, g5, g6, g7, g8, g9, g10, g11] m) :
    ∀ (n i : Nat) (m : Mem) (c : List AV) (T : VT) (g0 g1 g4 g5 g6 g10 g11 : AV), i + n = keys.length → Ext m0 m → m.get p = .cells 26 c → IsVal (.agg c) T → Small T → m.get q = .cells 26 [.int .i64 0, .str [], .nilSl, .nilSl] → R = getT T (keys.drop i) →
      wl CS [0, 1, 4, 5, 6, 10, 11] q14l9 Q [g0, g1, .ptr p 0, .ptr q 0, g4, g5, g6, ks, .int .i64 keys.length, .int .i64 i, g10, g11] m := by
  intro n
  induction n with
  | zero =>
    intro i m c T g0 g1 g4 g5 g6 g10 g11 hi hE hgp hv hs hgq hR
    refine wl_step ?_
    have h1 : decide ((i : Int) < (keys.length : Nat)) = false := by simp; omega
    simp only [go_sem, reduceIte, Nat.reduceEqDiff, Nat.reduceAdd, q14l9, q14r2, h1]
    refine hx m c T _ _ _ _ _ _ _ _ _ _ hE hgp hv hgq ?_
    rw [hR, List.drop_of_length_le (by omega)]; rfl
  | succ n ih =>
    intro i m c T g0 g1 g4 g5 g6 g10 g11 hi hE hgp hv hs hgq hR
    refine wl_step ?_
    have h1 : decide ((i : Int) < (keys.length : Nat)) = true := by simp; omega
    have hi1 : i < keys.length := by omega
    have ek := hk.idx (k := .i64) (i := (i : Int)) (y := .str keys[i]) (by omega) (by simp [hi1])
    have hw : IntKind.i64.wrap ((i : Int) + 1) = ((i + 1 : Nat) : Int) := by rw [Go.IntWalk.i64_in _ (by omega)]; omega
    have hd : keys.drop i = keys[i] :: keys.drop (i + 1) := (List.drop_eq_getElem_cons hi1)
    cases hv with
    | @mk k t ka kb vk kids xs ha hb hxl hx2 =>
    cases hs with
    | mk s1 s2 s3 =>
    rw [hd] at hR
    simp only [getT, VT.kind, VT.keys, VT.kids] at hR
    simp only [go_sem, reduceIte, Nat.reduceEqDiff, Nat.reduceAdd, q14l9, q14r2, q14r3, q14r4, h1, ek, hgp]
    refine callW_ret (index_ok m ha (by omega)) ?_
    by_cases h6 : k = 6
    · have e6 : (k != 6) = false := by simp [h6]
      simp only [h6, if_true] at hR
      cases hf : find keys[i] vk with
      | none =>
        rw [hf] at hR
        have hfi : findI keys[i] vk = -1 := by simp [findI, hf]
        have hneg : decide ((-1 : Int) < 0) = true := by decide
        simp only [go_sem, reduceIte, Nat.reduceEqDiff, Nat.reduceAdd, q14r5, e6, hfi, hgp, hneg]
        simp only [go_sem, reduceIte, Nat.reduceEqDiff, Nat.reduceAdd, q14r6, buildV]
        rw [store_4 hgq rfl]
        simp only [go_sem, reduceIte, Nat.reduceEqDiff, Nat.reduceAdd]
        exact hr _ _ _ _ _ _ _ _ _ _ (hE.set hq _) get_set_same hR
      | some j =>
        rw [hf] at hR
        have hfi : findI keys[i] vk = (j : Int) := by simp [findI, hf]
        have hneg : decide ((j : Int) < 0) = false := by simp
        by_cases hj : j < kids.length
        · have hge : decide ((j : Int) ≥ (kids.length : Nat)) = false := by simp; omega
          simp only [hj, if_true] at hR
          have hjx : j < xs.length := by omega
          have hxj := hx2 j hj
          have eb := hb.idx (k := .i64) (i := (j : Int)) (y := xs.getD j .u) (by omega) (by simp [List.getD, hjx])
          obtain ⟨k', t', ka', kb', hxe, _⟩ := hxj.shape
          rw [hxe] at eb hxj
          have hsc := hxj.store
          simp only [go_sem, reduceIte, Nat.reduceEqDiff, Nat.reduceAdd, q14r5, e6, hfi, hgp, hneg, hb.isLK, hb.len, hxl, hge]
          simp only [go_sem, reduceIte, Nat.reduceEqDiff, Nat.reduceAdd, q14r7, hgp, eb]
          rw [store_4 hgp hsc]
          simp only [go_sem, reduceIte, Nat.reduceEqDiff, Nat.reduceAdd, q14r8, hw]
          refine ih (i + 1) _ _ _ _ _ _ _ _ _ _ (by omega) (hE.set hp _) get_set_same hxj (s3 j hj) ?_ hR
          rw [get_set_other (Ne.symm hpq)]; exact hgq
        · have hge : decide ((j : Int) ≥ (kids.length : Nat)) = true := by simp; omega
          simp only [hj, if_false] at hR
          simp only [go_sem, reduceIte, Nat.reduceEqDiff, Nat.reduceAdd, q14r5, e6, hfi, hgp, hneg, hb.isLK, hb.len, hxl, hge]
          simp only [go_sem, reduceIte, Nat.reduceEqDiff, Nat.reduceAdd, q14r6, buildV]
          rw [store_4 hgq rfl]
          simp only [go_sem, reduceIte, Nat.reduceEqDiff, Nat.reduceAdd]
          exact hr _ _ _ _ _ _ _ _ _ _ (hE.set hq _) get_set_same hR
    · have e6 : (k != 6) = true := by simp [h6]
      simp only [h6, if_false] at hR
      simp only [go_sem, reduceIte, Nat.reduceEqDiff, Nat.reduceAdd, q14r5, e6, hgp]
      simp only [go_sem, reduceIte, Nat.reduceEqDiff, Nat.reduceAdd, q14r6, buildV]
      rw [store_4 hgq rfl]
      simp only [go_sem, reduceIte, Nat.reduceEqDiff, Nat.reduceAdd]
      exact hr _ _ _ _ _ _ _ _ _ _ (hE.set hq _) get_set_same hR

theorem get_ok (m : Mem) {v ks : AV} {T : VT} {keys : List (List UInt8)} (hv : IsVal v T) (hs : Small T) (hk : SlOf 1 ks (keys.map .str)) (hlen : keys.length < 2 ^ 47) :
    ∃ a m', CS 14 [v, ks] m (.ret (.tup [a, .bool (getT T keys).isSome])) m' ∧ Ext m m' ∧ IsVal a ((getT T keys).getD VT.zero) := by
  have key : ∃ r m', CS 14 [v, ks] m (.ret r) m' ∧ Ext m m' ∧ ∃ a, r = .tup [a, .bool (getT T keys).isSome] ∧ IsVal a ((getT T keys).getD VT.zero) := by
    refine call_some (R := fun r m' => Ext m m' ∧ ∃ a, r = .tup [a, .bool (getT T keys).isSome] ∧ IsVal a ((getT T keys).getD VT.zero)) xfok mixed q14at q14ok rfl ?_
    have hv' := hv
    cases hv with
    | @mk k t ka kb vk kids xs ha hb hxl hx2 =>
    have hsc : List.all [AV.int .i64 k, .str t, ka, kb] scal = true := hv'.store
    simp only [go_sem, reduceIte, Nat.reduceEqDiff, Nat.reduceAdd, q14, q14r0, q14r1, hsc, hk.isLK, hk.len, List.length_map, next_alloc]
    refine get_loop m hk hlen (R := getT (.node k t vk kids) keys) (p := m.next) (q := m.next + 1) (by omega) (by omega) (by omega) ?_ ?_ keys.length 0 _ _ _ _ _ _ _ _ _ _ (by omega) ((Ext.alloc _ _).trans (Ext.alloc _ _)) ?_ hv' hs ?_ (by simp)
    · intro m2 c T2 g0 g1 g4 g5 g6 g7 g8 g9 g10 g11 hE h1 h2 h3 h4
      have h2' := h2
      cases h2 with
      | mk a1 a2 =>
      simp only [go_sem, reduceIte, Nat.reduceEqDiff, Nat.reduceAdd, q14r10, h1]
      rw [store_4 h3 h2'.store]
      simp only [go_sem, reduceIte, Nat.reduceEqDiff, Nat.reduceAdd, get_set_same]
      refine ⟨hE.set (by omega) _, _, by rw [h4]; rfl, by rw [h4]; exact h2'⟩
    · intro m2 g0 g1 g5 g6 g7 g8 g9 g10 g11 hE h1 h2
      simp only [go_sem, reduceIte, Nat.reduceEqDiff, Nat.reduceAdd, h1]
      exact ⟨hE, _, by rw [h2]; rfl, by rw [h2]; exact zero_val⟩
    · rw [get_old (by simp [Mem.alloc])]; exact get_new
    · exact get_new
  obtain ⟨r, m', h1, h2, a, rfl, h3⟩ := key
  exact ⟨a, m', h1, h2, h3⟩
end Go.Proofs.YtinlfdkalijffaaDoor.Am.Q
