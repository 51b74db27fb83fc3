/-
  JSON, 4: ref07.Get.
-/
import Derived.Test.YtinlfdkalijffaaDoorJ3
set_option linter.unusedSimpArgs false
set_option linter.unusedVariables false
namespace Go.Proofs.YtinlfdkalijffaaDoor.Am.Q
open Go Go.Proofs Go.Proofs.YtinlfdkalijffaaDoor.Am

/-- Where a text stands first, or the end. -/
def findN (k : List UInt8) (l : List (List UInt8)) : Nat := (find k l).getD l.length
theorem find_lt {k : List UInt8} : ∀ {l : List (List UInt8)} {i : Nat}, find k l = some i → i < l.length
  | [], _, h => by simp [find] at h
  | x :: l, i, h => by
    simp only [find] at h
    split at h
    · injection h with h; subst h; simp
    · cases hf : find k l with
      | none => rw [hf] at h; simp at h
      | some j =>
        rw [hf] at h
        simp only [Option.map_some, Option.some.injEq] at h
        have := find_lt hf
        simp only [List.length_cons]; omega

theorem rget_in (m : Mem) {p q : Nat} {k : Int} {t : List UInt8} {ka kb ks : AV} {vk keys : List (List UInt8)} (ha : SlOf 1 ka (vk.map .str)) (hk : SlOf 1 ks (keys.map .str)) (hlen : vk.length < 2 ^ 47) (hgp : m.get p = .cells 26 [.int .i64 k, .str t, ka, kb])
    {i : Nat} (hi : i < keys.length) {Q : AExit → List AV → Mem → Prop}
    (hx : ∀ g0 g4 g7 g8 g9, Q (.exit 2) [g0, ks, .ptr p 0, .ptr q 0, g4, .int .i64 i, .int .i64 (findN keys[i] vk), g7, g8, g9] m) :
    ∀ (n j : Nat) (g0 g4 g7 g8 g9 : AV), j + n = vk.length → find keys[i] vk = (find keys[i] (vk.drop j)).map (· + j) →
      wl CS [0, 4, 7, 8, 9] q15l6 Q [g0, ks, .ptr p 0, .ptr q 0, g4, .int .i64 i, .int .i64 j, g7, g8, g9] m := by
  intro n
  induction n with
  | zero =>
    intro j g0 g4 g7 g8 g9 hj ht
    refine wl_step ?_
    have h1 : decide ((j : Int) < (vk.length : Nat)) = false := by simp; omega
    simp only [go_sem, reduceIte, Nat.reduceEqDiff, Nat.reduceAdd, q15l6, q15r4, hgp, ha.isLK, ha.len, List.length_map, h1]
    have : findN keys[i] vk = j := by
      rw [findN, ht, List.drop_of_length_le (by omega)]; simp [find]; omega
    have hx' := hx g0 g4 g7 (.bool false) g9
    rw [this] at hx'
    exact hx'
  | succ n ih =>
    intro j g0 g4 g7 g8 g9 hj ht
    refine wl_step ?_
    have h1 : decide ((j : Int) < (vk.length : Nat)) = true := by simp; omega
    have hj1 : j < vk.length := by omega
    have ea := ha.idx (k := .i64) (i := (j : Int)) (y := .str vk[j]) (by omega) (by simp [hj1])
    have ek := hk.idx (k := .i64) (i := (i : Int)) (y := .str keys[i]) (by omega) (by simp [hi])
    have hw : IntKind.i64.wrap ((j : Int) + 1) = ((j + 1 : Nat) : Int) := by rw [Go.IntWalk.i64_in _ (by omega)]; omega
    have hd : vk.drop j = vk[j] :: vk.drop (j + 1) := (List.drop_eq_getElem_cons hj1)
    simp only [go_sem, reduceIte, Nat.reduceEqDiff, Nat.reduceAdd, q15l6, q15r4, hgp, ha.isLK, ha.len, List.length_map, h1, ea, ek]
    refine boolW_intro (fun hne => ?_) (fun he => ?_)
    · simp only [go_sem, reduceIte, Nat.reduceEqDiff, Nat.reduceAdd, q15r5, hw]
      refine ih (j + 1) _ _ _ _ _ (by omega) ?_
      rw [ht, hd]
      have : ¬ vk[j] = keys[i] := by intro e; rw [e] at hne; simp at hne
      simp only [find, this, if_false, Option.map_map]
      congr 1
      funext x
      simp; omega
    · simp only [go_sem, reduceIte, Nat.reduceEqDiff, Nat.reduceAdd]
      have he' : vk[j] = keys[i] := by simpa using he
      have : findN keys[i] vk = j := by
        rw [findN, ht, hd]; simp [find, he']
      have hx' := hx g0 g4 g7 (.bool (!(vk[j] == keys[i]))) g9
      rw [this] at hx'
      exact hx'

theorem rget_loop (m0 : Mem) {ks : AV} {keys : List (List UInt8)} (hk : SlOf 1 ks (keys.map .str)) (hlen : keys.length < 2 ^ 47) {R : Option VT} {Q : AExit → List AV → Mem → Prop} {p q : Nat} (hpq : p ≠ q) (hp : m0.next ≤ p) (hq : m0.next ≤ q)
    (hx : ∀ m c T g0 g1 g4 g5 g6 g7 g8 g9, Ext m0 m → m.get p = .cells 26 c → IsVal (.agg c) T → m.get q = .cells 26 [.int .i64 0, .str [], .nilSl, .nilSl] → R = some T → Q (.exit 0) [g0, g1, .ptr p 0, .ptr q 0, g4, g5, g6, g7, g8, g9] m)
    (hr : ∀ m g0 g1 g5 g6 g7 g8 g9, Ext m0 m → m.get q = .cells 26 [.int .i64 0, .str [], .nilSl, .nilSl] → R = none → Q .ret [g0, g1, .ptr p 0, .ptr q 0, .bool false, g5, g6, g7, g8, g9] m) :
    ∀ (n i : Nat) (m : Mem) (c : List AV) (T : VT) (g0 g4 g6 g7 g8 g9 : AV), i + n = keys.length → Ext m0 m → m.get p = .cells 26 c → IsVal (.agg c) T → Small T → m.get q = .cells 26 [.int .i64 0, .str [], .nilSl, .nilSl] → R = getT T (keys.drop i) →
      wl CS [0, 4, 6, 7, 8, 9] q15l11 Q [g0, ks, .ptr p 0, .ptr q 0, g4, .int .i64 i, g6, g7, g8, g9] m := by
  intro n
  induction n with
  | zero =>
    intro i m c T g0 g4 g6 g7 g8 g9 hi hE hgp hv hs hgq hR
    refine wl_step ?_
    have h1 : decide ((i : Int) < (keys.length : Nat)) = false := by simp; omega
    simp only [go_sem, reduceIte, Nat.reduceEqDiff, Nat.reduceAdd, q15l11, q15r2, hk.isLK, hk.len, List.length_map, h1]
    refine hx m c T _ _ _ _ _ _ _ _ hE hgp hv hgq ?_
    rw [hR, List.drop_of_length_le (by omega)]; rfl
  | succ n ih =>
    intro i m c T g0 g4 g6 g7 g8 g9 hi hE hgp hv hs hgq hR
    refine wl_step ?_
    have h1 : decide ((i : Int) < (keys.length : Nat)) = true := by simp; omega
    have hi1 : i < keys.length := by omega
    have hw : IntKind.i64.wrap ((i : Int) + 1) = ((i + 1 : Nat) : Int) := by rw [Go.IntWalk.i64_in _ (by omega)]; omega
    have hd : keys.drop i = keys[i] :: keys.drop (i + 1) := (List.drop_eq_getElem_cons hi1)
    cases hv with
    | @mk k t ka kb vk kids xs ha hb hxl hx2 =>
    cases hs with
    | mk s1 s2 s3 =>
    rw [hd] at hR
    simp only [getT, VT.kind, VT.keys, VT.kids] at hR
    simp only [go_sem, reduceIte, Nat.reduceEqDiff, Nat.reduceAdd, q15l11, q15r2, q15r3, hk.isLK, hk.len, List.length_map, h1]
    refine rget_in m ha hk s1 hgp hi1 ?_ vk.length 0 _ _ _ _ _ (by omega) (by simp)
    intro g0 g4 g7 g8 g9
    have stop : R = none → wc CS (.seq (.region q15r8) .ret) Q [g0, ks, .ptr p 0, .ptr q 0, g4, .int .i64 i, .int .i64 (findN keys[i] vk), g7, g8, .bool true] m := by
      intro hR
      simp only [go_sem, reduceIte, Nat.reduceEqDiff, Nat.reduceAdd, q15r8, buildV]
      rw [store_4 hgq rfl]
      simp only [go_sem, reduceIte, Nat.reduceEqDiff, Nat.reduceAdd]
      exact hr _ _ _ _ _ _ _ _ (hE.set hq _) get_set_same hR
    by_cases h6 : k = 6
    · have e6 : (k != 6) = false := by simp [h6]
      simp only [h6, if_true] at hR
      cases hf : find keys[i] vk with
      | none =>
        rw [hf] at hR
        have hfi : findN keys[i] vk = vk.length := by simp [findN, hf]
        have hge : decide (((vk.length : Nat) : Int) ≥ (vk.length : Nat)) = true := by simp
        rw [hfi] at stop ⊢
        simp only [go_sem, reduceIte, Nat.reduceEqDiff, Nat.reduceAdd, q15r7, e6, hgp, ha.isLK, ha.len, List.length_map, hge]
        have := stop hR
        simp only [go_sem, reduceIte, Nat.reduceEqDiff, Nat.reduceAdd] at this
        exact this
      | some j =>
        rw [hf] at hR
        have hfi : findN keys[i] vk = j := by simp [findN, hf]
        have hjl := find_lt hf
        have hge1 : decide ((j : Int) ≥ (vk.length : Nat)) = false := by simp; omega
        rw [hfi] at stop ⊢
        by_cases hj : j < kids.length
        · have hge : decide ((j : Int) ≥ (kids.length : Nat)) = false := by simp; omega
          simp only [hj, if_true] at hR
          have hjx : j < xs.length := by omega
          have hxj := hx2 j hj
          have eb := hb.idx (k := .i64) (i := (j : Int)) (y := xs.getD j .u) (by omega) (by simp [List.getD, hjx])
          obtain ⟨k', t', ka', kb', hxe, _⟩ := hxj.shape
          rw [hxe] at eb hxj
          have hsc := hxj.store
          simp only [go_sem, reduceIte, Nat.reduceEqDiff, Nat.reduceAdd, q15r7, e6, hgp, ha.isLK, ha.len, List.length_map, hge1, hb.isLK, hb.len, hxl, hge, q15r9, eb]
          rw [store_4 hgp hsc]
          simp only [go_sem, reduceIte, Nat.reduceEqDiff, Nat.reduceAdd, q15r10, hw]
          refine ih (i + 1) _ _ _ _ _ _ _ _ _ (by omega) (hE.set hp _) get_set_same hxj (s3 j hj) ?_ hR
          rw [get_set_other (Ne.symm hpq)]; exact hgq
        · have hge : decide ((j : Int) ≥ (kids.length : Nat)) = true := by simp; omega
          simp only [hj, if_false] at hR
          simp only [go_sem, reduceIte, Nat.reduceEqDiff, Nat.reduceAdd, q15r7, e6, hgp, ha.isLK, ha.len, List.length_map, hge1, hb.isLK, hb.len, hxl, hge]
          have := stop hR
          simp only [go_sem, reduceIte, Nat.reduceEqDiff, Nat.reduceAdd] at this
          exact this
    · have e6 : (k != 6) = true := by simp [h6]
      simp only [h6, if_false] at hR
      simp only [go_sem, reduceIte, Nat.reduceEqDiff, Nat.reduceAdd, q15r7, e6, hgp]
      have := stop hR
      simp only [go_sem, reduceIte, Nat.reduceEqDiff, Nat.reduceAdd] at this
      exact this

theorem rget_ok (m : Mem) {v ks : AV} {T : VT} {keys : List (List UInt8)} (hv : IsVal v T) (hs : Small T) (hk : SlOf 1 ks (keys.map .str)) (hlen : keys.length < 2 ^ 47) :
    ∃ a m', CS 15 [v, ks] m (.ret (.tup [a, .bool (getT T keys).isSome])) m' ∧ Ext m m' ∧ IsVal a ((getT T keys).getD VT.zero) := by
  have key : ∃ r m', CS 15 [v, ks] m (.ret r) m' ∧ Ext m m' ∧ ∃ a, r = .tup [a, .bool (getT T keys).isSome] ∧ IsVal a ((getT T keys).getD VT.zero) := by
    refine call_some (R := fun r m' => Ext m m' ∧ ∃ a, r = .tup [a, .bool (getT T keys).isSome] ∧ IsVal a ((getT T keys).getD VT.zero)) xfok mixed q15at q15ok rfl ?_
    have hv' := hv
    cases hv with
    | @mk k t ka kb vk kids xs ha hb hxl hx2 =>
    have hsc : List.all [AV.int .i64 k, .str t, ka, kb] scal = true := hv'.store
    simp only [go_sem, reduceIte, Nat.reduceEqDiff, Nat.reduceAdd, q15, q15r0, q15r1, hsc, next_alloc]
    refine rget_loop m hk hlen (R := getT (.node k t vk kids) keys) (p := m.next) (q := m.next + 1) (by omega) (by omega) (by omega) ?_ ?_ keys.length 0 _ _ _ _ _ _ _ _ _ (by omega) ((Ext.alloc _ _).trans (Ext.alloc _ _)) ?_ hv' hs ?_ (by simp)
    · intro m2 c T2 g0 g1 g4 g5 g6 g7 g8 g9 hE h1 h2 h3 h4
      have h2' := h2
      cases h2 with
      | mk a1 a2 =>
      simp only [go_sem, reduceIte, Nat.reduceEqDiff, Nat.reduceAdd, q15r12, h1]
      rw [store_4 h3 h2'.store]
      simp only [go_sem, reduceIte, Nat.reduceEqDiff, Nat.reduceAdd, get_set_same]
      refine ⟨hE.set (by omega) _, _, by rw [h4]; rfl, by rw [h4]; exact h2'⟩
    · intro m2 g0 g1 g5 g6 g7 g8 g9 hE h1 h2
      simp only [go_sem, reduceIte, Nat.reduceEqDiff, Nat.reduceAdd, h1]
      exact ⟨hE, _, by rw [h2]; rfl, by rw [h2]; exact zero_val⟩
    · rw [get_old (by simp [Mem.alloc])]; exact get_new
    · exact get_new
  obtain ⟨r, m', h1, h2, a, rfl, h3⟩ := key
  exact ⟨a, m', h1, h2, h3⟩
end Go.Proofs.YtinlfdkalijffaaDoor.Am.Q
