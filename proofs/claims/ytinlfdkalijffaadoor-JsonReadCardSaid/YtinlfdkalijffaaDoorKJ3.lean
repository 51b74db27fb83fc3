import Derived.Test.YtinlfdkalijffaaDoorKJ2
set_option linter.unusedSimpArgs false
set_option linter.unusedVariables false
/-
  JSON, 8: the law's size and far: they come to something.
-/
namespace Go.Proofs.YtinlfdkalijffaaDoor.Am.Q
open Go Go.Proofs Go.Proofs.YtinlfdkalijffaaDoor.Am

theorem size_keys (m : Mem) {p : Nat} {k left : Int} {t : List UInt8} {ka kb : AV} {keys : List (List UInt8)} (ha : SlOf 1 ka (keys.map .str)) (hlen : keys.length < 2 ^ 47) (hgp : m.get p = .cells 26 [.int .i64 k, .str t, ka, kb])
    {g1 : AV} {Q : AExit → List AV → Mem → Prop} (hx : ∀ n g0 g4 g6 g7 g8 g9 g10, Q (.exit 0) [g0, g1, .int .i64 left, .ptr p 0, g4, .int .i64 n, g6, g7, g8, g9, g10] m) :
    ∀ (r i : Nat) (n : Int) (g0 g4 g7 g8 g9 g10 : AV), i + r = keys.length → wl CS [0, 4, 7, 8, 9, 10] q27l8 Q [g0, g1, .int .i64 left, .ptr p 0, g4, .int .i64 n, .int .i64 i, g7, g8, g9, g10] m := by
  intro r
  induction r with
  | zero =>
    intro i n g0 g4 g7 g8 g9 g10 hi
    refine wl_step ?_
    have h1 : decide ((i : Int) < (keys.length : Nat)) = false := by simp; omega
    simp only [go_sem, reduceIte, Nat.reduceEqDiff, Nat.reduceAdd, q27l8, q27r5, hgp, ha.isLK, ha.len, List.length_map, h1]
    exact hx _ _ _ _ _ _ _ _
  | succ r ih =>
    intro i n g0 g4 g7 g8 g9 g10 hi
    refine wl_step ?_
    have h1 : decide ((i : Int) < (keys.length : Nat)) = true := by simp; omega
    have hi1 : i < keys.length := by omega
    have ea := ha.idx (k := .i64) (i := (i : Int)) (y := .str keys[i]) (by omega) (by simp [hi1])
    have hw : IntKind.i64.wrap ((i : Int) + 1) = ((i + 1 : Nat) : Int) := by rw [Go.IntWalk.i64_in _ (by omega)]; omega
    simp only [go_sem, reduceIte, Nat.reduceEqDiff, Nat.reduceAdd, q27l8, q27r5, hgp, ha.isLK, ha.len, List.length_map, h1]
    refine boolW_intro (fun h => ?_) (fun h => ?_)
    · simp only [go_sem, reduceIte, Nat.reduceEqDiff, Nat.reduceAdd, q27r6, q27r7, hgp, ea, hw, isLK, lenV]
      exact ih (i + 1) _ _ _ _ _ _ _ (by omega)
    · simp only [go_sem, reduceIte, Nat.reduceEqDiff, Nat.reduceAdd]
      exact hx _ _ _ _ _ _ _ _

def Sizes (T : VT) : Prop := ∀ (m : Mem) (a : AV) (deep left : Int), IsVal a T → ∃ n, CS 27 [a, .int .i64 deep, .int .i64 left] m (.ret (.int .i64 n)) m
theorem size_kids (m : Mem) {p : Nat} {k deep left : Int} {t : List UInt8} {ka kb : AV} {xs : List AV} {kids : List VT} (hb : SlOf 4 kb xs) (hxl : xs.length = kids.length) (hx2 : ∀ i, i < kids.length → IsVal (xs.getD i .u) (kids.getD i VT.zero)) (hlen : kids.length < 2 ^ 47)
    (hgp : m.get p = .cells 26 [.int .i64 k, .str t, ka, kb]) (ih : ∀ i, i < kids.length → Sizes (kids.getD i VT.zero)) {Q : AExit → List AV → Mem → Prop} (hx : ∀ n g0 g4 g6 g7 g8 g9 g10, Q (.exit 2) [g0, .int .i64 deep, .int .i64 left, .ptr p 0, g4, .int .i64 n, g6, g7, g8, g9, g10] m) :
    ∀ (r i : Nat) (n : Int) (g0 g4 g6 g8 g9 g10 : AV), i + r = kids.length → wl CS [0, 4, 6, 8, 9, 10] q27l13 Q [g0, .int .i64 deep, .int .i64 left, .ptr p 0, g4, .int .i64 n, g6, .int .i64 i, g8, g9, g10] m := by
  intro r
  induction r with
  | zero =>
    intro i n g0 g4 g6 g8 g9 g10 hi
    refine wl_step ?_
    have h1 : decide ((i : Int) < (kids.length : Nat)) = false := by simp; omega
    simp only [go_sem, reduceIte, Nat.reduceEqDiff, Nat.reduceAdd, q27l13, q27r10, hgp, hb.isLK, hb.len, hxl, h1]
    exact hx _ _ _ _ _ _ _ _
  | succ r ihr =>
    intro i n g0 g4 g6 g8 g9 g10 hi
    refine wl_step ?_
    have h1 : decide ((i : Int) < (kids.length : Nat)) = true := by simp; omega
    have hi1 : i < kids.length := by omega
    have hxi := hx2 i hi1
    have ea := hb.idx (k := .i64) (i := (i : Int)) (y := xs.getD i .u) (by omega) (by simp [List.getD, show i < xs.length by omega])
    obtain ⟨k1, t1, a1, b1, e1, _⟩ := hxi.shape
    rw [e1] at ea hxi
    have hw : IntKind.i64.wrap ((i : Int) + 1) = ((i + 1 : Nat) : Int) := by rw [Go.IntWalk.i64_in _ (by omega)]; omega
    simp only [go_sem, reduceIte, Nat.reduceEqDiff, Nat.reduceAdd, q27l13, q27r10, hgp, hb.isLK, hb.len, hxl, h1]
    refine boolW_intro (fun h => ?_) (fun h => ?_)
    · simp only [go_sem, reduceIte, Nat.reduceEqDiff, Nat.reduceAdd, q27r11, hgp, ea]
      obtain ⟨z, hz⟩ := ih i hi1 m _ (IntKind.i64.wrap (deep + 1)) (IntKind.i64.wrap (left - n)) hxi
      refine callW_ret hz ?_
      simp only [go_sem, reduceIte, Nat.reduceEqDiff, Nat.reduceAdd, q27r12, hw]
      exact ihr (i + 1) _ _ _ _ _ _ _ (by omega)
    · simp only [go_sem, reduceIte, Nat.reduceEqDiff, Nat.reduceAdd]
      exact hx _ _ _ _ _ _ _ _

theorem lk_str {s : List UInt8} : isLK .str (.str s) = true := rfl
theorem len_str {m : Mem} {s : List UInt8} : lenV m (.str s) = some (.int .i64 s.length) := rfl
theorem sizes {T : VT} (hs : Small T) : Sizes T := by
  induction hs with
  | @mk k t keys kids s1 s2 _ ih =>
    intro m a deep left ha
    obtain ⟨a', wa1, wa2, _, wa3, _⟩ := ha.weak
    have key : ∃ r' m', CS 27 [a', .int .i64 deep, .int .i64 left] m0 (.ret r') m' ∧ ∃ n, r' = .int .i64 n := by
      refine call_some (R := fun r' _ => ∃ n, r' = .int .i64 n) xfok mixed q27at q27ok rfl ?_
      have wa := wa1
      cases wa1 with
      | @mk _ _ ka kb _ _ xs h1 h2 h3 h4 =>
      have sa : List.all [AV.int .i64 k, .str t, ka, kb] scal = true := wa.store
      have hg0 : (m0.alloc (.cells 26 [.int .i64 k, .str t, ka, kb])).get m0.next = .cells 26 [.int .i64 k, .str t, ka, kb] := get_new
      simp only [go_sem, reduceIte, Nat.reduceEqDiff, Nat.reduceAdd, q27, q27r0, sa]
      generalize (m0.alloc (.cells 26 [.int .i64 k, .str t, ka, kb])) = m1 at hg0
      simp only [go_sem, reduceIte, Nat.reduceEqDiff, Nat.reduceAdd, q27r1, q27r2, hg0, h1.isLK, h1.len, h2.isLK, h2.len, lk_str, len_str]
      rcases Bool.eq_false_or_eq_true (decide (deep > 80)) with e1 | e1
      · simp only [go_sem, reduceIte, Nat.reduceEqDiff, Nat.reduceAdd, e1, q27r3]
        exact ⟨_, rfl⟩
      · rcases Bool.eq_false_or_eq_true (decide (((xs.length : Nat) : Int) > 4000)) with e2 | e2
        · simp only [go_sem, reduceIte, Nat.reduceEqDiff, Nat.reduceAdd, e1, e2, hg0, h2.isLK, h2.len, q27r3]
          exact ⟨_, rfl⟩
        · rcases Bool.eq_false_or_eq_true (decide ((((keys.map AV.str).length : Nat) : Int) > 4000)) with e3 | e3
          · simp only [go_sem, reduceIte, Nat.reduceEqDiff, Nat.reduceAdd, e1, e2, e3, hg0, h1.isLK, h1.len, h2.isLK, h2.len, q27r3]
            exact ⟨_, rfl⟩
          · simp only [go_sem, reduceIte, Nat.reduceEqDiff, Nat.reduceAdd, e1, e2, e3, hg0, h1.isLK, h1.len, h2.isLK, h2.len]
            simp only [go_sem, reduceIte, Nat.reduceEqDiff, Nat.reduceAdd, q27r4]
            refine size_keys m1 h1 s1 hg0 (fun n g0 g4 g6 g7 g8 g9 g10 => ?_) keys.length 0 _ _ _ _ _ _ _ (by omega)
            simp only [go_sem, reduceIte, Nat.reduceEqDiff, Nat.reduceAdd, q27r9]
            refine size_kids m1 h2 h3 h4 s2 hg0 ih (fun n g0 g4 g6 g7 g8 g9 g10 => ?_) kids.length 0 _ _ _ _ _ _ _ (by omega)
            simp only [go_sem, reduceIte, Nat.reduceEqDiff, Nat.reduceAdd, q27r14]
            exact ⟨_, rfl⟩
    obtain ⟨r', m', h1, n, rfl⟩ := key
    refine ⟨n, call_weak gflat h1 (fun x hx => ?_) (fun C vs h => ?_) rfl m⟩
    · simp only [List.mem_cons, List.not_mem_nil, or_false] at hx
      rcases hx with rfl | rfl | rfl
      · exact wa2
      · exact .int
      · exact .int
    · match vs, h with
      | [v1, v2, v3], h => exact ⟨wa3 C _ h.1, h.2.1, h.2.2.1, trivial⟩
end Go.Proofs.YtinlfdkalijffaaDoor.Am.Q

/-
  JSON, 9: far.
-/
namespace Go.Proofs.YtinlfdkalijffaaDoor.Am.Q
open Go Go.Proofs Go.Proofs.YtinlfdkalijffaaDoor.Am

theorem far_ok {T : VT} (hs : Small T) (m : Mem) {a : AV} (ha : IsVal a T) : ∃ r, CS 13 [a] m (.ret (.bool r)) m := by
  obtain ⟨a', wa1, wa2, _, wa3, _⟩ := ha.weak
  have key : ∃ r' m', CS 13 [a'] m0 (.ret r') m' ∧ ∃ r, r' = .bool r := by
    refine call_some (R := fun r' _ => ∃ r, r' = .bool r) xfok mixed q13at q13ok rfl ?_
    obtain ⟨k, t, ka, kb, rfl, sa⟩ := wa1.shape
    have hg0 : (m0.alloc (.cells 26 [.int .i64 k, .str t, ka, kb])).get m0.next = .cells 26 [.int .i64 k, .str t, ka, kb] := get_new
    simp only [go_sem, reduceIte, Nat.reduceEqDiff, Nat.reduceAdd, q13, q13r0, q13r1, sa, hg0]
    obtain ⟨n, hn⟩ := sizes hs (m0.alloc (.cells 26 [.int .i64 k, .str t, ka, kb])) _ 0 3000 wa1
    refine callW_ret hn ?_
    simp only [go_sem, reduceIte, Nat.reduceEqDiff, Nat.reduceAdd]
    exact ⟨_, rfl⟩
  obtain ⟨r', m', h1, r, rfl⟩ := key
  refine ⟨r, call_weak gflat h1 (fun x hx => ?_) (fun C vs h => ?_) rfl m⟩
  · simp only [List.mem_cons, List.not_mem_nil, or_false] at hx
    subst hx; exact wa2
  · match vs, h with
    | [v1], h => exact ⟨wa3 C _ h.1, trivial⟩
end Go.Proofs.YtinlfdkalijffaaDoor.Am.Q

/-
  JSON, 10: the law JsonGets.
-/
namespace Go.Proofs.YtinlfdkalijffaaDoor.Am.Q
open Go Go.Proofs Go.Proofs.YtinlfdkalijffaaDoor.Am

theorem small_zero : Small VT.zero := .mk (by simp) (by simp) (fun i hi => absurd hi (Nat.not_lt_zero _))
theorem small_get : ∀ {keys : List (List UInt8)} {T : VT}, Small T → Small ((getT T keys).getD VT.zero)
  | [], T, h => h
  | k :: ks, T, h => by
    simp only [getT]
    cases h with
    | @mk kd t keys kids s1 s2 s3 =>
      simp only [VT.kind, VT.keys, VT.kids]
      by_cases h6 : kd = 6
      · simp only [h6, if_true]
        cases find k keys with
        | none => exact small_zero
        | some i =>
          by_cases hi : i < kids.length
          · simp only [hi, if_true]; exact small_get (s3 i hi)
          · simp only [hi, if_false]; exact small_zero
      · simp only [h6, if_false]; exact small_zero
theorem gets_law {T : VT} {keys : List (List UInt8)} {v ks : AV} (hv : IsVal v T) (hs : Small T) (hk : SlOf 1 ks (keys.map .str)) (hlen : keys.length < 2 ^ 47) : ∃ m', CS 4 [v, ks] m0 (.ret (.bool true)) m' := by
  have key : ∃ r m', CS 4 [v, ks] m0 (.ret r) m' ∧ r = .bool true := by
    refine call_some (R := fun r _ => r = .bool true) xfok mixed q4at q4ok rfl ?_
    obtain ⟨k, t, ka, kb, rfl, sa⟩ := hv.shape
    have hg0 : (m0.alloc (.cells 26 [.int .i64 k, .str t, ka, kb])).get m0.next = .cells 26 [.int .i64 k, .str t, ka, kb] := get_new
    have hn0 : (m0.alloc (.cells 26 [.int .i64 k, .str t, ka, kb])).next = m0.next + 1 := rfl
    simp only [go_sem, reduceIte, Nat.reduceEqDiff, Nat.reduceAdd, q4, q4r0, sa]
    generalize (m0.alloc (.cells 26 [.int .i64 k, .str t, ka, kb])) = m1 at hg0 hn0
    obtain ⟨fb, hfar⟩ := far_ok hs m1 hv
    simp only [go_sem, reduceIte, Nat.reduceEqDiff, Nat.reduceAdd, q4r1, hg0]
    refine callW_ret hfar ?_
    have out : ∀ fr : List AV, True := fun _ => trivial
    cases fb
    · simp only [go_sem, reduceIte, Nat.reduceEqDiff, Nat.reduceAdd, hk.isLK, hk.len, List.length_map]
      refine boolW_intro (fun h => ?_) (fun h => ?_)
      · simp only [go_sem, reduceIte, Nat.reduceEqDiff, Nat.reduceAdd, q4r2]
        refine callW_ret (alive_ok m1) ?_
        simp only [go_sem, reduceIte, Nat.reduceEqDiff, Nat.reduceAdd]
      · simp only [go_sem, reduceIte, Nat.reduceEqDiff, Nat.reduceAdd, q4r3, hg0]
        obtain ⟨x, m2, hx1, hx2, hx3⟩ := get_ok m1 hv hs hk hlen
        refine callW_ret hx1 ?_
        obtain ⟨k1, t1, a1, b1, rfl, _⟩ := hx3.shape
        have hs1 := hx3.store
        have st1 : (m2.alloc (.cells 26 [.int .i64 0, .str [], .nilSl, .nilSl])).store 4 (.ptr m2.next 0) (.agg [.int .i64 k1, .str t1, a1, b1]) = some ((m2.alloc (.cells 26 [.int .i64 0, .str [], .nilSl, .nilSl])).set m2.next (.cells 26 [.int .i64 k1, .str t1, a1, b1])) := store_4 get_new hs1
        have hv2 : m2.get m0.next = .cells 26 [.int .i64 k, .str t, ka, kb] := by rw [hx2.get _ (by omega)]; exact hg0
        have hlt : m0.next < m2.next := by have := hx2.next; omega
        simp only [go_sem, reduceIte, Nat.reduceEqDiff, Nat.reduceAdd, List.getElem?_cons_zero, st1]
        have hm3 : ((m2.alloc (.cells 26 [.int .i64 0, .str [], .nilSl, .nilSl])).set m2.next (.cells 26 [.int .i64 k1, .str t1, a1, b1])).get m0.next = .cells 26 [.int .i64 k, .str t, ka, kb] := by
          rw [get_set_other (by omega), get_old (by omega)]; exact hv2
        have hm4 : ((m2.alloc (.cells 26 [.int .i64 0, .str [], .nilSl, .nilSl])).set m2.next (.cells 26 [.int .i64 k1, .str t1, a1, b1])).get m2.next = .cells 26 [.int .i64 k1, .str t1, a1, b1] := get_set_same
        have hm5 : ((m2.alloc (.cells 26 [.int .i64 0, .str [], .nilSl, .nilSl])).set m2.next (.cells 26 [.int .i64 k1, .str t1, a1, b1])).next = m2.next + 1 := rfl
        generalize ((m2.alloc (.cells 26 [.int .i64 0, .str [], .nilSl, .nilSl])).set m2.next (.cells 26 [.int .i64 k1, .str t1, a1, b1])) = m3 at hm3 hm4 hm5
        simp only [go_sem, reduceIte, Nat.reduceEqDiff, Nat.reduceAdd, q4r4, hm3]
        obtain ⟨y, m4, hy1, hy2, hy3⟩ := rget_ok m3 hv hs hk hlen
        refine callW_ret hy1 ?_
        obtain ⟨k2, t2, a2, b2, rfl, _⟩ := hy3.shape
        have hs2 := hy3.store
        have st2 : (m4.alloc (.cells 26 [.int .i64 0, .str [], .nilSl, .nilSl])).store 4 (.ptr m4.next 0) (.agg [.int .i64 k2, .str t2, a2, b2]) = some ((m4.alloc (.cells 26 [.int .i64 0, .str [], .nilSl, .nilSl])).set m4.next (.cells 26 [.int .i64 k2, .str t2, a2, b2])) := store_4 get_new hs2
        have hw4 : m4.get m2.next = .cells 26 [.int .i64 k1, .str t1, a1, b1] := by rw [hy2.get _ (by omega)]; exact hm4
        have hlt2 : m2.next < m4.next := by have := hy2.next; omega
        simp only [go_sem, reduceIte, Nat.reduceEqDiff, Nat.reduceAdd, List.getElem?_cons_zero, st2]
        have hm6 : ((m4.alloc (.cells 26 [.int .i64 0, .str [], .nilSl, .nilSl])).set m4.next (.cells 26 [.int .i64 k2, .str t2, a2, b2])).get m2.next = .cells 26 [.int .i64 k1, .str t1, a1, b1] := by
          rw [get_set_other (by omega), get_old (by omega)]; exact hw4
        have hm7 : ((m4.alloc (.cells 26 [.int .i64 0, .str [], .nilSl, .nilSl])).set m4.next (.cells 26 [.int .i64 k2, .str t2, a2, b2])).get m4.next = .cells 26 [.int .i64 k2, .str t2, a2, b2] := get_set_same
        generalize ((m4.alloc (.cells 26 [.int .i64 0, .str [], .nilSl, .nilSl])).set m4.next (.cells 26 [.int .i64 k2, .str t2, a2, b2])) = m5 at hm6 hm7
        simp only [go_sem, reduceIte, Nat.reduceEqDiff, Nat.reduceAdd, q4r5, hm6, hm7]
        refine callW_ret (same12 (small_get hs) _ m5 _ _ true hx3 hy3 ⟨fun _ => rfl, fun _ => rfl⟩) ?_
        simp only [go_sem, reduceIte, Nat.reduceEqDiff, Nat.reduceAdd, eqSafeB, eqV, eqL, show (true != false) = true from rfl]
        refine callW_ret (alive_ok m5) ?_
        simp only [go_sem, reduceIte, Nat.reduceEqDiff, Nat.reduceAdd]
    · simp only [go_sem, reduceIte, Nat.reduceEqDiff, Nat.reduceAdd, q4r2]
      refine callW_ret (alive_ok m1) ?_
      simp only [go_sem, reduceIte, Nat.reduceEqDiff, Nat.reduceAdd]
  obtain ⟨r, m', h, rfl⟩ := key
  exact ⟨m', h⟩
end Go.Proofs.YtinlfdkalijffaaDoor.Am.Q
