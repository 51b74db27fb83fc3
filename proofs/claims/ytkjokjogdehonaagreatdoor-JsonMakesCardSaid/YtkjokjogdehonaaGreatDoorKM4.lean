/- Part KM4 of a claim's texts, joined: what the claim needs of them. -/
import Derived.Test.YtkjokjogdehonaaGreatDoorKM3
import Derived.Test.YtkjokjogdehonaaGreatDoorKR3
import Derived.Test.YtkjokjogdehonaaGreatDoorKR4
import Derived.Test.YtkjokjogdehonaaGreatDoorKR1
set_option linter.unusedSimpArgs false
set_option linter.unusedVariables false
namespace Go.Proofs.YtkjokjogdehonaaGreatDoor.Am.Q
open Go Go.Proofs Go.Proofs.YtkjokjogdehonaaGreatDoor.Am
theorem find_mem {k : List UInt8} : ∀ {l : List (List UInt8)}, (decide (findI k l ≥ 0)) = decide (k ∈ l) := by
  intro l
  have h : ∀ l : List (List UInt8), ((find k l).isSome = true ↔ k ∈ l) := by
    intro l
    induction l with
    | nil => simp [find]
    | cons x l ih =>
      simp only [find]
      by_cases h : x = k
      · simp [h]
      · rw [if_neg h, Option.isSome_map, ih]
        simp [Ne.symm h]
  unfold findI
  cases hf : find k l with
  | none =>
    have : k ∉ l := fun hm => by
      have := (h l).2 hm
      rw [hf] at this; cases this
    simp [this]
  | some i =>
    have := (h l).1 (by rw [hf]; rfl)
    simp [this]
theorem contains_ok {a : AV} {l : List (List UInt8)} {k : List UInt8} (ha : SlOf 1 a (l.map .str)) (hl : l.length < 2 ^ 62) (m : Mem) : CS 69 [a, .str k] m (.ret (.bool (decide (k ∈ l)))) m := by
  refine call_by xfok mixed q69at q69ok rfl ?_
  simp only [go_sem, reduceIte, Nat.reduceEqDiff, Nat.reduceAdd, q69, q69r0, q69r1]
  refine callW_ret (index_ok m ha hl) ?_
  simp only [go_sem, reduceIte, Nat.reduceEqDiff, Nat.reduceAdd, find_mem]
abbrev KV := List UInt8 × VT
def IsKV (y : AV) (p : KV) : Prop := ∃ c1 c2 c3 c4, y = .agg [.str p.1, .int .i64 c1, .str c2, c3, c4] ∧ IsVal (.agg [.int .i64 c1, .str c2, c3, c4]) p.2
def KVs (ys : List AV) (l : List KV) : Prop := ys.length = l.length ∧ ∀ i, (h : i < l.length) → IsKV (ys.getD i .u) l[i]
theorem part_5 {a b c d e : AV} : part true 5 [a, b, c, d, e] 0 = some (.agg [a, b, c, d, e]) := rfl
theorem part_41 {a b c d e : AV} : part true 4 [a, b, c, d, e] 1 = some (.agg [b, c, d, e]) := rfl
theorem kv_good {k : List UInt8} {c1 : Int} {c2 : List UInt8} {c3 c4 : AV} (h1 : one c3 = true) (h2 : one c4 = true) : [AV.agg [.str k, .int .i64 c1, .str c2, c3, c4]].all (fun y => y.cells.length == 5 && y.cells.all scal) = true := by
  rw [one_scal] at h1 h2
  simp [AV.cells, scal_int, scal_str, h1, h2]
def tabF : List KV → List (List UInt8) → List VT → List (List UInt8) × List VT
  | [], ks, vs => (ks, vs)
  | (k, v) :: l, ks, vs => if repS k ∈ ks then tabF l ks vs else tabF l (ks ++ [repS k]) (vs ++ [v])
def tabT (l : List KV) : VT := .node 6 [] (tabF l [] []).1 (tabF l [] []).2
theorem vals_push {xs : List AV} {l : List VT} {x : AV} {v : VT} (h : Vals xs l) (hx : IsVal x v) : Vals (xs ++ [x]) (l ++ [v]) := by
  refine ⟨by simp [h.1], fun i hi => ?_⟩
  simp only [List.length_append, List.length_singleton] at hi
  by_cases hlt : i < l.length
  · rw [List.getD_eq_getElem?_getD, List.getElem?_append_left (by rw [h.1]; exact hlt), ← List.getD_eq_getElem?_getD]
    rw [List.getD_eq_getElem?_getD (l := l ++ [v]), List.getElem?_append_left hlt, ← List.getD_eq_getElem?_getD]
    exact h.2 i hlt
  · obtain rfl : i = l.length := by omega
    rw [List.getD_eq_getElem?_getD, List.getElem?_append_right (by rw [h.1]; exact Nat.le_refl _), h.1, Nat.sub_self]
    rw [List.getD_eq_getElem?_getD, List.getElem?_append_right (Nat.le_refl _), Nat.sub_self]
    exact hx
structure TB (p1 p2 : Nat) (m M : Mem) (ka kb : AV) (ks : List (List UInt8)) (xs : List AV) (vs : List VT) : Prop where
  ext : ExtB m.next m M
  g1 : M.get p1 = z26
  g2 : M.get p2 = .cells 27 [.int .i64 6, .str [], ka, kb]
  ma : Mine m M 9 1 ka (ks.map .str)
  mb : Mine m M 27 4 kb xs
  vals : Vals xs vs
  r1 : m.next ≤ p1
  r2 : p1 < p2
  r3 : p2 < M.next
theorem TB.obj {p1 p2 : Nat} {m M : Mem} {ka kb : AV} {ks : List (List UInt8)} {xs : List AV} {vs : List VT} (h : TB p1 p2 m M ka kb ks xs vs) (o o' : AObj) : TB p1 p2 m ((M.alloc o).set M.next o') ka kb ks xs vs :=
  have h1 := h.r1; have h2 := h.r2; have h3 := h.r3
  ⟨(h.ext.alloc o).set (by have := h.ext.next; omega) o', by rw [get_set_other (by omega), get_old (by omega)]; exact h.g1, by rw [get_set_other (by omega), get_old (by omega)]; exact h.g2, h.ma, h.mb, h.vals, h1, h2, by show p2 < M.next + 1; omega⟩
theorem TB.put {p1 p2 : Nat} {m M : Mem} {ka kb : AV} {ks : List (List UInt8)} {xs : List AV} {vs : List VT} (h : TB p1 p2 m M ka kb ks xs vs) (hks : ks.length < 2 ^ 30) (hxs : xs.length < 2 ^ 30) {key : List UInt8} {c1 : Int} {c2 : List UInt8} {c3 c4 : AV} {v : VT} (hv : IsVal (.agg [.int .i64 c1, .str c2, c3, c4]) v) (o3 : one c3 = true) (o4 : one c4 = true) :
    ∃ ka' M1, appendV M 9 1 16 ka [.str key] = some (ka', M1) ∧ M1.get = M.get ∧ one ka' = true ∧ ka'.cells = [ka'] ∧ ∃ kb' M2, appendV (M1.set p2 (.cells 27 [.int .i64 6, .str [], ka', kb])) 27 4 72 kb [.agg [.int .i64 c1, .str c2, c3, c4]] = some (kb', M2) ∧
      M2.get = (M1.set p2 (.cells 27 [.int .i64 6, .str [], ka', kb])).get ∧ one kb' = true ∧ kb'.cells = [kb'] ∧ TB p1 p2 m (M2.set p2 (.cells 27 [.int .i64 6, .str [], ka', kb'])) ka' kb' (ks ++ [key]) (xs ++ [.agg [.int .i64 c1, .str c2, c3, c4]]) (vs ++ [v]) := by
  obtain ⟨ka', M1, n1, n2, n3, n4, n5, n6⟩ := h.ma.append (bytes := 16) (ys := [.str key]) h.ext.ntok (by simp [roomMax]; omega) str_good
  have hb1 := mine_keep h.ma n1 h.mb (by decide)
  have E1 : ExtB m.next m (M1.set p2 (.cells 27 [.int .i64 6, .str [], ka', kb])) := (n5 m.next h.ext).set (by have := h.r1; have := h.r2; omega) _
  have n2' : Mine m M1 9 1 ka' ((ks ++ [key]).map .str) := by simpa using n2
  obtain ⟨kb', M2, l1, l2, l3, l4, l5, l6⟩ := Mine.append (m := M1.set p2 (.cells 27 [.int .i64 6, .str [], ka', kb])) (bytes := 72) (ys := [.agg [.int .i64 c1, .str c2, c3, c4]]) (show Mine m (M1.set p2 (.cells 27 [.int .i64 6, .str [], ka', kb])) 27 4 kb xs from hb1) E1.ntok (by simp [roomMax]; omega) (val_good o3 o4)
  have hb2 := mine_keep (show Mine m (M1.set p2 (.cells 27 [.int .i64 6, .str [], ka', kb])) 27 4 kb xs from hb1) l1 (show Mine m (M1.set p2 (.cells 27 [.int .i64 6, .str [], ka', kb])) 9 1 ka' ((ks ++ [key]).map .str) from n2') (by decide)
  have h1 := h.r1; have h2 := h.r2; have h3 := h.r3
  refine ⟨ka', M1, n1, n3, n2.sl.one, n2.sl.cells, kb', M2, l1, l3, l2.sl.one, l2.sl.cells, (l5 m.next E1).set (by omega) _, ?_, get_set_same, hb2, l2, vals_push h.vals hv, h1, h2, ?_⟩
  · rw [get_set_other (by omega), l3, get_set_other (by omega), n3]; exact h.g1
  · show p2 < M2.next
    rw [l4]; show p2 < M1.next; rw [n4]; exact h3
theorem TB.begin (m : Mem) : TB m.next (m.next + 1) m (((m.alloc z26).alloc z26).set (m.next + 1) (.cells 27 [.int .i64 6, .str [], .nilSl, .nilSl])) .nilSl .nilSl [] [] [] :=
  ⟨(((ext_extB (Ext.refl m)).alloc _).alloc _).set (by omega) _, by rw [get_set_other (by omega), get_old (by simp [Mem.alloc])]; exact get_new, get_set_same, Mine.nil, Mine.nil, ⟨rfl, fun i hi => absurd hi (Nat.not_lt_zero _)⟩, Nat.le_refl _, by omega, by simp [Mem.alloc, Mem.set]⟩
theorem TB.val {p1 p2 : Nat} {m M : Mem} {ka kb : AV} {ks : List (List UInt8)} {xs : List AV} {vs : List VT} (h : TB p1 p2 m M ka kb ks xs vs) : IsVal (.agg [.int .i64 6, .str [], ka, kb]) (.node 6 [] ks vs) := .mk h.ma.sl h.mb.sl h.vals.1 h.vals.2
theorem nx1 {M : Mem} {o : AObj} : (M.alloc o).next = M.next + 1 := rfl
theorem ptables_loop {m : Mem} {p1 p2 : Nat} {x : AV} {ys : List AV} {l : List KV} (hx : SlOf 5 x ys) (hl : KVs ys l) (hlen : l.length < 2 ^ 20) (hk : ∀ p ∈ l, p.1.length < 2 ^ 34) {Q : AExit → List AV → Mem → Prop} : ∀ (f i : Nat) (M : Mem) (ka kb g3 g4 g8 g9 : AV) (ks : List (List UInt8)) (xs : List AV) (vs : List VT),
    l.length - i ≤ f → i ≤ l.length → ks.length ≤ i → xs.length ≤ i → TB p1 p2 m M ka kb ks xs vs →
    (∀ M' ka' kb' xs' g0 g3 g4 g5 g6 g7 g8 g9, TB p1 p2 m M' ka' kb' (tabF (l.drop i) ks vs).1 xs' (tabF (l.drop i) ks vs).2 → Q (.exit 0) [g0, .ptr p1 0, .ptr p2 0, g3, g4, g5, g6, g7, g8, g9] M') →
    wl CS [0, 3, 4, 8, 9] q20l10 Q [.u, .ptr p1 0, .ptr p2 0, g3, g4, x, .int .i64 l.length, .int .i64 i, g8, g9] M := by
  intro f
  induction f with
  | zero =>
    intro i M ka kb g3 g4 g8 g9 ks xs vs hf hi h1 h2 hT hq
    have e1 : decide ((i : Int) < (l.length : Int)) = false := dF (by omega)
    refine wl_step ?_
    simp only [go_sem, reduceIte, Nat.reduceEqDiff, Nat.reduceAdd, q20l10, q20r3, e1]
    rw [List.drop_of_length_le (by omega)] at hq
    exact hq _ _ _ _ _ _ _ _ _ _ _ _ hT
  | succ f ih =>
    intro i M ka kb g3 g4 g8 g9 ks xs vs hf hi h1 h2 hT hq
    refine wl_step ?_
    by_cases hlt : i < l.length
    · have e1 : decide ((i : Int) < (l.length : Int)) = true := dT (by omega)
      obtain ⟨c1, c2, c3, c4, hy, hv⟩ := hl.2 i hlt
      have hyi : ys[((i : Nat) : Int).toNat]? = some (.agg [.str l[i].1, .int .i64 c1, .str c2, c3, c4]) := by
        rw [← hy]
        have : i < ys.length := by rw [hl.1]; exact hlt
        simp [List.getD_eq_getElem?_getD, List.getElem?_eq_getElem this]
      have hid := hx.idx (k := .i64) (i := (i : Int)) (by omega) hyi
      have w1 := wrap_succ (i := i) (by omega)
      obtain ⟨_, _, _, _, he, o3, o4⟩ := hv.ones
      cases he
      have hkl := hk l[i] (List.getElem_mem hlt)
      have hd : l.drop i = l[i] :: l.drop (i + 1) := List.drop_eq_getElem_cons hlt
      rw [hd] at hq
      have hT1 := hT.obj (.cells 107 [.str [], .int .i64 0, .str [], .nilSl, .nilSl]) (.cells 107 [.str l[i].1, .int .i64 c1, .str c2, c3, c4])
      have g2 := hT1.g2
      have gn : ((M.alloc (.cells 107 [.str [], .int .i64 0, .str [], .nilSl, .nilSl])).set M.next (.cells 107 [.str l[i].1, .int .i64 c1, .str c2, c3, c4])).get M.next = .cells 107 [.str l[i].1, .int .i64 c1, .str c2, c3, c4] := get_set_same
      have hnp : p2 ≠ M.next := by have := hT.r3; omega
      simp only [go_sem, reduceIte, Nat.reduceEqDiff, Nat.reduceAdd, q20l10, q20r3, e1, q20r4, hid, part_5, get_new, o3, o4, q20r5]
      refine callW_ret (prepair_ok (by omega) _) ?_
      generalize ((M.alloc (.cells 107 [.str [], .int .i64 0, .str [], .nilSl, .nilSl])).set M.next (.cells 107 [.str l[i].1, .int .i64 c1, .str c2, c3, c4])) = M1 at hT1 g2 gn
      simp only [go_sem, reduceIte, Nat.reduceEqDiff, Nat.reduceAdd, q20r6, g2]
      refine callW_ret (contains_ok hT1.ma.sl (by omega) _) ?_
      by_cases hin : repS l[i].1 ∈ ks
      · simp only [go_sem, reduceIte, Nat.reduceEqDiff, Nat.reduceAdd, dT hin, q20r9, w1]
        refine ih (i + 1) M1 ka kb _ _ _ _ ks xs vs (by omega) (by omega) (by omega) (by omega) hT1 ?_
        simp only [tabF, if_pos hin] at hq
        exact hq
      · obtain ⟨ka', M2, n1, n2, n3, n4, kb', M3, l1, l2, l3, l4, hT3⟩ := hT1.put (key := repS l[i].1) (by omega) (by omega) hv o3 o4
        have g2' : M2.get p2 = .cells 27 [.int .i64 6, .str [], ka, kb] := by rw [n2]; exact g2
        have gn2 : (M2.set p2 (.cells 27 [.int .i64 6, .str [], ka', kb])).get M.next = .cells 107 [.str l[i].1, .int .i64 c1, .str c2, c3, c4] := by rw [get_set_other (Ne.symm hnp), n2]; exact gn
        have g3' : M3.get p2 = .cells 27 [.int .i64 6, .str [], ka', kb] := by rw [l2]; exact get_set_same
        have kb1 := hT1.mb.sl.one
        have kb2 := hT1.mb.sl.cells
        simp only [go_sem, reduceIte, Nat.reduceEqDiff, Nat.reduceAdd, dF hin, q20r7, g2, elems_sl, n1, g2', n3, n4, kb1, q20r8, part_41, gn2, o3, o4, l1, g3', l3, l4, q20r9, w1]
        refine ih (i + 1) _ ka' kb' _ _ _ _ (ks ++ [repS l[i].1]) _ (vs ++ [l[i].2]) (by omega) (by omega) (by simp; omega) (by simp; omega) hT3 ?_
        simp only [tabF, if_neg hin] at hq
        exact hq
    · have e1 : decide ((i : Int) < (l.length : Int)) = false := dF (by omega)
      simp only [go_sem, reduceIte, Nat.reduceEqDiff, Nat.reduceAdd, q20l10, q20r3, e1]
      rw [List.drop_of_length_le (by omega)] at hq
      exact hq _ _ _ _ _ _ _ _ _ _ _ _ hT
theorem ptables_ok {x : AV} {ys : List AV} {l : List KV} (hx : SlOf 5 x ys) (hl : KVs ys l) (hlen : l.length < 2 ^ 20) (hk : ∀ p ∈ l, p.1.length < 2 ^ 34) (m : Mem) : ∃ v m', CS 20 [x] m (.ret v) m' ∧ IsVal v (tabT l) ∧ Ext m m' := by
  refine call_some (R := fun v m' => IsVal v (tabT l) ∧ Ext m m') xfok mixed q20at q20ok rfl ?_
  have hb := TB.begin m
  have gA : ((m.alloc z26).alloc z26).get (m.next + 1) = z26 := get_new
  simp only [go_sem, reduceIte, Nat.reduceEqDiff, Nat.reduceAdd, q20, q20r0, q20r1, nx1, gA, q20r2, hx.isLK, hx.len, hl.1]
  refine ptables_loop hx hl hlen hk l.length 0 _ _ _ _ _ _ _ [] [] [] (by omega) (by omega) (by simp) (by simp) hb (fun M' ka' kb' xs' g0 g3 g4 g5 g6 g7 g8 g9 hT => ?_)
  rw [List.drop_zero] at hT
  have g1 := hT.g1
  have g2 := hT.g2
  have h1 := hT.ma.sl.one
  have h2 := hT.mb.sl.one
  simp only [go_sem, reduceIte, Nat.reduceEqDiff, Nat.reduceAdd, q20r11, g2, g1, h1, h2]
  exact ⟨hT.val, extB_ext (hT.ext.set hT.r1 _) (Nat.le_refl _)⟩
end Go.Proofs.YtkjokjogdehonaaGreatDoor.Am.Q
namespace Go.Proofs.YtkjokjogdehonaaGreatDoor.Am.Q
open Go Go.Proofs Go.Proofs.YtkjokjogdehonaaGreatDoor.Am
theorem rtables_loop {m : Mem} {p1 p2 : Nat} {x : AV} {ys : List AV} {l : List KV} (hx : SlOf 5 x ys) (hl : KVs ys l) (hlen : l.length < 2 ^ 20) (hk : ∀ p ∈ l, p.1.length < 2 ^ 34) {Q : AExit → List AV → Mem → Prop} : ∀ (f i : Nat) (M : Mem) (ka kb g4 g5 g6 : AV) (ks : List (List UInt8)) (xs : List AV) (vs : List VT),
    l.length - i ≤ f → i ≤ l.length → ks.length ≤ i → xs.length ≤ i → TB p1 p2 m M ka kb ks xs vs →
    (∀ M' ka' kb' xs' g3 g4 g5 g6, TB p1 p2 m M' ka' kb' (tabF (l.drop i) ks vs).1 xs' (tabF (l.drop i) ks vs).2 → Q (.exit 0) [x, .ptr p1 0, .ptr p2 0, g3, g4, g5, g6] M') →
    wl CS [4, 5, 6] q22l9 Q [x, .ptr p1 0, .ptr p2 0, .int .i64 i, g4, g5, g6] M := by
  intro f
  induction f with
  | zero =>
    intro i M ka kb g4 g5 g6 ks xs vs hf hi h1 h2 hT hq
    have e1 : decide ((i : Int) < (l.length : Int)) = false := dF (by omega)
    refine wl_step ?_
    simp only [go_sem, reduceIte, Nat.reduceEqDiff, Nat.reduceAdd, q22l9, q22r3, hx.isLK, hx.len, hl.1, e1]
    rw [List.drop_of_length_le (by omega)] at hq
    exact hq _ _ _ _ _ _ _ _ hT
  | succ f ih =>
    intro i M ka kb g4 g5 g6 ks xs vs hf hi h1 h2 hT hq
    refine wl_step ?_
    by_cases hlt : i < l.length
    · have e1 : decide ((i : Int) < (l.length : Int)) = true := dT (by omega)
      obtain ⟨c1, c2, c3, c4, hy, hv⟩ := hl.2 i hlt
      have hyi : ys[((i : Nat) : Int).toNat]? = some (.agg [.str l[i].1, .int .i64 c1, .str c2, c3, c4]) := by
        rw [← hy]
        have : i < ys.length := by rw [hl.1]; exact hlt
        simp [List.getD_eq_getElem?_getD, List.getElem?_eq_getElem this]
      have hid := hx.idx (k := .i64) (i := (i : Int)) (by omega) hyi
      have w1 := wrap_succ (i := i) (by omega)
      obtain ⟨_, _, _, _, he, o3, o4⟩ := hv.ones
      cases he
      have hkl := hk l[i] (List.getElem_mem hlt)
      have hd : l.drop i = l[i] :: l.drop (i + 1) := List.drop_eq_getElem_cons hlt
      rw [hd] at hq
      have g2 := hT.g2
      simp only [go_sem, reduceIte, Nat.reduceEqDiff, Nat.reduceAdd, q22l9, q22r3, hx.isLK, hx.len, hl.1, e1, q22r4, hid]
      refine callW_ret (rrepair_ok (by omega) _) ?_
      simp only [go_sem, reduceIte, Nat.reduceEqDiff, Nat.reduceAdd, q22r5, g2]
      refine callW_ret (has_ok M hT.ma.sl (by omega)) ?_
      by_cases hin : repS l[i].1 ∈ ks
      · simp only [go_sem, reduceIte, Nat.reduceEqDiff, Nat.reduceAdd, dT hin, q22r8, w1]
        refine ih (i + 1) M ka kb _ _ _ ks xs vs (by omega) (by omega) (by omega) (by omega) hT ?_
        simp only [tabF, if_pos hin] at hq
        exact hq
      · obtain ⟨ka', M2, n1, n2, n3, n4, kb', M3, l1, l2, l3, l4, hT3⟩ := hT.put (key := repS l[i].1) (by omega) (by omega) hv o3 o4
        have g2' : M2.get p2 = .cells 27 [.int .i64 6, .str [], ka, kb] := by rw [n2]; exact g2
        have g3' : M3.get p2 = .cells 27 [.int .i64 6, .str [], ka', kb] := by rw [l2]; exact get_set_same
        have kb1 := hT.mb.sl.one
        simp only [go_sem, reduceIte, Nat.reduceEqDiff, Nat.reduceAdd, dF hin, q22r6, g2, elems_sl, n1, g2', n3, n4, kb1, q22r7, hid, part_41, o3, o4, l1, g3', l3, l4, q22r8, w1]
        refine ih (i + 1) _ ka' kb' _ _ _ (ks ++ [repS l[i].1]) _ (vs ++ [l[i].2]) (by omega) (by omega) (by simp; omega) (by simp; omega) hT3 ?_
        simp only [tabF, if_neg hin] at hq
        exact hq
    · have e1 : decide ((i : Int) < (l.length : Int)) = false := dF (by omega)
      simp only [go_sem, reduceIte, Nat.reduceEqDiff, Nat.reduceAdd, q22l9, q22r3, hx.isLK, hx.len, hl.1, e1]
      rw [List.drop_of_length_le (by omega)] at hq
      exact hq _ _ _ _ _ _ _ _ hT
theorem rtables_ok {x : AV} {ys : List AV} {l : List KV} (hx : SlOf 5 x ys) (hl : KVs ys l) (hlen : l.length < 2 ^ 20) (hk : ∀ p ∈ l, p.1.length < 2 ^ 34) (m : Mem) : ∃ v m', CS 22 [x] m (.ret v) m' ∧ IsVal v (tabT l) ∧ Ext m m' := by
  refine call_some (R := fun v m' => IsVal v (tabT l) ∧ Ext m m') xfok mixed q22at q22ok rfl ?_
  have hb := TB.begin m
  have gA : ((m.alloc z26).alloc z26).get (m.next + 1) = z26 := get_new
  simp only [go_sem, reduceIte, Nat.reduceEqDiff, Nat.reduceAdd, q22, q22r0, q22r1, nx1, gA, q22r2]
  refine rtables_loop hx hl hlen hk l.length 0 _ _ _ _ _ _ [] [] [] (by omega) (by omega) (by simp) (by simp) hb (fun M' ka' kb' xs' g3 g4 g5 g6 hT => ?_)
  rw [List.drop_zero] at hT
  have g1 := hT.g1
  have g2 := hT.g2
  have h1 := hT.ma.sl.one
  have h2 := hT.mb.sl.one
  simp only [go_sem, reduceIte, Nat.reduceEqDiff, Nat.reduceAdd, q22r10, g2, g1, h1, h2]
  exact ⟨hT.val, extB_ext (hT.ext.set hT.r1 _) (Nat.le_refl _)⟩
theorem theirs_loop {m : Mem} {x : AV} {ys : List AV} {l : List KV} (hx : SlOf 5 x ys) (hl : KVs ys l) (hlen : l.length < 2 ^ 20) {Q : AExit → List AV → Mem → Prop} : ∀ (f i : Nat) (M : Mem) (out g0 g1 g3 g7 : AV),
    l.length - i ≤ f → i ≤ l.length → ExtB m.next m M → Mine m M 107 5 out (ys.take i) →
    (∀ M' out' g0 g1 g3 g4 g5 g6 g7, ExtB m.next m M' → Mine m M' 107 5 out' ys → Q (.exit 0) [g0, g1, out', g3, g4, g5, g6, g7] M') →
    wl CS [0, 1, 3, 7] q21l7 Q [g0, g1, out, g3, x, .int .i64 l.length, .int .i64 i, g7] M := by
  intro f
  induction f with
  | zero =>
    intro i M out g0 g1 g3 g7 hf hi hE hM hq
    have e1 : decide ((i : Int) < (l.length : Int)) = false := dF (by omega)
    refine wl_step ?_
    simp only [go_sem, reduceIte, Nat.reduceEqDiff, Nat.reduceAdd, q21l7, q21r3, e1]
    rw [List.take_of_length_le (by rw [hl.1]; omega)] at hM
    exact hq _ _ _ _ _ _ _ _ _ hE hM
  | succ f ih =>
    intro i M out g0 g1 g3 g7 hf hi hE hM hq
    refine wl_step ?_
    by_cases hlt : i < l.length
    · have e1 : decide ((i : Int) < (l.length : Int)) = true := dT (by omega)
      obtain ⟨c1, c2, c3, c4, hy, hv⟩ := hl.2 i hlt
      have hys : i < ys.length := by rw [hl.1]; exact hlt
      have hyi : ys[i]? = some (.agg [.str l[i].1, .int .i64 c1, .str c2, c3, c4]) := by
        rw [← hy]
        simp [List.getD_eq_getElem?_getD, List.getElem?_eq_getElem hys]
      have hid := hx.idx (k := .i64) (i := (i : Int)) (by omega) (show ys[((i : Nat) : Int).toNat]? = _ from hyi)
      have w1 := wrap_succ (i := i) (by omega)
      obtain ⟨_, _, _, _, he, o3, o4⟩ := hv.ones
      cases he
      have hM1 : Mine m ((M.alloc (.cells 29 [.str [], .int .i64 0, .str [], .nilSl, .nilSl])).set M.next (.cells 29 [.str l[i].1, .int .i64 c1, .str c2, c3, c4])) 107 5 out (ys.take i) := hM
      have hE1 : ExtB m.next m ((M.alloc (.cells 29 [.str [], .int .i64 0, .str [], .nilSl, .nilSl])).set M.next (.cells 29 [.str l[i].1, .int .i64 c1, .str c2, c3, c4])) := (hE.alloc _).set hE.next _
      have gn : ((M.alloc (.cells 29 [.str [], .int .i64 0, .str [], .nilSl, .nilSl])).set M.next (.cells 29 [.str l[i].1, .int .i64 c1, .str c2, c3, c4])).get M.next = .cells 29 [.str l[i].1, .int .i64 c1, .str c2, c3, c4] := get_set_same
      obtain ⟨out', M2, n1, n2, n3, n4, n5, n6⟩ := hM1.append (bytes := 88) (ys := [.agg [.str l[i].1, .int .i64 c1, .str c2, c3, c4]]) hE1.ntok (by simp [roomMax]; omega) (kv_good o3 o4)
      have ht : ys.take i ++ [.agg [.str l[i].1, .int .i64 c1, .str c2, c3, c4]] = ys.take (i + 1) := by rw [List.take_add_one, hyi]; rfl
      rw [ht] at n2
      simp only [go_sem, reduceIte, Nat.reduceEqDiff, Nat.reduceAdd, q21l7, q21r3, e1, q21r4, hid, part_5, get_new, o3, o4, q21r5, part_41, elems_sl, n1, q21r6, w1]
      exact ih (i + 1) M2 out' _ _ _ _ (by omega) (by omega) (n5 _ hE1) n2 hq
    · have e1 : decide ((i : Int) < (l.length : Int)) = false := dF (by omega)
      simp only [go_sem, reduceIte, Nat.reduceEqDiff, Nat.reduceAdd, q21l7, q21r3, e1]
      rw [List.take_of_length_le (by rw [hl.1]; omega)] at hM
      exact hq _ _ _ _ _ _ _ _ _ hE hM
theorem theirs_ok {x : AV} {ys : List AV} {l : List KV} (hx : SlOf 5 x ys) (hl : KVs ys l) (hlen : l.length < 2 ^ 20) (m : Mem) : ∃ v m', CS 21 [x] m (.ret v) m' ∧ SlOf 5 v ys ∧ Ext m m' := by
  refine call_some (R := fun v m' => SlOf 5 v ys ∧ Ext m m') xfok mixed q21at q21ok rfl ?_
  simp only [go_sem, reduceIte, Nat.reduceEqDiff, Nat.reduceAdd, q21, q21r0, q21r1, q21r2, hx.isLK, hx.len, hl.1]
  refine theirs_loop hx hl hlen l.length 0 m _ _ _ _ _ (by omega) (by omega) (ext_extB (Ext.refl m)) (by rw [List.take_zero]; exact Mine.nil) (fun M' out' g0 g1 g3 g4 g5 g6 g7 hE hM => ?_)
  simp only [go_sem, reduceIte, Nat.reduceEqDiff, Nat.reduceAdd, q21r8]
  exact ⟨hM.sl, extB_ext hE (Nat.le_refl _)⟩
end Go.Proofs.YtkjokjogdehonaaGreatDoor.Am.Q
namespace Go.Proofs.YtkjokjogdehonaaGreatDoor.Am.Q
open Go Go.Proofs Go.Proofs.YtkjokjogdehonaaGreatDoor.Am
theorem tab_small : ∀ {l : List KV} {ks : List (List UInt8)} {vs : List VT}, (∀ p ∈ l, Small p.2) → (∀ v ∈ vs, Small v) → (∀ v ∈ (tabF l ks vs).2, Small v) ∧ (tabF l ks vs).1.length ≤ ks.length + l.length ∧ (tabF l ks vs).2.length ≤ vs.length + l.length
  | [], ks, vs, _, h => ⟨h, by simp [tabF], by simp [tabF]⟩
  | (k, v) :: l, ks, vs, hl, h => by
    simp only [tabF]
    split
    · obtain ⟨h1, h2, h3⟩ := tab_small (l := l) (ks := ks) (vs := vs) (fun p hp => hl p (by simp [hp])) h
      exact ⟨h1, by simp only [List.length_cons]; omega, by simp only [List.length_cons]; omega⟩
    · obtain ⟨h1, h2, h3⟩ := tab_small (l := l) (ks := ks ++ [repS k]) (vs := vs ++ [v]) (fun p hp => hl p (by simp [hp])) (fun x hx => by
        rcases List.mem_append.1 hx with hx | hx
        · exact h x hx
        · rw [List.mem_singleton.1 hx]; exact hl (k, v) (by simp))
      simp only [List.length_append, List.length_singleton] at h2 h3
      exact ⟨h1, by simp only [List.length_cons]; omega, by simp only [List.length_cons]; omega⟩
theorem makes_loop {s : List UInt8} {n : Int} {x : AV} {ys : List AV} {l : List KV} (hx : SlOf 5 x ys) (hl : KVs ys l) (hlen : l.length < 2 ^ 20) (hsm : ∀ p ∈ l, Small p.2) {Q : AExit → List AV → Mem → Prop}
    (hr : ∀ m g1 g2 g3 g4 g5 g6 g7 g8 g9 g10 g11 g12 g13 g14, Q .ret [g1, g2, g3, .bool true, g4, g5, g6, g7, g8, g9, g10, g11, g12, g13, g14] m) : ∀ (f i : Nat) (M : Mem) (kids : AV) (xs : List AV) (g3 g5 g6 g7 g8 g12 g13 g14 : AV),
    l.length - i ≤ f → i ≤ l.length → Mine m0 M 27 4 kids xs → Vals xs ((l.take i).map (·.2)) → (∀ p ∈ l.take i, p.1.length ≤ 300) →
    (∀ M' kids' xs' g3 g5 g6 g7 g8 g9 g10 g11 g12 g13 g14, Mine m0 M' 27 4 kids' xs' → Vals xs' (l.map (·.2)) → (∀ p ∈ l, p.1.length ≤ 300) → Q (.exit 0) [.str s, .int .i64 n, x, g3, kids', g5, g6, g7, g8, g9, g10, g11, g12, g13, g14] M') →
    wl CS [3, 5, 6, 7, 8, 12, 13, 14] q3l11 Q [.str s, .int .i64 n, x, g3, kids, g5, g6, g7, g8, x, .int .i64 l.length, .int .i64 i, g12, g13, g14] M := by
  intro f
  induction f with
  | zero =>
    intro i M kids xs g3 g5 g6 g7 g8 g12 g13 g14 hf hi hM hV h300 hq
    have e1 : decide ((i : Int) < (l.length : Int)) = false := dF (by omega)
    refine wl_step ?_
    simp only [go_sem, reduceIte, Nat.reduceEqDiff, Nat.reduceAdd, q3l11, q3r5, e1]
    rw [List.take_of_length_le (by omega)] at hV h300
    exact hq _ _ _ _ _ _ _ _ _ _ _ _ _ _ hM hV h300
  | succ f ih =>
    intro i M kids xs g3 g5 g6 g7 g8 g12 g13 g14 hf hi hM hV h300 hq
    refine wl_step ?_
    by_cases hlt : i < l.length
    · have e1 : decide ((i : Int) < (l.length : Int)) = true := dT (by omega)
      obtain ⟨c1, c2, c3, c4, hy, hv⟩ := hl.2 i hlt
      have hys : i < ys.length := by rw [hl.1]; exact hlt
      have hyi : ys[i]? = some (.agg [.str l[i].1, .int .i64 c1, .str c2, c3, c4]) := by
        rw [← hy]
        simp [List.getD_eq_getElem?_getD, List.getElem?_eq_getElem hys]
      have hid := hx.idx (k := .i64) (i := (i : Int)) (by omega) (show ys[((i : Nat) : Int).toNat]? = _ from hyi)
      have w1 := wrap_succ (i := i) (by omega)
      obtain ⟨_, _, _, _, he, o3, o4⟩ := hv.ones
      cases he
      have hM1 : Mine m0 ((M.alloc (.cells 29 [.str [], .int .i64 0, .str [], .nilSl, .nilSl])).set M.next (.cells 29 [.str l[i].1, .int .i64 c1, .str c2, c3, c4])) 27 4 kids xs := hM
      have gn : ((M.alloc (.cells 29 [.str [], .int .i64 0, .str [], .nilSl, .nilSl])).set M.next (.cells 29 [.str l[i].1, .int .i64 c1, .str c2, c3, c4])).get M.next = .cells 29 [.str l[i].1, .int .i64 c1, .str c2, c3, c4] := get_set_same
      generalize hM1e : ((M.alloc (.cells 29 [.str [], .int .i64 0, .str [], .nilSl, .nilSl])).set M.next (.cells 29 [.str l[i].1, .int .i64 c1, .str c2, c3, c4])) = M1 at hM1 gn
      obtain ⟨r, hfar⟩ := far_ok (hsm l[i] (List.getElem_mem hlt)) M1 hv
      simp only [go_sem, reduceIte, Nat.reduceEqDiff, Nat.reduceAdd, q3l11, q3r5, e1, q3r6, hid, part_5, get_new, o3, o4, hM1e, q3r7, gn, part_41]
      refine callW_ret hfar ?_
      cases r with
      | true =>
        simp only [go_sem, reduceIte, Nat.reduceEqDiff, Nat.reduceAdd, q3r8]
        refine callW_ret (alive_ok M1) ?_
        simp only [go_sem, reduceIte, Nat.reduceEqDiff, Nat.reduceAdd]
        exact hr _ _ _ _ _ _ _ _ _ _ _ _ _ _ _
      | false =>
        by_cases h3 : 300 < l[i].1.length
        · have e3 : decide (((l[i].1.length : Nat) : Int) > 300) = true := dT (by omega)
          simp only [go_sem, reduceIte, Nat.reduceEqDiff, Nat.reduceAdd, gn, e3, q3r8]
          refine callW_ret (alive_ok M1) ?_
          simp only [go_sem, reduceIte, Nat.reduceEqDiff, Nat.reduceAdd]
          exact hr _ _ _ _ _ _ _ _ _ _ _ _ _ _ _
        · have e3 : decide (((l[i].1.length : Nat) : Int) > 300) = false := dF (by omega)
          have hxl : xs.length ≤ i := by have := hV.1; rw [List.length_map, List.length_take] at this; omega
          obtain ⟨kids', M2, n1, n2, n3, n4, n5, n6⟩ := hM1.append (bytes := 72) (ys := [.agg [.int .i64 c1, .str c2, c3, c4]]) (Nat.zero_le _) (by simp [roomMax]; omega) (val_good o3 o4)
          simp only [go_sem, reduceIte, Nat.reduceEqDiff, Nat.reduceAdd, gn, e3, q3r9, part_41, o3, o4, elems_sl, n1, q3r10, w1]
          have ht : l.take (i + 1) = l.take i ++ [l[i]] := by rw [List.take_add_one, List.getElem?_eq_getElem hlt]; rfl
          refine ih (i + 1) M2 kids' _ _ _ _ _ _ _ _ _ (by omega) (by omega) n2 ?_ ?_ hq
          · rw [ht, List.map_append]; exact vals_push hV hv
          · rw [ht]
            intro p hp
            rcases List.mem_append.1 hp with hp | hp
            · exact h300 p hp
            · rw [List.mem_singleton.1 hp]; omega
    · have e1 : decide ((i : Int) < (l.length : Int)) = false := dF (by omega)
      simp only [go_sem, reduceIte, Nat.reduceEqDiff, Nat.reduceAdd, q3l11, q3r5, e1]
      rw [List.take_of_length_le (by omega)] at hV h300
      exact hq _ _ _ _ _ _ _ _ _ _ _ _ _ _ hM hV h300
end Go.Proofs.YtkjokjogdehonaaGreatDoor.Am.Q
namespace Go.Proofs.YtkjokjogdehonaaGreatDoor.Am.Q
open Go Go.Proofs Go.Proofs.YtkjokjogdehonaaGreatDoor.Am
def lay2 (m : Mem) (cs : List AV) (w k : Int) : Mem := (((m.alloc z26).alloc zFault).set m.next (.cells 27 cs)).set (m.next + 1) (.cells 41 [.int .i64 w, .int .i64 k])
theorem lay2_eq {m : Mem} {cs : List AV} {w k : Int} : (((m.alloc z26).alloc zFault).set m.next (.cells 27 cs)).set (m.next + 1) (.cells 41 [.int .i64 w, .int .i64 k]) = lay2 m cs w k := rfl
theorem lay2_z {m : Mem} : ((m.alloc z26).alloc zFault).get m.next = z26 := by rw [get_old (by simp [Mem.alloc])]; exact get_new
theorem lay2_f {m : Mem} {o : AObj} : (((m.alloc z26).alloc zFault).set m.next o).get (m.next + 1) = zFault := by rw [get_set_other (by omega)]; exact get_new
theorem lay2_a {m : Mem} {cs : List AV} {w k : Int} : (lay2 m cs w k).get m.next = .cells 27 cs := by unfold lay2; rw [get_set_other (by omega)]; exact get_set_same
theorem lay2_b {m : Mem} {cs : List AV} {w k : Int} : (lay2 m cs w k).get (m.next + 1) = .cells 41 [.int .i64 w, .int .i64 k] := get_set_same
theorem flt_zero : eqV (.struct [(0, .int), (1, .int)]) (.agg [.int .i64 0, .int .i64 0]) (.agg [.int .i64 0, .int .i64 0]) = some true := by simp [eqV, eqFs, eqL]
theorem sB_agg (M : Mem) (x y : List AV) : eqSafeB M (.agg x) (.agg y) = true := rfl
theorem pad_len (n : Int) : (padS n 1).length ≤ 21 := by
  have h := padF_len (f := 20) (left := n.natAbs) (need := (max (min (1 : Int) 20) 1).toNat)
  unfold padS
  rw [List.length_append, List.length_reverse]
  split <;> simp only [List.length_cons, List.length_nil] <;> omega
theorem parse_pad {n : Int} (hn : n.natAbs < 10 ^ 20) : parseT (padS n 1) = (.node 3 (padS n 1) [] [], 0, 0) := by
  have hm : mayT (.node 3 (padS n 1) [] []) = true := by
    simp [mayT, goodT, goodL, oneS, bareS, num_pad n hn, nodesT, nodesL]
  have := parseT_text hm (by
    have := pad_len n
    simp only [textT]
    rw [if_neg (by decide), if_neg (by decide), if_neg (by decide), if_neg (by decide)]; omega)
  have e : textT (.node 3 (padS n 1) [] []) = padS n 1 := by
    simp only [textT]
    rw [if_neg (by decide), if_neg (by decide), if_neg (by decide), if_neg (by decide)]
  rwa [e] at this
theorem may_bools (b : Bool) : mayT (.node 2 (if b = true then tTrue else tFalse) [] []) = true ∧ Fit (.node 2 (if b = true then tTrue else tFalse) [] []) := by
  cases b <;> exact ⟨by decide, .mk (by simp) (by simp) (by simp [tTrue, tFalse]) (by simp) (fun i hi => absurd hi (Nat.not_lt_zero _))⟩
theorem makes_law {s : List UInt8} {n : Int} {x : AV} {ys : List AV} {l : List KV} (hn : -(2 ^ 63) ≤ n ∧ n < 2 ^ 63) (hx : SlOf 5 x ys) (hl : KVs ys l) (hsm : ∀ p ∈ l, Small p.2) : ∃ m', CS 3 [.str s, .int .i64 n, x] m0 (.ret (.bool true)) m' := by
  have key : ∃ r m', CS 3 [.str s, .int .i64 n, x] m0 (.ret r) m' ∧ r = .bool true := by
    refine call_some (R := fun r _ => r = .bool true) xfok mixed q3at q3ok rfl ?_
    by_cases h3 : 3000 < s.length
    · have e1 : decide ((s.length : Int) > 3000) = true := dT (by omega)
      simp only [go_sem, reduceIte, Nat.reduceEqDiff, Nat.reduceAdd, q3, q3r0, q3r1, e1, q3r2]
      refine callW_ret (alive_ok m0) ?_
      simp only [go_sem, reduceIte, Nat.reduceEqDiff, Nat.reduceAdd]
    have e1 : decide ((s.length : Int) > 3000) = false := dF (by omega)
    by_cases h40 : 40 < l.length
    · have e2 : decide ((l.length : Int) > 40) = true := dT (by omega)
      simp only [go_sem, reduceIte, Nat.reduceEqDiff, Nat.reduceAdd, q3, q3r0, q3r1, e1, hx.isLK, hx.len, hl.1, e2, q3r2]
      refine callW_ret (alive_ok m0) ?_
      simp only [go_sem, reduceIte, Nat.reduceEqDiff, Nat.reduceAdd]
    have e2 : decide ((l.length : Int) > 40) = false := dF (by omega)
    simp only [go_sem, reduceIte, Nat.reduceEqDiff, Nat.reduceAdd, q3, q3r0, q3r1, e1, hx.isLK, hx.len, hl.1, e2, q3r3, q3r4]
    refine makes_loop hx hl (by omega) hsm (fun m g1 g2 g3 g4 g5 g6 g7 g8 g9 g10 g11 g12 g13 g14 => ?_) l.length 0 m0 .nilSl [] _ _ _ _ _ _ _ _ (by omega) (by omega) Mine.nil ⟨rfl, fun i hi => absurd hi (Nat.not_lt_zero _)⟩ (by simp) (fun M kids xs g3 g5 g6 g7 g8 g9 g10 g11 g12 g13 g14 hM hV h300 => ?_)
    · simp only [go_sem, reduceIte, Nat.reduceEqDiff, Nat.reduceAdd]
    have hk := hM.sl
    have h300' : ∀ p ∈ l, p.1.length < 2 ^ 34 := fun p hp => by have := h300 p hp; omega
    have hls : ∀ v ∈ l.map (·.2), Small v := fun v hv => by
      obtain ⟨p, hp, rfl⟩ := List.mem_map.1 hv
      exact hsm p hp
    obtain ⟨t1, t2, t3⟩ := tab_small (l := l) (ks := []) (vs := []) hsm (by simp)
    obtain ⟨v1, m1, k1, rfl, x1⟩ := pquote_ok (s := s) (by omega) M
    obtain ⟨v2, m2, k2, rfl, x2⟩ := rquote_ok (s := s) (by omega) m1
    obtain ⟨v3, m3, k3, rfl, x3⟩ := pof_ok (s := s) (by omega) m2
    obtain ⟨v4, m4, k4, i4, x4⟩ := plists_ok hk hV (by rw [List.length_map]; omega) m3
    obtain ⟨v5, m5, k5, i5, x5⟩ := theirs_ok hx hl (by omega) m4
    obtain ⟨v6, m6, k6, i6, x6⟩ := ptables_ok i5 hl (by omega) h300' m5
    obtain ⟨v7, m7, k7, i7, x7⟩ := rtables_ok hx hl (by omega) h300' m6
    obtain ⟨v8, m8, k8, rfl, x8⟩ := pints_ok hn m7
    obtain ⟨v9, m9, k9, a9, rfl, i9, x9⟩ := rparse_any (padS n 1) m8
    rw [parse_pad (by omega)] at k9 i9
    have sm1 : Small (.node 4 (repS s) [] []) := small_leaf
    have sm2 : Small (.node 5 [] [] (l.map (·.2))) := small_kids (by simp) (by rw [List.length_map]; omega) hls
    have sm3 : Small (tabT l) := small_kids (by simp at t2; omega) (by simp at t3; omega) t1
    have sm4 : Small (.node 3 (padS n 1) [] []) := small_leaf
    have s1 := same12 sm1 _ m3 _ _ true leaf_val leaf_val ⟨fun _ => rfl, fun _ => rfl⟩
    have iL : IsVal (.agg [.int .i64 5, .str [], .nilSl, kids]) (.node 5 [] [] (l.map (·.2))) := .mk (.inl ⟨rfl, rfl⟩) hk hV.1 hV.2
    have s2 := same12 sm2 _ m4 _ _ true i4 iL ⟨fun _ => rfl, fun _ => rfl⟩
    have s3 := same12 sm3 _ m7 _ _ true i6 i7 ⟨fun _ => rfl, fun _ => rfl⟩
    obtain ⟨d1, d2, d3, d4, rfl, o1, o2⟩ := i9.ones
    simp only [go_sem, reduceIte, Nat.reduceEqDiff, Nat.reduceAdd, q3r12]
    refine callW_ret k1 ?_
    simp only [go_sem, reduceIte, Nat.reduceEqDiff, Nat.reduceAdd]
    refine callW_ret k2 ?_
    simp only [go_sem, reduceIte, Nat.reduceEqDiff, Nat.reduceAdd]
    refine callW_ret k3 ?_
    simp only [go_sem, reduceIte, Nat.reduceEqDiff, Nat.reduceAdd]
    refine callW_ret (rrepair_ok (by omega) m3) ?_
    simp only [go_sem, reduceIte, Nat.reduceEqDiff, Nat.reduceAdd]
    refine callW_ret s1 ?_
    simp only [go_sem, reduceIte, Nat.reduceEqDiff, Nat.reduceAdd]
    refine callW_ret k4 ?_
    simp only [go_sem, reduceIte, Nat.reduceEqDiff, Nat.reduceAdd, hk.one, hk.cells]
    refine callW_ret s2 ?_
    simp only [go_sem, reduceIte, Nat.reduceEqDiff, Nat.reduceAdd]
    refine callW_ret k5 ?_
    simp only [go_sem, reduceIte, Nat.reduceEqDiff, Nat.reduceAdd]
    refine callW_ret k6 ?_
    simp only [go_sem, reduceIte, Nat.reduceEqDiff, Nat.reduceAdd]
    refine callW_ret k7 ?_
    simp only [go_sem, reduceIte, Nat.reduceEqDiff, Nat.reduceAdd]
    refine callW_ret s3 ?_
    simp only [go_sem, reduceIte, Nat.reduceEqDiff, Nat.reduceAdd, q3r14]
    refine callW_ret k8 ?_
    simp only [go_sem, reduceIte, Nat.reduceEqDiff, Nat.reduceAdd]
    refine callW_ret k9 ?_
    simp only [go_sem, reduceIte, Nat.reduceEqDiff, Nat.reduceAdd, nx1, lay2_z, o1, o2, lay2_f, lay2_eq]
    generalize hW : lay2 m9 [.int .i64 d1, .str d2, d3, d4] 0 ((0 : Nat) : Int) = W
    have w1 : W.get m9.next = .cells 27 [.int .i64 d1, .str d2, d3, d4] := by rw [← hW]; exact lay2_a
    have w2 : W.get (m9.next + 1) = .cells 41 [.int .i64 0, .int .i64 0] := by rw [← hW]; exact lay2_b
    have w3 : W.next = m9.next + 2 := by rw [← hW]; rfl
    obtain ⟨v10, m10, k10, rfl, x10⟩ := pints_ok hn W
    have s4 := same12 sm4 _ m10 _ _ true i9 (leaf_val (k := 3) (t := padS n 1)) ⟨fun _ => rfl, fun _ => rfl⟩
    obtain ⟨v11, m11, k11, rfl, x11⟩ := pbools_ok true m10
    obtain ⟨v12, m12, k12, rfl, x12⟩ := pbools_ok false m11
    obtain ⟨v13, m13, k13, rfl, x13⟩ := pbools_ok (decide (n > 0)) m12
    obtain ⟨mb, fb⟩ := may_bools (decide (n > 0))
    obtain ⟨v14, m14, k14, rfl, x14⟩ := rmay_ok fb (leaf_val (k := 2) (t := if decide (n > 0) = true then tTrue else tFalse)) m13
    rw [mb] at k14
    have b1 : (tTrue == ([116, 114, 117, 101] : List UInt8)) = true := rfl
    have b2 : (tFalse == ([102, 97, 108, 115, 101] : List UInt8)) = true := rfl
    simp only [go_sem, reduceIte, Nat.reduceEqDiff, Nat.reduceAdd, q3r15, w2, sB_agg, flt_zero, show (true != false) = true from rfl, w1, pushH_true]
    refine callW_ret k10 ?_
    simp only [go_sem, reduceIte, Nat.reduceEqDiff, Nat.reduceAdd, pushH_true]
    refine callW_ret s4 ?_
    simp only [go_sem, reduceIte, Nat.reduceEqDiff, Nat.reduceAdd, pushH_true]
    refine callW_ret k11 ?_
    simp only [go_sem, reduceIte, Nat.reduceEqDiff, Nat.reduceAdd, pushH_true, b1]
    refine callW_ret k12 ?_
    simp only [go_sem, reduceIte, Nat.reduceEqDiff, Nat.reduceAdd, pushH_true, b2]
    refine callW_ret k13 ?_
    simp only [go_sem, reduceIte, Nat.reduceEqDiff, Nat.reduceAdd, pushH_true]
    refine callW_ret k14 ?_
    simp only [go_sem, reduceIte, Nat.reduceEqDiff, Nat.reduceAdd, pushH_true]
    refine callW_ret (alive_ok m14) ?_
    simp only [go_sem, reduceIte, Nat.reduceEqDiff, Nat.reduceAdd, pushH_true]
    refine ⟨?_, ?_⟩
    · intro y hy _ _
      simp only [List.mem_singleton] at hy
      subst hy
      intro _ u1 u2 e1 e2
      have e1' : some W = some u1 := e1
      have e2' : some m10 = some u2 := e2
      injection e1' with e1'
      injection e2' with e2'
      subst e1'; subst e2'
      have w1' : m10.get m9.next = .cells 27 [.int .i64 d1, .str d2, d3, d4] := by rw [x10.get _ (by omega)]; exact w1
      have key : ∀ (M' : Mem) (env fr : List AV), M'.get m9.next = .cells 27 [.int .i64 d1, .str d2, d3, d4] → (Opd.ev env fr (.var 6)) = .ptr m9.next 0 → (evalP (Opd.ev env fr) M' (.load true 4 (.var 6))).map (·.1) = some (.agg [.int .i64 d1, .str d2, d3, d4]) := by
        intro M' env fr h hv
        have L : M'.load true 4 (.ptr m9.next 0) = some (.agg [.int .i64 d1, .str d2, d3, d4]) := by rw [load_ptr, h]; rfl
        simp only [evalP, hv, L, Option.map_some]
      exact ⟨key _ _ _ w1 rfl, key _ _ _ w1' rfl⟩
    · simp only [go_sem, reduceIte, Nat.reduceEqDiff, Nat.reduceAdd]
  obtain ⟨r, m', h, rfl⟩ := key
  exact ⟨m', h⟩
end Go.Proofs.YtkjokjogdehonaaGreatDoor.Am.Q
