import Derived.Test.YtinlfdkalijffaaDoorKM5
set_option linter.unusedSimpArgs false
set_option linter.unusedVariables false
/-
  JSON, 51: the program's Same.
-/
namespace Go.Proofs.YtinlfdkalijffaaDoor.Am.Q
open Go Go.Proofs Go.Proofs.YtinlfdkalijffaaDoor.Am

theorem peq_loop (m : Mem) {a b : AV} {l l' : List (List UInt8)} (ha : SlOf 1 a (l.map .str)) (hb : SlOf 1 b (l'.map .str)) (hl : l.length = l'.length) (hlen : l.length < 2 ^ 60) {Q : AExit → List AV → Mem → Prop}
    (hx : l = l' → ∀ g0 g1 g2 g3 g4 g5 g6 g7 g8, Q (.exit 0) [g0, g1, g2, g3, g4, g5, g6, g7, g8] m) (hr : l ≠ l' → ∀ g0 g1 g3 g4 g5 g6 g7 g8, Q .ret [g0, g1, .bool false, g3, g4, g5, g6, g7, g8] m) :
    ∀ (n i : Nat) (g2 g3 g4 g7 g8 : AV), i + n = l.length → l.take i = l'.take i → wl CS [2, 3, 4, 7, 8] q35l9 Q [a, b, g2, g3, g4, .int .i64 l.length, .int .i64 i, g7, g8] m := by
  intro n
  induction n with
  | zero =>
    intro i g2 g3 g4 g7 g8 hi hs
    refine wl_step ?_
    have h1 : decide ((i : Int) < (l.length : Nat)) = false := dF (by omega)
    simp only [go_sem, reduceIte, Nat.reduceEqDiff, Nat.reduceAdd, q35l9, q35r4, h1]
    refine hx ?_ _ _ _ _ _ _ _ _ _
    rw [List.take_of_length_le (by omega), List.take_of_length_le (by omega)] at hs
    exact hs
  | succ n ih =>
    intro i g2 g3 g4 g7 g8 hi hs
    refine wl_step ?_
    have h1 : decide ((i : Int) < (l.length : Nat)) = true := dT (by omega)
    have hi1 : i < l.length := by omega
    have hi2 : i < l'.length := by omega
    have ea := ha.idx (k := .i64) (i := (i : Int)) (y := .str l[i]) (by omega) (by simp [hi1])
    have eb := hb.idx (k := .i64) (i := (i : Int)) (y := .str l'[i]) (by omega) (by simp [hi2])
    have hw := wrap_succ (i := i) (by omega)
    by_cases he : l[i] = l'[i]
    · have e2 : (l[i] == l'[i]) = true := by simp [he]
      have e3 : (l[i] != l'[i]) = false := by simp [he]
      simp only [go_sem, reduceIte, Nat.reduceEqDiff, Nat.reduceAdd, q35l9, q35r4, h1, q35r5, q35r6, ea, eb, e2, e3, q35r8, hw]
      refine ih (i + 1) _ _ _ _ _ (by omega) ?_
      rw [List.take_add_one, List.take_add_one, hs, List.getElem?_eq_getElem hi1, List.getElem?_eq_getElem hi2, he]
    · have e2 : (l[i] == l'[i]) = false := by simp [he]
      have e3 : (l[i] != l'[i]) = true := by simp [he]
      simp only [go_sem, reduceIte, Nat.reduceEqDiff, Nat.reduceAdd, q35l9, q35r4, h1, q35r5, q35r6, ea, eb, e2, e3, q35r7]
      exact hr (fun e => he (by subst e; rfl)) _ _ _ _ _ _ _ _
theorem peq_ok {a b : AV} {l l' : List (List UInt8)} (ha : SlOf 1 a (l.map .str)) (hb : SlOf 1 b (l'.map .str)) (hlen : l.length < 2 ^ 60) (m : Mem) {r : Bool} (hr : r = true ↔ l = l') : CS 35 [a, b] m (.ret (.bool r)) m := by
  refine call_by xfok mixed q35at q35ok rfl ?_
  by_cases hl : l.length = l'.length
  · have e1 : (((l.length : Nat) : Int) != ((l'.length : Nat) : Int)) = false := bnF (by omega)
    simp only [go_sem, reduceIte, Nat.reduceEqDiff, Nat.reduceAdd, q35, q35r0, q35r1, ha.isLK, ha.len, hb.isLK, hb.len, List.length_map, e1, q35r3]
    refine peq_loop m ha hb hl hlen (fun h g0 g1 g2 g3 g4 g5 g6 g7 g8 => ?_) (fun h g0 g1 g3 g4 g5 g6 g7 g8 => ?_) l.length 0 _ _ _ _ _ (by omega) (by simp)
    · obtain rfl : r = true := hr.2 h
      simp only [go_sem, reduceIte, Nat.reduceEqDiff, Nat.reduceAdd, q35r10]
    · obtain rfl : r = false := by
        cases r with
        | false => rfl
        | true => exact absurd (hr.1 rfl) h
      simp only [go_sem, reduceIte, Nat.reduceEqDiff, Nat.reduceAdd]
  · have e1 : (((l.length : Nat) : Int) != ((l'.length : Nat) : Int)) = true := bnT (by omega)
    obtain rfl : r = false := by
      cases r with
      | false => rfl
      | true => exact absurd (congrArg List.length (hr.1 rfl)) hl
    simp only [go_sem, reduceIte, Nat.reduceEqDiff, Nat.reduceAdd, q35, q35r0, q35r1, ha.isLK, ha.len, hb.isLK, hb.len, List.length_map, e1, q35r2]

def PSame (T U : VT) : Prop := ∀ (m : Mem) (a b : AV) (r : Bool), IsVal a T → IsVal b U → (r = true ↔ T = U) → ∃ v m', CS 20 [a, b] m (.ret v) m' ∧ v = .bool r ∧ Ext m m'
theorem peqf_loop {m : Mem} {kb kb' : AV} {xs ys : List AV} {kids kids' : List VT} (hb : SlOf 4 kb xs) (hb' : SlOf 4 kb' ys) (hxl : xs.length = kids.length) (hyl : ys.length = kids'.length)
    (hx2 : ∀ i, i < kids.length → IsVal (xs.getD i .u) (kids.getD i VT.zero)) (hy2 : ∀ i, i < kids'.length → IsVal (ys.getD i .u) (kids'.getD i VT.zero)) (hl : kids.length = kids'.length) (hlen : kids.length < 2 ^ 47)
    (ih : ∀ i, i < kids.length → ∀ U, PSame (kids.getD i VT.zero) U) {Q : AExit → List AV → Mem → Prop}
    (hx : kids = kids' → ∀ M, Ext m M → ∀ g0 g1 g2 g3 g4 g5 g6 g7 g8 g9 g10 g11 g12, Q (.exit 0) [g0, g1, g2, g3, g4, g5, g6, g7, g8, g9, g10, g11, g12] M) (hr : kids ≠ kids' → ∀ M, Ext m M → ∀ g0 g1 g2 g4 g5 g6 g7 g8 g9 g10 g11 g12, Q .ret [g0, g1, g2, .bool false, g4, g5, g6, g7, g8, g9, g10, g11, g12] M) :
    ∀ (n i : Nat) (M : Mem) (g0 g3 g4 g5 g6 g7 g11 g12 : AV), i + n = kids.length → Ext m M → (∀ j, j < i → kids.getD j VT.zero = kids'.getD j VT.zero) → wl CS [0, 3, 4, 5, 6, 7, 11, 12] q36l10 Q [g0, kb', .fn (.func 20) [] [], g3, g4, g5, g6, g7, kb, .int .i64 xs.length, .int .i64 i, g11, g12] M := by
  intro n
  induction n with
  | zero =>
    intro i M g0 g3 g4 g5 g6 g7 g11 g12 hi hE hs
    refine wl_step ?_
    have h1 : decide ((i : Int) < (xs.length : Nat)) = false := dF (by omega)
    simp only [go_sem, reduceIte, Nat.reduceEqDiff, Nat.reduceAdd, q36l10, q36r4, h1]
    exact hx (getD_ext hl fun j hj => hs j (by omega)) _ hE _ _ _ _ _ _ _ _ _ _ _ _ _
  | succ n ihn =>
    intro i M g0 g3 g4 g5 g6 g7 g11 g12 hi hE hs
    refine wl_step ?_
    have h1 : decide ((i : Int) < (xs.length : Nat)) = true := dT (by omega)
    have hi1 : i < kids.length := by omega
    have hw := wrap_succ (i := i) (by omega)
    have hxi := hx2 i hi1
    have hyi := hy2 i (by omega)
    have ea := hb.idx (k := .i64) (i := (i : Int)) (y := xs.getD i .u) (by omega) (by simp [List.getD, show i < xs.length by omega])
    have eb := hb'.idx (k := .i64) (i := (i : Int)) (y := ys.getD i .u) (by omega) (by simp [List.getD, show i < ys.length by omega])
    obtain ⟨k1, t1, a1, b1, e1, o1, o2⟩ := hxi.ones
    obtain ⟨k2, t2, a2, b2, e2, o3, o4⟩ := hyi.ones
    rw [e1] at ea hxi
    rw [e2] at eb hyi
    have s1 : (M.alloc z26).get M.next = z26 := get_new
    have s2 : ((M.alloc z26).set M.next (.cells 26 [.int .i64 k1, .str t1, a1, b1])).get M.next = .cells 26 [.int .i64 k1, .str t1, a1, b1] := get_set_same
    have n1 : ((M.alloc z26).set M.next (.cells 26 [.int .i64 k1, .str t1, a1, b1])).next = M.next + 1 := rfl
    have E1 : Ext m ((M.alloc z26).set M.next (.cells 26 [.int .i64 k1, .str t1, a1, b1])) := (hE.trans (Ext.alloc _ _)).set (by have := hE.next; omega) _
    simp only [go_sem, reduceIte, Nat.reduceEqDiff, Nat.reduceAdd, q36l10, q36r4, h1, q36r5, ea, s1, o1, o2]
    generalize (M.alloc z26).set M.next (.cells 26 [.int .i64 k1, .str t1, a1, b1]) = M1 at s2 n1 E1
    have s3 : (M1.alloc z26).get M1.next = z26 := get_new
    have s4 : ((M1.alloc z26).set M1.next (.cells 26 [.int .i64 k2, .str t2, a2, b2])).get M1.next = .cells 26 [.int .i64 k2, .str t2, a2, b2] := get_set_same
    have s5 : ((M1.alloc z26).set M1.next (.cells 26 [.int .i64 k2, .str t2, a2, b2])).get M.next = .cells 26 [.int .i64 k1, .str t1, a1, b1] := by rw [get_set_other (by omega), get_old (by omega)]; exact s2
    have E2 : Ext m ((M1.alloc z26).set M1.next (.cells 26 [.int .i64 k2, .str t2, a2, b2])) := (E1.trans (Ext.alloc _ _)).set (by have := E1.next; omega) _
    simp only [go_sem, reduceIte, Nat.reduceEqDiff, Nat.reduceAdd, q36r6, eb, s3, o3, o4]
    generalize (M1.alloc z26).set M1.next (.cells 26 [.int .i64 k2, .str t2, a2, b2]) = M2 at s4 s5 E2
    by_cases he : kids.getD i VT.zero = kids'.getD i VT.zero
    · obtain ⟨v, M3, c1, rfl, c2⟩ := ih i hi1 _ M2 _ _ true hxi hyi ⟨fun _ => he, fun _ => rfl⟩
      simp only [go_sem, reduceIte, Nat.reduceEqDiff, Nat.reduceAdd, q36r7, s4, s5]
      refine callW_ret c1 ?_
      simp only [go_sem, reduceIte, Nat.reduceEqDiff, Nat.reduceAdd, q36r9, hw]
      refine ihn (i + 1) _ _ _ _ _ _ _ _ _ (by omega) (E2.trans c2) fun j hj => ?_
      by_cases hji : j = i
      · subst hji; exact he
      · exact hs j (by omega)
    · obtain ⟨v, M3, c1, rfl, c2⟩ := ih i hi1 _ M2 _ _ false hxi hyi ⟨(fun h => by cases h), fun h => absurd h he⟩
      simp only [go_sem, reduceIte, Nat.reduceEqDiff, Nat.reduceAdd, q36r7, s4, s5]
      refine callW_ret c1 ?_
      simp only [go_sem, reduceIte, Nat.reduceEqDiff, Nat.reduceAdd, q36r8]
      exact hr (fun e => he (by rw [e])) _ (E2.trans c2) _ _ _ _ _ _ _ _ _ _ _ _
theorem psame {T : VT} (hs : Small T) : ∀ U, PSame T U := by
  induction hs with
  | @mk k t keys kids s1 s2 _ ih =>
    intro U m a b r ha hb hr
    cases ha with
    | @mk _ _ ka kb _ _ xs h1 h2 hxl hx2 =>
    cases hb with
    | @mk k' t' ka' kb' keys' kids' ys h1' h2' hyl hy2 =>
    rw [VT.ext_kids] at hr
    refine call_some (R := fun v m' => v = .bool r ∧ Ext m m') xfok mixed q20at q20ok rfl ?_
    have o1 := h1.one
    have o2 := h2.one
    have o3 := h1'.one
    have o4 := h2'.one
    have g0 : ((m.alloc (.cells 26 [.int .i64 k, .str t, ka, kb])).alloc (.cells 26 [.int .i64 k', .str t', ka', kb'])).get m.next = .cells 26 [.int .i64 k, .str t, ka, kb] := by rw [get_old (by simp [Mem.alloc])]; exact get_new
    have g1 : ((m.alloc (.cells 26 [.int .i64 k, .str t, ka, kb])).alloc (.cells 26 [.int .i64 k', .str t', ka', kb'])).get (m.next + 1) = .cells 26 [.int .i64 k', .str t', ka', kb'] := get_new
    have E : Ext m ((m.alloc (.cells 26 [.int .i64 k, .str t, ka, kb])).alloc (.cells 26 [.int .i64 k', .str t', ka', kb'])) := (Ext.alloc _ _).trans (Ext.alloc _ _)
    simp only [go_sem, reduceIte, Nat.reduceEqDiff, Nat.reduceAdd, q20, q20r0, o1, o2, o3, o4, next_alloc]
    generalize (m.alloc (.cells 26 [.int .i64 k, .str t, ka, kb])).alloc (.cells 26 [.int .i64 k', .str t', ka', kb']) = M at g0 g1 E
    have no : ¬ (k = k' ∧ t = t' ∧ keys = keys' ∧ kids = kids') → r = false := by
      intro h
      cases r with
      | false => rfl
      | true => exact absurd (hr.1 rfl) h
    by_cases hk : k = k'
    · have e1 : (k == k') = true := iqT hk
      by_cases ht : t = t'
      · have e2 : (t == t') = true := str_beq ht
        by_cases hks : keys = keys'
        · simp only [go_sem, reduceIte, Nat.reduceEqDiff, Nat.reduceAdd, q20r1, g0, g1, e1, e2]
          refine callW_ret (peq_ok h1 h1' (by omega) M (r := true) ⟨fun _ => hks, fun _ => rfl⟩) ?_
          have h36 : ∃ v m', CS 36 [kb, kb', .fn (.func 20) [] []] M (.ret v) m' ∧ v = .bool r ∧ Ext M m' := by
            refine call_some (R := fun v m' => v = .bool r ∧ Ext M m') xfok mixed q36at q36ok rfl ?_
            by_cases hl : kids.length = kids'.length
            · have e3 : (((xs.length : Nat) : Int) != ((ys.length : Nat) : Int)) = false := bnF (by omega)
              simp only [go_sem, reduceIte, Nat.reduceEqDiff, Nat.reduceAdd, q36, q36r0, q36r1, h2.isLK, h2.len, h2'.isLK, h2'.len, e3, q36r3]
              refine peqf_loop (m := M) h2 h2' hxl hyl hx2 hy2 hl (by omega) ih (fun h M' hE z0 z1 z2 z3 z4 z5 z6 z7 z8 z9 z10 z11 z12 => ?_) (fun h M' hE z0 z1 z2 z4 z5 z6 z7 z8 z9 z10 z11 z12 => ?_) kids.length 0 M _ _ _ _ _ _ _ _ (by omega) (Ext.refl M) (fun j hj => by omega)
              · obtain rfl : r = true := hr.2 ⟨hk, ht, hks, h⟩
                simp only [go_sem, reduceIte, Nat.reduceEqDiff, Nat.reduceAdd, q36r11]
                exact hE
              · rw [no (fun h' => h h'.2.2.2)]
                simp only [go_sem, reduceIte, Nat.reduceEqDiff, Nat.reduceAdd]
                exact hE
            · have e3 : (((xs.length : Nat) : Int) != ((ys.length : Nat) : Int)) = true := bnT (by omega)
              rw [no (fun h' => hl (by rw [h'.2.2.2]))]
              simp only [go_sem, reduceIte, Nat.reduceEqDiff, Nat.reduceAdd, q36, q36r0, q36r1, h2.isLK, h2.len, h2'.isLK, h2'.len, e3, q36r2]
              exact Ext.refl M
          obtain ⟨v, M2, c1, rfl, c2⟩ := h36
          simp only [go_sem, reduceIte, Nat.reduceEqDiff, Nat.reduceAdd, g0, g1]
          refine callW_ret c1 ?_
          simp only [go_sem, reduceIte, Nat.reduceEqDiff, Nat.reduceAdd]
          exact E.trans c2
        · rw [no (fun h => hks h.2.2.1)]
          simp only [go_sem, reduceIte, Nat.reduceEqDiff, Nat.reduceAdd, q20r1, g0, g1, e1, e2]
          refine callW_ret (peq_ok h1 h1' (by omega) M (r := false) ⟨(fun h => by cases h), fun h => absurd h hks⟩) ?_
          simp only [go_sem, reduceIte, Nat.reduceEqDiff, Nat.reduceAdd]
          exact E
      · have e2 : (t == t') = false := str_bne ht
        rw [no (fun h => ht h.2.1)]
        simp only [go_sem, reduceIte, Nat.reduceEqDiff, Nat.reduceAdd, q20r1, g0, g1, e1, e2]
        exact E
    · have e1 : (k == k') = false := iqF hk
      rw [no (fun h => hk h.1)]
      simp only [go_sem, reduceIte, Nat.reduceEqDiff, Nat.reduceAdd, q20r1, g0, g1, e1]
      exact E
end Go.Proofs.YtinlfdkalijffaaDoor.Am.Q

/-
  JSON, 52: a Builder.
-/
namespace Go.Proofs.YtinlfdkalijffaaDoor.Am.Q
open Go Go.Proofs Go.Proofs.YtinlfdkalijffaaDoor.Am

/-- What is laid stays, but for one place. -/
structure KeepG (p : Nat) (M M' : Mem) : Prop where
  get : ∀ i, i < M.next → i ≠ p → M'.get i = M.get i
  next : M.next ≤ M'.next
theorem KeepG.refl (p : Nat) (M : Mem) : KeepG p M M := ⟨fun _ _ _ => rfl, Nat.le_refl _⟩
theorem KeepG.trans {p : Nat} {a b c : Mem} (h : KeepG p a b) (k : KeepG p b c) : KeepG p a c := ⟨fun i hi hp => (k.get i (Nat.lt_of_lt_of_le hi h.next) hp).trans (h.get i hi hp), Nat.le_trans h.next k.next⟩
theorem KeepG.of_ext {p : Nat} {M M' : Mem} (h : Ext M M') : KeepG p M M' := ⟨fun i hi _ => h.get i hi, h.next⟩
theorem KeepG.setp {p : Nat} {M M' : Mem} (h : KeepG p M M') (o : AObj) : KeepG p M (M'.set p o) := ⟨fun i hi hp => by rw [get_set_other hp]; exact h.get i hi hp, h.next⟩
theorem mine_app2 {mb m : Mem} {a : AV} {xs : List UInt8} (h : Mine mb m 5 1 a (bytesAV xs)) (hm : mb.ntok ≤ m.ntok) (hx : xs.length < 2 ^ 43) {l : List UInt8} (hl : l.length < 2 ^ 43) : ∃ v m', appendV m 5 1 1 a (bytesAV l) = some (v, m') ∧ App mb m xs l v m' ∧ m'.next = m.next := by
  obtain ⟨a', M2, n1, n2, n3, n4, n5, n6⟩ := h.append (bytes := 1) (ys := bytesAV l) hm (by rw [bytes_len, bytes_len]; simp [roomMax]; omega) (bytes_good l)
  rw [bytes_append] at n2
  exact ⟨a', M2, n1, ⟨n2, n3, n5, n6⟩, n4⟩
/-- A Builder that has some bytes. -/
def BSt (p : Nat) (mb M : Mem) (out : List UInt8) : Prop := ∃ a b, M.get p = .cells 60 [a, b] ∧ (a = .nilPtr ∨ a = .ptr p 0) ∧ Mine mb M 5 1 b (bytesAV out) ∧ ExtB p mb M ∧ p < M.next
theorem BSt.ext {p : Nat} {mb M M' : Mem} {out : List UInt8} (h : BSt p mb M out) (k : Ext M M') : BSt p mb M' out := by
  obtain ⟨a, b, h1, h2, h3, h4, h5⟩ := h
  exact ⟨a, b, by rw [k.get p h5]; exact h1, h2, h3.ext (ext_extB (p := p) k), h4.trans (ext_extB k), Nat.lt_of_lt_of_le h5 k.next⟩
theorem copy_ok {p : Nat} {mb M : Mem} {out : List UInt8} (h : BSt p mb M out) : ∃ v M', CS 73 [.ptr p 0] M (.ret v) M' ∧ ∃ b, M'.get p = .cells 60 [.ptr p 0, b] ∧ Mine mb M' 5 1 b (bytesAV out) ∧ ExtB p mb M' ∧ p < M'.next ∧ KeepG p M M' := by
  obtain ⟨a, b, h1, h2, h3, h4, h5⟩ := h
  refine call_some (R := fun _ M' => ∃ b, M'.get p = .cells 60 [.ptr p 0, b] ∧ Mine mb M' 5 1 b (bytesAV out) ∧ ExtB p mb M' ∧ p < M'.next ∧ KeepG p M M') xfok mixed q73at q73ok rfl ?_
  rcases h2 with rfl | rfl
  · have c1 : convPV M (.ptr p 0) = some (.ptr p 0) := by simp [convPV, h1]
    have c2 : convUV M [(60, 2, 0)] (.ptr p 0) = some (.ptr p 0) := by simp [convUV, h1]
    have s0 : eqSafeB M .nilPtr .nilPtr = true := rfl
    have s1 : eqV (.leaf .ptr) .nilPtr .nilPtr = some true := rfl
    simp only [go_sem, reduceIte, Nat.reduceEqDiff, Nat.reduceAdd, q73, q73r0, h1, s0, s1, show (true != false) = true from rfl, q73r1, c1, c2]
    exact ⟨b, rfl, h3.ext ((ExtB.refl p M).setp _), h4.setp _, h5, (KeepG.refl p M).setp _⟩
  · have s0 : eqSafeB M (.ptr p 0) .nilPtr = true := rfl
    have s1 : eqV (.leaf .ptr) (.ptr p 0) .nilPtr = some false := rfl
    have s2 : eqSafeB M (.ptr p 0) (.ptr p 0) = true := by simp [eqSafeB, h1, isCells]
    have s3 : eqV (.leaf .ptr) (.ptr p 0) (.ptr p 0) = some true := by simp [eqV, eqL]
    simp only [go_sem, reduceIte, Nat.reduceEqDiff, Nat.reduceAdd, q73, q73r0, h1, s0, s1, show (false != false) = false from rfl, q73r2, s2, s3, show (true != true) = false from rfl]
    exact ⟨b, rfl, h3, h4, h5, KeepG.refl p M⟩
theorem wbyte_k {p : Nat} {mb M : Mem} {out : List UInt8} (h : BSt p mb M out) (hl : out.length < 2 ^ 42) (c : UInt8) : ∃ v M', CS 53 [.ptr p 0, .int .u8 c.toNat] M (.ret v) M' ∧ BSt p mb M' (out ++ [c]) ∧ KeepG p M M' := by
  obtain ⟨v, M1, c1, b, h1, h3, h4, h5, h6⟩ := copy_ok h
  obtain ⟨v2, M2, n1, n2, n3⟩ := mine_app2 h3 h4.ntok (by omega) (l := [c]) (by simp)
  have n1' : appendV M1 5 1 1 b [.int .u8 c.toNat] = some (v2, M2) := n1
  have h2 : M2.get p = .cells 60 [.ptr p 0, b] := by rw [n2.get]; exact h1
  refine call_some (R := fun _ M' => BSt p mb M' (out ++ [c]) ∧ KeepG p M M') xfok mixed q53at q53ok rfl ?_
  simp only [go_sem, reduceIte, Nat.reduceEqDiff, Nat.reduceAdd, q53, q53r0, q53r1]
  refine callW_ret c1 ?_
  simp only [go_sem, reduceIte, Nat.reduceEqDiff, Nat.reduceAdd, q53r2, h1, elems, n1', h2, n2.mine.sl.one, n2.mine.sl.cells, q53r3]
  refine ⟨⟨_, _, get_set_same, .inr rfl, n2.mine.ext ((ExtB.refl p M2).setp _), (n2.ext p h4).setp _, by show _ < M2.next; omega⟩, (h6.trans ⟨fun i _ _ => by rw [n2.get], by omega⟩).setp _⟩
theorem wbyte_ok {p : Nat} {mb M : Mem} {out : List UInt8} (h : BSt p mb M out) (hl : out.length < 2 ^ 42) (c : UInt8) : ∃ v M', CS 53 [.ptr p 0, .int .u8 c.toNat] M (.ret v) M' ∧ BSt p mb M' (out ++ [c]) := by
  obtain ⟨v, M', h1, h2, _⟩ := wbyte_k h hl c
  exact ⟨v, M', h1, h2⟩
theorem wstr_k {p : Nat} {mb M : Mem} {out : List UInt8} (h : BSt p mb M out) (hl : out.length < 2 ^ 42) {l : List UInt8} (hll : l.length < 2 ^ 42) : ∃ v M', CS 51 [.ptr p 0, .str l] M (.ret v) M' ∧ BSt p mb M' (out ++ l) ∧ KeepG p M M' := by
  obtain ⟨v, M1, c1, b, h1, h3, h4, h5, h6⟩ := copy_ok h
  obtain ⟨v2, M2, n1, n2, n3⟩ := mine_app2 h3 h4.ntok (by omega) (l := l) (by omega)
  have h2 : M2.get p = .cells 60 [.ptr p 0, b] := by rw [n2.get]; exact h1
  refine call_some (R := fun _ M' => BSt p mb M' (out ++ l) ∧ KeepG p M M') xfok mixed q51at q51ok rfl ?_
  simp only [go_sem, reduceIte, Nat.reduceEqDiff, Nat.reduceAdd, q51, q51r0, q51r1]
  refine callW_ret c1 ?_
  simp only [go_sem, reduceIte, Nat.reduceEqDiff, Nat.reduceAdd, q51r2, h1, elems, n1, h2, n2.mine.sl.one, n2.mine.sl.cells, q51r3]
  refine ⟨⟨_, _, get_set_same, .inr rfl, n2.mine.ext ((ExtB.refl p M2).setp _), (n2.ext p h4).setp _, by show _ < M2.next; omega⟩, (h6.trans ⟨fun i _ _ => by rw [n2.get], by omega⟩).setp _⟩
theorem wstr_ok {p : Nat} {mb M : Mem} {out : List UInt8} (h : BSt p mb M out) (hl : out.length < 2 ^ 42) {l : List UInt8} (hll : l.length < 2 ^ 42) : ∃ v M', CS 51 [.ptr p 0, .str l] M (.ret v) M' ∧ BSt p mb M' (out ++ l) := by
  obtain ⟨v, M', h1, h2, _⟩ := wstr_k h hl hll
  exact ⟨v, M', h1, h2⟩
theorem blen_ok {p : Nat} {mb M : Mem} {out : List UInt8} (h : BSt p mb M out) : CS 30 [.ptr p 0] M (.ret (.int .i64 out.length)) M := by
  obtain ⟨a, b, h1, _, h3, _, _⟩ := h
  refine call_by xfok mixed q30at q30ok rfl ?_
  simp only [go_sem, reduceIte, Nat.reduceEqDiff, Nat.reduceAdd, q30, q30r0, q30r1, h1, h3.sl.isLK, h3.sl.len, bytes_len]
theorem bstr_ok {p : Nat} {mb M : Mem} {out : List UInt8} (h : BSt p mb M out) (hne : out ≠ []) (hl : out.length < 2 ^ 42) : ∃ v M', CS 31 [.ptr p 0] M (.ret v) M' ∧ v = .str out ∧ ExtB p mb M' := by
  obtain ⟨a, b, h1, _, h3, h4, _⟩ := h
  refine call_some (R := fun v M' => v = .str out ∧ ExtB p mb M') xfok mixed q31at q31ok rfl ?_
  have hsl := h3.sl
  rcases h3 with ⟨_, h⟩ | ⟨t, rfl, k1, k2, k3, k4⟩
  · cases out with
    | nil => exact absurd rfl hne
    | cons c r => simp [bytesAV] at h
  · cases hout : bytesAV out with
    | nil => cases out with
      | nil => exact absurd rfl hne
      | cons c r => simp [bytesAV] at hout
    | cons x r =>
      have hub := unbytes_bytes out
      have hlen : (x :: r).length = out.length := by rw [← hout, bytes_len]
      rw [hout] at hub h1 hsl
      have s1 : sliceDataV M (.sl (.tok t) 1 (x :: r)) = some (.bptr (M.tty t) (x :: r), M.killTok t) := by
        simp only [sliceDataV]; rw [if_pos ⟨trivial, k1, by rw [hub]; rfl⟩]
      have g2 : (M.killTok t).get p = .cells 60 [a, .sl (.tok t) 1 (x :: r)] := h1
      have s2 : unsafeStrV 5 (.bptr (M.tty t) (x :: r)) (.int .i64 ((x :: r).length : Nat)) = some (.str out) := by
        simp only [unsafeStrV]; rw [if_pos ⟨k2, trivial, by rw [hlen]; simp [roomMax]; omega⟩, hub]
      simp only [go_sem, reduceIte, Nat.reduceEqDiff, Nat.reduceAdd, q31, q31r0, q31r1, h1, s1, g2, hsl.isLK, hsl.len, s2, pushH_true]
      refine ⟨?_, ?_⟩
      · intro q hq _ _
        simp only [List.mem_singleton] at hq
        subst hq
        intro _ m1 m2 e1 e2
        have e1' : some M = some m1 := e1
        have e2' : some (M.killTok t) = some m2 := e2
        injection e1' with e1'
        injection e2' with e2'
        subst e1'; subst e2'
        have key : ∀ (M' : Mem) (env fr : List AV), M'.get p = .cells 60 [a, .sl (.tok t) 1 (x :: r)] → (evalP (Opd.ev (.ptr p 1 :: env) fr) M' (.load false 1 (.loc 0))).map (·.1) = some (.sl (.tok t) 1 (x :: r)) := by
          intro M' env fr h
          have L : M'.load false 1 (.ptr p 1) = some (.sl (.tok t) 1 (x :: r)) := by rw [load_ptr, h]; rfl
          simp only [evalP, ev_loc0, L, Option.map_some]
        exact ⟨key _ _ _ h1, key _ _ _ g2⟩
      · simp only [go_sem, reduceIte, Nat.reduceEqDiff, Nat.reduceAdd]
        exact h4.killTok k3
end Go.Proofs.YtinlfdkalijffaaDoor.Am.Q

/-
  JSON, 53: texts in quotes.
-/
namespace Go.Proofs.YtinlfdkalijffaaDoor.Am.Q
open Go Go.Proofs Go.Proofs.YtinlfdkalijffaaDoor.Am

def sevF : List UInt8 := [8, 9, 10, 12, 13, 34, 92]
def sevT : List UInt8 := [98, 116, 110, 102, 114, 34, 92]
def hexs : List UInt8 := [48, 49, 50, 51, 52, 53, 54, 55, 56, 57, 97, 98, 99, 100, 101, 102]
def escB (c : UInt8) : List UInt8 :=
  match sevF.findIdx? (· == c) with
  | some k => [92, sevT.getD k 0]
  | none => if c.toNat < 32 ∨ c.toNat = 127 then [92, 117, 48, 48, hexs.getD (c.toNat / 16) 0, hexs.getD (c.toNat % 16) 0] else [c]
def quotS (s : List UInt8) : List UInt8 := [34] ++ (s.flatMap escB ++ [34])
theorem escB_len (c : UInt8) : (escB c).length ≤ 6 ∧ 1 ≤ (escB c).length := by
  unfold escB; split
  · simp
  · split <;> simp
theorem esc_at {k : Nat} {c : UInt8} (h : sevF[k]? = some c) : escB c = [92, sevT.getD k 0] := by
  have hk : k < 7 := (List.getElem?_eq_some_iff.1 h).1
  have key : ∀ j : Fin 7, escB (sevF.getD j.val 0) = [92, sevT.getD j.val 0] := by decide +kernel
  have := key ⟨k, hk⟩
  rw [show sevF.getD k 0 = c by simp [List.getD, h]] at this
  exact this
theorem esc_none {c : UInt8} (h : c ∉ sevF) : escB c = if c.toNat < 32 ∨ c.toNat = 127 then [92, 117, 48, 48, hexs.getD (c.toNat / 16) 0, hexs.getD (c.toNat % 16) 0] else [c] := by
  unfold escB
  rw [List.findIdx?_eq_none_iff.2 (fun x hx => by
    simp only [beq_eq_false_iff_ne, ne_eq]
    rintro rfl; exact h hx)]
theorem hexs_at {n : Nat} (h : n < 16) {k : IntKind} : idxSV (.str [48, 49, 50, 51, 52, 53, 54, 55, 56, 57, 97, 98, 99, 100, 101, 102]) (.int k (n : Int)) = some (.int .u8 (hexs.getD n 0).toNat) := by
  refine idxS_at (s := hexs) ?_
  rw [List.getElem?_eq_getElem (show n < hexs.length from h)]
  simp [List.getD, show n < hexs.length from h]

theorem hexs_at' {n : Nat} (h : n < 16) {k : IntKind} : idxSV (.str hexs) (.int k (n : Int)) = some (.int .u8 (hexs.getD n 0).toNat) := hexs_at h
theorem rkey_loop {M : Mem} {c : UInt8} {s : List UInt8} {a : AV} {i : Nat} {Q : AExit → List AV → Mem → Prop}
    (hx : ∀ k : Nat, k ≤ 7 → (k < 7 → sevF[k]? = some c) → (k = 7 → c ∉ sevF) → ∀ g1 g9 g10 g11 g12, Q (.exit 2) [.str s, g1, .str hexs, a, .int .i64 i, .int .u8 c.toNat, .int .i64 k, .str sevF, .str sevT, g9, g10, g11, g12] M) :
    ∀ (r k : Nat) (g1 g9 g10 g11 g12 : AV), r + k = 7 → c ∉ sevF.take k → wl CS [1, 9, 10, 11, 12] q54l10 Q [.str s, g1, .str hexs, a, .int .i64 i, .int .u8 c.toNat, .int .i64 k, .str sevF, .str sevT, g9, g10, g11, g12] M := by
  intro r
  induction r with
  | zero =>
    intro k g1 g9 g10 g11 g12 hk hn
    refine wl_step ?_
    have e1 : decide ((k : Int) < (sevF.length : Nat)) = false := dF (by simp [sevF]; omega)
    simp only [go_sem, reduceIte, Nat.reduceEqDiff, Nat.reduceAdd, q54l10, q54r8, e1]
    refine hx k (by omega) (by omega) (fun _ => ?_) _ _ _ _ _
    rw [List.take_of_length_le (by simp [sevF]; omega)] at hn
    exact hn
  | succ r ih =>
    intro k g1 g9 g10 g11 g12 hk hn
    refine wl_step ?_
    have hlt : k < sevF.length := by simp [sevF]; omega
    have e1 : decide ((k : Int) < (sevF.length : Nat)) = true := dT (by omega)
    have hb : sevF[k]? = some sevF[k] := List.getElem?_eq_getElem hlt
    have hw := wrap_succ (i := k) (by omega)
    by_cases he : sevF[k] = c
    · have e2 : ((sevF[k].toNat : Int) != (c.toNat : Int)) = false := by rw [he]; simp
      simp only [go_sem, reduceIte, Nat.reduceEqDiff, Nat.reduceAdd, q54l10, q54r8, e1, idxS_at hb, e2]
      exact hx k (by omega) (fun _ => by rw [hb, he]) (by omega) _ _ _ _ _
    · have e2 : ((sevF[k].toNat : Int) != (c.toNat : Int)) = true := by
        simp only [bne_iff_ne, ne_eq]
        intro h; exact he (UInt8.toNat_inj.1 (by omega))
      simp only [go_sem, reduceIte, Nat.reduceEqDiff, Nat.reduceAdd, q54l10, q54r8, e1, idxS_at hb, e2, q54r9, hw]
      refine ih (k + 1) _ _ _ _ _ (by omega) ?_
      rw [List.take_add_one, hb]
      simp only [Option.toList_some, List.mem_append, List.mem_singleton, not_or]
      exact ⟨hn, fun h => he h.symm⟩

theorem rquot_loop {m : Mem} {s : List UInt8} (hs : s.length < 2 ^ 38) {Q : AExit → List AV → Mem → Prop}
    (hx : ∀ M a, Mine m M 5 1 a (bytesAV (s.flatMap escB)) → Ext m M → ∀ g0 g1 g2 g4 g5 g6 g7 g8 g9 g10 g11 g12, Q (.exit 0) [g0, g1, g2, a, g4, g5, g6, g7, g8, g9, g10, g11, g12] M) :
    ∀ (r i : Nat) (M : Mem) (a : AV) (g1 g5 g6 g7 g8 g9 g10 g11 g12 : AV), i + r = s.length → Mine m M 5 1 a (bytesAV ((s.take i).flatMap escB)) → Ext m M →
      wl CS [1, 5, 6, 7, 8, 9, 10, 11, 12] q54l17 Q [.str s, g1, .str hexs, a, .int .i64 i, g5, g6, g7, g8, g9, g10, g11, g12] M := by
  have hfl : ∀ l : List UInt8, (l.flatMap escB).length ≤ 6 * l.length := by
    intro l
    induction l with
    | nil => simp
    | cons c l ih => have := (escB_len c).1; simp only [List.flatMap_cons, List.length_append, List.length_cons]; omega
  intro r
  induction r with
  | zero =>
    intro i M a g1 g5 g6 g7 g8 g9 g10 g11 g12 hi hm hE
    refine wl_step ?_
    have e1 : decide ((i : Int) < (s.length : Nat)) = false := dF (by omega)
    rw [List.take_of_length_le (by omega)] at hm
    simp only [go_sem, reduceIte, Nat.reduceEqDiff, Nat.reduceAdd, q54l17, q54r4, e1]
    exact hx _ _ hm hE _ _ _ _ _ _ _ _ _ _ _ _
  | succ r ih =>
    intro i M a g1 g5 g6 g7 g8 g9 g10 g11 g12 hi hm hE
    refine wl_step ?_
    have hlt : i < s.length := by omega
    have e1 : decide ((i : Int) < (s.length : Nat)) = true := dT (by omega)
    have hc : s[i]? = some s[i] := List.getElem?_eq_getElem hlt
    have hw := wrap_succ (i := i) (by omega)
    have ht : (s.take (i + 1)).flatMap escB = (s.take i).flatMap escB ++ escB s[i] := by rw [List.take_add_one, hc, List.flatMap_append]; simp only [Option.toList_some, List.flatMap_cons, List.flatMap_nil, List.append_nil]
    have hlen : ((s.take i).flatMap escB).length < 2 ^ 42 := by have := hfl (s.take i); rw [List.length_take] at this; omega
    generalize s[i] = c at *
    have next : ∀ (b : AV) (M2 : Mem), appendV M 5 1 1 a (bytesAV (escB c)) = some (b, M2) → App m M ((s.take i).flatMap escB) (escB c) b M2 → ∀ g1 g5 g6 g7 g8 g9 g10 g11 g12, wl CS [1, 5, 6, 7, 8, 9, 10, 11, 12] q54l17 Q [.str s, g1, .str hexs, b, .int .i64 (i + 1 : Nat), g5, g6, g7, g8, g9, g10, g11, g12] M2 := by
      intro b M2 _ hA z1 z5 z6 z7 z8 z9 z10 z11 z12
      refine ih (i + 1) M2 b _ _ _ _ _ _ _ _ _ (by omega) (by rw [ht]; exact hA.mine) ?_
      exact extB_ext (hA.ext m.next (ext_extB hE)) (Nat.le_refl _)
    obtain ⟨b, M2, n1, n2⟩ := mine_app hm hE.ntok (by omega) (l := escB c) (by have := (escB_len c).1; omega)
    simp only [go_sem, reduceIte, Nat.reduceEqDiff, Nat.reduceAdd, q54l17, q54r4, e1, q54r5, idxS_at hc, q54r6, q54r7]
    refine rkey_loop (fun k hk hk1 hk2 z1 z9 z10 z11 z12 => ?_) 7 0 _ _ _ _ _ rfl (by simp)
    by_cases hk7 : k < 7
    · have e2 : decide ((k : Int) < (sevF.length : Nat)) = true := dT (by simp [sevF]; omega)
      have he := esc_at (hk1 hk7)
      have hix : idxSV (.str sevT) (.int .i64 (k : Int)) = some (.int .u8 (sevT.getD k 0).toNat) := by
        refine idxS_at ?_
        rw [List.getElem?_eq_getElem (show k < sevT.length from hk7)]
        simp [List.getD, show k < sevT.length from hk7]
      have n1' : appendV M 5 1 1 a [.int .u8 92, .int .u8 (sevT.getD k 0).toNat] = some (b, M2) := by rw [← n1, he]; rfl
      simp only [go_sem, reduceIte, Nat.reduceEqDiff, Nat.reduceAdd, q54r11, e2, q54r12, hix, elems, n1', q54r16, hw]
      exact next b M2 n1 n2 _ _ _ _ _ _ _ _ _
    · have e2 : decide ((k : Int) < (sevF.length : Nat)) = false := dF (by simp [sevF]; omega)
      have he := esc_none (hk2 (by omega))
      have hc16 : c.toNat / 16 < 16 := by have := c.toNat_lt; omega
      have hq : IntKind.u8.wrap ((c.toNat : Int).tdiv 16) = ((c.toNat / 16 : Nat) : Int) := by
        rw [show (c.toNat : Int).tdiv 16 = ((c.toNat / 16 : Nat) : Int) from tdivN (k := 16), wrapU8, Nat.mod_eq_of_lt (by omega)]
      have hr : (c.toNat : Int).tmod 16 = ((c.toNat % 16 : Nat) : Int) := tmodN (k := 16)
      have z16 : ((16 : Int) = 0) = False := by simp
      by_cases h32 : c.toNat < 32
      · have e3 : decide ((c.toNat : Int) < 32) = true := dT (by omega)
        rw [if_pos (.inl h32)] at he
        have n1' : appendV M 5 1 1 a [.int .u8 92, .int .u8 117, .int .u8 48, .int .u8 48, .int .u8 (hexs.getD (c.toNat / 16) 0).toNat, .int .u8 (hexs.getD (c.toNat % 16) 0).toNat] = some (b, M2) := by rw [← n1, he]; rfl
        simp only [go_sem, reduceIte, Nat.reduceEqDiff, Nat.reduceAdd, q54r11, e2, q54r13, e3, q54r14, z16, hq, hr, hexs_at' hc16, hexs_at' (Nat.mod_lt c.toNat (by omega : 16 > 0)), elems, n1', q54r16, hw]
        exact next b M2 n1 n2 _ _ _ _ _ _ _ _ _
      · have e3 : decide ((c.toNat : Int) < 32) = false := dF (by omega)
        by_cases h127 : c.toNat = 127
        · have e4 : ((c.toNat : Int) == 127) = true := bqT (by omega)
          rw [if_pos (.inr h127)] at he
          have n1' : appendV M 5 1 1 a [.int .u8 92, .int .u8 117, .int .u8 48, .int .u8 48, .int .u8 (hexs.getD (c.toNat / 16) 0).toNat, .int .u8 (hexs.getD (c.toNat % 16) 0).toNat] = some (b, M2) := by rw [← n1, he]; rfl
          simp only [go_sem, reduceIte, Nat.reduceEqDiff, Nat.reduceAdd, q54r11, e2, q54r13, e3, e4, q54r14, z16, hq, hr, hexs_at' hc16, hexs_at' (Nat.mod_lt c.toNat (by omega : 16 > 0)), elems, n1', q54r16, hw]
          exact next b M2 n1 n2 _ _ _ _ _ _ _ _ _
        · have e4 : ((c.toNat : Int) == 127) = false := bqF (by omega)
          rw [if_neg (by omega)] at he
          have n1' : appendV M 5 1 1 a [.int .u8 c.toNat] = some (b, M2) := by rw [← n1, he]; rfl
          simp only [go_sem, reduceIte, Nat.reduceEqDiff, Nat.reduceAdd, q54r11, e2, q54r13, e3, e4, q54r15, elems, n1', q54r16, hw]
          exact next b M2 n1 n2 _ _ _ _ _ _ _ _ _
theorem flat_len (l : List UInt8) : (l.flatMap escB).length ≤ 6 * l.length := by
  induction l with
  | nil => simp
  | cons c l ih => have := (escB_len c).1; simp only [List.flatMap_cons, List.length_append, List.length_cons]; omega
theorem rquoted_ok {s : List UInt8} (hs : s.length < 2 ^ 38) (m : Mem) : ∃ v m', CS 54 [.str s] m (.ret v) m' ∧ v = .str (quotS s) ∧ Ext m m' := by
  refine call_some (R := fun v m' => v = .str (quotS s) ∧ Ext m m') xfok mixed q54at q54ok rfl ?_
  simp only [go_sem, reduceIte, Nat.reduceEqDiff, Nat.reduceAdd, q54, q54r0, q54r1, q54r2, q54r3]
  refine rquot_loop (m := m) hs (fun M a hm hE z0 z1 z2 z4 z5 z6 z7 z8 z9 z10 z11 z12 => ?_) s.length 0 m _ _ _ _ _ _ _ _ _ _ (by omega) .nil (Ext.refl m)
  have hl := flat_len s
  have l1 : ([34] : List UInt8).length + (s.flatMap escB).length ≤ 2 ^ 62 := by simp only [List.length_singleton]; omega
  have l2' : (34 :: s.flatMap escB : List UInt8).length + ([34] : List UInt8).length ≤ 2 ^ 62 := by simp only [List.length_cons, List.length_nil]; omega
  simp only [go_sem, reduceIte, Nat.reduceEqDiff, Nat.reduceAdd, q54r18, str_of hm.sl, l1, l2']
  exact ⟨rfl, hE⟩
end Go.Proofs.YtinlfdkalijffaaDoor.Am.Q

/-
  JSON, 54: texts in quotes, by the program.
-/
namespace Go.Proofs.YtinlfdkalijffaaDoor.Am.Q
open Go Go.Proofs Go.Proofs.YtinlfdkalijffaaDoor.Am

theorem byte_all {P : UInt8 → Bool} (h : ∀ n : Fin 256, P (UInt8.ofNat n.val) = true) (c : UInt8) : P c = true := by
  have := h ⟨c.toNat, c.toNat_lt⟩
  simpa using this
theorem fA (c : UInt8) (h : c ∈ sevF) : ∃ k : Nat, k < 7 ∧ sevF[k]? = some c ∧ indexB c escT = (k : Int) ∧ c.toNat ≠ 47 := by
  have := byte_all (P := fun c => decide (c ∈ sevF → ∃ k : Fin 7, sevF[k.val]? = some c ∧ indexB c escT = (k.val : Int) ∧ c.toNat ≠ 47)) (by decide +kernel) c
  obtain ⟨k, h1, h2, h3⟩ := (of_decide_eq_true this) h
  exact ⟨k.val, k.isLt, h1, h2, h3⟩
theorem fB (c : UInt8) (h : c ∉ sevF) : decide (indexB c escT ≥ 0) = false ∨ (decide (indexB c escT ≥ 0) = true ∧ c.toNat = 47) := by
  have := byte_all (P := fun c => decide (c ∉ sevF → (decide (indexB c escT ≥ 0) = false ∨ (decide (indexB c escT ≥ 0) = true ∧ c.toNat = 47)))) (by decide +kernel) c
  exact (of_decide_eq_true this) h
theorem escL_at {k : Nat} (h : k < 7) {kk : IntKind} : idxSV (.str [98, 116, 110, 102, 114, 34, 92, 47]) (.int kk (k : Int)) = some (.int .u8 (sevT.getD k 0).toNat) := by
  refine idxS_at (s := escL) ?_
  have key : ∀ j : Fin 7, escL[j.val]? = some (sevT.getD j.val 0) := by decide
  exact key ⟨k, h⟩
theorem and15 {x : Nat} (hx : x < 256) : IntKind.u8.wrap (((@HAnd.hAnd (BitVec 8) (BitVec 8) (BitVec 8) (@instHAndOfAndOp (BitVec IntKind.u8.bits) (@BitVec.instAndOp IntKind.u8.bits)) (BitVec.ofInt 8 (x : Int)) (BitVec.ofInt 8 15)).toNat : Nat) : Int) = ((x % 16 : Nat) : Int) := by
  have h : ∀ y : Fin 256, IntKind.u8.wrap (((@HAnd.hAnd (BitVec 8) (BitVec 8) (BitVec 8) (@instHAndOfAndOp (BitVec IntKind.u8.bits) (@BitVec.instAndOp IntKind.u8.bits)) (BitVec.ofInt 8 ((y.val : Nat) : Int)) (BitVec.ofInt 8 15)).toNat : Nat) : Int) = ((y.val % 16 : Nat) : Int) := by decide +kernel
  exact h ⟨x, hx⟩
theorem shr4 {n : Nat} : (n : Int).fdiv (2 ^ min (Int.toNat 4) 8) = ((n / 16 : Nat) : Int) := by
  show (n : Int).fdiv ((16 : Nat) : Int) = _
  rw [Int.fdiv_eq_ediv_of_nonneg _ (by omega)]; rfl
theorem le0_4 : ((0 : Int) ≤ 4) = True := by simp

theorem pquot_loop {m : Mem} {p : Nat} {s : List UInt8} (hs : s.length < 2 ^ 38) {Q : AExit → List AV → Mem → Prop}
    (hx : ∀ M, BSt p m M (34 :: s.flatMap escB) → ∀ g0 g1 g3 g4 g5 g6 g7 g8 g9 g10, Q (.exit 0) [g0, g1, .ptr p 0, g3, g4, g5, g6, g7, g8, g9, g10] M) :
    ∀ (r i : Nat) (M : Mem) (g1 g3 g4 g5 g8 g9 g10 : AV), i + r = s.length → BSt p m M (34 :: (s.take i).flatMap escB) →
      wl CS [1, 3, 4, 5, 8, 9, 10] q52l17 Q [.str s, g1, .ptr p 0, g3, g4, g5, .int .i64 s.length, .int .i64 i, g8, g9, g10] M := by
  intro r
  induction r with
  | zero =>
    intro i M g1 g3 g4 g5 g8 g9 g10 hi hB
    refine wl_step ?_
    have e1 : decide ((i : Int) < (s.length : Nat)) = false := dF (by omega)
    rw [List.take_of_length_le (by omega)] at hB
    simp only [go_sem, reduceIte, Nat.reduceEqDiff, Nat.reduceAdd, q52l17, q52r4, e1]
    exact hx _ hB _ _ _ _ _ _ _ _ _ _
  | succ r ih =>
    intro i M g1 g3 g4 g5 g8 g9 g10 hi hB
    refine wl_step ?_
    have hlt : i < s.length := by omega
    have e1 : decide ((i : Int) < (s.length : Nat)) = true := dT (by omega)
    have hc : s[i]? = some s[i] := List.getElem?_eq_getElem hlt
    have hw := wrap_succ (i := i) (by omega)
    have ht : (34 :: (s.take (i + 1)).flatMap escB : List UInt8) = (34 :: (s.take i).flatMap escB) ++ escB s[i] := by rw [List.take_add_one, hc, List.flatMap_append]; simp only [Option.toList_some, List.flatMap_cons, List.flatMap_nil, List.append_nil, List.cons_append]
    have hlen : (34 :: (s.take i).flatMap escB : List UInt8).length + 10 < 2 ^ 42 := by have := flat_len (s.take i); rw [List.length_take] at this; simp only [List.length_cons]; omega
    generalize hout : (34 :: (s.take i).flatMap escB : List UInt8) = out at hB ht hlen
    have hcl := (s[i]).toNat_lt
    generalize s[i] = c at *
    have next : ∀ (M2 : Mem), BSt p m M2 (out ++ escB c) → ∀ g1 g3 g4 g5 g8 g9 g10, wl CS [1, 3, 4, 5, 8, 9, 10] q52l17 Q [.str s, g1, .ptr p 0, g3, g4, g5, .int .i64 s.length, .int .i64 (i + 1 : Nat), g8, g9, g10] M2 := by
      intro M2 hA z1 z3 z4 z5 z8 z9 z10
      exact ih (i + 1) M2 _ _ _ _ _ _ _ (by omega) (by rw [ht]; exact hA)
    simp only [go_sem, reduceIte, Nat.reduceEqDiff, Nat.reduceAdd, q52l17, q52r4, e1, q52r5, q52r6, idxS_at hc, q52r7]
    refine callW_ret (index_byte_ok escT c M) ?_
    by_cases hin : c ∈ sevF
    · obtain ⟨k, hk, hk1, hk2, hk3⟩ := fA c hin
      have e2 : decide ((k : Int) ≥ 0) = true := dT (by omega)
      have e3 : ((c.toNat : Int) != 47) = true := bnT (by omega)
      have he := esc_at hk1
      rw [hk2]
      obtain ⟨v1, M1, c1, B1⟩ := wbyte_ok hB (by omega) 92
      obtain ⟨v2, M2, c2, B2⟩ := wbyte_ok B1 (by rw [List.length_append, List.length_singleton]; omega) (sevT.getD k 0)
      have c1' : CS 53 [.ptr p 0, .int .u8 92] M (.ret v1) M1 := c1
      simp only [go_sem, reduceIte, Nat.reduceEqDiff, Nat.reduceAdd, q52r8, e2, e3, q52r9]
      refine callW_ret c1' ?_
      simp only [go_sem, reduceIte, Nat.reduceEqDiff, Nat.reduceAdd, q52r10, escL_at hk]
      refine callW_ret c2 ?_
      simp only [go_sem, reduceIte, Nat.reduceEqDiff, Nat.reduceAdd, q52r16, hw]
      exact next M2 (by rw [he]; simpa using B2) _ _ _ _ _ _ _
    · have he := esc_none hin
      have rest : ∀ {Q' : AExit → List AV → Mem → Prop}, (∀ M2, BSt p m M2 (out ++ escB c) → ∀ a1 a3 a4 a5 a8 a9 a10, Q' .normal [.str s, a1, .ptr p 0, a3, a4, a5, .int .i64 s.length, .int .i64 i, a8, a9, a10] M2) → ∀ (g1 g3 g5 g8 g9 g10 : AV), wc CS (.seq (.region q52r11) (.cond (.var 10) (.seq (.region q52r12) (.seq (.region q52r13) (.region q52r14))) (.region q52r15)))
          Q' [.str s, g1, .ptr p 0, g3, .int .u8 c.toNat, g5, .int .i64 s.length, .int .i64 i, g8, g9, g10] M := by
        intro Q' hq z1 z3 z5 z8 z9 z10
        have hexcase : (c.toNat < 32 ∨ c.toNat = 127) → wc CS (.seq (.region q52r12) (.seq (.region q52r13) (.region q52r14)))
          Q' [.str s, z1, .ptr p 0, z3, .int .u8 c.toNat, z5, .int .i64 s.length, .int .i64 i, z8, z9, .bool true] M := by
          intro h
          rw [if_pos h] at he
          obtain ⟨v1, M1, c1, B1⟩ := wstr_ok hB (by omega) (l := [92, 117, 48, 48]) (by simp)
          obtain ⟨v2, M2, c2, B2⟩ := wbyte_ok B1 (by rw [List.length_append]; simp only [List.length_cons, List.length_nil]; omega) (hexs.getD (c.toNat / 16) 0)
          obtain ⟨v3, M3, c3, B3⟩ := wbyte_ok B2 (by rw [List.length_append, List.length_append]; simp only [List.length_cons, List.length_nil]; omega) (hexs.getD (c.toNat % 16) 0)
          have hc16 : c.toNat / 16 < 16 := by omega
          simp only [go_sem, reduceIte, Nat.reduceEqDiff, Nat.reduceAdd, q52r12]
          refine callW_ret c1 ?_
          simp only [go_sem, reduceIte, Nat.reduceEqDiff, Nat.reduceAdd, q52r13, le0_4, shr4, hexs_at hc16]
          refine callW_ret c2 ?_
          simp only [go_sem, reduceIte, Nat.reduceEqDiff, Nat.reduceAdd, q52r14, and15 hcl, hexs_at (Nat.mod_lt c.toNat (by omega : 16 > 0))]
          refine callW_ret c3 ?_
          simp only [go_sem, reduceIte, Nat.reduceEqDiff, Nat.reduceAdd]
          exact hq _ (by rw [he]; simpa using B3) _ _ _ _ _ _ _
        by_cases h32 : c.toNat < 32
        · have e5 : decide ((c.toNat : Int) < 32) = true := dT (by omega)
          have := hexcase (.inl h32)
          simp only [go_sem, reduceIte, Nat.reduceEqDiff, Nat.reduceAdd, q52r11, e5] at this ⊢
          exact this
        · have e5 : decide ((c.toNat : Int) < 32) = false := dF (by omega)
          by_cases h127 : c.toNat = 127
          · have e6 : ((c.toNat : Int) == 127) = true := bqT (by omega)
            have := hexcase (.inr h127)
            simp only [go_sem, reduceIte, Nat.reduceEqDiff, Nat.reduceAdd, q52r11, e5, e6] at this ⊢
            exact this
          · have e6 : ((c.toNat : Int) == 127) = false := bqF (by omega)
            rw [if_neg (by omega)] at he
            obtain ⟨v1, M1, c1, B1⟩ := wbyte_ok hB (by omega) c
            simp only [go_sem, reduceIte, Nat.reduceEqDiff, Nat.reduceAdd, q52r11, e5, e6, q52r15]
            refine callW_ret c1 ?_
            simp only [go_sem, reduceIte, Nat.reduceEqDiff, Nat.reduceAdd]
            exact hq _ (by rw [he]; exact B1) _ _ _ _ _ _ _
      rcases fB c hin with e2 | ⟨e2, h47⟩
      · simp only [go_sem, reduceIte, Nat.reduceEqDiff, Nat.reduceAdd, q52r8, e2]
        rw [← wc_start]
        refine rest (fun M2 hA a1 a3 a4 a5 a8 a9 a10 => ?_) _ _ _ _ _ _
        simp only [go_sem, reduceIte, Nat.reduceEqDiff, Nat.reduceAdd, q52r16, hw]
        exact next M2 hA _ _ _ _ _ _ _
      · have e3 : ((c.toNat : Int) != 47) = false := bnF (by omega)
        simp only [go_sem, reduceIte, Nat.reduceEqDiff, Nat.reduceAdd, q52r8, e2, e3]
        rw [← wc_start]
        refine rest (fun M2 hA a1 a3 a4 a5 a8 a9 a10 => ?_) _ _ _ _ _ _
        simp only [go_sem, reduceIte, Nat.reduceEqDiff, Nat.reduceAdd, q52r16, hw]
        exact next M2 hA _ _ _ _ _ _ _
theorem pquoted_ok {s : List UInt8} (hs : s.length < 2 ^ 38) (m : Mem) : ∃ v m', CS 52 [.str s] m (.ret v) m' ∧ v = .str (quotS s) ∧ Ext m m' := by
  refine call_some (R := fun v m' => v = .str (quotS s) ∧ Ext m m') xfok mixed q52at q52ok rfl ?_
  have hl := flat_len s
  have B0 : BSt m.next m (m.alloc (.cells 60 [.nilPtr, .nilSl])) [] := ⟨_, _, get_new, .inl rfl, .nil, (ExtB.refl m.next m).alloc _, by rw [next_alloc]; omega⟩
  simp only [go_sem, reduceIte, Nat.reduceEqDiff, Nat.reduceAdd, q52, q52r0, q52r1, q52r2]
  generalize m.alloc (.cells 60 [.nilPtr, .nilSl]) = M0 at B0
  obtain ⟨v1, M1, c1, B1⟩ := wbyte_ok B0 (by simp) 34
  have c1' : CS 53 [.ptr m.next 0, .int .u8 34] M0 (.ret v1) M1 := c1
  refine callW_ret c1' ?_
  simp only [go_sem, reduceIte, Nat.reduceEqDiff, Nat.reduceAdd, q52r3]
  refine pquot_loop (m := m) (p := m.next) hs (fun M2 B2 z0 z1 z3 z4 z5 z6 z7 z8 z9 z10 => ?_) s.length 0 M1 _ _ _ _ _ _ _ (by omega) B1
  obtain ⟨v3, M3, c3, B3⟩ := wbyte_ok B2 (by simp only [List.length_cons]; omega) 34
  have c3' : CS 53 [.ptr m.next 0, .int .u8 34] M2 (.ret v3) M3 := c3
  simp only [go_sem, reduceIte, Nat.reduceEqDiff, Nat.reduceAdd, q52r18]
  refine callW_ret c3' ?_
  obtain ⟨v4, M4, c4, rfl, h4⟩ := bstr_ok B3 (by simp) (by rw [List.length_append]; simp only [List.length_cons, List.length_nil]; omega)
  simp only [go_sem, reduceIte, Nat.reduceEqDiff, Nat.reduceAdd, q52r19]
  refine callW_ret c4 ?_
  simp only [go_sem, reduceIte, Nat.reduceEqDiff, Nat.reduceAdd]
  exact ⟨by simp [quotS], extB_ext h4 (Nat.le_refl _)⟩
end Go.Proofs.YtinlfdkalijffaaDoor.Am.Q

/-
  JSON, 55: a value's text, by the document.
-/
namespace Go.Proofs.YtinlfdkalijffaaDoor.Am.Q
open Go Go.Proofs Go.Proofs.YtinlfdkalijffaaDoor.Am

def keyB : Bool → List (List UInt8) → List UInt8
  | true, k :: _ => quotS k ++ [58]
  | _, _ => []
mutual
def textT : VT → List UInt8
  | .node k t ks l => if k = 1 then tNull else if k = 4 then quotS t else if k = 5 then [91] ++ (itemsT false true ks l ++ [93]) else if k = 6 then [123] ++ (itemsT true true ks l ++ [125]) else t
def itemsT : Bool → Bool → List (List UInt8) → List VT → List UInt8
  | _, _, _, [] => []
  | tb, first, ks, v :: r => (if first = true then [] else [44]) ++ (keyB tb ks ++ (textT v ++ itemsT tb false ks.tail r))
end
theorem quotS_len (s : List UInt8) : (quotS s).length ≤ 6 * s.length + 2 := by
  have := flat_len s
  simp only [quotS, List.length_append, List.length_cons, List.length_nil]; omega
theorem items_len {tb : Bool} : ∀ {l : List VT} {ks : List (List UInt8)} {first : Bool}, (∀ x ∈ l, (textT x).length + 2 ^ 24 ≤ nodesT x * 2 ^ 25) → (∀ x ∈ ks, x.length < 2 ^ 21) → (itemsT tb first ks l).length ≤ nodesL l * 2 ^ 25
  | [], _, _, _, _ => by simp [itemsT, nodesL]
  | v :: r, ks, first, h, hk => by
    have h1 := h v (by simp)
    have h2 := items_len (tb := tb) (l := r) (ks := ks.tail) (first := false) (fun x hx => h x (by simp [hx])) (fun x hx => hk x (List.mem_of_mem_tail hx))
    have h3 : ((if first = true then [] else [44]) : List UInt8).length ≤ 1 := by split <;> simp
    have h4 : (keyB tb ks).length ≤ 6 * 2 ^ 21 + 3 := by
      unfold keyB
      split
      · rename_i k ks' 
        have := quotS_len k
        have := hk k (by simp)
        simp only [List.length_append, List.length_singleton]; omega
      · simp
    simp only [itemsT, nodesL, List.length_append, Nat.add_mul]
    omega
theorem text_len {T : VT} (hf : Fit T) : (textT T).length + 2 ^ 24 ≤ nodesT T * 2 ^ 25 := by
  induction hf with
  | @mk k t keys kids f1 f2 f3 f4 _ ih =>
    have hk : ∀ x ∈ kids, (textT x).length + 2 ^ 24 ≤ nodesT x * 2 ^ 25 := by
      intro x hx
      obtain ⟨i, hi, rfl⟩ := List.getElem_of_mem hx
      have := ih i hi
      rwa [show kids.getD i VT.zero = kids[i] by simp [List.getD, hi]] at this
    have i1 := items_len (tb := false) (l := kids) (ks := keys) (first := true) hk f4
    have i2 := items_len (tb := true) (l := kids) (ks := keys) (first := true) hk f4
    have h4 := quotS_len t
    simp only [textT, nodesT, Nat.add_mul]
    split
    · simp [tNull]; omega
    · split
      · omega
      · split
        · simp only [List.length_append, List.length_singleton]; omega
        · split
          · simp only [List.length_append, List.length_singleton]; omega
          · omega
theorem nodes_mem {x : VT} : ∀ {l : List VT}, x ∈ l → nodesT x ≤ nodesL l
  | v :: r, h => by
    simp only [nodesL]
    rcases List.mem_cons.1 h with rfl | h
    · omega
    · have := nodes_mem h; omega
theorem text_lt {T : VT} (hf : Fit T) (hn : nodesT T ≤ 4096) : (textT T).length < 2 ^ 37 := by
  have := text_len hf; omega

def RText (T : VT) : Prop := ∀ (m : Mem) (a : AV), nodesT T ≤ 4096 → IsVal a T → ∃ v m', CS 32 [a] m (.ret v) m' ∧ v = .str (textT T) ∧ Ext m m'
theorem keys_at {ks : List (List UInt8)} {i : Nat} : keyB true (ks.drop i) = (if h : i < ks.length then quotS ks[i] ++ [58] else []) := by
  by_cases h : i < ks.length
  · rw [List.drop_eq_getElem_cons h, dif_pos h]; rfl
  · rw [List.drop_of_length_le (by omega), dif_neg h]; rfl
theorem rtxt_loop {m : Mem} {q : Nat} {k : Int} {t : List UInt8} {ka kb : AV} {keys : List (List UInt8)} {xs : List AV} {kids : List VT} (h1 : SlOf 1 ka (keys.map .str)) (h2 : SlOf 4 kb xs) (hxl : xs.length = kids.length) (hx2 : ∀ i, i < kids.length → IsVal (xs.getD i .u) (kids.getD i VT.zero)) (hlen : kids.length < 2 ^ 21) (hkl : keys.length < 2 ^ 21) (hks : ∀ x ∈ keys, x.length < 2 ^ 21)
    (hfit : ∀ x ∈ kids, (textT x).length < 2 ^ 37) (hnod : ∀ x ∈ kids, nodesT x ≤ 4096)
    (hq : q < m.next) (hgq : m.get q = .cells 26 [.int .i64 k, .str t, ka, kb]) (ih : ∀ i, i < kids.length → RText (kids.getD i VT.zero)) {S : List UInt8} (hS : S.length < 2 ^ 40) {Q : AExit → List AV → Mem → Prop}
    (hx : ∀ M, Ext m M → ∀ g0 g2 g4 g5 g6 g7 g8 g9 g10 g11 g12, Q (.exit 1) [g0, .ptr q 0, g2, .str S, g4, g5, g6, g7, g8, g9, g10, g11, g12] M) :
    ∀ (r i : Nat) (out : List UInt8) (M : Mem) (g0 g2 g5 g6 g7 g8 g9 g10 g11 g12 : AV), i + r = kids.length → Ext m M → S = out ++ itemsT (decide (k = 6)) (decide (i = 0)) (keys.drop i) (kids.drop i) →
      wl CS [0, 2, 5, 6, 7, 8, 9, 10, 11, 12] q32l17 Q [g0, .ptr q 0, g2, .str out, .int .i64 i, g5, g6, g7, g8, g9, g10, g11, g12] M := by
  intro r
  induction r with
  | zero =>
    intro i out M g0 g2 g5 g6 g7 g8 g9 g10 g11 g12 hi hE hout
    refine wl_step ?_
    have e1 : decide ((i : Int) < (xs.length : Nat)) = false := dF (by omega)
    have hgq' : M.get q = .cells 26 [.int .i64 k, .str t, ka, kb] := by rw [hE.get q hq]; exact hgq
    have hd : kids.drop i = [] := List.drop_of_length_le (by omega)
    rw [hd] at hout
    simp only [itemsT, List.append_nil] at hout
    subst hout
    simp only [go_sem, reduceIte, Nat.reduceEqDiff, Nat.reduceAdd, q32l17, q32r10, hgq', h2.isLK, h2.len, e1]
    exact hx _ hE _ _ _ _ _ _ _ _ _ _ _
  | succ r ihr =>
    intro i out M g0 g2 g5 g6 g7 g8 g9 g10 g11 g12 hi hE hout
    refine wl_step ?_
    have e1 : decide ((i : Int) < (xs.length : Nat)) = true := dT (by omega)
    have hi1 : i < kids.length := by omega
    have hgq' : M.get q = .cells 26 [.int .i64 k, .str t, ka, kb] := by rw [hE.get q hq]; exact hgq
    have hxi := hx2 i hi1
    have ea := h2.idx (k := .i64) (i := (i : Int)) (y := xs.getD i .u) (by omega) (by simp [List.getD, show i < xs.length by omega])
    obtain ⟨k1, t1, a1, b1, e2, _⟩ := hxi.shape
    rw [e2] at ea hxi
    have hw := wrap_succ (i := i) (by omega)
    have hd : kids.drop i = kids.getD i VT.zero :: kids.drop (i + 1) := by
      rw [List.drop_eq_getElem_cons hi1, show kids.getD i VT.zero = kids[i] by simp [List.getD, hi1]]
    have hmem : kids.getD i VT.zero ∈ kids := by rw [show kids.getD i VT.zero = kids[i] by simp [List.getD, hi1]]; exact List.getElem_mem hi1
    rw [hd] at hout
    simp only [itemsT, List.tail_drop] at hout
    have hl := congrArg List.length hout
    simp only [List.length_append] at hl
    have htl := hfit _ hmem
    generalize hcm : (if decide (i = 0) = true then [] else [44] : List UInt8) = cm at hout hl
    generalize hky : keyB (decide (k = 6)) (keys.drop i) = ky at hout hl
    have hkyl : ky.length < 2 ^ 40 := by omega
    -- the comma
    have comma : ∀ {Q' : AExit → List AV → Mem → Prop}, (∀ z5 z6 z7 z8 z9 z10 z11 z12, Q' .normal [g0, .ptr q 0, g2, .str (out ++ cm), .int .i64 i, z5, z6, z7, z8, z9, z10, z11, z12] M) → ∀ z9, wc CS (.seq (.region q32r11) (.cond (.var 10) (.region q32r12) .skip)) Q' [g0, .ptr q 0, g2, .str out, .int .i64 i, g5, g6, g7, g8, z9, g10, g11, g12] M := by
      intro Q' hq' z9
      by_cases h0 : i = 0
      · have e3 : decide ((i : Int) > 0) = false := dF (by omega)
        rw [if_pos (dT h0)] at hcm
        subst hcm
        rw [List.append_nil] at hq'
        simp only [go_sem, reduceIte, Nat.reduceEqDiff, Nat.reduceAdd, q32r11, e3]
        exact hq' _ _ _ _ _ _ _ _
      · have e3 : decide ((i : Int) > 0) = true := dT (by omega)
        rw [if_neg (by simp [h0])] at hcm
        subst hcm
        have l1 : out.length + ([44] : List UInt8).length ≤ 2 ^ 62 := by simp only [List.length_singleton] at hl ⊢; omega
        simp only [go_sem, reduceIte, Nat.reduceEqDiff, Nat.reduceAdd, q32r11, e3, q32r12, l1]
        exact hq' _ _ _ _ _ _ _ _
    have key : ∀ {Q' : AExit → List AV → Mem → Prop}, (∀ M', Ext M M' → ∀ z5 z6 z7 z8 z9 z10 z11 z12, Q' .normal [g0, .ptr q 0, g2, .str (out ++ cm ++ ky), .int .i64 i, z5, z6, z7, z8, z9, z10, z11, z12] M') → ∀ z5 z6 z7 z8 z9 z10 z11 z12, wc CS (.seq (.region q32r13) (.cond (.var 11) (.region q32r14) .skip)) Q' [g0, .ptr q 0, g2, .str (out ++ cm), .int .i64 i, z5, z6, z7, z8, z9, z10, z11, z12] M := by
      intro Q' hq' z5 z6 z7 z8 z9 z10 z11 z12
      by_cases k6 : k = 6
      · have f6 : (k == 6) = true := iqT k6
        rw [dT k6, keys_at] at hky
        by_cases hik : i < keys.length
        · have e4 : decide ((i : Int) < (keys.length : Nat)) = true := dT (by omega)
          rw [dif_pos hik] at hky
          have eb := h1.idx (k := .i64) (i := (i : Int)) (y := .str keys[i]) (by omega) (by simp [hik])
          obtain ⟨v, M2, c1, rfl, c2⟩ := rquoted_ok (s := keys[i]) (by have := hks _ (List.getElem_mem hik); omega) M
          have l1 : (quotS keys[i]).length + ([58] : List UInt8).length ≤ 2 ^ 62 := by rw [← hky, List.length_append] at hkyl; omega
          have l2 : (out ++ cm).length + (quotS keys[i] ++ [58]).length ≤ 2 ^ 62 := by rw [hky, List.length_append]; omega
          simp only [go_sem, reduceIte, Nat.reduceEqDiff, Nat.reduceAdd, q32r13, hgq', f6, h1.isLK, h1.len, List.length_map, e4, q32r14, eb]
          refine callW_ret c1 ?_
          simp only [go_sem, reduceIte, Nat.reduceEqDiff, Nat.reduceAdd, l1, l2]
          rw [hky]
          exact hq' _ c2 _ _ _ _ _ _ _ _
        · have e4 : decide ((i : Int) < (keys.length : Nat)) = false := dF (by omega)
          rw [dif_neg hik] at hky
          subst hky
          rw [List.append_nil] at hq'
          simp only [go_sem, reduceIte, Nat.reduceEqDiff, Nat.reduceAdd, q32r13, hgq', f6, h1.isLK, h1.len, List.length_map, e4]
          exact hq' _ (Ext.refl M) _ _ _ _ _ _ _ _
      · have f6 : (k == 6) = false := iqF k6
        rw [dF k6] at hky
        obtain rfl : ky = [] := hky.symm
        rw [List.append_nil] at hq'
        simp only [go_sem, reduceIte, Nat.reduceEqDiff, Nat.reduceAdd, q32r13, hgq', f6]
        exact hq' _ (Ext.refl M) _ _ _ _ _ _ _ _
    simp only [go_sem, reduceIte, Nat.reduceEqDiff, Nat.reduceAdd, q32l17, q32r10, hgq', h2.isLK, h2.len, e1]
    have step : ∀ {Q' : AExit → List AV → Mem → Prop}, (∀ M', Ext m M' → ∀ z5 z6 z7 z8 z9 z10 z11 z12, Q' .normal [g0, .ptr q 0, g2, .str (out ++ cm ++ ky ++ textT (kids.getD i VT.zero)), .int .i64 i, z5, z6, z7, z8, z9, z10, z11, z12] M') → ∀ z9, wc CS (.seq (.seq (.region q32r11) (.cond (.var 10) (.region q32r12) .skip)) (.seq (.seq (.region q32r13) (.cond (.var 11) (.region q32r14) .skip)) (.region q32r15))) Q' [g0, .ptr q 0, g2, .str out, .int .i64 i, g5, g6, g7, g8, z9, g10, g11, g12] M := by
      intro Q' hq' z9
      rw [wc_seq]
      refine comma (fun z5 z6 z7 z8 z9 z10 z11 z12 => ?_) _
      rw [seqQ_n, wc_seq]
      refine key (fun M' hE' z5 z6 z7 z8 z9 z10 z11 z12 => ?_) _ _ _ _ _ _ _ _
      rw [seqQ_n]
      have hgq2 : M'.get q = .cells 26 [.int .i64 k, .str t, ka, kb] := by rw [(hE.trans hE').get q hq]; exact hgq
      obtain ⟨v, M2, c1, rfl, c2⟩ := ih i hi1 M' _ (hnod _ hmem) hxi
      have l1 : (out ++ cm ++ ky).length + (textT (kids.getD i VT.zero)).length ≤ 2 ^ 62 := by simp only [List.length_append]; omega
      simp only [go_sem, reduceIte, Nat.reduceEqDiff, Nat.reduceAdd, q32r15, hgq2, ea]
      refine callW_ret c1 ?_
      simp only [go_sem, reduceIte, Nat.reduceEqDiff, Nat.reduceAdd, l1]
      exact hq' _ ((hE.trans hE').trans c2) _ _ _ _ _ _ _ _
    rw [← wc_start, ← wc_seq]
    refine step (fun M' hE' z5 z6 z7 z8 z9 z10 z11 z12 => ?_) _
    simp only [go_sem, reduceIte, Nat.reduceEqDiff, Nat.reduceAdd, q32r16, hw]
    refine ihr (i + 1) _ M' _ _ _ _ _ _ _ _ _ _ (by omega) hE' ?_
    rw [hout, dF (show ¬ (i + 1 = 0) by omega)]
    simp only [List.append_assoc]
end Go.Proofs.YtinlfdkalijffaaDoor.Am.Q

/-
  JSON, 56: the document's Text.
-/
namespace Go.Proofs.YtinlfdkalijffaaDoor.Am.Q
open Go Go.Proofs Go.Proofs.YtinlfdkalijffaaDoor.Am

theorem fit_mem {k : Int} {t : List UInt8} {keys : List (List UInt8)} {kids : List VT} (h : ∀ i, i < kids.length → Fit (kids.getD i VT.zero)) : ∀ x ∈ kids, Fit x := by
  intro x hx
  obtain ⟨i, hi, rfl⟩ := List.getElem_of_mem hx
  have := h i hi
  rwa [show kids.getD i VT.zero = kids[i] by simp [List.getD, hi]] at this
theorem rtext_all {T : VT} (hf : Fit T) : RText T := by
  induction hf with
  | @mk k t keys kids f1 f2 f3 f4 f5 ih =>
    intro m a hn ha
    have hfit := fit_mem (k := k) (t := t) (keys := keys) f5
    have hT : (textT (.node k t keys kids)).length < 2 ^ 37 := text_lt (.mk f1 f2 f3 f4 f5) hn
    have hnod : ∀ x ∈ kids, nodesT x ≤ 4096 := by
      intro x hx
      have := nodes_mem hx
      simp only [nodesT] at hn; omega
    cases ha with
    | @mk _ _ ka kb _ _ xs h1 h2 hxl hx2 =>
    refine call_some (R := fun v m' => v = .str (textT (.node k t keys kids)) ∧ Ext m m') xfok mixed q32at q32ok rfl ?_
    have g0 : (m.alloc (.cells 26 [.int .i64 k, .str t, ka, kb])).get m.next = .cells 26 [.int .i64 k, .str t, ka, kb] := get_new
    have n0 : (m.alloc (.cells 26 [.int .i64 k, .str t, ka, kb])).next = m.next + 1 := rfl
    have E0 : Ext m (m.alloc (.cells 26 [.int .i64 k, .str t, ka, kb])) := Ext.alloc _ _
    have o1 := h1.one
    have o2 := h2.one
    simp only [go_sem, reduceIte, Nat.reduceEqDiff, Nat.reduceAdd, q32, q32r0, o1, o2]
    generalize m.alloc (.cells 26 [.int .i64 k, .str t, ka, kb]) = M0 at g0 n0 E0
    by_cases k1 : k = 1
    · have f1 : (k == 1) = true := iqT k1
      have hS : textT (.node k t keys kids) = tNull := by simp only [textT, if_pos k1]
      simp only [go_sem, reduceIte, Nat.reduceEqDiff, Nat.reduceAdd, q32r1, g0, q32r2, f1, q32r3, hS]
      exact ⟨rfl, E0⟩
    have f1' : (k == 1) = false := iqF k1
    by_cases k4 : k = 4
    · have f4' : (k == 4) = true := iqT k4
      have hS : textT (.node k t keys kids) = quotS t := by simp only [textT, if_neg k1, if_pos k4]
      obtain ⟨v, M2, c1, rfl, c2⟩ := rquoted_ok (s := t) (by omega) M0
      simp only [go_sem, reduceIte, Nat.reduceEqDiff, Nat.reduceAdd, q32r1, g0, q32r2, f1', q32r4, f4', q32r5]
      refine callW_ret c1 ?_
      simp only [go_sem, reduceIte, Nat.reduceEqDiff, Nat.reduceAdd, hS]
      exact E0.trans c2
    have f4' : (k == 4) = false := iqF k4
    have hm : ∀ x ∈ kids, (textT x).length < 2 ^ 37 := fun x hx => text_lt (hfit x hx) (hnod x hx)
    by_cases k5 : k = 5
    · have f5' : (k == 5) = true := iqT k5
      have k6 : ¬ k = 6 := by omega
      have hS : textT (.node k t keys kids) = [91] ++ (itemsT false true keys kids ++ [93]) := by simp only [textT, if_neg k1, if_neg k4, if_pos k5]
      rw [hS] at hT ⊢
      simp only [List.length_append] at hT
      simp only [go_sem, reduceIte, Nat.reduceEqDiff, Nat.reduceAdd, q32r1, g0, q32r2, f1', q32r4, f4', q32r6, f5', q32r8, q32r9]
      refine rtxt_loop (m := M0) h1 h2 hxl hx2 f2 (by assumption) f4 hm hnod (by omega) g0 ih (S := itemsT false true keys kids) (by omega) (fun M hE z0 z2 z4 z5 z6 z7 z8 z9 z10 z11 z12 => ?_) kids.length 0 [] M0 _ _ _ _ _ _ _ _ _ _ (by omega) (Ext.refl M0) (by rw [dF k6]; rfl)
      have g2 : M.get m.next = .cells 26 [.int .i64 k, .str t, ka, kb] := by rw [hE.get _ (by omega)]; exact g0
      have l1 : ([91] : List UInt8).length + (itemsT false true keys kids).length ≤ 2 ^ 62 := by simp only [List.length_singleton]; omega
      have l2 : (91 :: itemsT false true keys kids : List UInt8).length + ([93] : List UInt8).length ≤ 2 ^ 62 := by simp only [List.length_cons, List.length_nil]; omega
      simp only [go_sem, reduceIte, Nat.reduceEqDiff, Nat.reduceAdd, q32r18, g2, f5', q32r19, l1, l2]
      exact E0.trans hE
    have f5' : (k == 5) = false := iqF k5
    by_cases k6 : k = 6
    · have f6' : (k == 6) = true := iqT k6
      have hS : textT (.node k t keys kids) = [123] ++ (itemsT true true keys kids ++ [125]) := by simp only [textT, if_neg k1, if_neg k4, if_neg k5, if_pos k6]
      rw [hS] at hT ⊢
      simp only [List.length_append] at hT
      simp only [go_sem, reduceIte, Nat.reduceEqDiff, Nat.reduceAdd, q32r1, g0, q32r2, f1', q32r4, f4', q32r6, f5', q32r7, f6', q32r8, q32r9]
      refine rtxt_loop (m := M0) h1 h2 hxl hx2 f2 (by assumption) f4 hm hnod (by omega) g0 ih (S := itemsT true true keys kids) (by omega) (fun M hE z0 z2 z4 z5 z6 z7 z8 z9 z10 z11 z12 => ?_) kids.length 0 [] M0 _ _ _ _ _ _ _ _ _ _ (by omega) (Ext.refl M0) (by rw [dT k6]; rfl)
      have g2 : M.get m.next = .cells 26 [.int .i64 k, .str t, ka, kb] := by rw [hE.get _ (by omega)]; exact g0
      have l1 : ([123] : List UInt8).length + (itemsT true true keys kids).length ≤ 2 ^ 62 := by simp only [List.length_singleton]; omega
      have l2 : (123 :: itemsT true true keys kids : List UInt8).length + ([125] : List UInt8).length ≤ 2 ^ 62 := by simp only [List.length_cons, List.length_nil]; omega
      simp only [go_sem, reduceIte, Nat.reduceEqDiff, Nat.reduceAdd, q32r18, g2, f5', q32r20, l1, l2]
      exact E0.trans hE
    have f6' : (k == 6) = false := iqF k6
    have hS : textT (.node k t keys kids) = t := by simp only [textT, if_neg k1, if_neg k4, if_neg k5, if_neg k6]
    simp only [go_sem, reduceIte, Nat.reduceEqDiff, Nat.reduceAdd, q32r1, g0, q32r2, f1', q32r4, f4', q32r6, f5', q32r7, f6', q32r21, hS]
    exact E0

def TextR (T : VT) : List UInt8 × Int := if mayT T = false then ([], 1) else if 65536 < (textT T).length then ([], 5) else (textT T, 0)
theorem mayT_nodes {T : VT} (h : mayT T = true) : nodesT T ≤ 4096 := by simp only [mayT, Bool.and_eq_true, decide_eq_true_eq] at h; exact h.2
theorem rText_ok {T : VT} (hf : Fit T) {a : AV} (ha : IsVal a T) (m : Mem) : ∃ v m', CS 17 [a] m (.ret v) m' ∧ v = .tup [.str (TextR T).1, .int .i64 (TextR T).2] ∧ Ext m m' := by
  refine call_some (R := fun v m' => v = .tup [.str (TextR T).1, .int .i64 (TextR T).2] ∧ Ext m m') xfok mixed q17at q17ok rfl ?_
  obtain ⟨k, t, ka, kb, rfl, o1, o2⟩ := ha.ones
  have g0 : (m.alloc (.cells 26 [.int .i64 k, .str t, ka, kb])).get m.next = .cells 26 [.int .i64 k, .str t, ka, kb] := get_new
  have n0 : (m.alloc (.cells 26 [.int .i64 k, .str t, ka, kb])).next = m.next + 1 := rfl
  have E : Ext m (m.alloc (.cells 26 [.int .i64 k, .str t, ka, kb])) := Ext.alloc _ _
  simp only [go_sem, reduceIte, Nat.reduceEqDiff, Nat.reduceAdd, q17, q17r0, o1, o2, q17r1]
  generalize m.alloc (.cells 26 [.int .i64 k, .str t, ka, kb]) = M at g0 E n0
  obtain ⟨v, M2, c1, rfl, c2⟩ := rmay_ok hf ha M
  have g2 : M2.get m.next = .cells 26 [.int .i64 k, .str t, ka, kb] := by rw [c2.get _ (by omega)]; exact g0
  simp only [go_sem, reduceIte, Nat.reduceEqDiff, Nat.reduceAdd, g0]
  refine callW_ret c1 ?_
  cases hmay : mayT T with
  | false =>
    have hS : TextR T = ([], 1) := by simp only [TextR, hmay, if_true]
    simp only [go_sem, reduceIte, Nat.reduceEqDiff, Nat.reduceAdd, q17r2, hS]
    exact E.trans c2
  | true =>
    obtain ⟨v, M3, d1, rfl, d2⟩ := rtext_all hf M2 _ (mayT_nodes hmay) ha
    have hS : TextR T = if 65536 < (textT T).length then ([], 5) else (textT T, 0) := by simp only [TextR, hmay]; rfl
    simp only [go_sem, reduceIte, Nat.reduceEqDiff, Nat.reduceAdd, q17r3, g2]
    refine callW_ret d1 ?_
    by_cases hl : 65536 < (textT T).length
    · have e1 : decide (((textT T).length : Int) > 65536) = true := dT (by omega)
      rw [if_pos hl] at hS
      simp only [go_sem, reduceIte, Nat.reduceEqDiff, Nat.reduceAdd, q17r4, e1, q17r5, hS]
      exact (E.trans c2).trans d2
    · have e1 : decide (((textT T).length : Int) > 65536) = false := dF (by omega)
      rw [if_neg hl] at hS
      simp only [go_sem, reduceIte, Nat.reduceEqDiff, Nat.reduceAdd, q17r4, e1, q17r6, hS]
      exact (E.trans c2).trans d2
end Go.Proofs.YtinlfdkalijffaaDoor.Am.Q

/-
  JSON, 57: the program's Text.
-/
namespace Go.Proofs.YtinlfdkalijffaaDoor.Am.Q
open Go Go.Proofs Go.Proofs.YtinlfdkalijffaaDoor.Am

def PWrite (T : VT) : Prop := ∀ (mb M : Mem) (p d : Nat) (out : List UInt8) (a : AV), goodT d T = true → nodesT T ≤ 4096 → out.length + (textT T).length < 2 ^ 41 → BSt p mb M out → IsVal a T →
  ∃ v M', CS 29 [.ptr p 0, a] M (.ret v) M' ∧ BSt p mb M' (out ++ textT T) ∧ KeepG p M M'
theorem BSt.lt {p : Nat} {mb M : Mem} {out : List UInt8} (h : BSt p mb M out) : p < M.next := by
  obtain ⟨_, _, _, _, _, _, h⟩ := h; exact h
theorem pwrite_loop {mb M0 : Mem} {p q d1 : Nat} {k : Int} {t : List UInt8} {ka kb : AV} {keys : List (List UInt8)} {xs : List AV} {kids : List VT} (h1 : SlOf 1 ka (keys.map .str)) (h2 : SlOf 4 kb xs) (hxl : xs.length = kids.length) (hx2 : ∀ i, i < kids.length → IsVal (xs.getD i .u) (kids.getD i VT.zero)) (hlen : kids.length < 2 ^ 21) (hks : ∀ x ∈ keys, x.length < 2 ^ 21)
    (hkl : k = 6 → keys.length = kids.length) (hgood : ∀ x ∈ kids, goodT d1 x = true) (hnod : ∀ x ∈ kids, nodesT x ≤ 4096)
    (hq : q < M0.next) (hqp : q ≠ p) (hgq : M0.get q = .cells 26 [.int .i64 k, .str t, ka, kb]) (ih : ∀ i, i < kids.length → PWrite (kids.getD i VT.zero)) {ends S : List UInt8} (hS : S.length < 2 ^ 41) {Q : AExit → List AV → Mem → Prop}
    (hx : ∀ M, BSt p mb M S → KeepG p M0 M → ∀ g1 g4 g5 g6 g7 g8 g9 g10 g11 g12 g13 g14 g15 g16, Q (.exit 1) [.ptr p 0, g1, .ptr q 0, .str ends, g4, g5, g6, g7, g8, g9, g10, g11, g12, g13, g14, g15, g16] M) :
    ∀ (r i : Nat) (out : List UInt8) (M : Mem) (g1 g4 g5 g6 g7 g8 g9 g10 g14 g15 g16 : AV), i + r = kids.length → BSt p mb M out → KeepG p M0 M → S = out ++ itemsT (decide (k = 6)) (decide (i = 0)) (keys.drop i) (kids.drop i) →
      wl CS [1, 4, 5, 6, 7, 8, 9, 10, 14, 15, 16] q29l23 Q [.ptr p 0, g1, .ptr q 0, .str ends, g4, g5, g6, g7, g8, g9, g10, kb, .int .i64 xs.length, .int .i64 i, g14, g15, g16] M := by
  intro r
  induction r with
  | zero =>
    intro i out M g1 g4 g5 g6 g7 g8 g9 g10 g14 g15 g16 hi hB hK hout
    refine wl_step ?_
    have e1 : decide ((i : Int) < (xs.length : Nat)) = false := dF (by omega)
    have hd : kids.drop i = [] := List.drop_of_length_le (by omega)
    rw [hd] at hout
    simp only [itemsT, List.append_nil] at hout
    subst hout
    simp only [go_sem, reduceIte, Nat.reduceEqDiff, Nat.reduceAdd, q29l23, q29r14, e1]
    exact hx _ hB hK _ _ _ _ _ _ _ _ _ _ _ _ _ _
  | succ r ihr =>
    intro i out M g1 g4 g5 g6 g7 g8 g9 g10 g14 g15 g16 hi hB hK hout
    refine wl_step ?_
    have e1 : decide ((i : Int) < (xs.length : Nat)) = true := dT (by omega)
    have hi1 : i < kids.length := by omega
    have hxi := hx2 i hi1
    have ea := h2.idx (k := .i64) (i := (i : Int)) (y := xs.getD i .u) (by omega) (by simp [List.getD, show i < xs.length by omega])
    obtain ⟨k1, t1, a1, b1, e2, o1, o2⟩ := hxi.ones
    rw [e2] at ea hxi
    have hw := wrap_succ (i := i) (by omega)
    have hd : kids.drop i = kids.getD i VT.zero :: kids.drop (i + 1) := by
      rw [List.drop_eq_getElem_cons hi1, show kids.getD i VT.zero = kids[i] by simp [List.getD, hi1]]
    have hmem : kids.getD i VT.zero ∈ kids := by rw [show kids.getD i VT.zero = kids[i] by simp [List.getD, hi1]]; exact List.getElem_mem hi1
    rw [hd] at hout
    simp only [itemsT, List.tail_drop] at hout
    have hl := congrArg List.length hout
    simp only [List.length_append] at hl
    generalize hcm : (if decide (i = 0) = true then [] else [44] : List UInt8) = cm at hout hl
    generalize hky : keyB (decide (k = 6)) (keys.drop i) = ky at hout hl
    have hpl := hB.lt
    -- the kid is laid
    have s1 : (M.alloc z26).get M.next = z26 := get_new
    have hE1 : Ext M ((M.alloc z26).set M.next (.cells 26 [.int .i64 k1, .str t1, a1, b1])) := (Ext.alloc _ _).set (Nat.le_refl _) _
    have gk : ((M.alloc z26).set M.next (.cells 26 [.int .i64 k1, .str t1, a1, b1])).get M.next = .cells 26 [.int .i64 k1, .str t1, a1, b1] := get_set_same
    have nk : M.next < ((M.alloc z26).set M.next (.cells 26 [.int .i64 k1, .str t1, a1, b1])).next := by show _ < M.next + 1; omega
    have hB1 := hB.ext hE1
    have hK1 := hK.trans (KeepG.of_ext (p := p) hE1)
    simp only [go_sem, reduceIte, Nat.reduceEqDiff, Nat.reduceAdd, q29l23, q29r14, e1, q29r15, ea, s1, o1, o2]
    generalize (M.alloc z26).set M.next (.cells 26 [.int .i64 k1, .str t1, a1, b1]) = M1 at gk nk hB1 hK1
    generalize hkid : M.next = kid at gk nk
    have hkp : kid ≠ p := by omega
    rw [← wc_start]
    -- the comma
    have comma : ∀ {Q' : AExit → List AV → Mem → Prop}, (∀ M', BSt p mb M' (out ++ cm) → KeepG p M1 M' → ∀ z6 z7 z8 z9 z10 z14 z15 z16, Q' .normal [.ptr p 0, g1, .ptr q 0, .str ends, .int .i64 i, .ptr kid 0, z6, z7, z8, z9, z10, kb, .int .i64 xs.length, .int .i64 i, z14, z15, z16] M') → ∀ z14, wc CS (.seq (.region q29r16) (.cond (.var 15) (.region q29r17) .skip)) Q' [.ptr p 0, g1, .ptr q 0, .str ends, .int .i64 i, .ptr kid 0, g6, g7, g8, g9, g10, kb, .int .i64 xs.length, .int .i64 i, z14, g15, g16] M1 := by
      intro Q' hq' z14
      by_cases h0 : i = 0
      · have e3 : decide ((i : Int) > 0) = false := dF (by omega)
        rw [if_pos (dT h0)] at hcm
        subst hcm
        rw [List.append_nil] at hq'
        simp only [go_sem, reduceIte, Nat.reduceEqDiff, Nat.reduceAdd, q29r16, e3]
        exact hq' _ hB1 (KeepG.refl p M1) _ _ _ _ _ _ _ _
      · have e3 : decide ((i : Int) > 0) = true := dT (by omega)
        rw [if_neg (by simp [h0])] at hcm
        subst hcm
        obtain ⟨v, M2, c1, B2, K2⟩ := wbyte_k hB1 (by omega) 44
        have c1' : CS 53 [.ptr p 0, .int .u8 44] M1 (.ret v) M2 := c1
        simp only [go_sem, reduceIte, Nat.reduceEqDiff, Nat.reduceAdd, q29r16, e3, q29r17]
        refine callW_ret c1' ?_
        simp only [go_sem, reduceIte, Nat.reduceEqDiff, Nat.reduceAdd]
        exact hq' _ B2 K2 _ _ _ _ _ _ _ _
    have key : ∀ {Q' : AExit → List AV → Mem → Prop} {M2 : Mem}, BSt p mb M2 (out ++ cm) → KeepG p M1 M2 → (∀ M', BSt p mb M' (out ++ cm ++ ky) → KeepG p M1 M' → ∀ z4 z6 z7 z8 z9 z10 z14 z15 z16, Q' .normal [.ptr p 0, g1, .ptr q 0, .str ends, z4, .ptr kid 0, z6, z7, z8, z9, z10, kb, .int .i64 xs.length, .int .i64 i, z14, z15, z16] M') → ∀ z6 z7 z8 z9 z10 z14 z15 z16, wc CS (.seq (.region q29r18) (.cond (.var 16) (.seq (.region q29r19) (.region q29r20)) .skip)) Q' [.ptr p 0, g1, .ptr q 0, .str ends, .int .i64 i, .ptr kid 0, z6, z7, z8, z9, z10, kb, .int .i64 xs.length, .int .i64 i, z14, z15, z16] M2 := by
      intro Q' M2 hB2 hK2 hq' z6 z7 z8 z9 z10 z14 z15 z16
      have hgq2 : M2.get q = .cells 26 [.int .i64 k, .str t, ka, kb] := by rw [(hK1.trans hK2).get q hq hqp]; exact hgq
      by_cases k6 : k = 6
      · have f6 : (k == 6) = true := iqT k6
        have hik : i < keys.length := by rw [hkl k6]; exact hi1
        rw [dT k6, keys_at, dif_pos hik] at hky
        have eb := h1.idx (k := .i64) (i := (i : Int)) (y := .str keys[i]) (by omega) (by simp [hik])
        obtain ⟨v, M3, c1, rfl, c2⟩ := pquoted_ok (s := keys[i]) (by have := hks _ (List.getElem_mem hik); omega) M2
        have hkyl : (quotS keys[i]).length + 1 = ky.length := by rw [← hky, List.length_append]; rfl
        obtain ⟨v2, M4, d1, B4, K4⟩ := wstr_k (hB2.ext c2) (by rw [List.length_append]; omega) (l := quotS keys[i]) (by omega)
        obtain ⟨v3, M5, d2, B5, K5⟩ := wbyte_k B4 (by rw [List.length_append, List.length_append]; omega) 58
        have d2' : CS 53 [.ptr p 0, .int .u8 58] M4 (.ret v3) M5 := d2
        simp only [go_sem, reduceIte, Nat.reduceEqDiff, Nat.reduceAdd, q29r18, hgq2, f6, q29r19, eb]
        refine callW_ret c1 ?_
        simp only [go_sem, reduceIte, Nat.reduceEqDiff, Nat.reduceAdd]
        refine callW_ret d1 ?_
        simp only [go_sem, reduceIte, Nat.reduceEqDiff, Nat.reduceAdd, q29r20]
        refine callW_ret d2' ?_
        simp only [go_sem, reduceIte, Nat.reduceEqDiff, Nat.reduceAdd]
        refine hq' _ ?_ (((hK2.trans (KeepG.of_ext c2)).trans K4).trans K5) _ _ _ _ _ _ _ _ _
        rw [← hky, ← List.append_assoc]; exact B5
      · have f6 : (k == 6) = false := iqF k6
        rw [dF k6] at hky
        obtain rfl : ky = [] := hky.symm
        rw [List.append_nil] at hq'
        simp only [go_sem, reduceIte, Nat.reduceEqDiff, Nat.reduceAdd, q29r18, hgq2, f6]
        exact hq' _ hB2 hK2 _ _ _ _ _ _ _ _ _
    refine comma (fun M2 hB2 hK2 z6 z7 z8 z9 z10 z14 z15 z16 => ?_) _
    rw [seqQ_n, wc_seq]
    refine key hB2 hK2 (fun M3 hB3 hK3 y4 y6 y7 y8 y9 y10 y14 y15 y16 => ?_) _ _ _ _ _ _ _ _
    rw [seqQ_n]
    have gk3 : M3.get kid = .cells 26 [.int .i64 k1, .str t1, a1, b1] := by rw [hK3.get kid nk hkp]; exact gk
    obtain ⟨v, M4, c1, B4, K4⟩ := ih i hi1 mb M3 p d1 (out ++ cm ++ ky) _ (hgood _ hmem) (hnod _ hmem) (by simp only [List.length_append]; omega) hB3 hxi
    simp only [go_sem, reduceIte, Nat.reduceEqDiff, Nat.reduceAdd, q29r21, gk3]
    refine callW_ret c1 ?_
    simp only [go_sem, reduceIte, Nat.reduceEqDiff, Nat.reduceAdd, q29r22, hw]
    refine ihr (i + 1) _ M4 _ _ _ _ _ _ _ _ _ _ _ (by omega) B4 ((hK1.trans hK3).trans K4) ?_
    rw [hout, dF (show ¬ (i + 1 = 0) by omega)]
    simp only [List.append_assoc]
theorem goodL_mem {d : Nat} : ∀ {l : List VT}, goodL d l = true → ∀ x ∈ l, goodT d x = true
  | v :: r, h, x, hx => by
    simp only [goodL, Bool.and_eq_true] at h
    rcases List.mem_cons.1 hx with rfl | hx
    · exact h.1
    · exact goodL_mem h.2 x hx
theorem oneS_kind {k : Int} {t : List UInt8} {ks : List (List UInt8)} {n : Nat} (h : oneS k t ks n = true) : k = 1 ∨ k = 2 ∨ k = 3 ∨ k = 4 ∨ k = 5 ∨ k = 6 := by
  by_cases j1 : k = 1
  · omega
  · by_cases j2 : k = 2
    · omega
    · by_cases j3 : k = 3
      · omega
      · by_cases j4 : k = 4
        · omega
        · by_cases j5 : k = 5
          · omega
          · by_cases j6 : k = 6
            · omega
            · unfold oneS at h
              rw [if_neg j1, if_neg j2, if_neg j3, if_neg j4, if_neg j5, if_neg j6] at h
              cases h
theorem pwrite_all {T : VT} (hf : Fit T) : PWrite T := by
  induction hf with
  | @mk k t keys kids f1 f2 f3 f4 f5 ih =>
    intro mb M p d out a hg hn hlen hB ha
    have hfit := fit_mem (k := k) (t := t) (keys := keys) f5
    have hnod : ∀ x ∈ kids, nodesT x ≤ 4096 := by
      intro x hx
      have := nodes_mem hx
      simp only [nodesT] at hn; omega
    simp only [goodT, Bool.and_eq_true] at hg
    obtain ⟨hone, _, hgl⟩ := hg
    cases ha with
    | @mk _ _ ka kb _ _ xs h1 h2 hxl hx2 =>
    refine call_some (R := fun _ M' => BSt p mb M' (out ++ textT (.node k t keys kids)) ∧ KeepG p M M') xfok mixed q29at q29ok rfl ?_
    have g0 : (M.alloc (.cells 26 [.int .i64 k, .str t, ka, kb])).get M.next = .cells 26 [.int .i64 k, .str t, ka, kb] := get_new
    have n0 : (M.alloc (.cells 26 [.int .i64 k, .str t, ka, kb])).next = M.next + 1 := rfl
    have E0 : Ext M (M.alloc (.cells 26 [.int .i64 k, .str t, ka, kb])) := Ext.alloc _ _
    have o1 := h1.one
    have o2 := h2.one
    have hpl := hB.lt
    have B0 := hB.ext E0
    have K0 : KeepG p M (M.alloc (.cells 26 [.int .i64 k, .str t, ka, kb])) := KeepG.of_ext E0
    simp only [go_sem, reduceIte, Nat.reduceEqDiff, Nat.reduceAdd, q29, q29r0, o1, o2]
    generalize M.alloc (.cells 26 [.int .i64 k, .str t, ka, kb]) = M0 at g0 n0 B0 K0
    by_cases k1 : k = 1
    · have e1 : (k == 1) = true := iqT k1
      have hS : textT (.node k t keys kids) = tNull := by simp only [textT, if_pos k1]
      rw [hS] at hlen ⊢
      obtain ⟨v, M2, c1, B2, K2⟩ := wstr_k B0 (by omega) (l := tNull) (by simp [tNull])
      simp only [go_sem, reduceIte, Nat.reduceEqDiff, Nat.reduceAdd, q29r1, q29r2, g0, q29r3, e1, q29r4]
      refine callW_ret c1 ?_
      simp only [go_sem, reduceIte, Nat.reduceEqDiff, Nat.reduceAdd]
      exact ⟨B2, K0.trans K2⟩
    have e1 : (k == 1) = false := iqF k1
    by_cases k23 : k = 2 ∨ k = 3
    · have hS : textT (.node k t keys kids) = t := by simp only [textT]; rw [if_neg k1, if_neg (by omega), if_neg (by omega), if_neg (by omega)]
      rw [hS] at hlen ⊢
      obtain ⟨v, M2, c1, B2, K2⟩ := wstr_k B0 (by omega) (l := t) (by omega)
      by_cases k2 : k = 2
      · have e2 : (k == 2) = true := iqT k2
        simp only [go_sem, reduceIte, Nat.reduceEqDiff, Nat.reduceAdd, q29r1, q29r2, g0, q29r3, e1, q29r5, e2, q29r7]
        refine callW_ret c1 ?_
        simp only [go_sem, reduceIte, Nat.reduceEqDiff, Nat.reduceAdd]
        exact ⟨B2, K0.trans K2⟩
      · have e2 : (k == 2) = false := iqF k2
        have e3 : (k == 3) = true := iqT (by omega)
        simp only [go_sem, reduceIte, Nat.reduceEqDiff, Nat.reduceAdd, q29r1, q29r2, g0, q29r3, e1, q29r5, e2, q29r6, e3, q29r7]
        refine callW_ret c1 ?_
        simp only [go_sem, reduceIte, Nat.reduceEqDiff, Nat.reduceAdd]
        exact ⟨B2, K0.trans K2⟩
    have e2 : (k == 2) = false := iqF (by omega)
    have e3 : (k == 3) = false := iqF (by omega)
    by_cases k4 : k = 4
    · have e4 : (k == 4) = true := iqT k4
      have hS : textT (.node k t keys kids) = quotS t := by simp only [textT, if_neg k1, if_pos k4]
      rw [hS] at hlen ⊢
      obtain ⟨v, M2, c1, rfl, c2⟩ := pquoted_ok (s := t) (by omega) M0
      obtain ⟨v2, M3, d1, B3, K3⟩ := wstr_k (B0.ext c2) (by omega) (l := quotS t) (by omega)
      simp only [go_sem, reduceIte, Nat.reduceEqDiff, Nat.reduceAdd, q29r1, q29r2, g0, q29r3, e1, q29r5, e2, q29r6, e3, q29r8, e4, q29r9]
      refine callW_ret c1 ?_
      simp only [go_sem, reduceIte, Nat.reduceEqDiff, Nat.reduceAdd]
      refine callW_ret d1 ?_
      simp only [go_sem, reduceIte, Nat.reduceEqDiff, Nat.reduceAdd]
      exact ⟨B3, (K0.trans (KeepG.of_ext c2)).trans K3⟩
    have e4 : (k == 4) = false := iqF k4
    by_cases k6 : k = 6
    · have e6 : (k == 6) = true := iqT k6
      have hS : textT (.node k t keys kids) = [123] ++ (itemsT true true keys kids ++ [125]) := by
        simp only [textT]; rw [if_neg k1, if_neg k4, if_neg (by omega), if_pos k6]
      rw [hS] at hlen ⊢
      simp only [List.length_append, List.length_singleton] at hlen
      obtain ⟨v, M2, c1, B2, K2⟩ := wbyte_k B0 (by omega) 123
      have c1' : CS 53 [.ptr p 0, .int .u8 123] M0 (.ret v) M2 := c1
      have i0 : idxSV (.str [123, 125]) (.int .i64 0) = some (.int .u8 123) := rfl
      have i1 : idxSV (.str [123, 125]) (.int .i64 1) = some (.int .u8 125) := rfl
      have g2 : M2.get M.next = .cells 26 [.int .i64 k, .str t, ka, kb] := by rw [K2.get _ (by omega) (by omega)]; exact g0
      simp only [go_sem, reduceIte, Nat.reduceEqDiff, Nat.reduceAdd, q29r1, q29r2, g0, q29r3, e1, q29r5, e2, q29r6, e3, q29r8, e4, q29r10, e6, q29r11, q29r12, i0]
      refine callW_ret c1' ?_
      simp only [go_sem, reduceIte, Nat.reduceEqDiff, Nat.reduceAdd, q29r13, g2, h2.isLK, h2.len]
      refine pwrite_loop (mb := mb) (M0 := M2) (p := p) (q := M.next) (ends := [123, 125]) (S := out ++ [123] ++ itemsT true true keys kids) h1 h2 hxl hx2 f2 f4 (fun h => by subst h; exact oneS_tab hone) (goodL_mem hgl) hnod (by have := K2.next; omega) (by omega) g2 ih (by simp only [List.length_append, List.length_singleton]; omega) (fun M3 B3 K3 z1 z4 z5 z6 z7 z8 z9 z10 z11 z12 z13 z14 z15 z16 => ?_) kids.length 0 (out ++ [123]) M2 _ _ _ _ _ _ _ _ _ _ _ (by omega) B2 (KeepG.refl p M2) (by rw [dT k6]; rfl)
      obtain ⟨v4, M4, d1, B4, K4⟩ := wbyte_k B3 (by simp only [List.length_append, List.length_singleton]; omega) 125
      have d1' : CS 53 [.ptr p 0, .int .u8 125] M3 (.ret v4) M4 := d1
      simp only [go_sem, reduceIte, Nat.reduceEqDiff, Nat.reduceAdd, q29r24, i1]
      refine callW_ret d1' ?_
      simp only [go_sem, reduceIte, Nat.reduceEqDiff, Nat.reduceAdd]
      exact ⟨by simpa using B4, ((K0.trans K2).trans K3).trans K4⟩
    · have k5 : k = 5 := by have := oneS_kind hone; omega
      have e6 : (k == 6) = false := iqF k6
      have hS : textT (.node k t keys kids) = [91] ++ (itemsT false true keys kids ++ [93]) := by
        simp only [textT]; rw [if_neg k1, if_neg k4, if_pos k5]
      rw [hS] at hlen ⊢
      simp only [List.length_append, List.length_singleton] at hlen
      obtain ⟨v, M2, c1, B2, K2⟩ := wbyte_k B0 (by omega) 91
      have c1' : CS 53 [.ptr p 0, .int .u8 91] M0 (.ret v) M2 := c1
      have i0 : idxSV (.str [91, 93]) (.int .i64 0) = some (.int .u8 91) := rfl
      have i1 : idxSV (.str [91, 93]) (.int .i64 1) = some (.int .u8 93) := rfl
      have g2 : M2.get M.next = .cells 26 [.int .i64 k, .str t, ka, kb] := by rw [K2.get _ (by omega) (by omega)]; exact g0
      simp only [go_sem, reduceIte, Nat.reduceEqDiff, Nat.reduceAdd, q29r1, q29r2, g0, q29r3, e1, q29r5, e2, q29r6, e3, q29r8, e4, q29r10, e6, q29r12, i0]
      refine callW_ret c1' ?_
      simp only [go_sem, reduceIte, Nat.reduceEqDiff, Nat.reduceAdd, q29r13, g2, h2.isLK, h2.len]
      refine pwrite_loop (mb := mb) (M0 := M2) (p := p) (q := M.next) (ends := [91, 93]) (S := out ++ [91] ++ itemsT false true keys kids) h1 h2 hxl hx2 f2 f4 (fun h => absurd h k6) (goodL_mem hgl) hnod (by have := K2.next; omega) (by omega) g2 ih (by simp only [List.length_append, List.length_singleton]; omega) (fun M3 B3 K3 z1 z4 z5 z6 z7 z8 z9 z10 z11 z12 z13 z14 z15 z16 => ?_) kids.length 0 (out ++ [91]) M2 _ _ _ _ _ _ _ _ _ _ _ (by omega) B2 (KeepG.refl p M2) (by rw [dF k6]; rfl)
      obtain ⟨v4, M4, d1, B4, K4⟩ := wbyte_k B3 (by simp only [List.length_append, List.length_singleton]; omega) 93
      have d1' : CS 53 [.ptr p 0, .int .u8 93] M3 (.ret v4) M4 := d1
      simp only [go_sem, reduceIte, Nat.reduceEqDiff, Nat.reduceAdd, q29r24, i1]
      refine callW_ret d1' ?_
      simp only [go_sem, reduceIte, Nat.reduceEqDiff, Nat.reduceAdd]
      exact ⟨by simpa using B4, ((K0.trans K2).trans K3).trans K4⟩
end Go.Proofs.YtinlfdkalijffaaDoor.Am.Q

/-
  JSON, 58: the law JsonMay.
-/
namespace Go.Proofs.YtinlfdkalijffaaDoor.Am.Q
open Go Go.Proofs Go.Proofs.YtinlfdkalijffaaDoor.Am

theorem text_ne {d : Nat} : ∀ {T : VT}, goodT d T = true → textT T ≠ []
  | .node k t ks l, h => by
    simp only [goodT, Bool.and_eq_true] at h
    have hone := h.1
    by_cases k1 : k = 1
    · simp only [textT, if_pos k1]; simp [tNull]
    · by_cases k4 : k = 4
      · simp only [textT, if_neg k1, if_pos k4]; simp [quotS]
      · by_cases k5 : k = 5
        · simp only [textT, if_neg k1, if_neg k4, if_pos k5]; simp
        · by_cases k6 : k = 6
          · simp only [textT, if_neg k1, if_neg k4, if_neg k5, if_pos k6]; simp
          · simp only [textT, if_neg k1, if_neg k4, if_neg k5, if_neg k6]
            rintro rfl
            by_cases k2 : k = 2
            · simp [oneS, k2, tTrue, tFalse] at hone
            · by_cases k3 : k = 3
              · simp [oneS, k3, numS] at hone
              · have := oneS_kind hone; omega
theorem pText_ok {T : VT} (hf : Fit T) {a : AV} (ha : IsVal a T) (m : Mem) : ∃ v m', CS 16 [a] m (.ret v) m' ∧ v = .tup [.str (TextR T).1, .int .i64 (TextR T).2] ∧ Ext m m' := by
  refine call_some (R := fun v m' => v = .tup [.str (TextR T).1, .int .i64 (TextR T).2] ∧ Ext m m') xfok mixed q16at q16ok rfl ?_
  obtain ⟨k, t, ka, kb, rfl, o1, o2⟩ := ha.ones
  have g0 : (m.alloc (.cells 26 [.int .i64 k, .str t, ka, kb])).get m.next = .cells 26 [.int .i64 k, .str t, ka, kb] := get_new
  have n0 : (m.alloc (.cells 26 [.int .i64 k, .str t, ka, kb])).next = m.next + 1 := rfl
  have E : Ext m (m.alloc (.cells 26 [.int .i64 k, .str t, ka, kb])) := Ext.alloc _ _
  simp only [go_sem, reduceIte, Nat.reduceEqDiff, Nat.reduceAdd, q16, q16r0, o1, o2, q16r1]
  generalize m.alloc (.cells 26 [.int .i64 k, .str t, ka, kb]) = M at g0 E n0
  obtain ⟨v, M2, c1, rfl, c2⟩ := pmay_ok hf ha M
  have g2 : M2.get m.next = .cells 26 [.int .i64 k, .str t, ka, kb] := by rw [c2.get _ (by omega)]; exact g0
  have n2 : m.next < M2.next := by have := c2.next; omega
  simp only [go_sem, reduceIte, Nat.reduceEqDiff, Nat.reduceAdd, g0]
  refine callW_ret c1 ?_
  cases hmay : mayT T with
  | false =>
    have hS : TextR T = ([], 1) := by simp only [TextR, hmay, if_true]
    simp only [go_sem, reduceIte, Nat.reduceEqDiff, Nat.reduceAdd, q16r2, hS]
    exact E.trans c2
  | true =>
    have hgood : goodT 0 T = true := by simp only [mayT, Bool.and_eq_true] at hmay; exact hmay.1
    have hlt := text_lt hf (mayT_nodes hmay)
    have B0 : BSt M2.next M2 (M2.alloc (.cells 60 [.nilPtr, .nilSl])) [] := ⟨_, _, get_new, .inl rfl, .nil, (ExtB.refl M2.next M2).alloc _, by rw [next_alloc]; omega⟩
    have g3 : (M2.alloc (.cells 60 [.nilPtr, .nilSl])).get m.next = .cells 26 [.int .i64 k, .str t, ka, kb] := by rw [get_old (by omega)]; exact g2
    simp only [go_sem, reduceIte, Nat.reduceEqDiff, Nat.reduceAdd, q16r3, q16r4]
    generalize M2.alloc (.cells 60 [.nilPtr, .nilSl]) = M3 at B0 g3
    obtain ⟨v, M4, d1, B4, K4⟩ := pwrite_all hf M2 M3 M2.next 0 [] _ hgood (mayT_nodes hmay) (by simp only [List.length_nil]; omega) B0 ha
    rw [List.nil_append] at B4
    have hS : TextR T = if 65536 < (textT T).length then ([], 5) else (textT T, 0) := by simp only [TextR, hmay]; rfl
    have E4 : Ext M2 M4 := by
      obtain ⟨_, _, _, _, _, h, _⟩ := B4
      exact extB_ext h (Nat.le_refl _)
    simp only [go_sem, reduceIte, Nat.reduceEqDiff, Nat.reduceAdd, g3]
    refine callW_ret d1 ?_
    simp only [go_sem, reduceIte, Nat.reduceEqDiff, Nat.reduceAdd, q16r5]
    refine callW_ret (blen_ok B4) ?_
    by_cases hl : 65536 < (textT T).length
    · have e1 : decide (((textT T).length : Int) > 65536) = true := dT (by omega)
      rw [if_pos hl] at hS
      simp only [go_sem, reduceIte, Nat.reduceEqDiff, Nat.reduceAdd, e1, q16r6, hS]
      exact (E.trans c2).trans E4
    · have e1 : decide (((textT T).length : Int) > 65536) = false := dF (by omega)
      rw [if_neg hl] at hS
      obtain ⟨v, M5, d2, rfl, E5⟩ := bstr_ok B4 (text_ne hgood) (by omega)
      simp only [go_sem, reduceIte, Nat.reduceEqDiff, Nat.reduceAdd, e1, q16r7]
      refine callW_ret d2 ?_
      simp only [go_sem, reduceIte, Nat.reduceEqDiff, Nat.reduceAdd, hS]
      exact (E.trans c2).trans (extB_ext E5 (Nat.le_refl _))
theorem fit_small {T : VT} (hf : Fit T) : Small T := by
  induction hf with
  | mk f1 f2 f3 f4 f5 ih => exact .mk (by omega) (by omega) ih

theorem may_law {T U : VT} {v u' : AV} (hv : IsVal v T) (hu : IsVal u' U) (hT : Fit T) (hU : Fit U) : ∃ m', CS 5 [v, u'] m0 (.ret (.bool true)) m' := by
  have key : ∃ r m', CS 5 [v, u'] m0 (.ret r) m' ∧ r = .bool true := by
    refine call_some (R := fun r _ => r = .bool true) xfok mixed q5at q5ok rfl ?_
    obtain ⟨k, t, ka, kb, rfl, o1, o2⟩ := hv.ones
    obtain ⟨k', t', ka', kb', rfl, o3, o4⟩ := hu.ones
    have sT := fit_small hT
    have sU := fit_small hU
    have g0 : ((m0.alloc (.cells 26 [.int .i64 k, .str t, ka, kb])).alloc (.cells 26 [.int .i64 k', .str t', ka', kb'])).get m0.next = .cells 26 [.int .i64 k, .str t, ka, kb] := by rw [get_old (by simp [Mem.alloc])]; exact get_new
    have g1 : ((m0.alloc (.cells 26 [.int .i64 k, .str t, ka, kb])).alloc (.cells 26 [.int .i64 k', .str t', ka', kb'])).get (m0.next + 1) = .cells 26 [.int .i64 k', .str t', ka', kb'] := get_new
    have n0 : ((m0.alloc (.cells 26 [.int .i64 k, .str t, ka, kb])).alloc (.cells 26 [.int .i64 k', .str t', ka', kb'])).next = m0.next + 2 := rfl
    simp only [go_sem, reduceIte, Nat.reduceEqDiff, Nat.reduceAdd, q5, q5r0, o1, o2, o3, o4, next_alloc, q5r1]
    generalize (m0.alloc (.cells 26 [.int .i64 k, .str t, ka, kb])).alloc (.cells 26 [.int .i64 k', .str t', ka', kb']) = M0 at g0 g1 n0
    obtain ⟨fa, hfa⟩ := far_ok sT M0 hv
    obtain ⟨fb, hfb⟩ := far_ok sU M0 hu
    simp only [go_sem, reduceIte, Nat.reduceEqDiff, Nat.reduceAdd, g0]
    refine callW_ret hfa ?_
    cases fa
    · simp only [go_sem, reduceIte, Nat.reduceEqDiff, Nat.reduceAdd, g1]
      refine callW_ret hfb ?_
      cases fb
      · obtain ⟨v1, M1, a1, rfl, a2⟩ := pText_ok hT hv M0
        have g0' : M1.get m0.next = .cells 26 [.int .i64 k, .str t, ka, kb] := by rw [a2.get _ (by omega)]; exact g0
        have n1 : m0.next + 2 ≤ M1.next := by have := a2.next; omega
        have g1' : M1.get (m0.next + 1) = .cells 26 [.int .i64 k', .str t', ka', kb'] := by rw [a2.get _ (by omega)]; exact g1
        simp only [go_sem, reduceIte, Nat.reduceEqDiff, Nat.reduceAdd, q5r3, g0]
        refine callW_ret a1 ?_
        obtain ⟨v2, M2, b1, rfl, b2⟩ := rText_ok hT hv M1
        have h0 : M2.get m0.next = .cells 26 [.int .i64 k, .str t, ka, kb] := by rw [b2.get _ (by omega)]; exact g0'
        have h1 : M2.get (m0.next + 1) = .cells 26 [.int .i64 k', .str t', ka', kb'] := by rw [b2.get _ (by omega)]; exact g1'
        have n2 : m0.next + 2 ≤ M2.next := by have := b2.next; omega
        simp only [go_sem, reduceIte, Nat.reduceEqDiff, Nat.reduceAdd, q5r4, g0']
        refine callW_ret b1 ?_
        -- the last region
        obtain ⟨v3, M3, c1, rfl, c2⟩ := pmay_ok hT hv M2
        have i0 : M3.get m0.next = .cells 26 [.int .i64 k, .str t, ka, kb] := by rw [c2.get _ (by omega)]; exact h0
        have i1 : M3.get (m0.next + 1) = .cells 26 [.int .i64 k', .str t', ka', kb'] := by rw [c2.get _ (by omega)]; exact h1
        have n3 : m0.next + 2 ≤ M3.next := by have := c2.next; omega
        obtain ⟨v4, M4, d1, rfl, d2⟩ := rmay_ok hT hv M3
        have j0 : M4.get m0.next = .cells 26 [.int .i64 k, .str t, ka, kb] := by rw [d2.get _ (by omega)]; exact i0
        have j1 : M4.get (m0.next + 1) = .cells 26 [.int .i64 k', .str t', ka', kb'] := by rw [d2.get _ (by omega)]; exact i1
        have n4 : m0.next + 2 ≤ M4.next := by have := d2.next; omega
        obtain ⟨r, hr⟩ : ∃ r : Bool, (r = true ↔ T = U) := by
          by_cases h : T = U
          · exact ⟨true, by simp [h]⟩
          · exact ⟨false, by simp [h]⟩
        obtain ⟨v5, M5, e1, rfl, e2⟩ := psame sT U M4 _ _ r hv hu hr
        have k0 : M5.get m0.next = .cells 26 [.int .i64 k, .str t, ka, kb] := by rw [e2.get _ (by omega)]; exact j0
        have k1 : M5.get (m0.next + 1) = .cells 26 [.int .i64 k', .str t', ka', kb'] := by rw [e2.get _ (by omega)]; exact j1
        have n5 : m0.next + 2 ≤ M5.next := by have := e2.next; omega
        have f1 := same12 sT U M5 _ _ r hv hu hr
        obtain ⟨v6, M6, p1, rfl, p2⟩ := psame sT T M5 _ _ true hv hv ⟨fun _ => rfl, fun _ => rfl⟩
        have qB : ∀ (M : Mem) (b : Bool), eqSafeB M (.bool b) (.bool b) = true := fun _ _ => rfl
        have qE : ∀ b : Bool, eqV (.leaf .bool) (.bool b) (.bool b) = some true := fun b => by simp [eqV, eqL]
        have tt : (true != false) = true := rfl
        simp only [go_sem, reduceIte, Nat.reduceEqDiff, Nat.reduceAdd, q5r5, h0]
        refine callW_ret c1 ?_
        simp only [go_sem, reduceIte, Nat.reduceEqDiff, Nat.reduceAdd, i0]
        refine callW_ret d1 ?_
        simp only [go_sem, reduceIte, Nat.reduceEqDiff, Nat.reduceAdd, qB, qE, tt, j0, j1]
        refine callW_ret e1 ?_
        simp only [go_sem, reduceIte, Nat.reduceEqDiff, Nat.reduceAdd, k0, k1]
        refine callW_ret f1 ?_
        simp only [go_sem, reduceIte, Nat.reduceEqDiff, Nat.reduceAdd, qB, qE, tt, k0]
        refine callW_ret p1 ?_
        simp only [go_sem, reduceIte, Nat.reduceEqDiff, Nat.reduceAdd]
        refine callW_ret (alive_ok M6) ?_
        simp only [go_sem, reduceIte, Nat.reduceEqDiff, Nat.reduceAdd, pushH_true]
        refine ⟨?_, ?_⟩
        · have key : ∀ (M : Mem) (env : List AV) (fr : List AV), fr.getD 2 .u = .ptr m0.next 0 → M.get m0.next = .cells 26 [.int .i64 k, .str t, ka, kb] → (evalP (Opd.ev env fr) M (.load true 4 (.var 2))).map (·.1) = some (.agg [.int .i64 k, .str t, ka, kb]) := by
            intro M env fr hf h
            have L : M.load true 4 (.ptr m0.next 0) = some (.agg [.int .i64 k, .str t, ka, kb]) := by rw [load_ptr, h]; rfl
            have hv : Opd.ev env fr (.var 2) = .ptr m0.next 0 := hf
            simp only [evalP, hv, L, Option.map_some]
          have key2 : ∀ (M : Mem) (env : List AV) (fr : List AV), fr.getD 3 .u = .ptr (m0.next + 1) 0 → M.get (m0.next + 1) = .cells 26 [.int .i64 k', .str t', ka', kb'] → (evalP (Opd.ev env fr) M (.load true 4 (.var 3))).map (·.1) = some (.agg [.int .i64 k', .str t', ka', kb']) := by
            intro M env fr hf h
            have L : M.load true 4 (.ptr (m0.next + 1) 0) = some (.agg [.int .i64 k', .str t', ka', kb']) := by rw [load_ptr, h]; rfl
            have hv : Opd.ev env fr (.var 3) = .ptr (m0.next + 1) 0 := hf
            simp only [evalP, hv, L, Option.map_some]
          intro y hy _ _
          simp only [List.mem_cons, List.not_mem_nil, or_false] at hy
          rcases hy with rfl | rfl | rfl
          · intro _ m1 m2 e1 e2
            have e1' : some M2 = some m1 := e1
            have e2' : some M3 = some m2 := e2
            injection e1' with e1'
            injection e2' with e2'
            subst e1'; subst e2'
            exact ⟨key _ _ _ rfl h0, key _ _ _ rfl i0⟩
          · intro _ m1 m2 e1 e2
            have e1' : some M4 = some m1 := e1
            have e2' : some M5 = some m2 := e2
            injection e1' with e1'
            injection e2' with e2'
            subst e1'; subst e2'
            exact ⟨key _ _ _ rfl j0, key _ _ _ rfl k0⟩
          · intro _ m1 m2 e1 e2
            have e1' : some M4 = some m1 := e1
            have e2' : some M5 = some m2 := e2
            injection e1' with e1'
            injection e2' with e2'
            subst e1'; subst e2'
            exact ⟨key2 _ _ _ rfl j1, key2 _ _ _ rfl k1⟩
        · simp only [go_sem, reduceIte, Nat.reduceEqDiff, Nat.reduceAdd]
      · simp only [go_sem, reduceIte, Nat.reduceEqDiff, Nat.reduceAdd, q5r2]
        refine callW_ret (alive_ok M0) ?_
        simp only [go_sem, reduceIte, Nat.reduceEqDiff, Nat.reduceAdd]
    · simp only [go_sem, reduceIte, Nat.reduceEqDiff, Nat.reduceAdd, q5r2]
      refine callW_ret (alive_ok M0) ?_
      simp only [go_sem, reduceIte, Nat.reduceEqDiff, Nat.reduceAdd]
  obtain ⟨r, m', h, rfl⟩ := key
  exact ⟨m', h⟩
end Go.Proofs.YtinlfdkalijffaaDoor.Am.Q
