/- Part KR5 of a claim's texts, joined: what the claim needs of them. -/
import Derived.Test.YtinlfdkalijffaaDoorKR4
set_option linter.unusedSimpArgs false
set_option linter.unusedVariables false
namespace Go.Proofs.YtinlfdkalijffaaDoor.Am.Q
open Go Go.Proofs Go.Proofs.YtinlfdkalijffaaDoor.Am
def keyB : Bool → List (List UInt8) → List UInt8
  | true, k :: _ => quotS k ++ [58]
  | _, _ => []
mutual
def textT : VT → List UInt8
  | .node k t ks l => if k = 1 then tNull else if k = 4 then quotS t else if k = 5 then [91] ++ (itemsT false true ks l ++ [93]) else if k = 6 then [123] ++ (itemsT true true ks l ++ [125]) else t
def itemsT : Bool → Bool → List (List UInt8) → List VT → List UInt8
  | _, _, _, [] => []
  | tb, first, ks, v :: r => (if first = true then [] else [44]) ++ (keyB tb ks ++ (textT v ++ itemsT tb false ks.tail r))
end
theorem quotS_len (s : List UInt8) : (quotS s).length ≤ 6 * s.length + 2 := by
  have := flat_len s
  simp only [quotS, List.length_append, List.length_cons, List.length_nil]; omega
theorem items_len {tb : Bool} : ∀ {l : List VT} {ks : List (List UInt8)} {first : Bool}, (∀ x ∈ l, (textT x).length + 2 ^ 24 ≤ nodesT x * 2 ^ 25) → (∀ x ∈ ks, x.length < 2 ^ 21) → (itemsT tb first ks l).length ≤ nodesL l * 2 ^ 25
  | [], _, _, _, _ => by simp [itemsT, nodesL]
  | v :: r, ks, first, h, hk => by
    have h1 := h v (by simp)
    have h2 := items_len (tb := tb) (l := r) (ks := ks.tail) (first := false) (fun x hx => h x (by simp [hx])) (fun x hx => hk x (List.mem_of_mem_tail hx))
    have h3 : ((if first = true then [] else [44]) : List UInt8).length ≤ 1 := by split <;> simp
    have h4 : (keyB tb ks).length ≤ 6 * 2 ^ 21 + 3 := by
      unfold keyB
      split
      · rename_i k ks' 
        have := quotS_len k
        have := hk k (by simp)
        simp only [List.length_append, List.length_singleton]; omega
      · simp
    simp only [itemsT, nodesL, List.length_append, Nat.add_mul]
    omega
theorem text_len {T : VT} (hf : Fit T) : (textT T).length + 2 ^ 24 ≤ nodesT T * 2 ^ 25 := by
  induction hf with
  | @mk k t keys kids f1 f2 f3 f4 _ ih =>
    have hk : ∀ x ∈ kids, (textT x).length + 2 ^ 24 ≤ nodesT x * 2 ^ 25 := by
      intro x hx
      obtain ⟨i, hi, rfl⟩ := List.getElem_of_mem hx
      have := ih i hi
      rwa [show kids.getD i VT.zero = kids[i] by simp [List.getD, hi]] at this
    have i1 := items_len (tb := false) (l := kids) (ks := keys) (first := true) hk f4
    have i2 := items_len (tb := true) (l := kids) (ks := keys) (first := true) hk f4
    have h4 := quotS_len t
    simp only [textT, nodesT, Nat.add_mul]
    split
    · simp [tNull]; omega
    · split
      · omega
      · split
        · simp only [List.length_append, List.length_singleton]; omega
        · split
          · simp only [List.length_append, List.length_singleton]; omega
          · omega
theorem nodes_mem {x : VT} : ∀ {l : List VT}, x ∈ l → nodesT x ≤ nodesL l
  | v :: r, h => by
    simp only [nodesL]
    rcases List.mem_cons.1 h with rfl | h
    · omega
    · have := nodes_mem h; omega
theorem text_lt {T : VT} (hf : Fit T) (hn : nodesT T ≤ 4096) : (textT T).length < 2 ^ 37 := by
  have := text_len hf; omega
theorem keys_at {ks : List (List UInt8)} {i : Nat} : keyB true (ks.drop i) = (if h : i < ks.length then quotS ks[i] ++ [58] else []) := by
  by_cases h : i < ks.length
  · rw [List.drop_eq_getElem_cons h, dif_pos h]; rfl
  · rw [List.drop_of_length_le (by omega), dif_neg h]; rfl
end Go.Proofs.YtinlfdkalijffaaDoor.Am.Q
namespace Go.Proofs.YtinlfdkalijffaaDoor.Am.Q
open Go Go.Proofs Go.Proofs.YtinlfdkalijffaaDoor.Am
theorem fit_mem {k : Int} {t : List UInt8} {keys : List (List UInt8)} {kids : List VT} (h : ∀ i, i < kids.length → Fit (kids.getD i VT.zero)) : ∀ x ∈ kids, Fit x := by
  intro x hx
  obtain ⟨i, hi, rfl⟩ := List.getElem_of_mem hx
  have := h i hi
  rwa [show kids.getD i VT.zero = kids[i] by simp [List.getD, hi]] at this
def TextR (T : VT) : List UInt8 × Int := if mayT T = false then ([], 1) else if 65536 < (textT T).length then ([], 5) else (textT T, 0)
theorem mayT_nodes {T : VT} (h : mayT T = true) : nodesT T ≤ 4096 := by simp only [mayT, Bool.and_eq_true, decide_eq_true_eq] at h; exact h.2
end Go.Proofs.YtinlfdkalijffaaDoor.Am.Q
namespace Go.Proofs.YtinlfdkalijffaaDoor.Am.Q
open Go Go.Proofs Go.Proofs.YtinlfdkalijffaaDoor.Am
def PWrite (T : VT) : Prop := ∀ (mb M : Mem) (p d : Nat) (out : List UInt8) (a : AV), goodT d T = true → nodesT T ≤ 4096 → out.length + (textT T).length < 2 ^ 41 → BSt p mb M out → IsVal a T →
  ∃ v M', CS 29 [.ptr p 0, a] M (.ret v) M' ∧ BSt p mb M' (out ++ textT T) ∧ KeepG p M M'
theorem BSt.lt {p : Nat} {mb M : Mem} {out : List UInt8} (h : BSt p mb M out) : p < M.next := by
  obtain ⟨_, _, _, _, _, _, h⟩ := h; exact h
theorem pwrite_loop {mb M0 : Mem} {p q d1 : Nat} {k : Int} {t : List UInt8} {ka kb : AV} {keys : List (List UInt8)} {xs : List AV} {kids : List VT} (h1 : SlOf 1 ka (keys.map .str)) (h2 : SlOf 4 kb xs) (hxl : xs.length = kids.length) (hx2 : ∀ i, i < kids.length → IsVal (xs.getD i .u) (kids.getD i VT.zero)) (hlen : kids.length < 2 ^ 21) (hks : ∀ x ∈ keys, x.length < 2 ^ 21)
    (hkl : k = 6 → keys.length = kids.length) (hgood : ∀ x ∈ kids, goodT d1 x = true) (hnod : ∀ x ∈ kids, nodesT x ≤ 4096)
    (hq : q < M0.next) (hqp : q ≠ p) (hgq : M0.get q = .cells 26 [.int .i64 k, .str t, ka, kb]) (ih : ∀ i, i < kids.length → PWrite (kids.getD i VT.zero)) {ends S : List UInt8} (hS : S.length < 2 ^ 41) {Q : AExit → List AV → Mem → Prop}
    (hx : ∀ M, BSt p mb M S → KeepG p M0 M → ∀ g1 g4 g5 g6 g7 g8 g9 g10 g11 g12 g13 g14 g15 g16, Q (.exit 1) [.ptr p 0, g1, .ptr q 0, .str ends, g4, g5, g6, g7, g8, g9, g10, g11, g12, g13, g14, g15, g16] M) :
    ∀ (r i : Nat) (out : List UInt8) (M : Mem) (g1 g4 g5 g6 g7 g8 g9 g10 g14 g15 g16 : AV), i + r = kids.length → BSt p mb M out → KeepG p M0 M → S = out ++ itemsT (decide (k = 6)) (decide (i = 0)) (keys.drop i) (kids.drop i) →
      wl CS [1, 4, 5, 6, 7, 8, 9, 10, 14, 15, 16] q29l23 Q [.ptr p 0, g1, .ptr q 0, .str ends, g4, g5, g6, g7, g8, g9, g10, kb, .int .i64 xs.length, .int .i64 i, g14, g15, g16] M := by
  intro r
  induction r with
  | zero =>
    intro i out M g1 g4 g5 g6 g7 g8 g9 g10 g14 g15 g16 hi hB hK hout
    refine wl_step ?_
    have e1 : decide ((i : Int) < (xs.length : Nat)) = false := dF (by omega)
    have hd : kids.drop i = [] := List.drop_of_length_le (by omega)
    rw [hd] at hout
    simp only [itemsT, List.append_nil] at hout
    subst hout
    simp only [go_sem, reduceIte, Nat.reduceEqDiff, Nat.reduceAdd, q29l23, q29r14, e1]
    exact hx _ hB hK _ _ _ _ _ _ _ _ _ _ _ _ _ _
  | succ r ihr =>
    intro i out M g1 g4 g5 g6 g7 g8 g9 g10 g14 g15 g16 hi hB hK hout
    refine wl_step ?_
    have e1 : decide ((i : Int) < (xs.length : Nat)) = true := dT (by omega)
    have hi1 : i < kids.length := by omega
    have hxi := hx2 i hi1
    have ea := h2.idx (k := .i64) (i := (i : Int)) (y := xs.getD i .u) (by omega) (by simp [List.getD, show i < xs.length by omega])
    obtain ⟨k1, t1, a1, b1, e2, o1, o2⟩ := hxi.ones
    rw [e2] at ea hxi
    have hw := wrap_succ (i := i) (by omega)
    have hd : kids.drop i = kids.getD i VT.zero :: kids.drop (i + 1) := by
      rw [List.drop_eq_getElem_cons hi1, show kids.getD i VT.zero = kids[i] by simp [List.getD, hi1]]
    have hmem : kids.getD i VT.zero ∈ kids := by rw [show kids.getD i VT.zero = kids[i] by simp [List.getD, hi1]]; exact List.getElem_mem hi1
    rw [hd] at hout
    simp only [itemsT, List.tail_drop] at hout
    have hl := congrArg List.length hout
    simp only [List.length_append] at hl
    generalize hcm : (if decide (i = 0) = true then [] else [44] : List UInt8) = cm at hout hl
    generalize hky : keyB (decide (k = 6)) (keys.drop i) = ky at hout hl
    have hpl := hB.lt
    -- the kid is laid
    have s1 : (M.alloc z26).get M.next = z26 := get_new
    have hE1 : Ext M ((M.alloc z26).set M.next (.cells 26 [.int .i64 k1, .str t1, a1, b1])) := (Ext.alloc _ _).set (Nat.le_refl _) _
    have gk : ((M.alloc z26).set M.next (.cells 26 [.int .i64 k1, .str t1, a1, b1])).get M.next = .cells 26 [.int .i64 k1, .str t1, a1, b1] := get_set_same
    have nk : M.next < ((M.alloc z26).set M.next (.cells 26 [.int .i64 k1, .str t1, a1, b1])).next := by show _ < M.next + 1; omega
    have hB1 := hB.ext hE1
    have hK1 := hK.trans (KeepG.of_ext (p := p) hE1)
    simp only [go_sem, reduceIte, Nat.reduceEqDiff, Nat.reduceAdd, q29l23, q29r14, e1, q29r15, ea, s1, o1, o2]
    generalize (M.alloc z26).set M.next (.cells 26 [.int .i64 k1, .str t1, a1, b1]) = M1 at gk nk hB1 hK1
    generalize hkid : M.next = kid at gk nk
    have hkp : kid ≠ p := by omega
    rw [← wc_start]
    -- the comma
    have comma : ∀ {Q' : AExit → List AV → Mem → Prop}, (∀ M', BSt p mb M' (out ++ cm) → KeepG p M1 M' → ∀ z6 z7 z8 z9 z10 z14 z15 z16, Q' .normal [.ptr p 0, g1, .ptr q 0, .str ends, .int .i64 i, .ptr kid 0, z6, z7, z8, z9, z10, kb, .int .i64 xs.length, .int .i64 i, z14, z15, z16] M') → ∀ z14, wc CS (.seq (.region q29r16) (.cond (.var 15) (.region q29r17) .skip)) Q' [.ptr p 0, g1, .ptr q 0, .str ends, .int .i64 i, .ptr kid 0, g6, g7, g8, g9, g10, kb, .int .i64 xs.length, .int .i64 i, z14, g15, g16] M1 := by
      intro Q' hq' z14
      by_cases h0 : i = 0
      · have e3 : decide ((i : Int) > 0) = false := dF (by omega)
        rw [if_pos (dT h0)] at hcm
        subst hcm
        rw [List.append_nil] at hq'
        simp only [go_sem, reduceIte, Nat.reduceEqDiff, Nat.reduceAdd, q29r16, e3]
        exact hq' _ hB1 (KeepG.refl p M1) _ _ _ _ _ _ _ _
      · have e3 : decide ((i : Int) > 0) = true := dT (by omega)
        rw [if_neg (by simp [h0])] at hcm
        subst hcm
        obtain ⟨v, M2, c1, B2, K2⟩ := wbyte_k hB1 (by omega) 44
        have c1' : CS 53 [.ptr p 0, .int .u8 44] M1 (.ret v) M2 := c1
        simp only [go_sem, reduceIte, Nat.reduceEqDiff, Nat.reduceAdd, q29r16, e3, q29r17]
        refine callW_ret c1' ?_
        simp only [go_sem, reduceIte, Nat.reduceEqDiff, Nat.reduceAdd]
        exact hq' _ B2 K2 _ _ _ _ _ _ _ _
    have key : ∀ {Q' : AExit → List AV → Mem → Prop} {M2 : Mem}, BSt p mb M2 (out ++ cm) → KeepG p M1 M2 → (∀ M', BSt p mb M' (out ++ cm ++ ky) → KeepG p M1 M' → ∀ z4 z6 z7 z8 z9 z10 z14 z15 z16, Q' .normal [.ptr p 0, g1, .ptr q 0, .str ends, z4, .ptr kid 0, z6, z7, z8, z9, z10, kb, .int .i64 xs.length, .int .i64 i, z14, z15, z16] M') → ∀ z6 z7 z8 z9 z10 z14 z15 z16, wc CS (.seq (.region q29r18) (.cond (.var 16) (.seq (.region q29r19) (.region q29r20)) .skip)) Q' [.ptr p 0, g1, .ptr q 0, .str ends, .int .i64 i, .ptr kid 0, z6, z7, z8, z9, z10, kb, .int .i64 xs.length, .int .i64 i, z14, z15, z16] M2 := by
      intro Q' M2 hB2 hK2 hq' z6 z7 z8 z9 z10 z14 z15 z16
      have hgq2 : M2.get q = .cells 26 [.int .i64 k, .str t, ka, kb] := by rw [(hK1.trans hK2).get q hq hqp]; exact hgq
      by_cases k6 : k = 6
      · have f6 : (k == 6) = true := iqT k6
        have hik : i < keys.length := by rw [hkl k6]; exact hi1
        rw [dT k6, keys_at, dif_pos hik] at hky
        have eb := h1.idx (k := .i64) (i := (i : Int)) (y := .str keys[i]) (by omega) (by simp [hik])
        obtain ⟨v, M3, c1, rfl, c2⟩ := pquoted_ok (s := keys[i]) (by have := hks _ (List.getElem_mem hik); omega) M2
        have hkyl : (quotS keys[i]).length + 1 = ky.length := by rw [← hky, List.length_append]; rfl
        obtain ⟨v2, M4, d1, B4, K4⟩ := wstr_k (hB2.ext c2) (by rw [List.length_append]; omega) (l := quotS keys[i]) (by omega)
        obtain ⟨v3, M5, d2, B5, K5⟩ := wbyte_k B4 (by rw [List.length_append, List.length_append]; omega) 58
        have d2' : CS 53 [.ptr p 0, .int .u8 58] M4 (.ret v3) M5 := d2
        simp only [go_sem, reduceIte, Nat.reduceEqDiff, Nat.reduceAdd, q29r18, hgq2, f6, q29r19, eb]
        refine callW_ret c1 ?_
        simp only [go_sem, reduceIte, Nat.reduceEqDiff, Nat.reduceAdd]
        refine callW_ret d1 ?_
        simp only [go_sem, reduceIte, Nat.reduceEqDiff, Nat.reduceAdd, q29r20]
        refine callW_ret d2' ?_
        simp only [go_sem, reduceIte, Nat.reduceEqDiff, Nat.reduceAdd]
        refine hq' _ ?_ (((hK2.trans (KeepG.of_ext c2)).trans K4).trans K5) _ _ _ _ _ _ _ _ _
        rw [← hky, ← List.append_assoc]; exact B5
      · have f6 : (k == 6) = false := iqF k6
        rw [dF k6] at hky
        obtain rfl : ky = [] := hky.symm
        rw [List.append_nil] at hq'
        simp only [go_sem, reduceIte, Nat.reduceEqDiff, Nat.reduceAdd, q29r18, hgq2, f6]
        exact hq' _ hB2 hK2 _ _ _ _ _ _ _ _ _
    refine comma (fun M2 hB2 hK2 z6 z7 z8 z9 z10 z14 z15 z16 => ?_) _
    rw [seqQ_n, wc_seq]
    refine key hB2 hK2 (fun M3 hB3 hK3 y4 y6 y7 y8 y9 y10 y14 y15 y16 => ?_) _ _ _ _ _ _ _ _
    rw [seqQ_n]
    have gk3 : M3.get kid = .cells 26 [.int .i64 k1, .str t1, a1, b1] := by rw [hK3.get kid nk hkp]; exact gk
    obtain ⟨v, M4, c1, B4, K4⟩ := ih i hi1 mb M3 p d1 (out ++ cm ++ ky) _ (hgood _ hmem) (hnod _ hmem) (by simp only [List.length_append]; omega) hB3 hxi
    simp only [go_sem, reduceIte, Nat.reduceEqDiff, Nat.reduceAdd, q29r21, gk3]
    refine callW_ret c1 ?_
    simp only [go_sem, reduceIte, Nat.reduceEqDiff, Nat.reduceAdd, q29r22, hw]
    refine ihr (i + 1) _ M4 _ _ _ _ _ _ _ _ _ _ _ (by omega) B4 ((hK1.trans hK3).trans K4) ?_
    rw [hout, dF (show ¬ (i + 1 = 0) by omega)]
    simp only [List.append_assoc]
theorem goodL_mem {d : Nat} : ∀ {l : List VT}, goodL d l = true → ∀ x ∈ l, goodT d x = true
  | v :: r, h, x, hx => by
    simp only [goodL, Bool.and_eq_true] at h
    rcases List.mem_cons.1 hx with rfl | hx
    · exact h.1
    · exact goodL_mem h.2 x hx
theorem oneS_kind {k : Int} {t : List UInt8} {ks : List (List UInt8)} {n : Nat} (h : oneS k t ks n = true) : k = 1 ∨ k = 2 ∨ k = 3 ∨ k = 4 ∨ k = 5 ∨ k = 6 := by
  by_cases j1 : k = 1
  · omega
  · by_cases j2 : k = 2
    · omega
    · by_cases j3 : k = 3
      · omega
      · by_cases j4 : k = 4
        · omega
        · by_cases j5 : k = 5
          · omega
          · by_cases j6 : k = 6
            · omega
            · unfold oneS at h
              rw [if_neg j1, if_neg j2, if_neg j3, if_neg j4, if_neg j5, if_neg j6] at h
              cases h
theorem pwrite_all {T : VT} (hf : Fit T) : PWrite T := by
  induction hf with
  | @mk k t keys kids f1 f2 f3 f4 f5 ih =>
    intro mb M p d out a hg hn hlen hB ha
    have hfit := fit_mem (k := k) (t := t) (keys := keys) f5
    have hnod : ∀ x ∈ kids, nodesT x ≤ 4096 := by
      intro x hx
      have := nodes_mem hx
      simp only [nodesT] at hn; omega
    simp only [goodT, Bool.and_eq_true] at hg
    obtain ⟨hone, _, hgl⟩ := hg
    cases ha with
    | @mk _ _ ka kb _ _ xs h1 h2 hxl hx2 =>
    refine call_some (R := fun _ M' => BSt p mb M' (out ++ textT (.node k t keys kids)) ∧ KeepG p M M') xfok mixed q29at q29ok rfl ?_
    have g0 : (M.alloc (.cells 26 [.int .i64 k, .str t, ka, kb])).get M.next = .cells 26 [.int .i64 k, .str t, ka, kb] := get_new
    have n0 : (M.alloc (.cells 26 [.int .i64 k, .str t, ka, kb])).next = M.next + 1 := rfl
    have E0 : Ext M (M.alloc (.cells 26 [.int .i64 k, .str t, ka, kb])) := Ext.alloc _ _
    have o1 := h1.one
    have o2 := h2.one
    have hpl := hB.lt
    have B0 := hB.ext E0
    have K0 : KeepG p M (M.alloc (.cells 26 [.int .i64 k, .str t, ka, kb])) := KeepG.of_ext E0
    simp only [go_sem, reduceIte, Nat.reduceEqDiff, Nat.reduceAdd, q29, q29r0, o1, o2]
    generalize M.alloc (.cells 26 [.int .i64 k, .str t, ka, kb]) = M0 at g0 n0 B0 K0
    by_cases k1 : k = 1
    · have e1 : (k == 1) = true := iqT k1
      have hS : textT (.node k t keys kids) = tNull := by simp only [textT, if_pos k1]
      rw [hS] at hlen ⊢
      obtain ⟨v, M2, c1, B2, K2⟩ := wstr_k B0 (by omega) (l := tNull) (by simp [tNull])
      simp only [go_sem, reduceIte, Nat.reduceEqDiff, Nat.reduceAdd, q29r1, q29r2, g0, q29r3, e1, q29r4]
      refine callW_ret c1 ?_
      simp only [go_sem, reduceIte, Nat.reduceEqDiff, Nat.reduceAdd]
      exact ⟨B2, K0.trans K2⟩
    have e1 : (k == 1) = false := iqF k1
    by_cases k23 : k = 2 ∨ k = 3
    · have hS : textT (.node k t keys kids) = t := by simp only [textT]; rw [if_neg k1, if_neg (by omega), if_neg (by omega), if_neg (by omega)]
      rw [hS] at hlen ⊢
      obtain ⟨v, M2, c1, B2, K2⟩ := wstr_k B0 (by omega) (l := t) (by omega)
      by_cases k2 : k = 2
      · have e2 : (k == 2) = true := iqT k2
        simp only [go_sem, reduceIte, Nat.reduceEqDiff, Nat.reduceAdd, q29r1, q29r2, g0, q29r3, e1, q29r5, e2, q29r7]
        refine callW_ret c1 ?_
        simp only [go_sem, reduceIte, Nat.reduceEqDiff, Nat.reduceAdd]
        exact ⟨B2, K0.trans K2⟩
      · have e2 : (k == 2) = false := iqF k2
        have e3 : (k == 3) = true := iqT (by omega)
        simp only [go_sem, reduceIte, Nat.reduceEqDiff, Nat.reduceAdd, q29r1, q29r2, g0, q29r3, e1, q29r5, e2, q29r6, e3, q29r7]
        refine callW_ret c1 ?_
        simp only [go_sem, reduceIte, Nat.reduceEqDiff, Nat.reduceAdd]
        exact ⟨B2, K0.trans K2⟩
    have e2 : (k == 2) = false := iqF (by omega)
    have e3 : (k == 3) = false := iqF (by omega)
    by_cases k4 : k = 4
    · have e4 : (k == 4) = true := iqT k4
      have hS : textT (.node k t keys kids) = quotS t := by simp only [textT, if_neg k1, if_pos k4]
      rw [hS] at hlen ⊢
      obtain ⟨v, M2, c1, rfl, c2⟩ := pquoted_ok (s := t) (by omega) M0
      obtain ⟨v2, M3, d1, B3, K3⟩ := wstr_k (B0.ext c2) (by omega) (l := quotS t) (by omega)
      simp only [go_sem, reduceIte, Nat.reduceEqDiff, Nat.reduceAdd, q29r1, q29r2, g0, q29r3, e1, q29r5, e2, q29r6, e3, q29r8, e4, q29r9]
      refine callW_ret c1 ?_
      simp only [go_sem, reduceIte, Nat.reduceEqDiff, Nat.reduceAdd]
      refine callW_ret d1 ?_
      simp only [go_sem, reduceIte, Nat.reduceEqDiff, Nat.reduceAdd]
      exact ⟨B3, (K0.trans (KeepG.of_ext c2)).trans K3⟩
    have e4 : (k == 4) = false := iqF k4
    by_cases k6 : k = 6
    · have e6 : (k == 6) = true := iqT k6
      have hS : textT (.node k t keys kids) = [123] ++ (itemsT true true keys kids ++ [125]) := by
        simp only [textT]; rw [if_neg k1, if_neg k4, if_neg (by omega), if_pos k6]
      rw [hS] at hlen ⊢
      simp only [List.length_append, List.length_singleton] at hlen
      obtain ⟨v, M2, c1, B2, K2⟩ := wbyte_k B0 (by omega) 123
      have c1' : CS 53 [.ptr p 0, .int .u8 123] M0 (.ret v) M2 := c1
      have i0 : idxSV (.str [123, 125]) (.int .i64 0) = some (.int .u8 123) := rfl
      have i1 : idxSV (.str [123, 125]) (.int .i64 1) = some (.int .u8 125) := rfl
      have g2 : M2.get M.next = .cells 26 [.int .i64 k, .str t, ka, kb] := by rw [K2.get _ (by omega) (by omega)]; exact g0
      simp only [go_sem, reduceIte, Nat.reduceEqDiff, Nat.reduceAdd, q29r1, q29r2, g0, q29r3, e1, q29r5, e2, q29r6, e3, q29r8, e4, q29r10, e6, q29r11, q29r12, i0]
      refine callW_ret c1' ?_
      simp only [go_sem, reduceIte, Nat.reduceEqDiff, Nat.reduceAdd, q29r13, g2, h2.isLK, h2.len]
      refine pwrite_loop (mb := mb) (M0 := M2) (p := p) (q := M.next) (ends := [123, 125]) (S := out ++ [123] ++ itemsT true true keys kids) h1 h2 hxl hx2 f2 f4 (fun h => by subst h; exact oneS_tab hone) (goodL_mem hgl) hnod (by have := K2.next; omega) (by omega) g2 ih (by simp only [List.length_append, List.length_singleton]; omega) (fun M3 B3 K3 z1 z4 z5 z6 z7 z8 z9 z10 z11 z12 z13 z14 z15 z16 => ?_) kids.length 0 (out ++ [123]) M2 _ _ _ _ _ _ _ _ _ _ _ (by omega) B2 (KeepG.refl p M2) (by rw [dT k6]; rfl)
      obtain ⟨v4, M4, d1, B4, K4⟩ := wbyte_k B3 (by simp only [List.length_append, List.length_singleton]; omega) 125
      have d1' : CS 53 [.ptr p 0, .int .u8 125] M3 (.ret v4) M4 := d1
      simp only [go_sem, reduceIte, Nat.reduceEqDiff, Nat.reduceAdd, q29r24, i1]
      refine callW_ret d1' ?_
      simp only [go_sem, reduceIte, Nat.reduceEqDiff, Nat.reduceAdd]
      exact ⟨by simpa using B4, ((K0.trans K2).trans K3).trans K4⟩
    · have k5 : k = 5 := by have := oneS_kind hone; omega
      have e6 : (k == 6) = false := iqF k6
      have hS : textT (.node k t keys kids) = [91] ++ (itemsT false true keys kids ++ [93]) := by
        simp only [textT]; rw [if_neg k1, if_neg k4, if_pos k5]
      rw [hS] at hlen ⊢
      simp only [List.length_append, List.length_singleton] at hlen
      obtain ⟨v, M2, c1, B2, K2⟩ := wbyte_k B0 (by omega) 91
      have c1' : CS 53 [.ptr p 0, .int .u8 91] M0 (.ret v) M2 := c1
      have i0 : idxSV (.str [91, 93]) (.int .i64 0) = some (.int .u8 91) := rfl
      have i1 : idxSV (.str [91, 93]) (.int .i64 1) = some (.int .u8 93) := rfl
      have g2 : M2.get M.next = .cells 26 [.int .i64 k, .str t, ka, kb] := by rw [K2.get _ (by omega) (by omega)]; exact g0
      simp only [go_sem, reduceIte, Nat.reduceEqDiff, Nat.reduceAdd, q29r1, q29r2, g0, q29r3, e1, q29r5, e2, q29r6, e3, q29r8, e4, q29r10, e6, q29r12, i0]
      refine callW_ret c1' ?_
      simp only [go_sem, reduceIte, Nat.reduceEqDiff, Nat.reduceAdd, q29r13, g2, h2.isLK, h2.len]
      refine pwrite_loop (mb := mb) (M0 := M2) (p := p) (q := M.next) (ends := [91, 93]) (S := out ++ [91] ++ itemsT false true keys kids) h1 h2 hxl hx2 f2 f4 (fun h => absurd h k6) (goodL_mem hgl) hnod (by have := K2.next; omega) (by omega) g2 ih (by simp only [List.length_append, List.length_singleton]; omega) (fun M3 B3 K3 z1 z4 z5 z6 z7 z8 z9 z10 z11 z12 z13 z14 z15 z16 => ?_) kids.length 0 (out ++ [91]) M2 _ _ _ _ _ _ _ _ _ _ _ (by omega) B2 (KeepG.refl p M2) (by rw [dF k6]; rfl)
      obtain ⟨v4, M4, d1, B4, K4⟩ := wbyte_k B3 (by simp only [List.length_append, List.length_singleton]; omega) 93
      have d1' : CS 53 [.ptr p 0, .int .u8 93] M3 (.ret v4) M4 := d1
      simp only [go_sem, reduceIte, Nat.reduceEqDiff, Nat.reduceAdd, q29r24, i1]
      refine callW_ret d1' ?_
      simp only [go_sem, reduceIte, Nat.reduceEqDiff, Nat.reduceAdd]
      exact ⟨by simpa using B4, ((K0.trans K2).trans K3).trans K4⟩
end Go.Proofs.YtinlfdkalijffaaDoor.Am.Q
namespace Go.Proofs.YtinlfdkalijffaaDoor.Am.Q
open Go Go.Proofs Go.Proofs.YtinlfdkalijffaaDoor.Am
theorem text_ne {d : Nat} : ∀ {T : VT}, goodT d T = true → textT T ≠ []
  | .node k t ks l, h => by
    simp only [goodT, Bool.and_eq_true] at h
    have hone := h.1
    by_cases k1 : k = 1
    · simp only [textT, if_pos k1]; simp [tNull]
    · by_cases k4 : k = 4
      · simp only [textT, if_neg k1, if_pos k4]; simp [quotS]
      · by_cases k5 : k = 5
        · simp only [textT, if_neg k1, if_neg k4, if_pos k5]; simp
        · by_cases k6 : k = 6
          · simp only [textT, if_neg k1, if_neg k4, if_neg k5, if_pos k6]; simp
          · simp only [textT, if_neg k1, if_neg k4, if_neg k5, if_neg k6]
            rintro rfl
            by_cases k2 : k = 2
            · simp [oneS, k2, tTrue, tFalse] at hone
            · by_cases k3 : k = 3
              · simp [oneS, k3, numS] at hone
              · have := oneS_kind hone; omega
theorem pText_ok {T : VT} (hf : Fit T) {a : AV} (ha : IsVal a T) (m : Mem) : ∃ v m', CS 16 [a] m (.ret v) m' ∧ v = .tup [.str (TextR T).1, .int .i64 (TextR T).2] ∧ Ext m m' := by
  refine call_some (R := fun v m' => v = .tup [.str (TextR T).1, .int .i64 (TextR T).2] ∧ Ext m m') xfok mixed q16at q16ok rfl ?_
  obtain ⟨k, t, ka, kb, rfl, o1, o2⟩ := ha.ones
  have g0 : (m.alloc (.cells 26 [.int .i64 k, .str t, ka, kb])).get m.next = .cells 26 [.int .i64 k, .str t, ka, kb] := get_new
  have n0 : (m.alloc (.cells 26 [.int .i64 k, .str t, ka, kb])).next = m.next + 1 := rfl
  have E : Ext m (m.alloc (.cells 26 [.int .i64 k, .str t, ka, kb])) := Ext.alloc _ _
  simp only [go_sem, reduceIte, Nat.reduceEqDiff, Nat.reduceAdd, q16, q16r0, o1, o2, q16r1]
  generalize m.alloc (.cells 26 [.int .i64 k, .str t, ka, kb]) = M at g0 E n0
  obtain ⟨v, M2, c1, rfl, c2⟩ := pmay_ok hf ha M
  have g2 : M2.get m.next = .cells 26 [.int .i64 k, .str t, ka, kb] := by rw [c2.get _ (by omega)]; exact g0
  have n2 : m.next < M2.next := by have := c2.next; omega
  simp only [go_sem, reduceIte, Nat.reduceEqDiff, Nat.reduceAdd, g0]
  refine callW_ret c1 ?_
  cases hmay : mayT T with
  | false =>
    have hS : TextR T = ([], 1) := by simp only [TextR, hmay, if_true]
    simp only [go_sem, reduceIte, Nat.reduceEqDiff, Nat.reduceAdd, q16r2, hS]
    exact E.trans c2
  | true =>
    have hgood : goodT 0 T = true := by simp only [mayT, Bool.and_eq_true] at hmay; exact hmay.1
    have hlt := text_lt hf (mayT_nodes hmay)
    have B0 : BSt M2.next M2 (M2.alloc (.cells 60 [.nilPtr, .nilSl])) [] := ⟨_, _, get_new, .inl rfl, .nil, (ExtB.refl M2.next M2).alloc _, by rw [next_alloc]; omega⟩
    have g3 : (M2.alloc (.cells 60 [.nilPtr, .nilSl])).get m.next = .cells 26 [.int .i64 k, .str t, ka, kb] := by rw [get_old (by omega)]; exact g2
    simp only [go_sem, reduceIte, Nat.reduceEqDiff, Nat.reduceAdd, q16r3, q16r4]
    generalize M2.alloc (.cells 60 [.nilPtr, .nilSl]) = M3 at B0 g3
    obtain ⟨v, M4, d1, B4, K4⟩ := pwrite_all hf M2 M3 M2.next 0 [] _ hgood (mayT_nodes hmay) (by simp only [List.length_nil]; omega) B0 ha
    rw [List.nil_append] at B4
    have hS : TextR T = if 65536 < (textT T).length then ([], 5) else (textT T, 0) := by simp only [TextR, hmay]; rfl
    have E4 : Ext M2 M4 := by
      obtain ⟨_, _, _, _, _, h, _⟩ := B4
      exact extB_ext h (Nat.le_refl _)
    simp only [go_sem, reduceIte, Nat.reduceEqDiff, Nat.reduceAdd, g3]
    refine callW_ret d1 ?_
    simp only [go_sem, reduceIte, Nat.reduceEqDiff, Nat.reduceAdd, q16r5]
    refine callW_ret (blen_ok B4) ?_
    by_cases hl : 65536 < (textT T).length
    · have e1 : decide (((textT T).length : Int) > 65536) = true := dT (by omega)
      rw [if_pos hl] at hS
      simp only [go_sem, reduceIte, Nat.reduceEqDiff, Nat.reduceAdd, e1, q16r6, hS]
      exact (E.trans c2).trans E4
    · have e1 : decide (((textT T).length : Int) > 65536) = false := dF (by omega)
      rw [if_neg hl] at hS
      obtain ⟨v, M5, d2, rfl, E5⟩ := bstr_ok B4 (text_ne hgood) (by omega)
      simp only [go_sem, reduceIte, Nat.reduceEqDiff, Nat.reduceAdd, e1, q16r7]
      refine callW_ret d2 ?_
      simp only [go_sem, reduceIte, Nat.reduceEqDiff, Nat.reduceAdd, hS]
      exact (E.trans c2).trans (extB_ext E5 (Nat.le_refl _))
theorem fit_small {T : VT} (hf : Fit T) : Small T := by
  induction hf with
  | mk f1 f2 f3 f4 f5 ih => exact .mk (by omega) (by omega) ih
end Go.Proofs.YtinlfdkalijffaaDoor.Am.Q
