import Derived.Test.YtinlfdkalijffaaDoorKJ6
set_option linter.unusedSimpArgs false
set_option linter.unusedVariables false
/-
  JSON, 23: the document's parser: values.
-/
namespace Go.Proofs.YtinlfdkalijffaaDoor.Am.Q
open Go Go.Proofs Go.Proofs.YtinlfdkalijffaaDoor.Am

abbrev z26 : AObj := .cells 26 [.int .i64 0, .str [], .nilSl, .nilSl]
def ValR (p : Nat) (m : Mem) (s : List UInt8) (r : Except Flt (VT × Nat × Nat)) (v : AV) (m' : Mem) : Prop :=
  match r with
  | .ok (T, j, k) => IsVal v T ∧ ExtB p m m' ∧ m'.get p = RP s j k 0 0
  | .error (w, k) => (∃ T, IsVal v T) ∧ ExtB p m m' ∧ w ≠ 0 ∧ ∃ j many, m'.get p = RP s j many w k
/-- A call's state: the parser, and a value that was laid. -/
structure VSt (p q : Nat) (m M : Mem) (o oq : AObj) : Prop where
  ext : ExtB p m M
  gp : M.get p = o
  gq : M.get q = oq
  ne : q ≠ p
  new : m.next ≤ q
  lt : q < M.next
theorem VSt.setp {p q : Nat} {m M : Mem} {o oq : AObj} (h : VSt p q m M o oq) (o' : AObj) : VSt p q m (M.set p o') o' oq :=
  ⟨h.ext.setp _, get_set_same, by rw [get_set_other h.ne]; exact h.gq, h.ne, h.new, h.lt⟩
theorem VSt.setq {p q : Nat} {m M : Mem} {o oq : AObj} (h : VSt p q m M o oq) (o' : AObj) : VSt p q m (M.set q o') o o' :=
  ⟨h.ext.set h.new _, by rw [get_set_other (Ne.symm h.ne)]; exact h.gp, get_set_same, h.ne, h.new, h.lt⟩
theorem VSt.call {p q : Nat} {m M M' : Mem} {o o' oq : AObj} (h : VSt p q m M o oq) (k : ExtB p M M') (g : M'.get p = o') : VSt p q m M' o' oq :=
  ⟨h.ext.trans k, g, by rw [k.get q h.lt h.ne]; exact h.gq, h.ne, h.new, Nat.lt_of_lt_of_le h.lt k.next⟩
theorem VSt.alloc {p q : Nat} {m M : Mem} {o oq : AObj} (h : VSt p q m M o oq) (hp : p < M.next) (o' : AObj) : VSt p q m (M.alloc o') o oq :=
  ⟨h.ext.alloc _, by rw [get_old (by omega)]; exact h.gp, by rw [get_old (by have := h.lt; omega)]; exact h.gq, h.ne, h.new, by have := h.lt; rw [next_alloc]; omega⟩
theorem VSt.begin {p : Nat} {m : Mem} {o oq : AObj} (hp : p < m.next) (g : m.get p = o) : VSt p m.next m (m.alloc oq) o oq :=
  ⟨(ExtB.refl p m).alloc _, by rw [get_old (by omega)]; exact g, get_new, by omega, Nat.le_refl _, by rw [next_alloc]; omega⟩
theorem leaf_val {k : Int} {t : List UInt8} : IsVal (.agg [.int .i64 k, .str t, .nilSl, .nilSl]) (.node k t [] []) := .mk (.inl ⟨rfl, rfl⟩) (.inl ⟨rfl, rfl⟩) rfl (fun i hi => absurd hi (Nat.not_lt_zero _))

theorem IsVal.ones {v : AV} {T : VT} (h : IsVal v T) : ∃ k t ka kb, v = .agg [.int .i64 k, .str t, ka, kb] ∧ one ka = true ∧ one kb = true := by
  cases h with
  | mk a1 a2 => exact ⟨_, _, _, _, rfl, a1.one, a2.one⟩
theorem str_beq {a b : List UInt8} (h : a = b) : (a == b) = true := by simp [h]
theorem str_bne {a b : List UInt8} (h : ¬ a = b) : (a == b) = false := by simp [h]

section
variable (s : List UInt8)
def PVal (f : Nat) : Prop := ∀ (m : Mem) (p i many deep : Nat), 2 * (s.length - i) + 1 ≤ f → many ≤ 4096 → deep < 2 ^ 40 → p < m.next → m.get p = RP s i many 0 0 →
  ∃ v m', CS 24 [.ptr p 0, .int .i64 deep] m (.ret v) m' ∧ ValR p m s (pGo s f .val i many deep) v m'
def PList (f : Nat) : Prop := ∀ (m : Mem) (p i many deep : Nat), 2 * (s.length - i) + 2 ≤ f → i ≤ s.length → many ≤ 4096 → deep < 2 ^ 39 → p < m.next → m.get p = RP s i many 0 0 →
  ∃ v m', CS 49 [.ptr p 0, .int .i64 deep] m (.ret v) m' ∧ ValR p m s (pGo s f (.list []) i many deep) v m'
def PTab (f : Nat) : Prop := ∀ (m : Mem) (p i many deep : Nat), 2 * (s.length - i) + 2 ≤ f → i ≤ s.length → many ≤ 4096 → deep < 2 ^ 39 → p < m.next → m.get p = RP s i many 0 0 →
  ∃ v m', CS 50 [.ptr p 0, .int .i64 deep] m (.ret v) m' ∧ ValR p m s (pGo s f (.tab [] []) i many deep) v m'
end

/-- The code behind the kinds of values that are no list and no table. -/
theorem rval_step {s : List UInt8} (hs : s.length < 2 ^ 40) {f : Nat} (HL : PList s f) (HT : PTab s f) : PVal s (f + 1) := by
  intro m p i many deep hf hmany hdeep hpn hp
  have out : ∀ {r : Except Flt (VT × Nat × Nat)}, r = pGo s (f + 1) .val i many deep → (∃ v m', CS 24 [.ptr p 0, .int .i64 deep] m (.ret v) m' ∧ ValR p m s r v m') → ∃ v m', CS 24 [.ptr p 0, .int .i64 deep] m (.ret v) m' ∧ ValR p m s (pGo s (f + 1) .val i many deep) v m' := fun e h => e ▸ h
  have hV0 := VSt.begin (oq := z26) hpn hp
  have hp0 := hV0.gp
  generalize hM0 : m.alloc z26 = M0 at hV0 hp0
  have hn := rnext_ok (m := M0) (by omega) hp0
  cases hc : s[skipN s i]? with
  | none =>
    refine out (r := .error (4, s.length)) (by simp only [pGo, nxt_none hc]) ?_
    refine call_some (R := ValR p m s (.error (4, s.length))) xfok mixed q24at q24ok rfl ?_
    simp only [rnextM, nxt_none hc] at hn
    have hV1 := hV0.setp (RP s (skipN s i) many 4 s.length)
    have hp1 := hV1.gp
    have hq1 := hV1.gq
    simp only [go_sem, reduceIte, Nat.reduceEqDiff, Nat.reduceAdd, q24, q24r0, hM0, q24r1]
    refine callW_ret hn ?_
    generalize hM1 : M0.set p (RP s (skipN s i) many 4 s.length) = M1 at hV1 hp1 hq1
    simp only [go_sem, reduceIte, Nat.reduceEqDiff, Nat.reduceAdd, q24r2, hp1, q24r3, show ((4 : Int) != 0) = true from rfl, q24r4, hq1]
    exact ⟨⟨_, zero_val⟩, (hV1.setq _).ext, by decide, _, _, (hV1.setq _).gp⟩
  | some c =>
    have h1 := (List.getElem?_eq_some_iff.1 hc).1
    simp only [rnextM, nxt_some hc] at hn
    generalize hj : skipN s i = j at hn hc h1
    have hS : pGo s (f + 1) .val i many deep = if 4096 < many + 1 then .error (5, j) else
      if c.toNat = 34 then (match quote s j with
        | .error e => .error e
        | .ok (t, k) => .ok (.node 4 t [] [], k, many + 1))
      else if c.toNat = 91 ∨ c.toNat = 123 then
        (if 64 ≤ deep then .error (8, j) else if c.toNat = 91 then pGo s f (.list []) (j + 1) (many + 1) deep else pGo s f (.tab [] []) (j + 1) (many + 1) deep)
      else if c.toNat = 45 ∨ isDig c = true then
        (if numS ((s.drop j).takeWhile isNum) then .ok (.node 3 ((s.drop j).takeWhile isNum) [] [], j + runN isNum (s.drop j), many + 1) else .error (3, j))
      else if (s.drop j).takeWhile isSmall = tNull then .ok (.node 1 [] [] [], j + runN isSmall (s.drop j), many + 1)
      else if (s.drop j).takeWhile isSmall = tTrue ∨ (s.drop j).takeWhile isSmall = tFalse then .ok (.node 2 ((s.drop j).takeWhile isSmall) [] [], j + runN isSmall (s.drop j), many + 1)
      else .error (3, j) := by
      simp only [pGo, nxt_some (hj ▸ hc), hj]; rfl
    have hij : i ≤ j := hj ▸ skip_ge
    have hV1 := hV0.setp (RP s j many 0 0)
    have hp1 := hV1.gp
    have hq1 := hV1.gq
    generalize hM1 : M0.set p (RP s j many 0 0) = M1 at hV1 hp1 hq1
    have hV2 := hV1.setp (RP s j (many + 1) 0 0)
    have hp2 := hV2.gp
    have hq2 := hV2.gq
    have hw := wrap_succ (i := many) (by omega)
    have z0 : ((0 : Int) != 0) = false := rfl
    -- the code up to the kinds
    have pre : ∀ {R : AV → Mem → Prop}, ¬ 4096 < many + 1 → wc CS (.block 0 (.seq (.region q24r9) (.cond (.var 9) (.seq (.region q24r10) .ret) (.seq (.region q24r11) (.cond (.var 10) (.seq (.region q24r12) (.seq (.seq (.region q24r13) (.cond (.var 11) (.region q24r14) .skip)) (.seq (.region q24r15) .ret))) (.seq (.region q24r16) (.cond (.var 12) (.seq (.region q24r17) (.seq (.seq (.region q24r18) (.block 1 (.seq (.region q24r19) (.cond (.var 14) (.seq (.region q24r20) .ret) (.seq (.seq (.region q24r21) (.cond (.var 15) .skip (.region q24r22))) (.cond (.var 15) (.seq (.region q24r23) .ret) .skip)))))) (.seq (.region q24r24) (.seq (.region q24r25) .ret)))) (.seq (.region q24r26) (.cond (.var 16) (.seq (.region q24r27) (.seq (.region q24r28) .ret)) (.seq (.region q24r29) (.cond (.var 17) (.seq (.region q24r30) (.seq (.region q24r31) .ret)) .skip)))))))))))
          (seqQ CS (.seq (.region q24r32) (.seq (.seq (.region q24r33) (.cond (.var 18) (.seq (.region q24r34) .ret) .skip)) (.seq (.region q24r35) .ret))) (endsIn [.cell 2 true 4] R noPan))
          [.ptr p 0, .int .i64 deep, .ptr m.next 0, .int .u8 c.toNat, .int .i64 j, .u, .u, .bool false, .bool false, .u, .u, .u, .u, .u, .u, .u, .u, .u, .u] (M1.set p (RP s j (many + 1) 0 0)) → ∃ v m', CS 24 [.ptr p 0, .int .i64 deep] m (.ret v) m' ∧ R v m' := by
      intro R h4 hrest
      refine call_some (R := R) xfok mixed q24at q24ok rfl ?_
      have e4 : decide (((many + 1 : Nat) : Int) > 4096) = false := dF (by omega)
      simp only [go_sem, reduceIte, Nat.reduceEqDiff, Nat.reduceAdd, q24, q24r0, hM0, q24r1]
      refine callW_ret hn ?_
      rw [hM1]
      simp only [go_sem, reduceIte, Nat.reduceEqDiff, Nat.reduceAdd, q24r2, hp1, q24r3, z0, q24r5, hw, q24r6, e4]
      simp only [go_sem, reduceIte, Nat.reduceEqDiff, Nat.reduceAdd] at hrest
      exact hrest
    rw [hS]
    by_cases h4 : 4096 < many + 1
    · rw [if_pos h4]
      refine call_some (R := ValR p m s (.error (5, j))) xfok mixed q24at q24ok rfl ?_
      have e4 : decide (((many + 1 : Nat) : Int) > 4096) = true := dT (by omega)
      simp only [go_sem, reduceIte, Nat.reduceEqDiff, Nat.reduceAdd, q24, q24r0, hM0, q24r1]
      refine callW_ret hn ?_
      rw [hM1]
      simp only [go_sem, reduceIte, Nat.reduceEqDiff, Nat.reduceAdd, q24r2, hp1, q24r3, z0, q24r5, hw, q24r6, e4, q24r7]
      refine callW_ret (rfail_ok get_set_same 5 j) ?_
      have hV3 := hV1.setp (RP s j (many + 1) 5 j)
      have hq3 := hV3.gq
      simp only [go_sem, reduceIte, Nat.reduceEqDiff, Nat.reduceAdd, q24r8, hq3]
      exact ⟨⟨_, zero_val⟩, (hV3.setq _).ext, by decide, _, _, (hV3.setq _).gp⟩
    · rw [if_neg h4]
      have pre := fun {R} => pre (R := R) h4
      generalize hM2 : M1.set p (RP s j (many + 1) 0 0) = M2 at hV2 hp2 hq2 pre
      by_cases h34 : c.toNat = 34
      · -- quotes
        rw [if_pos h34]
        have a34 : ((c.toNat : Int) == 34) = true := bqT (by omega)
        refine pre ?_
        obtain ⟨v, M3, k1, k2⟩ := rquo_ok hs h1 hp2
        simp only [go_sem, reduceIte, Nat.reduceEqDiff, Nat.reduceAdd, q24r9, a34, q24r10]
        refine callW_ret k1 ?_
        cases hqu : quote s j with
        | ok x =>
          obtain ⟨t, k⟩ := x
          rw [hqu] at k2
          obtain ⟨rfl, k3, k4⟩ := k2
          have hV3 := hV2.call k3 k4
          have hq3 := hV3.gq
          simp only [go_sem, reduceIte, Nat.reduceEqDiff, Nat.reduceAdd, hq3]
          exact ⟨leaf_val, (hV3.setq _).ext, (hV3.setq _).gp⟩
        | error x =>
          obtain ⟨w, k⟩ := x
          rw [hqu] at k2
          obtain ⟨t, a, rfl, k3, k4, k5⟩ := k2
          have hV3 := hV2.call k3 k4
          have hq3 := hV3.gq
          simp only [go_sem, reduceIte, Nat.reduceEqDiff, Nat.reduceAdd, hq3]
          exact ⟨⟨_, leaf_val⟩, (hV3.setq _).ext, k5, _, _, (hV3.setq _).gp⟩
      · rw [if_neg h34]
        have a34 : ((c.toNat : Int) == 34) = false := bqF (by omega)
        by_cases hbr : c.toNat = 91 ∨ c.toNat = 123
        · -- lists and tables
          rw [if_pos hbr]
          have a45 : ((c.toNat : Int) == 45) = false := bqF (by omega)
          have hd : isDig c = false := by simp [isDig, isDigN]; omega
          have hsm : isSmall c = false := by simp [isSmall, isSmallN]; omega
          have w32 := wrap_succ (i := j) (by omega)
          have e91 : ((c.toNat : Int) != 91) = decide (c.toNat ≠ 91) := by
            by_cases h : c.toNat = 91
            · rw [bnF (by omega), dF (by omega)]
            · rw [bnT (by omega), dT (by omega)]
          by_cases hdp : 64 ≤ deep
          · rw [if_pos hdp]
            have e64 : decide ((deep : Int) ≥ 64) = true := dT (by omega)
            refine pre ?_
            simp only [go_sem, reduceIte, Nat.reduceEqDiff, Nat.reduceAdd, q24r9, a34, q24r11, a45]
            refine callW_ret (rdig_ok c M2) ?_
            simp only [go_sem, reduceIte, Nat.reduceEqDiff, Nat.reduceAdd, hd, q24r16]
            refine callW_ret (rsmall_ok c M2) ?_
            have fin : ∀ M3, VSt p m.next m M3 (RP s j (many + 1) 8 j) z26 → ValR p m s (.error (8, j)) (.agg [.int .i64 0, .str [], .nilSl, .nilSl]) (M3.set m.next z26) := by
              intro M3 hV3
              exact ⟨⟨_, zero_val⟩, (hV3.setq _).ext, by decide, _, _, (hV3.setq _).gp⟩
            have hV3 := hV2.setp (RP s j (many + 1) 8 j)
            have hq3 := hV3.gq
            rcases hbr with h91 | h123
            · have b91 : ((c.toNat : Int) != 91) = false := bnF (by omega)
              simp only [go_sem, reduceIte, Nat.reduceEqDiff, Nat.reduceAdd, hsm, q24r26, b91, q24r29, e64, q24r30]
              refine callW_ret (rfail_ok hp2 8 j) ?_
              simp only [go_sem, reduceIte, Nat.reduceEqDiff, Nat.reduceAdd, q24r31, hq3]
              exact fin _ hV3
            · have b91 : ((c.toNat : Int) != 91) = true := bnT (by omega)
              have b123 : ((c.toNat : Int) != 123) = false := bnF (by omega)
              simp only [go_sem, reduceIte, Nat.reduceEqDiff, Nat.reduceAdd, hsm, q24r26, b91, b123, q24r29, e64, q24r30]
              refine callW_ret (rfail_ok hp2 8 j) ?_
              simp only [go_sem, reduceIte, Nat.reduceEqDiff, Nat.reduceAdd, q24r31, hq3]
              exact fin _ hV3
          · rw [if_neg hdp]
            have e64 : decide ((deep : Int) ≥ 64) = false := dF (by omega)
            have hV3 := hV2.setp (RP s (j + 1) (many + 1) 0 0)
            have hp3 := hV3.gp
            have hpn3 : p < (M2.set p (RP s (j + 1) (many + 1) 0 0)).next := by
              have := hV3.ext.next; omega
            have fin : ∀ (r : Except Flt (VT × Nat × Nat)) (v : AV) (M4 : Mem), ValR p (M2.set p (RP s (j + 1) (many + 1) 0 0)) s r v M4 → ∃ k t ka kb, v = .agg [.int .i64 k, .str t, ka, kb] ∧ one ka = true ∧ one kb = true ∧ M4.get m.next = z26 ∧ ValR p m s r v (M4.set m.next (.cells 26 [.int .i64 k, .str t, ka, kb])) := by
              intro r v M4 h
              cases r with
              | ok x =>
                obtain ⟨T, a, b⟩ := x
                obtain ⟨v1, v2, v3⟩ := h
                have hV4 := hV3.call v2 v3
                obtain ⟨k, t, ka, kb, e, o1, o2⟩ := v1.ones
                exact ⟨k, t, ka, kb, e, o1, o2, hV4.gq, v1, (hV4.setq _).ext, (hV4.setq _).gp⟩
              | error x =>
                obtain ⟨w, a⟩ := x
                obtain ⟨⟨T, v1⟩, v2, v3, b, b', v4⟩ := h
                have hV4 := hV3.call v2 v4
                obtain ⟨k, t, ka, kb, e, o1, o2⟩ := v1.ones
                exact ⟨k, t, ka, kb, e, o1, o2, hV4.gq, ⟨T, v1⟩, (hV4.setq _).ext, v3, b, b', (hV4.setq _).gp⟩
            rcases hbr with h91 | h123
            · rw [if_pos h91]
              have b91 : ((c.toNat : Int) != 91) = false := bnF (by omega)
              have d91 : ((c.toNat : Int) == 91) = true := bqT (by omega)
              refine pre ?_
              simp only [go_sem, reduceIte, Nat.reduceEqDiff, Nat.reduceAdd, q24r9, a34, q24r11, a45]
              refine callW_ret (rdig_ok c M2) ?_
              simp only [go_sem, reduceIte, Nat.reduceEqDiff, Nat.reduceAdd, hd, q24r16]
              refine callW_ret (rsmall_ok c M2) ?_
              simp only [go_sem, reduceIte, Nat.reduceEqDiff, Nat.reduceAdd, hsm, q24r26, b91, q24r29, e64, q24r32, hp2, w32, q24r33, d91, q24r34]
              obtain ⟨v, M4, k1, k2⟩ := HL _ p (j + 1) (many + 1) deep (by omega) (by omega) (by omega) (by omega) hpn3 hp3
              refine callW_ret k1 ?_
              obtain ⟨k, t, ka, kb, rfl, o1, o2, g4, k3⟩ := fin _ _ _ k2
              simp only [go_sem, reduceIte, Nat.reduceEqDiff, Nat.reduceAdd, g4, o1, o2]
              exact k3
            · rw [if_neg (by omega)]
              have b91 : ((c.toNat : Int) != 91) = true := bnT (by omega)
              have b123 : ((c.toNat : Int) != 123) = false := bnF (by omega)
              have d91 : ((c.toNat : Int) == 91) = false := bqF (by omega)
              refine pre ?_
              simp only [go_sem, reduceIte, Nat.reduceEqDiff, Nat.reduceAdd, q24r9, a34, q24r11, a45]
              refine callW_ret (rdig_ok c M2) ?_
              simp only [go_sem, reduceIte, Nat.reduceEqDiff, Nat.reduceAdd, hd, q24r16]
              refine callW_ret (rsmall_ok c M2) ?_
              simp only [go_sem, reduceIte, Nat.reduceEqDiff, Nat.reduceAdd, hsm, q24r26, b91, b123, q24r29, e64, q24r32, hp2, w32, q24r33, d91, q24r35]
              obtain ⟨v, M4, k1, k2⟩ := HT _ p (j + 1) (many + 1) deep (by omega) (by omega) (by omega) (by omega) hpn3 hp3
              refine callW_ret k1 ?_
              obtain ⟨k, t, ka, kb, rfl, o1, o2, g4, k3⟩ := fin _ _ _ k2
              simp only [go_sem, reduceIte, Nat.reduceEqDiff, Nat.reduceAdd, g4, o1, o2]
              exact k3
        · rw [if_neg hbr]
          by_cases hnu : c.toNat = 45 ∨ isDig c = true
          · -- numbers
            rw [if_pos hnu]
            have hrun := rrun_ok (m := M2) (b := true) (by omega) (Nat.le_of_lt h1) hp2
            have er : runP true = isNum := rfl
            rw [er] at hrun
            have hV3 := hV2.setp (RP s (j + runN isNum (s.drop j)) (many + 1) 0 0)
            have hp3 := hV3.gp
            have hq3 := hV3.gq
            have hlt : ((s.drop j).takeWhile isNum).length < 2 ^ 61 := by
              rw [takeWhile_len]
              have := runN_le (p := isNum) (s := s.drop j)
              simp at this; omega
            have tail : ∀ M, M = M2.set p (RP s (j + runN isNum (s.drop j)) (many + 1) 0 0) → ∀ (g3 g4 g6 g7 g8 g9 g10 g11 g12 g13 g14 g15 g16 g17 g18 : AV),
                wc CS (.seq (.seq (.region q24r13) (.cond (.var 11) (.region q24r14) .skip)) (.seq (.region q24r15) .ret)) (blockQ 0 (seqQ CS (.seq (.region q24r32) (.seq (.seq (.region q24r33) (.cond (.var 18) (.seq (.region q24r34) .ret) .skip)) (.seq (.region q24r35) .ret))) (endsIn [.cell 2 true 4] (ValR p m s (if numS ((s.drop j).takeWhile isNum) = true then .ok (.node 3 ((s.drop j).takeWhile isNum) [] [], j + runN isNum (s.drop j), many + 1) else .error (3, j))) noPan)))
                  [.ptr p 0, .int .i64 deep, .ptr m.next 0, g3, .int .i64 j, .str ((s.drop j).takeWhile isNum), g6, g7, g8, g9, g10, g11, g12, g13, g14, g15, g16, g17, g18] M := by
              rintro M rfl g3 g4 g6 g7 g8 g9 g10 g11 g12 g13 g14 g15 g16 g17 g18
              simp only [go_sem, reduceIte, Nat.reduceEqDiff, Nat.reduceAdd, q24r13]
              refine callW_ret (rnumber_ok hlt _) ?_
              cases hnum : numS ((s.drop j).takeWhile isNum) with
              | true =>
                simp only [go_sem, reduceIte, Nat.reduceEqDiff, Nat.reduceAdd, q24r15, hq3]
                exact ⟨leaf_val, (hV3.setq _).ext, (hV3.setq _).gp⟩
              | false =>
                simp only [go_sem, reduceIte, Nat.reduceEqDiff, Nat.reduceAdd, q24r14]
                refine callW_ret (rfail_ok hp3 3 j) ?_
                have hV4 := hV2.setp (RP s (j + runN isNum (s.drop j)) (many + 1) 3 j)
                have hq4 := hV4.gq
                simp only [go_sem, reduceIte, Nat.reduceEqDiff, Nat.reduceAdd, q24r15, hq4]
                exact ⟨⟨_, leaf_val⟩, (hV4.setq _).ext, by decide, _, _, (hV4.setq _).gp⟩
            by_cases h45 : c.toNat = 45
            · have a45 : ((c.toNat : Int) == 45) = true := bqT (by omega)
              refine pre ?_
              simp only [go_sem, reduceIte, Nat.reduceEqDiff, Nat.reduceAdd, q24r9, a34, q24r11, a45, q24r12]
              refine callW_ret hrun ?_
              simp only [go_sem, reduceIte, Nat.reduceEqDiff, Nat.reduceAdd]
              have := tail _ rfl (.int .u8 c.toNat) .u .u (.bool false) (.bool false) (.bool false) (.bool true) .u .u .u .u .u .u .u .u
              simp only [go_sem, reduceIte, Nat.reduceEqDiff, Nat.reduceAdd] at this
              exact this
            · have a45 : ((c.toNat : Int) == 45) = false := bqF (by omega)
              have hd : isDig c = true := hnu.resolve_left h45
              refine pre ?_
              simp only [go_sem, reduceIte, Nat.reduceEqDiff, Nat.reduceAdd, q24r9, a34, q24r11, a45]
              refine callW_ret (rdig_ok c M2) ?_
              simp only [go_sem, reduceIte, Nat.reduceEqDiff, Nat.reduceAdd, hd, q24r12]
              refine callW_ret hrun ?_
              simp only [go_sem, reduceIte, Nat.reduceEqDiff, Nat.reduceAdd]
              have := tail _ rfl (.int .u8 c.toNat) .u .u (.bool false) (.bool false) (.bool false) (.bool true) .u .u .u .u .u .u .u .u
              simp only [go_sem, reduceIte, Nat.reduceEqDiff, Nat.reduceAdd] at this
              exact this
          · rw [if_neg hnu]
            have a45 : ((c.toNat : Int) == 45) = false := bqF (by omega)
            have hd : isDig c = false := by
              cases h : isDig c with
              | true => exact absurd (.inr h) hnu
              | false => rfl
            cases hsm : isSmall c with
            | false =>
              have htw : (s.drop j).takeWhile isSmall = [] := by rw [drop_at hc, List.takeWhile_cons, hsm]; rfl
              rw [htw, if_neg (by decide), if_neg (by decide)]
              refine pre ?_
              have b91 : ((c.toNat : Int) != 91) = true := bnT (by omega)
              have b123 : ((c.toNat : Int) != 123) = true := bnT (by omega)
              have hV3 := hV2.setp (RP s j (many + 1) 3 j)
              have hq3 := hV3.gq
              simp only [go_sem, reduceIte, Nat.reduceEqDiff, Nat.reduceAdd, q24r9, a34, q24r11, a45]
              refine callW_ret (rdig_ok c M2) ?_
              simp only [go_sem, reduceIte, Nat.reduceEqDiff, Nat.reduceAdd, hd, q24r16]
              refine callW_ret (rsmall_ok c M2) ?_
              simp only [go_sem, reduceIte, Nat.reduceEqDiff, Nat.reduceAdd, hsm, q24r26, b91, b123, q24r27]
              refine callW_ret (rfail_ok hp2 3 j) ?_
              simp only [go_sem, reduceIte, Nat.reduceEqDiff, Nat.reduceAdd, q24r28, hq3]
              exact ⟨⟨_, zero_val⟩, (hV3.setq _).ext, by decide, _, _, (hV3.setq _).gp⟩
            | true =>
              have hrun := rrun_ok (m := M2) (b := false) (by omega) (Nat.le_of_lt h1) hp2
              have er : runP false = isSmall := rfl
              rw [er] at hrun
              have hV3 := hV2.setp (RP s (j + runN isSmall (s.drop j)) (many + 1) 0 0)
              have hp3 := hV3.gp
              have hq3 := hV3.gq
              by_cases hnull : (s.drop j).takeWhile isSmall = tNull
              · rw [if_pos hnull]
                refine pre ?_
                simp only [go_sem, reduceIte, Nat.reduceEqDiff, Nat.reduceAdd, q24r9, a34, q24r11, a45]
                refine callW_ret (rdig_ok c M2) ?_
                simp only [go_sem, reduceIte, Nat.reduceEqDiff, Nat.reduceAdd, hd, q24r16]
                refine callW_ret (rsmall_ok c M2) ?_
                simp only [go_sem, reduceIte, Nat.reduceEqDiff, Nat.reduceAdd, hsm, q24r17]
                refine callW_ret hrun ?_
                have x1 : ((s.drop j).takeWhile isSmall == [110, 117, 108, 108]) = true := str_beq hnull
                simp only [go_sem, reduceIte, Nat.reduceEqDiff, Nat.reduceAdd, q24r18, q24r19, x1, q24r20, hq3]
                exact ⟨leaf_val, (hV3.setq _).ext, (hV3.setq _).gp⟩
              · rw [if_neg hnull]
                have x1 : ((s.drop j).takeWhile isSmall == [110, 117, 108, 108]) = false := str_bne hnull
                by_cases htr : (s.drop j).takeWhile isSmall = tTrue
                · rw [if_pos (.inl htr)]
                  refine pre ?_
                  simp only [go_sem, reduceIte, Nat.reduceEqDiff, Nat.reduceAdd, q24r9, a34, q24r11, a45]
                  refine callW_ret (rdig_ok c M2) ?_
                  simp only [go_sem, reduceIte, Nat.reduceEqDiff, Nat.reduceAdd, hd, q24r16]
                  refine callW_ret (rsmall_ok c M2) ?_
                  simp only [go_sem, reduceIte, Nat.reduceEqDiff, Nat.reduceAdd, hsm, q24r17]
                  refine callW_ret hrun ?_
                  have x2 : ((s.drop j).takeWhile isSmall == [116, 114, 117, 101]) = true := str_beq htr
                  simp only [go_sem, reduceIte, Nat.reduceEqDiff, Nat.reduceAdd, q24r18, q24r19, x1, q24r21, x2, q24r23, hq3]
                  exact ⟨leaf_val, (hV3.setq _).ext, (hV3.setq _).gp⟩
                · have x2 : ((s.drop j).takeWhile isSmall == [116, 114, 117, 101]) = false := str_bne htr
                  by_cases hfa : (s.drop j).takeWhile isSmall = tFalse
                  · rw [if_pos (.inr hfa)]
                    refine pre ?_
                    simp only [go_sem, reduceIte, Nat.reduceEqDiff, Nat.reduceAdd, q24r9, a34, q24r11, a45]
                    refine callW_ret (rdig_ok c M2) ?_
                    simp only [go_sem, reduceIte, Nat.reduceEqDiff, Nat.reduceAdd, hd, q24r16]
                    refine callW_ret (rsmall_ok c M2) ?_
                    simp only [go_sem, reduceIte, Nat.reduceEqDiff, Nat.reduceAdd, hsm, q24r17]
                    refine callW_ret hrun ?_
                    have x3 : ((s.drop j).takeWhile isSmall == [102, 97, 108, 115, 101]) = true := str_beq hfa
                    simp only [go_sem, reduceIte, Nat.reduceEqDiff, Nat.reduceAdd, q24r18, q24r19, x1, q24r21, x2, q24r22, x3, q24r23, hq3]
                    exact ⟨leaf_val, (hV3.setq _).ext, (hV3.setq _).gp⟩
                  · rw [if_neg (fun h => h.elim htr hfa)]
                    refine pre ?_
                    simp only [go_sem, reduceIte, Nat.reduceEqDiff, Nat.reduceAdd, q24r9, a34, q24r11, a45]
                    refine callW_ret (rdig_ok c M2) ?_
                    simp only [go_sem, reduceIte, Nat.reduceEqDiff, Nat.reduceAdd, hd, q24r16]
                    refine callW_ret (rsmall_ok c M2) ?_
                    simp only [go_sem, reduceIte, Nat.reduceEqDiff, Nat.reduceAdd, hsm, q24r17]
                    refine callW_ret hrun ?_
                    have x3 : ((s.drop j).takeWhile isSmall == [102, 97, 108, 115, 101]) = false := str_bne hfa
                    have hV4 := hV2.setp (RP s (j + runN isSmall (s.drop j)) (many + 1) 3 j)
                    have hq4 := hV4.gq
                    simp only [go_sem, reduceIte, Nat.reduceEqDiff, Nat.reduceAdd, q24r18, q24r19, x1, q24r21, x2, q24r22, x3, q24r24]
                    refine callW_ret (rfail_ok hp3 3 j) ?_
                    simp only [go_sem, reduceIte, Nat.reduceEqDiff, Nat.reduceAdd, q24r25, hq4]
                    exact ⟨⟨_, zero_val⟩, (hV4.setq _).ext, by decide, _, _, (hV4.setq _).gp⟩
end Go.Proofs.YtinlfdkalijffaaDoor.Am.Q

/-
  JSON, 24: the document's parser: lists.
-/
namespace Go.Proofs.YtinlfdkalijffaaDoor.Am.Q
open Go Go.Proofs Go.Proofs.YtinlfdkalijffaaDoor.Am

def KidsOf (xs : List AV) (acc : List VT) : Prop := xs.length = acc.length ∧ ∀ i, i < acc.length → IsVal (xs.getD i .u) (acc.getD i VT.zero)
theorem KidsOf.nil : KidsOf [] [] := ⟨rfl, fun i hi => absurd hi (Nat.not_lt_zero _)⟩
theorem KidsOf.push {xs : List AV} {acc : List VT} {v : AV} {T : VT} (h : KidsOf xs acc) (hv : IsVal v T) : KidsOf (xs ++ [v]) (acc ++ [T]) := by
  refine ⟨by simp [h.1], fun i hi => ?_⟩
  by_cases e : i < acc.length
  · have := h.2 i e
    simpa [List.getD, List.getElem?_append_left e, List.getElem?_append_left (show i < xs.length by rw [h.1]; exact e)] using this
  · have : i = acc.length := by simp at hi; omega
    subst this
    simpa [List.getD, ← h.1] using hv
theorem KidsOf.first {xs : List AV} {acc : List VT} (h : KidsOf xs acc) : ((xs.length : Int) == 0) = decide (acc = []) := by
  rw [Bool.eq_iff_iff]
  simp only [beq_iff_eq, decide_eq_true_eq]
  have := h.1
  constructor
  · intro e; exact List.eq_nil_of_length_eq_zero (by omega)
  · intro e; rw [e] at this; simp only [List.length_nil] at this; omega
theorem val_good {k : Int} {t : List UInt8} {ka kb : AV} (h1 : one ka = true) (h2 : one kb = true) : [AV.agg [.int .i64 k, .str t, ka, kb]].all (fun y => y.cells.length == 4 && y.cells.all scal) = true := by
  rw [one_scal] at h1 h2
  simp [AV.cells, scal_int, scal_str, h1, h2]
theorem VSt.other {p q : Nat} {m M : Mem} {o oq : AObj} (h : VSt p q m M o oq) {i : Nat} (h1 : i ≠ p) (h2 : i ≠ q) (h3 : m.next ≤ i) (o' : AObj) : VSt p q m (M.set i o') o oq :=
  ⟨h.ext.set h3 _, by rw [get_set_other (Ne.symm h1)]; exact h.gp, by rw [get_set_other (Ne.symm h2)]; exact h.gq, h.ne, h.new, h.lt⟩
theorem VSt.same {p q : Nat} {m M M' : Mem} {o oq : AObj} (h : VSt p q m M o oq) (h1 : M'.get = M.get) (h2 : M'.next = M.next) (h3 : ExtB p m M') : VSt p q m M' o oq :=
  ⟨h3, by rw [h1]; exact h.gp, by rw [h1]; exact h.gq, h.ne, h.new, by rw [h2]; exact h.lt⟩
abbrev lObj (k : Int) (ka kb : AV) : AObj := .cells 26 [.int .i64 k, .str [], ka, kb]

theorem pGo_list {s : List UInt8} {f i many deep : Nat} {acc : List VT} : pGo s (f + 1) (.list acc) i many deep = (match nxt s i with
    | .error e => .error e
    | .ok (j, c) => if c.toNat = 93 then .ok (.node 5 [] [] acc, j + 1, many) else
      if acc ≠ [] ∧ c.toNat ≠ 44 then .error (3, j) else
        (match pGo s f .val (if acc = [] then j else j + 1) many (deep + 1) with
        | .error e => .error e
        | .ok (v, k, many') => pGo s f (.list (acc ++ [v])) k many' deep)) := rfl

theorem rlist_loop {s : List UInt8} (hs : s.length < 2 ^ 30) {m : Mem} {p r q deep : Nat} (hdeep : deep < 2 ^ 39) (hpn : p < m.next) (hr : m.next ≤ r) (hrq : r < q) {F : Nat} (HV : ∀ f, f < F → PVal s f) {R : Except Flt (VT × Nat × Nat)} {Q : AExit → List AV → Mem → Prop}
    (hx : ∀ M c, M.get q = .cells 26 c → M.get r = z26 → ValR p m s R (.agg c) M → ∀ g0 g1 g4 g5, Q (.exit 0) [g0, g1, .ptr r 0, .ptr q 0, g4, g5] M) :
    ∀ (f i many : Nat) (acc : List VT) (M : Mem) (kb : AV) (xs : List AV) (g4 g5 : AV), f ≤ F → 2 * (s.length - i) + 2 ≤ f → many ≤ 4096 → acc.length ≤ i → i ≤ s.length → VSt p q m M (RP s i many 0 0) (lObj 5 .nilSl kb) → M.get r = z26 → Mine m M 26 4 kb xs → KidsOf xs acc →
      R = pGo s f (.list acc) i many deep → wl CS [4, 5] q49l5 Q [.ptr p 0, .int .i64 deep, .ptr r 0, .ptr q 0, g4, g5] M := by
  intro f
  induction f with
  | zero => intro i many acc M kb xs g4 g5 _ hf; omega
  | succ f ih =>
    intro i many acc M kb xs g4 g5 hfF hf hmany hai hil hV hgr hm hk hR
    have hne := hV.ne
    have hgp := hV.gp
    have hgq := hV.gq
    have hsl := hm.sl
    have hkids : IsVal (.agg [.int .i64 5, .str [], .nilSl, kb]) (.node 5 [] [] acc) := .mk (.inl ⟨rfl, rfl⟩) hsl hk.1 hk.2
    have hrp : r ≠ p := by omega
    rw [pGo_list] at hR
    refine wl_step ?_
    have hmore := rmore_ok (m := M) (by omega) hgp (decide (acc = [])) 93
    simp only [go_sem, reduceIte, Nat.reduceEqDiff, Nat.reduceAdd, q49l5, q49r2, hgq, hsl.isLK, hsl.len, hk.first]
    refine callW_ret hmore ?_
    cases hc : s[skipN s i]? with
    | none =>
      rw [nxt_none hc] at hR
      simp only [moreR, nxt_none hc]
      have hV1 := hV.setp (RP s (skipN s i) many 4 s.length)
      simp only [go_sem, reduceIte, Nat.reduceEqDiff, Nat.reduceAdd]
      exact hx _ _ hV1.gq (by rw [get_set_other hrp]; exact hgr) (by rw [hR]; exact ⟨⟨_, hkids⟩, hV1.ext, by decide, _, _, hV1.gp⟩) _ _ _ _
    | some c =>
      have h1 := (List.getElem?_eq_some_iff.1 hc).1
      rw [nxt_some hc] at hR
      simp only [moreR, nxt_some hc]
      generalize hj : skipN s i = j at hR hc h1
      have hij : i ≤ j := hj ▸ skip_ge
      by_cases h93 : c.toNat = 93
      · rw [if_pos h93]
        simp only [if_pos h93] at hR
        have hV1 := hV.setp (RP s (j + 1) many 0 0)
        simp only [go_sem, reduceIte, Nat.reduceEqDiff, Nat.reduceAdd]
        exact hx _ _ hV1.gq (by rw [get_set_other hrp]; exact hgr) (by rw [hR]; exact ⟨hkids, hV1.ext, hV1.gp⟩) _ _ _ _
      · rw [if_neg h93]
        simp only [if_neg h93] at hR
        by_cases hbad : acc ≠ [] ∧ c.toNat ≠ 44
        · rw [if_neg (by simp [hbad.1]), if_pos hbad.2]
          rw [if_pos hbad] at hR
          have hV1 := hV.setp (RP s j many 3 j)
          simp only [go_sem, reduceIte, Nat.reduceEqDiff, Nat.reduceAdd]
          exact hx _ _ hV1.gq (by rw [get_set_other hrp]; exact hgr) (by rw [hR]; exact ⟨⟨_, hkids⟩, hV1.ext, by decide, _, _, hV1.gp⟩) _ _ _ _
        · rw [if_neg hbad] at hR
          have hmo : (if decide (acc = []) = true then (true, RP s j many 0 0) else if c.toNat ≠ 44 then (false, RP s j many 3 j) else (true, RP s (j + 1) many 0 0)) = (true, RP s (if acc = [] then j else j + 1) many 0 0) := by
            by_cases ha : acc = []
            · simp [ha]
            · have : c.toNat = 44 := by
                by_cases h : c.toNat = 44
                · exact h
                · exact absurd ⟨ha, h⟩ hbad
              simp [ha, this]
          rw [hmo]
          generalize ha : (if acc = [] then j else j + 1) = a at hR
          have hja : j ≤ a := by rw [← ha]; split <;> omega
          have hV1 := hV.setp (RP s a many 0 0)
          have hm1 := hm.ext ((ExtB.refl p M).setp (RP s a many 0 0))
          have hgr1 : (M.set p (RP s a many 0 0)).get r = z26 := by rw [get_set_other hrp]; exact hgr
          generalize hM1 : M.set p (RP s a many 0 0) = M1 at hV1 hm1 hgr1
          have hw := wrap_succ (i := deep) (by omega)
          obtain ⟨v, M2, k1, k2⟩ := HV f (by omega) M1 p a many (deep + 1) (by omega) hmany (by omega) (by have := hV1.ext.next; omega) hV1.gp
          simp only [go_sem, reduceIte, Nat.reduceEqDiff, Nat.reduceAdd, q49r3, hw]
          refine callW_ret k1 ?_
          -- what the value is
          have key : ∃ T o', IsVal v T ∧ ExtB p M1 M2 ∧ M2.get p = o' ∧ ((∃ w k j' n', pGo s f .val a many (deep + 1) = .error (w, k) ∧ o' = RP s j' n' w k ∧ w ≠ 0) ∨ ∃ k n', pGo s f .val a many (deep + 1) = .ok (T, k, n') ∧ o' = RP s k n' 0 0) := by
            cases hpv : pGo s f .val a many (deep + 1) with
            | error e =>
              obtain ⟨w, k⟩ := e
              rw [hpv] at k2
              obtain ⟨⟨T, x1⟩, x2, x3, j', n', x4⟩ := k2
              exact ⟨T, _, x1, x2, x4, .inl ⟨w, k, j', n', rfl, rfl, x3⟩⟩
            | ok e =>
              obtain ⟨T, k, n'⟩ := e
              rw [hpv] at k2
              obtain ⟨x1, x2, x3⟩ := k2
              exact ⟨T, _, x1, x2, x3, .inr ⟨k, n', rfl, rfl⟩⟩
          obtain ⟨T, o', x1, x2, x3, x4⟩ := key
          obtain ⟨k0, t0, ka0, kb0, rfl, o1, o2⟩ := x1.ones
          have hV2 := hV1.call x2 x3
          have hpn2 : p < M2.next := by have := hV2.ext.next; omega
          have hrn2 : r < M2.next := by have := hV2.lt; omega
          have hgr2 : M2.get r = z26 := by rw [x2.get r (by have := hV1.lt; omega) hrp]; exact hgr1
          have hV3 := (hV2.alloc hpn2 z26).other (i := M2.next) (by omega) (by have := hV2.lt; omega) (by have := hV2.ext.next; omega) (.cells 26 [.int .i64 k0, .str t0, ka0, kb0])
          have hm3 := (hm1.ext x2).ext (p := M2.next) ((((ExtB.refl M2.next M2).alloc z26).setp (.cells 26 [.int .i64 k0, .str t0, ka0, kb0])))
          have hgr3 : ((M2.alloc z26).set M2.next (.cells 26 [.int .i64 k0, .str t0, ka0, kb0])).get r = z26 := by rw [get_set_other (by omega), get_old (by omega)]; exact hgr2
          have hgk3 : ((M2.alloc z26).set M2.next (.cells 26 [.int .i64 k0, .str t0, ka0, kb0])).get M2.next = .cells 26 [.int .i64 k0, .str t0, ka0, kb0] := get_set_same
          have st3 : (M2.alloc z26).get M2.next = z26 := get_new
          simp only [go_sem, reduceIte, Nat.reduceEqDiff, Nat.reduceAdd, st3, o1, o2]
          generalize (M2.alloc z26).set M2.next (.cells 26 [.int .i64 k0, .str t0, ka0, kb0]) = M3 at hV3 hm3 hgr3 hgk3
          have hkl : acc.length < 2 ^ 30 := by omega
          obtain ⟨a', M4, n1, n2, n3, n4, n5, n6⟩ := hm3.append (bytes := 72) (ys := [.agg [.int .i64 k0, .str t0, ka0, kb0]]) hV3.ext.ntok (by rw [hk.1]; simp [roomMax]; omega) (val_good o1 o2)
          have hV4 := hV3.same n3 n4 (n5 p hV3.ext)
          have hgq3 := hV3.gq
          have hgq4 := hV4.gq
          simp only [go_sem, reduceIte, Nat.reduceEqDiff, Nat.reduceAdd, q49r4, hgq3, hgk3, o1, o2, elems, n1, hgq4, n2.sl.one, n2.sl.cells]
          have hV5 := hV4.setq (lObj 5 .nilSl a')
          have hgr5 : (M4.set q (lObj 5 .nilSl a')).get r = z26 := by rw [get_set_other (by omega), n3]; exact hgr3
          have hm5 := n2.ext (p := q) ((ExtB.refl q M4).setp (lObj 5 .nilSl a'))
          generalize M4.set q (lObj 5 .nilSl a') = M5 at hV5 hgr5 hm5
          have hk5 := hk.push x1
          rcases x4 with ⟨w, k, j', n', y1, y2, y3⟩ | ⟨k, n', y1, y2⟩
          · rw [y1] at hR
            subst y2
            have hgq5 := hV5.gq
            have hsl5 := hm5.sl
            refine wl_step ?_
            simp only [go_sem, reduceIte, Nat.reduceEqDiff, Nat.reduceAdd, q49l5, q49r2, hgq5, hsl5.isLK, hsl5.len]
            refine callW_ret (rmore_no (by omega) y3 hV5.gp _ 93) ?_
            have hV6 := hV5.setp (RP s (skipN s j') n' w k)
            simp only [go_sem, reduceIte, Nat.reduceEqDiff, Nat.reduceAdd]
            refine hx _ _ hV6.gq (by rw [get_set_other hrp]; exact hgr5) (by rw [hR]; exact ⟨⟨.node 5 [] [] (acc ++ [T]), .mk (.inl ⟨rfl, rfl⟩) hsl5 hk5.1 hk5.2⟩, hV6.ext, y3, _, _, hV6.gp⟩) _ _ _ _
          · rw [y1] at hR
            subst y2
            obtain ⟨g1, g2, g3⟩ := pGo_ok y1 hmany
            exact ih k n' (acc ++ [T]) M5 a' _ _ _ (by omega) (by omega) g3 (by simp; omega) g2 hV5 hgr5 hm5 hk5 hR

theorem rlist_step {s : List UInt8} (hs : s.length < 2 ^ 30) {F : Nat} (HV : ∀ f, f < F → PVal s f) : PList s F := by
  intro m p i many deep hf hil hmany hdeep hpn hp
  refine call_some (R := ValR p m s (pGo s F (.list []) i many deep)) xfok mixed q49at q49ok rfl ?_
  have hVr := VSt.begin (oq := z26) hpn hp
  have hgr := hVr.gq
  have hpr := hVr.gp
  have hlr := hVr.lt
  have er := hVr.ext
  have nr : (m.alloc z26).next = m.next + 1 := rfl
  have hVq : VSt p (m.next + 1) m (((m.alloc z26).alloc z26).set (m.next + 1) (lObj 5 .nilSl .nilSl)) (RP s i many 0 0) (lObj 5 .nilSl .nilSl) :=
    ⟨(er.alloc _).set (by omega) _, by rw [get_set_other (by omega), get_old (by omega)]; exact hpr, get_set_same, by omega, by omega, by simp [Mem.set, Mem.alloc]⟩
  have hgr2 : (((m.alloc z26).alloc z26).set (m.next + 1) (lObj 5 .nilSl .nilSl)).get m.next = z26 := by rw [get_set_other (by omega), get_old (by omega)]; exact hgr
  have st : ((m.alloc z26).alloc z26).get (m.next + 1) = z26 := get_new
  simp only [go_sem, reduceIte, Nat.reduceEqDiff, Nat.reduceAdd, q49, q49r0, q49r1, next_alloc, st]
  refine rlist_loop hs (m := m) (p := p) (r := m.next) (q := m.next + 1) (deep := deep) hdeep hpn (Nat.le_refl _) (by omega) HV (R := pGo s F (.list []) i many deep) (fun M c g1 g2 g3 a0 a1 a4 a5 => ?_) F i many [] _ .nilSl [] _ _ (Nat.le_refl _) hf hmany (by simp) hil hVq hgr2 .nil .nil rfl
  have hc : ∃ k t ka kb, c = [.int .i64 k, .str t, ka, kb] ∧ one ka = true ∧ one kb = true := by
    cases hR : pGo s F (.list []) i many deep with
    | ok x =>
      obtain ⟨T, a, b⟩ := x
      rw [hR] at g3
      obtain ⟨k, t, ka, kb, e, o1, o2⟩ := g3.1.ones
      injection e with e
      exact ⟨k, t, ka, kb, e, o1, o2⟩
    | error x =>
      obtain ⟨w, a⟩ := x
      rw [hR] at g3
      obtain ⟨⟨T, hT⟩, _⟩ := g3
      obtain ⟨k, t, ka, kb, e, o1, o2⟩ := hT.ones
      injection e with e
      exact ⟨k, t, ka, kb, e, o1, o2⟩
  obtain ⟨k, t, ka, kb, rfl, o1, o2⟩ := hc
  simp only [go_sem, reduceIte, Nat.reduceEqDiff, Nat.reduceAdd, q49r6, g1, g2, o1, o2]
  have hne : m.next ≠ p := by omega
  have up : ∀ {o : AObj}, M.get p = o → (M.set m.next (.cells 26 [.int .i64 k, .str t, ka, kb])).get p = o := fun h => by rw [get_set_other (Ne.symm hne)]; exact h
  cases hR : pGo s F (.list []) i many deep with
  | ok x =>
    obtain ⟨T, a, b⟩ := x
    rw [hR] at g3
    exact ⟨g3.1, g3.2.1.set (Nat.le_refl _) _, up g3.2.2⟩
  | error x =>
    obtain ⟨w, a⟩ := x
    rw [hR] at g3
    obtain ⟨h1, h2, h3, b, b', h4⟩ := g3
    exact ⟨h1, h2.set (Nat.le_refl _) _, h3, b, b', up h4⟩
end Go.Proofs.YtinlfdkalijffaaDoor.Am.Q

/-
  JSON, 25: the document's parser: tables; the values whole.
-/
namespace Go.Proofs.YtinlfdkalijffaaDoor.Am.Q
open Go Go.Proofs Go.Proofs.YtinlfdkalijffaaDoor.Am

/-- Another slice's room stays, where something is appended to one of another type. -/
theorem mine_keep {m0 m m' : Mem} {e e' : TypeId} {sz sz' bytes : Nat} {a a' b : AV} {xs ys zs : List AV} (h : Mine m0 m e sz a xs) (ha : appendV m e sz bytes a ys = some (a', m')) (hb : Mine m0 m e' sz' b zs) (hne : e ≠ e') : Mine m0 m' e' sz' b zs := by
  rcases h with ⟨rfl, rfl⟩ | ⟨t, rfl, h2, h3, h4, h5⟩
  · simp only [appendV] at ha
    split at ha
    · simp only [Option.some.injEq, Prod.mk.injEq] at ha
      obtain ⟨_, rfl⟩ := ha; exact hb
    · split at ha
      · simp only [Option.some.injEq, Prod.mk.injEq] at ha
        obtain ⟨_, rfl⟩ := ha
        exact hb.ext (p := 0) ((ExtB.refl 0 m).newTok e)
      · cases ha
  · simp only [appendV] at ha
    rw [if_pos trivial] at ha
    split at ha
    · simp only [Option.some.injEq, Prod.mk.injEq] at ha
      obtain ⟨_, rfl⟩ := ha; exact hb
    · split at ha
      · rw [if_pos ⟨h2, h3⟩] at ha
        simp only [Option.some.injEq, Prod.mk.injEq] at ha
        obtain ⟨_, rfl⟩ := ha
        rcases hb with hb | ⟨u', rfl, k2, k3, k4, k5⟩
        · exact .inl hb
        · have hu : u' ≠ t := by rintro rfl; exact hne (h3.symm.trans k3)
          have hnn : u' ≠ m.ntok := by omega
          refine .inr ⟨u', rfl, ?_, ?_, k4, ?_⟩
          · simp [Mem.newTok, Mem.killTok, hnn, hu, k2]
          · simp [Mem.newTok, Mem.killTok, hnn, k3]
          · simp only [Mem.newTok, Mem.killTok]; omega
      · cases ha
theorem str_good {t : List UInt8} : [AV.str t].all (fun y => y.cells.length == 1 && y.cells.all scal) = true := by simp [AV.cells, scal_str]

theorem pGo_tab {s : List UInt8} {f i many deep : Nat} {ks : List (List UInt8)} {acc : List VT} : pGo s (f + 1) (.tab ks acc) i many deep = (match nxt s i with
    | .error e => .error e
    | .ok (j, c) => if c.toNat = 125 then .ok (.node 6 [] ks acc, j + 1, many) else
      if acc ≠ [] ∧ c.toNat ≠ 44 then .error (3, j) else
        (match nxt s (if acc = [] then j else j + 1) with
        | .error e => .error e
        | .ok (a, q) => if q.toNat ≠ 34 then .error (3, a) else
          (match quote s a with
          | .error e => .error e
          | .ok (key, b) => if key ∈ ks then .error (7, a) else
            (match nxt s b with
            | .error e => .error e
            | .ok (d, o) => if o.toNat ≠ 58 then .error (3, d) else
              (match pGo s f .val (d + 1) many (deep + 1) with
              | .error e => .error e
              | .ok (v, k, many') => pGo s f (.tab (ks ++ [key]) (acc ++ [v])) k many' deep))))) := rfl

theorem rtab_loop {s : List UInt8} (hs : s.length < 2 ^ 30) {m : Mem} {p r q deep : Nat} (hdeep : deep < 2 ^ 39) (hpn : p < m.next) (hr : m.next ≤ r) (hrq : r < q) {F : Nat} (HV : ∀ f, f < F → PVal s f) {R : Except Flt (VT × Nat × Nat)} {Q : AExit → List AV → Mem → Prop}
    (hx : ∀ M c, M.get q = .cells 26 c → M.get r = z26 → ValR p m s R (.agg c) M → ∀ g0 g1 g4 g5 g6 g7 g8 g9 g10 g11 g12 g13 g14, Q (.exit 0) [g0, g1, .ptr r 0, .ptr q 0, g4, g5, g6, g7, g8, g9, g10, g11, g12, g13, g14] M) :
    ∀ (f i many : Nat) (ks : List (List UInt8)) (acc : List VT) (M : Mem) (ka kb : AV) (xs : List AV) (g4 g5 g6 g7 g8 g9 g10 g11 g12 g13 g14 : AV), f ≤ F → 2 * (s.length - i) + 2 ≤ f → many ≤ 4096 → acc.length ≤ i → ks.length ≤ i → i ≤ s.length → VSt p q m M (RP s i many 0 0) (lObj 6 ka kb) → M.get r = z26 → Mine m M 9 1 ka (ks.map .str) → Mine m M 26 4 kb xs → KidsOf xs acc →
      R = pGo s f (.tab ks acc) i many deep → wl CS [4, 5, 6, 7, 8, 9, 10, 11, 12, 13, 14] q50l20 Q [.ptr p 0, .int .i64 deep, .ptr r 0, .ptr q 0, g4, g5, g6, g7, g8, g9, g10, g11, g12, g13, g14] M := by
  intro f
  induction f with
  | zero => intro i many ks acc M ka kb xs g4 g5 g6 g7 g8 g9 g10 g11 g12 g13 g14 _ hf; omega
  | succ f ih =>
    intro i many ks acc M ka kb xs g4 g5 g6 g7 g8 g9 g10 g11 g12 g13 g14 hfF hf hmany hai hki hil hV hgr hma hm hk hR
    have hne := hV.ne
    have hgp := hV.gp
    have hgq := hV.gq
    have hsl := hm.sl
    have hsa := hma.sl
    have hkids : IsVal (.agg [.int .i64 6, .str [], ka, kb]) (.node 6 [] ks acc) := .mk hsa hsl hk.1 hk.2
    have hrp : r ≠ p := by omega
    have z0 : ((0 : Int) != 0) = false := rfl
    have z00 : ((0 : Int) == 0) = true := rfl
    have z4 : ((4 : Int) != 0) = true := rfl
    have z40 : ((4 : Int) == 0) = false := rfl
    have z3 : ((3 : Int) != 0) = true := rfl
    have z7 : ((7 : Int) != 0) = true := rfl
    rw [pGo_tab] at hR
    -- an end with a fault
    have bad : ∀ {M' : Mem} {w : Int} {k j' n' : Nat}, VSt p q m M' (RP s j' n' w k) (lObj 6 ka kb) → M'.get r = z26 → w ≠ 0 → R = .error (w, k) → ∀ g0 g1 g4 g5 g6 g7 g8 g9 g10 g11 g12 g13 g14, Q (.exit 0) [g0, g1, .ptr r 0, .ptr q 0, g4, g5, g6, g7, g8, g9, g10, g11, g12, g13, g14] M' := by
      intro M' w k j' n' h1 h2 h3 h4
      exact hx _ _ h1.gq h2 (by rw [h4]; exact ⟨⟨_, hkids⟩, h1.ext, h3, _, _, h1.gp⟩)
    refine wl_step ?_
    have hmore := rmore_ok (m := M) (by omega) hgp (decide (acc = [])) 125
    simp only [go_sem, reduceIte, Nat.reduceEqDiff, Nat.reduceAdd, q50l20, q50r2, hgq, hsl.isLK, hsl.len, hk.first]
    refine callW_ret hmore ?_
    cases hc : s[skipN s i]? with
    | none =>
      rw [nxt_none hc] at hR
      simp only [moreR, nxt_none hc]
      simp only [go_sem, reduceIte, Nat.reduceEqDiff, Nat.reduceAdd]
      exact bad (hV.setp _) (by rw [get_set_other hrp]; exact hgr) (by decide) hR _ _ _ _ _ _ _ _ _ _ _ _ _
    | some c =>
      have h1 := (List.getElem?_eq_some_iff.1 hc).1
      rw [nxt_some hc] at hR
      simp only [moreR, nxt_some hc]
      generalize hj : skipN s i = j at hR hc h1
      have hij : i ≤ j := hj ▸ skip_ge
      by_cases h93 : c.toNat = 125
      · rw [if_pos h93]
        simp only [if_pos h93] at hR
        have hV1 := hV.setp (RP s (j + 1) many 0 0)
        simp only [go_sem, reduceIte, Nat.reduceEqDiff, Nat.reduceAdd]
        exact hx _ _ hV1.gq (by rw [get_set_other hrp]; exact hgr) (by rw [hR]; exact ⟨hkids, hV1.ext, hV1.gp⟩) _ _ _ _ _ _ _ _ _ _ _ _ _
      · rw [if_neg h93]
        simp only [if_neg h93] at hR
        by_cases hbad : acc ≠ [] ∧ c.toNat ≠ 44
        · rw [if_neg (by simp [hbad.1]), if_pos hbad.2]
          rw [if_pos hbad] at hR
          simp only [go_sem, reduceIte, Nat.reduceEqDiff, Nat.reduceAdd]
          exact bad (hV.setp _) (by rw [get_set_other hrp]; exact hgr) (by decide) hR _ _ _ _ _ _ _ _ _ _ _ _ _
        · rw [if_neg hbad] at hR
          have hmo : (if decide (acc = []) = true then (true, RP s j many 0 0) else if c.toNat ≠ 44 then (false, RP s j many 3 j) else (true, RP s (j + 1) many 0 0)) = (true, RP s (if acc = [] then j else j + 1) many 0 0) := by
            by_cases ha : acc = []
            · simp [ha]
            · have : c.toNat = 44 := by
                by_cases h : c.toNat = 44
                · exact h
                · exact absurd ⟨ha, h⟩ hbad
              simp [ha, this]
          rw [hmo]
          generalize ha : (if acc = [] then j else j + 1) = a at hR
          have hja : j ≤ a := by rw [← ha]; split <;> omega
          have hV1 := hV.setp (RP s a many 0 0)
          have hm1 := hm.ext ((ExtB.refl p M).setp (RP s a many 0 0))
          have hma1 := hma.ext ((ExtB.refl p M).setp (RP s a many 0 0))
          have hgr1 : (M.set p (RP s a many 0 0)).get r = z26 := by rw [get_set_other hrp]; exact hgr
          generalize M.set p (RP s a many 0 0) = M1 at hV1 hm1 hma1 hgr1
          have hn1 := rnext_ok (m := M1) (by omega) hV1.gp
          simp only [go_sem, reduceIte, Nat.reduceEqDiff, Nat.reduceAdd, q50r3]
          refine callW_ret hn1 ?_
          cases hc1 : s[skipN s a]? with
          | none =>
            rw [nxt_none hc1] at hR
            simp only [rnextM, nxt_none hc1]
            simp only [go_sem, reduceIte, Nat.reduceEqDiff, Nat.reduceAdd, q50r4, q50r5, z4]
            exact bad (hV1.setp _) (by rw [get_set_other hrp]; exact hgr1) (by decide) hR _ _ _ _ _ _ _ _ _ _ _ _ _
          | some c1 =>
            have h2 := (List.getElem?_eq_some_iff.1 hc1).1
            rw [nxt_some hc1] at hR
            simp only [rnextM, nxt_some hc1]
            generalize hb : skipN s a = b at hR hc1 h2
            have hab : a ≤ b := hb ▸ skip_ge
            have hV2 := hV1.setp (RP s b many 0 0)
            have hm2 := hm1.ext ((ExtB.refl p M1).setp (RP s b many 0 0))
            have hma2 := hma1.ext ((ExtB.refl p M1).setp (RP s b many 0 0))
            have hgr2 : (M1.set p (RP s b many 0 0)).get r = z26 := by rw [get_set_other hrp]; exact hgr1
            generalize M1.set p (RP s b many 0 0) = M2 at hV2 hm2 hma2 hgr2
            have hgp2 := hV2.gp
            dsimp only at hR
            by_cases h34 : c1.toNat = 34
            · rw [if_neg (by omega)] at hR
              have a34 : ((c1.toNat : Int) != 34) = false := bnF (by omega)
              obtain ⟨v, M3, k1, k2⟩ := rquo_ok (m := M2) (by omega) h2 hgp2
              simp only [go_sem, reduceIte, Nat.reduceEqDiff, Nat.reduceAdd, q50r4, hgp2, q50r5, z0, q50r6, a34, q50r8]
              refine callW_ret k1 ?_
              cases hqu : quote s b with
              | error x =>
                obtain ⟨w, k⟩ := x
                rw [hqu] at k2 hR
                obtain ⟨t, j', rfl, k3, k4, k5⟩ := k2
                have hV3 := hV2.call k3 k4
                have hgp3 := hV3.gp
                have hgr3 : M3.get r = z26 := by rw [k3.get r (by have := hV2.lt; omega) hrp]; exact hgr2
                have zw : (w == 0) = false := by simp [k5]
                have zw2 : (w != 0) = true := by simp [k5]
                simp only [go_sem, reduceIte, Nat.reduceEqDiff, Nat.reduceAdd, q50r9, hgp3, zw, q50r11, zw2]
                exact bad hV3 hgr3 k5 hR _ _ _ _ _ _ _ _ _ _ _ _ _
              | ok x =>
                obtain ⟨key, d⟩ := x
                rw [hqu] at k2 hR
                obtain ⟨rfl, k3, k4⟩ := k2
                have hq1 := quote_ok hqu
                have hV3 := hV2.call k3 k4
                have hgp3 := hV3.gp
                have hgq3 := hV3.gq
                have hm3 := hm2.ext k3
                have hma3 := hma2.ext k3
                have hgr3 : M3.get r = z26 := by rw [k3.get r (by have := hV2.lt; omega) hrp]; exact hgr2
                dsimp only at hR
                simp only [go_sem, reduceIte, Nat.reduceEqDiff, Nat.reduceAdd, q50r9, hgp3, z00, hgq3]
                refine callW_ret (has_ok M3 hma3.sl (by omega)) ?_
                by_cases hin : key ∈ ks
                · rw [if_pos hin] at hR
                  simp only [go_sem, reduceIte, Nat.reduceEqDiff, Nat.reduceAdd, dT hin, q50r10]
                  refine callW_ret (rfail_ok hgp3 7 b) ?_
                  simp only [go_sem, reduceIte, Nat.reduceEqDiff, Nat.reduceAdd, q50r11, z7]
                  exact bad (hV3.setp _) (by rw [get_set_other hrp]; exact hgr3) (by decide) hR _ _ _ _ _ _ _ _ _ _ _ _ _
                · rw [if_neg hin] at hR
                  have hn3 := rnext_ok (m := M3) (by omega) hgp3
                  simp only [go_sem, reduceIte, Nat.reduceEqDiff, Nat.reduceAdd, dF hin, q50r11, hgp3, z0, q50r12]
                  refine callW_ret hn3 ?_
                  cases hc3 : s[skipN s d]? with
                  | none =>
                    rw [nxt_none hc3] at hR
                    simp only [rnextM, nxt_none hc3]
                    simp only [go_sem, reduceIte, Nat.reduceEqDiff, Nat.reduceAdd, q50r13, z40, q50r15, z4]
                    exact bad (hV3.setp _) (by rw [get_set_other hrp]; exact hgr3) (by decide) hR _ _ _ _ _ _ _ _ _ _ _ _ _
                  | some c3 =>
                    have h5 := (List.getElem?_eq_some_iff.1 hc3).1
                    rw [nxt_some hc3] at hR
                    simp only [rnextM, nxt_some hc3]
                    generalize he : skipN s d = e at hR hc3 h5
                    have hde : d ≤ e := he ▸ skip_ge
                    dsimp only at hR
                    by_cases h58 : c3.toNat = 58
                    · rw [if_neg (by omega)] at hR
                      have a58 : ((c3.toNat : Int) != 58) = false := bnF (by omega)
                      have hw := wrap_succ (i := e) (by omega)
                      have hwd := wrap_succ (i := deep) (by omega)
                      have hV4 := hV3.setp (RP s (e + 1) many 0 0)
                      have hm4 := hm3.ext ((ExtB.refl p M3).setp (RP s (e + 1) many 0 0))
                      have hma4 := hma3.ext ((ExtB.refl p M3).setp (RP s (e + 1) many 0 0))
                      have hgr4 : (M3.set p (RP s (e + 1) many 0 0)).get r = z26 := by rw [get_set_other hrp]; exact hgr3
                      simp only [go_sem, reduceIte, Nat.reduceEqDiff, Nat.reduceAdd, q50r13, z00, a58, q50r15, z0, q50r16, hw]
                      generalize M3.set p (RP s (e + 1) many 0 0) = M4 at hV4 hm4 hma4 hgr4
                      obtain ⟨v, M5, k1', k2'⟩ := HV f (by omega) M4 p (e + 1) many (deep + 1) (by omega) hmany (by omega) (by have := hV4.ext.next; omega) hV4.gp
                      simp only [go_sem, reduceIte, Nat.reduceEqDiff, Nat.reduceAdd, q50r17, hwd]
                      refine callW_ret k1' ?_
                      have keyv : ∃ T o', IsVal v T ∧ ExtB p M4 M5 ∧ M5.get p = o' ∧ ((∃ w k j' n', pGo s f .val (e + 1) many (deep + 1) = .error (w, k) ∧ o' = RP s j' n' w k ∧ w ≠ 0) ∨ ∃ k n', pGo s f .val (e + 1) many (deep + 1) = .ok (T, k, n') ∧ o' = RP s k n' 0 0) := by
                        cases hpv : pGo s f .val (e + 1) many (deep + 1) with
                        | error x =>
                          obtain ⟨w, k⟩ := x
                          rw [hpv] at k2'
                          obtain ⟨⟨T, x1⟩, x2, x3, j', n', x4⟩ := k2'
                          exact ⟨T, _, x1, x2, x4, .inl ⟨w, k, j', n', rfl, rfl, x3⟩⟩
                        | ok x =>
                          obtain ⟨T, k, n'⟩ := x
                          rw [hpv] at k2'
                          obtain ⟨x1, x2, x3⟩ := k2'
                          exact ⟨T, _, x1, x2, x3, .inr ⟨k, n', rfl, rfl⟩⟩
                      obtain ⟨T, o', x1, x2, x3, x4⟩ := keyv
                      obtain ⟨k0, t0, ka0, kb0, rfl, o1, o2⟩ := x1.ones
                      have hV5 := hV4.call x2 x3
                      have hpn5 : p < M5.next := by have := hV5.ext.next; omega
                      have hgr5 : M5.get r = z26 := by rw [x2.get r (by have := hV4.lt; omega) hrp]; exact hgr4
                      have hV6 := (hV5.alloc hpn5 z26).other (i := M5.next) (by omega) (by have := hV5.lt; omega) (by have := hV5.ext.next; omega) (.cells 26 [.int .i64 k0, .str t0, ka0, kb0])
                      have ext6 := (((ExtB.refl M5.next M5).alloc z26).setp (.cells 26 [.int .i64 k0, .str t0, ka0, kb0]))
                      have hm6 := (hm4.ext x2).ext ext6
                      have hma6 := (hma4.ext x2).ext ext6
                      have hgr6 : ((M5.alloc z26).set M5.next (.cells 26 [.int .i64 k0, .str t0, ka0, kb0])).get r = z26 := by rw [get_set_other (by have := hV5.lt; omega), get_old (by have := hV5.lt; omega)]; exact hgr5
                      have hgk6 : ((M5.alloc z26).set M5.next (.cells 26 [.int .i64 k0, .str t0, ka0, kb0])).get M5.next = .cells 26 [.int .i64 k0, .str t0, ka0, kb0] := get_set_same
                      have hqk : M5.next ≠ q := by have := hV5.lt; omega
                      have st6 : (M5.alloc z26).get M5.next = z26 := get_new
                      simp only [go_sem, reduceIte, Nat.reduceEqDiff, Nat.reduceAdd, st6, o1, o2]
                      generalize (M5.alloc z26).set M5.next (.cells 26 [.int .i64 k0, .str t0, ka0, kb0]) = M6 at hV6 hm6 hma6 hgr6 hgk6
                      -- the key
                      obtain ⟨ka', M7, n1, n2, n3, n4, n5, n6⟩ := hma6.append (bytes := 16) (ys := [.str key]) hV6.ext.ntok (by simp [roomMax]; omega) str_good
                      have hm7 := mine_keep hma6 n1 hm6 (by decide)
                      have hV7 := hV6.same n3 n4 (n5 p hV6.ext)
                      have hgq6 := hV6.gq
                      have hgq7 := hV7.gq
                      have n2' : Mine m M7 9 1 ka' ((ks ++ [key]).map .str) := by simpa using n2
                      have hV8 := hV7.setq (lObj 6 ka' kb)
                      have hgr8 : (M7.set q (lObj 6 ka' kb)).get r = z26 := by rw [get_set_other (by omega), n3]; exact hgr6
                      have hgk8 : (M7.set q (lObj 6 ka' kb)).get M5.next = .cells 26 [.int .i64 k0, .str t0, ka0, kb0] := by rw [get_set_other hqk, n3]; exact hgk6
                      have ext8 := (ExtB.refl q M7).setp (lObj 6 ka' kb)
                      have hm8 := hm7.ext ext8
                      have hma8 := n2'.ext ext8
                      simp only [go_sem, reduceIte, Nat.reduceEqDiff, Nat.reduceAdd, q50r18, hgq6, elems, n1, hgq7, n2'.sl.cells, n2'.sl.one]
                      generalize M7.set q (lObj 6 ka' kb) = M8 at hV8 hgr8 hgk8 hm8 hma8
                      -- the value
                      obtain ⟨kb', M9, l1, l2, l3, l4, l5, l6⟩ := hm8.append (bytes := 72) (ys := [.agg [.int .i64 k0, .str t0, ka0, kb0]]) hV8.ext.ntok (by rw [hk.1]; simp [roomMax]; omega) (val_good o1 o2)
                      have hma9 := mine_keep hm8 l1 hma8 (by decide)
                      have hV9 := hV8.same l3 l4 (l5 p hV8.ext)
                      have hgq8 := hV8.gq
                      have hgq9 := hV9.gq
                      simp only [go_sem, reduceIte, Nat.reduceEqDiff, Nat.reduceAdd, q50r19, hgq8, hgk8, o1, o2, elems, l1, hgq9, l2.sl.cells, l2.sl.one]
                      have hVa := hV9.setq (lObj 6 ka' kb')
                      have hgra : (M9.set q (lObj 6 ka' kb')).get r = z26 := by rw [get_set_other (by omega), l3]; exact hgr8
                      have exta := (ExtB.refl q M9).setp (lObj 6 ka' kb')
                      have hm10 := l2.ext exta
                      have hma10 := hma9.ext exta
                      generalize M9.set q (lObj 6 ka' kb') = M10 at hVa hgra hm10 hma10
                      have hk5 := hk.push x1
                      rcases x4 with ⟨w, k, j', n', y1, y2, y3⟩ | ⟨k, n', y1, y2⟩
                      · rw [y1] at hR
                        subst y2
                        have hgqa := hVa.gq
                        have hsla := hm10.sl
                        refine wl_step ?_
                        simp only [go_sem, reduceIte, Nat.reduceEqDiff, Nat.reduceAdd, q50l20, q50r2, hgqa, hsla.isLK, hsla.len]
                        refine callW_ret (rmore_no (by omega) y3 hVa.gp _ 125) ?_
                        have hVb := hVa.setp (RP s (skipN s j') n' w k)
                        simp only [go_sem, reduceIte, Nat.reduceEqDiff, Nat.reduceAdd]
                        refine hx _ _ hVb.gq (by rw [get_set_other hrp]; exact hgra) (by rw [hR]; exact ⟨⟨.node 6 [] (ks ++ [key]) (acc ++ [T]), .mk hma10.sl hsla hk5.1 hk5.2⟩, hVb.ext, y3, _, _, hVb.gp⟩) _ _ _ _ _ _ _ _ _ _ _ _ _
                      · rw [y1] at hR
                        subst y2
                        obtain ⟨g1, g2, g3⟩ := pGo_ok y1 hmany
                        exact ih k n' (ks ++ [key]) (acc ++ [T]) M10 ka' kb' _ _ _ _ _ _ _ _ _ _ _ _ (by omega) (by omega) g3 (by simp; omega) (by simp; omega) g2 hVa hgra hma10 hm10 hk5 hR
                    · rw [if_pos h58] at hR
                      have a58 : ((c3.toNat : Int) != 58) = true := bnT (by omega)
                      simp only [go_sem, reduceIte, Nat.reduceEqDiff, Nat.reduceAdd, q50r13, z00, a58, q50r14]
                      refine callW_ret (rfail_ok get_set_same 3 e) ?_
                      simp only [go_sem, reduceIte, Nat.reduceEqDiff, Nat.reduceAdd, q50r15, z3]
                      exact bad (hV3.setp _) (by rw [get_set_other hrp]; exact hgr3) (by decide) hR _ _ _ _ _ _ _ _ _ _ _ _ _
            · rw [if_pos h34] at hR
              have a34 : ((c1.toNat : Int) != 34) = true := bnT (by omega)
              simp only [go_sem, reduceIte, Nat.reduceEqDiff, Nat.reduceAdd, q50r4, hgp2, q50r5, z0, q50r6, a34, q50r7]
              refine callW_ret (rfail_ok hgp2 3 b) ?_
              simp only [go_sem, reduceIte, Nat.reduceEqDiff, Nat.reduceAdd]
              exact bad (hV2.setp _) (by rw [get_set_other hrp]; exact hgr2) (by decide) hR _ _ _ _ _ _ _ _ _ _ _ _ _

theorem rtab_step {s : List UInt8} (hs : s.length < 2 ^ 30) {F : Nat} (HV : ∀ f, f < F → PVal s f) : PTab s F := by
  intro m p i many deep hf hil hmany hdeep hpn hp
  refine call_some (R := ValR p m s (pGo s F (.tab [] []) i many deep)) xfok mixed q50at q50ok rfl ?_
  have hVr := VSt.begin (oq := z26) hpn hp
  have hgr := hVr.gq
  have hpr := hVr.gp
  have er := hVr.ext
  have nr : (m.alloc z26).next = m.next + 1 := rfl
  have hVq : VSt p (m.next + 1) m (((m.alloc z26).alloc z26).set (m.next + 1) (lObj 6 .nilSl .nilSl)) (RP s i many 0 0) (lObj 6 .nilSl .nilSl) :=
    ⟨(er.alloc _).set (by omega) _, by rw [get_set_other (by omega), get_old (by omega)]; exact hpr, get_set_same, by omega, by omega, by simp [Mem.set, Mem.alloc]⟩
  have hgr2 : (((m.alloc z26).alloc z26).set (m.next + 1) (lObj 6 .nilSl .nilSl)).get m.next = z26 := by rw [get_set_other (by omega), get_old (by omega)]; exact hgr
  have st : ((m.alloc z26).alloc z26).get (m.next + 1) = z26 := get_new
  simp only [go_sem, reduceIte, Nat.reduceEqDiff, Nat.reduceAdd, q50, q50r0, q50r1, next_alloc, st]
  refine rtab_loop hs (m := m) (p := p) (r := m.next) (q := m.next + 1) (deep := deep) hdeep hpn (Nat.le_refl _) (by omega) HV (R := pGo s F (.tab [] []) i many deep) (fun M c g1 g2 g3 a0 a1 a4 a5 a6 a7 a8 a9 a10 a11 a12 a13 a14 => ?_) F i many [] [] _ .nilSl .nilSl [] _ _ _ _ _ _ _ _ _ _ _ (Nat.le_refl _) hf hmany (by simp) (by simp) hil hVq hgr2 .nil .nil .nil rfl
  have hc : ∃ k t ka kb, c = [.int .i64 k, .str t, ka, kb] ∧ one ka = true ∧ one kb = true := by
    cases hR : pGo s F (.tab [] []) i many deep with
    | ok x =>
      obtain ⟨T, a, b⟩ := x
      rw [hR] at g3
      obtain ⟨k, t, ka, kb, e, o1, o2⟩ := g3.1.ones
      injection e with e
      exact ⟨k, t, ka, kb, e, o1, o2⟩
    | error x =>
      obtain ⟨w, a⟩ := x
      rw [hR] at g3
      obtain ⟨⟨T, hT⟩, _⟩ := g3
      obtain ⟨k, t, ka, kb, e, o1, o2⟩ := hT.ones
      injection e with e
      exact ⟨k, t, ka, kb, e, o1, o2⟩
  obtain ⟨k, t, ka, kb, rfl, o1, o2⟩ := hc
  simp only [go_sem, reduceIte, Nat.reduceEqDiff, Nat.reduceAdd, q50r21, g1, g2, o1, o2]
  have hne : m.next ≠ p := by omega
  have up : ∀ {o : AObj}, M.get p = o → (M.set m.next (.cells 26 [.int .i64 k, .str t, ka, kb])).get p = o := fun h => by rw [get_set_other (Ne.symm hne)]; exact h
  cases hR : pGo s F (.tab [] []) i many deep with
  | ok x =>
    obtain ⟨T, a, b⟩ := x
    rw [hR] at g3
    exact ⟨g3.1, g3.2.1.set (Nat.le_refl _) _, up g3.2.2⟩
  | error x =>
    obtain ⟨w, a⟩ := x
    rw [hR] at g3
    obtain ⟨h1, h2, h3, b, b', h4⟩ := g3
    exact ⟨h1, h2.set (Nat.le_refl _) _, h3, b, b', up h4⟩

/-- The document's values. -/
theorem rval_all {s : List UInt8} (hs : s.length < 2 ^ 30) : ∀ F f, f ≤ F → PVal s f
  | 0, f, hf => by
    obtain rfl : f = 0 := by omega
    intro m p i many deep h; omega
  | F + 1, f, hf => by
    cases f with
    | zero => intro m p i many deep h; omega
    | succ f => exact rval_step (by omega) (rlist_step hs fun g hg => rval_all hs F g (by omega)) (rtab_step hs fun g hg => rval_all hs F g (by omega))
theorem rval_ok {s : List UInt8} (hs : s.length < 2 ^ 30) (f : Nat) : PVal s f := rval_all hs f f (Nat.le_refl _)
end Go.Proofs.YtinlfdkalijffaaDoor.Am.Q

/-
  JSON, 26: the document's signs and texts.
-/
namespace Go.Proofs.YtinlfdkalijffaaDoor.Am.Q
open Go Go.Proofs Go.Proofs.YtinlfdkalijffaaDoor.Am

def uLo (f k : Nat) : Nat := if k = 1 ∧ f = 224 then 160 else if k = 1 ∧ f = 240 then 144 else 128
def uHi (f k : Nat) : Nat := if k = 1 ∧ f = 237 then 159 else if k = 1 ∧ f = 244 then 143 else 191
def uGood (f k c : Nat) : Bool := decide (uLo f k ≤ c) && decide (c ≤ uHi f k)
def uCnt (f n : Nat) : Nat → List UInt8 → Nat
  | k, [] => k
  | k, c :: r => if k < n ∧ uGood f k c.toNat = true then uCnt f n (k + 1) r else k
def uBase (n : Nat) : Nat := if n = 2 then 192 else if n = 3 then 224 else if n = 4 then 240 else 0
def uAcc (a : Nat) (l : List UInt8) : Nat := l.foldl (fun a b => a * 64 + (b.toNat - 128)) a
/-- Is the first sign good, how many bytes has it, which is it. -/
def uNext : List UInt8 → Bool × Nat × Nat
  | [] => (false, 0, 0)
  | c :: r => if uSize c.toNat = 0 then (false, 1, 65533) else if uCnt c.toNat (uSize c.toNat) 1 r < uSize c.toNat then (false, uCnt c.toNat (uSize c.toNat) 1 r, 65533) else
      (true, uSize c.toNat, uAcc (c.toNat - uBase (uSize c.toNat)) (r.take (uSize c.toNat - 1)))
def isTF : Nat → List UInt8 → Bool
  | _, [] => true
  | 0, _ :: _ => false
  | f + 1, c :: r => (uNext (c :: r)).1 && isTF f ((c :: r).drop (uNext (c :: r)).2.1)
def isT (s : List UInt8) : Bool := isTF s.length s

theorem rgood_ok (f c : UInt8) (k : Nat) (m : Mem) : CS 58 [.int .u8 f.toNat, .int .i64 k, .int .u8 c.toNat] m (.ret (.bool (uGood f.toNat k c.toNat))) m := by
  refine call_by xfok mixed q58at q58ok rfl ?_
  have fin : ∀ lo hi : Nat, uLo f.toNat k = lo → uHi f.toNat k = hi → ∀ {Q : Bool → Prop}, Q (uGood f.toNat k c.toNat) → (if decide ((c.toNat : Int) ≥ (lo : Int)) = true then Q (decide ((c.toNat : Int) ≤ (hi : Int))) else Q false) := by
    intro lo hi h1 h2 Q hQ
    unfold uGood at hQ
    rw [h1, h2] at hQ
    by_cases a : lo ≤ c.toNat
    · rw [if_pos (dT (by omega))]
      rw [dT a, Bool.true_and] at hQ
      by_cases b : c.toNat ≤ hi
      · rw [dT b] at hQ; rw [dT (by omega)]; exact hQ
      · rw [dF b] at hQ; rw [dF (by omega)]; exact hQ
    · rw [if_neg (by rw [dF (by omega)]; decide)]
      rw [dF a, Bool.false_and] at hQ; exact hQ
  have last : ∀ (lo hi : Nat), uLo f.toNat k = lo → uHi f.toNat k = hi → ∀ (g0 g1 g3 g6 g7 g8 g9 g10 g11 : AV), wc CS (.seq (.region q58r12) .ret) (endsIn [.var 3] (fun v' m1 => v' = AV.bool (uGood f.toNat k c.toNat) ∧ m1 = m) noPan) [g0, g1, .int .u8 c.toNat, g3, .int .u8 lo, .int .u8 hi, g6, g7, g8, g9, g10, g11] m := by
    intro lo hi h1 h2 g0 g1 g3 g6 g7 g8 g9 g10 g11
    have := fin lo hi h1 h2 (Q := fun b => b = uGood f.toNat k c.toNat) rfl
    by_cases a : decide ((c.toNat : Int) ≥ (lo : Int)) = true
    · rw [if_pos a] at this
      simp only [go_sem, reduceIte, Nat.reduceEqDiff, Nat.reduceAdd, q58r12, a, this]
    · rw [if_neg a] at this
      have a' : decide ((c.toNat : Int) ≥ (lo : Int)) = false := by simpa using a
      simp only [go_sem, reduceIte, Nat.reduceEqDiff, Nat.reduceAdd, q58r12, a', ← this]
  by_cases hk : k = 1
  · have e1 : ((k : Int) == 1) = true := bqT (by omega)
    by_cases h1 : f.toNat = 224
    · have a1 : ((f.toNat : Int) == 224) = true := bqT (by omega)
      simp only [go_sem, reduceIte, Nat.reduceEqDiff, Nat.reduceAdd, q58, q58r0, q58r1, q58r2, e1, q58r3, q58r4, a1, q58r5]
      rw [← wc_start]; exact last 160 191 (by simp [uLo, hk, h1]) (by simp [uHi, h1]) _ _ _ _ _ _ _ _ _
    · have a1 : ((f.toNat : Int) == 224) = false := bqF (by omega)
      by_cases h2 : f.toNat = 237
      · have a2 : ((f.toNat : Int) == 237) = true := bqT (by omega)
        simp only [go_sem, reduceIte, Nat.reduceEqDiff, Nat.reduceAdd, q58, q58r0, q58r1, q58r2, e1, q58r3, q58r4, a1, q58r6, a2, q58r7]
        rw [← wc_start]; exact last 128 159 (by simp [uLo, h2]) (by simp [uHi, hk, h2]) _ _ _ _ _ _ _ _ _
      · have a2 : ((f.toNat : Int) == 237) = false := bqF (by omega)
        by_cases h3 : f.toNat = 240
        · have a3 : ((f.toNat : Int) == 240) = true := bqT (by omega)
          simp only [go_sem, reduceIte, Nat.reduceEqDiff, Nat.reduceAdd, q58, q58r0, q58r1, q58r2, e1, q58r3, q58r4, a1, q58r6, a2, q58r8, a3, q58r9]
          rw [← wc_start]; exact last 144 191 (by simp [uLo, hk, h3]) (by simp [uHi, h3]) _ _ _ _ _ _ _ _ _
        · have a3 : ((f.toNat : Int) == 240) = false := bqF (by omega)
          by_cases h4 : f.toNat = 244
          · have a4 : ((f.toNat : Int) == 244) = true := bqT (by omega)
            simp only [go_sem, reduceIte, Nat.reduceEqDiff, Nat.reduceAdd, q58, q58r0, q58r1, q58r2, e1, q58r3, q58r4, a1, q58r6, a2, q58r8, a3, q58r10, a4, q58r11]
            rw [← wc_start]; exact last 128 143 (by simp [uLo, h4]) (by simp [uHi, hk, h4]) _ _ _ _ _ _ _ _ _
          · have a4 : ((f.toNat : Int) == 244) = false := bqF (by omega)
            simp only [go_sem, reduceIte, Nat.reduceEqDiff, Nat.reduceAdd, q58, q58r0, q58r1, q58r2, e1, q58r3, q58r4, a1, q58r6, a2, q58r8, a3, q58r10, a4]
            rw [← wc_start]; exact last 128 191 (by simp [uLo, h1, h3]) (by simp [uHi, h2, h4]) _ _ _ _ _ _ _ _ _
  · have e1 : ((k : Int) == 1) = false := bqF (by omega)
    simp only [go_sem, reduceIte, Nat.reduceEqDiff, Nat.reduceAdd, q58, q58r0, q58r1, q58r2, e1]
    rw [← wc_start]; exact last 128 191 (by simp [uLo, hk]) (by simp [uHi, hk]) _ _ _ _ _ _ _ _ _

theorem uSize_le (c : Nat) : uSize c ≤ 4 := by unfold uSize; split <;> (try split) <;> (try split) <;> (try split) <;> omega
theorem uCnt_ge {f n : Nat} : ∀ {r : List UInt8} {k : Nat}, k ≤ uCnt f n k r
  | [], k => Nat.le_refl k
  | c :: r, k => by
    simp only [uCnt]
    split
    · exact Nat.le_trans (Nat.le_succ k) uCnt_ge
    · exact Nat.le_refl k
theorem uCnt_le {f n : Nat} : ∀ {r : List UInt8} {k : Nat}, k ≤ n → uCnt f n k r ≤ n ∧ uCnt f n k r ≤ k + r.length
  | [], k, h => ⟨h, by simp [uCnt]⟩
  | c :: r, k, h => by
    simp only [uCnt]
    split
    · rename_i hc
      have := uCnt_le (f := f) (n := n) (r := r) (k := k + 1) (by omega)
      simp only [List.length_cons]; omega
    · simp only [List.length_cons]; omega

theorem rnext_cnt {c0 : UInt8} {s : List UInt8} {n : Nat} (hs : s.length < 2 ^ 61) (h0 : s[0]? = some c0) (hn : n ≤ 4) {m : Mem} {Q : AExit → List AV → Mem → Prop} {K : Nat}
    (hx : ∀ g1 g2 g3 g6 g7 g8 g9 g10 g11 g12 g13 g14 g15 g16, Q (.exit 0) [.str s, g1, g2, g3, .int .i64 n, .int .i64 K, g6, g7, g8, g9, g10, g11, g12, g13, g14, g15, g16] m) :
    ∀ (r : List UInt8) (k : Nat) (g1 g2 g3 g6 g7 g8 g9 g10 g11 g12 g13 g14 g15 g16 : AV), s.drop k = r → K = uCnt c0.toNat n k r →
      wl CS [1, 2, 3, 6, 7, 8, 9, 10, 11, 12, 13, 14, 15, 16] q37l9 Q [.str s, g1, g2, g3, .int .i64 n, .int .i64 k, g6, g7, g8, g9, g10, g11, g12, g13, g14, g15, g16] m := by
  intro r
  induction r with
  | nil =>
    intro k g1 g2 g3 g6 g7 g8 g9 g10 g11 g12 g13 g14 g15 g16 hr hK
    refine wl_step ?_
    have hl : s.length ≤ k := by have := congrArg List.length hr; simp at this; omega
    have e2 : decide ((k : Int) < (s.length : Nat)) = false := dF (by omega)
    simp only [uCnt] at hK
    subst hK
    by_cases h1 : K < n
    · have e1 : decide ((K : Int) < (n : Int)) = true := dT (by omega)
      simp only [go_sem, reduceIte, Nat.reduceEqDiff, Nat.reduceAdd, q37l9, q37r7, e1, e2]
      exact hx _ _ _ _ _ _ _ _ _ _ _ _ _ _
    · have e1 : decide ((K : Int) < (n : Int)) = false := dF (by omega)
      simp only [go_sem, reduceIte, Nat.reduceEqDiff, Nat.reduceAdd, q37l9, q37r7, e1]
      exact hx _ _ _ _ _ _ _ _ _ _ _ _ _ _
  | cons c r ih =>
    intro k g1 g2 g3 g6 g7 g8 g9 g10 g11 g12 g13 g14 g15 g16 hr hK
    refine wl_step ?_
    have hc : s[k]? = some c := by
      have := congrArg (·[0]?) hr
      simpa using this
    have hlt := (List.getElem?_eq_some_iff.1 hc).1
    have hr' : s.drop (k + 1) = r := by rw [← List.drop_drop, hr]; rfl
    have e2 : decide ((k : Int) < (s.length : Nat)) = true := dT (by omega)
    have i0 : idxSV (.str s) (.int .i64 0) = some (.int .u8 c0.toNat) := by have := idxS_at (k := .i64) h0; simpa using this
    have hw := wrap_succ (i := k) (by omega)
    simp only [uCnt] at hK
    by_cases h1 : k < n
    · have e1 : decide ((k : Int) < (n : Int)) = true := dT (by omega)
      simp only [go_sem, reduceIte, Nat.reduceEqDiff, Nat.reduceAdd, q37l9, q37r7, e1, e2, i0, idxS_at hc]
      refine callW_ret (rgood_ok c0 c k m) ?_
      cases hg : uGood c0.toNat k c.toNat with
      | true =>
        rw [if_pos ⟨h1, hg⟩] at hK
        simp only [go_sem, reduceIte, Nat.reduceEqDiff, Nat.reduceAdd, q37r8, hw]
        exact ih (k + 1) _ _ _ _ _ _ _ _ _ _ _ _ _ _ hr' hK
      | false =>
        rw [if_neg (by rw [hg]; simp)] at hK
        subst hK
        simp only [go_sem, reduceIte, Nat.reduceEqDiff, Nat.reduceAdd]
        exact hx _ _ _ _ _ _ _ _ _ _ _ _ _ _
    · have e1 : decide ((k : Int) < (n : Int)) = false := dF (by omega)
      rw [if_neg (by simp [h1])] at hK
      subst hK
      simp only [go_sem, reduceIte, Nat.reduceEqDiff, Nat.reduceAdd, q37l9, q37r7, e1]
      exact hx _ _ _ _ _ _ _ _ _ _ _ _ _ _
end Go.Proofs.YtinlfdkalijffaaDoor.Am.Q

/-
  JSON, 27: the document's Next and IsText.
-/
namespace Go.Proofs.YtinlfdkalijffaaDoor.Am.Q
open Go Go.Proofs Go.Proofs.YtinlfdkalijffaaDoor.Am

theorem uAcc_cons {a : Nat} {b : UInt8} {l : List UInt8} : uAcc a (b :: l) = uAcc (a * 64 + (b.toNat - 128)) l := by simp only [uAcc, List.foldl_cons]
theorem uLo_ge (f k : Nat) : 128 ≤ uLo f k := by unfold uLo; split; omega; split <;> omega
theorem uHi_le (f k : Nat) : uHi f k ≤ 191 := by unfold uHi; split; omega; split <;> omega
theorem uGood_ge {f k c : Nat} (h : uGood f k c = true) : 128 ≤ c ∧ c ≤ 191 := by
  simp only [uGood, Bool.and_eq_true, decide_eq_true_eq] at h
  have := uLo_ge f k
  have := uHi_le f k
  omega
theorem uBase_low {c : Nat} (h0 : ¬ uSize c = 0) : uBase (uSize c) ≤ c ∧ c - uBase (uSize c) < 128 := by
  by_cases a1 : c < 0x80
  · have : uSize c = 1 := if_pos a1
    rw [this]; simp [uBase]; omega
  · by_cases a2 : 0xC2 ≤ c ∧ c ≤ 0xDF
    · have : uSize c = 2 := by unfold uSize; rw [if_neg a1, if_pos a2]
      rw [this]; simp [uBase]; omega
    · by_cases a3 : 0xE0 ≤ c ∧ c ≤ 0xEF
      · have : uSize c = 3 := by unfold uSize; rw [if_neg a1, if_neg a2, if_pos a3]
        rw [this]; simp [uBase]; omega
      · by_cases a4 : 0xF0 ≤ c ∧ c ≤ 0xF4
        · have : uSize c = 4 := by unfold uSize; rw [if_neg a1, if_neg a2, if_neg a3, if_pos a4]
          rw [this]; simp [uBase]; omega
        · exact absurd (by unfold uSize; rw [if_neg a1, if_neg a2, if_neg a3, if_neg a4]) h0
theorem uCnt_good {f n : Nat} : ∀ {r : List UInt8} {k : Nat}, k ≤ n → ¬ uCnt f n k r < n → n - k ≤ r.length ∧ ∀ b ∈ r.take (n - k), 128 ≤ b.toNat ∧ b.toNat ≤ 191
  | [], k, h, hk => by
    simp only [uCnt] at hk
    have : n - k = 0 := by omega
    rw [this]; simp
  | c :: r, k, h, hk => by
    simp only [uCnt] at hk
    by_cases hc : k < n ∧ uGood f k c.toNat = true
    · rw [if_pos hc] at hk
      obtain ⟨h1, h2⟩ := uCnt_good (by omega) hk
      have e : n - k = (n - (k + 1)) + 1 := by omega
      refine ⟨by simp only [List.length_cons]; omega, ?_⟩
      rw [e, List.take_succ_cons]
      intro b hb
      rcases List.mem_cons.1 hb with rfl | hb
      · exact uGood_ge hc.2
      · exact h2 b hb
    · rw [if_neg hc] at hk
      have : n - k = 0 := by omega
      rw [this]; simp
theorem rnext_val {s : List UInt8} {n : Nat} (hs : s.length < 2 ^ 61) (hn : n ≤ 4) (hnl : n ≤ s.length) (hgood : ∀ b ∈ (s.drop 1).take (n - 1), 128 ≤ b.toNat ∧ b.toNat ≤ 191) {m : Mem} {Q : AExit → List AV → Mem → Prop} {x : Nat}
    (hx : ∀ g1 g2 g3 g5 g7 g8 g9 g10 g11 g12 g13 g14 g15 g16, Q (.exit 3) [.str s, g1, g2, g3, .int .i64 n, g5, .int .i32 x, g7, g8, g9, g10, g11, g12, g13, g14, g15, g16] m) :
    ∀ (d i a : Nat) (g1 g2 g3 g5 g8 g9 g10 g11 g12 g13 g14 g15 g16 : AV), 1 ≤ i → (i + d = n ∨ (n = 0 ∧ d = 0)) → a < 128 * 64 ^ (i - 1) → x = uAcc a ((s.drop i).take d) →
      wl CS [1, 2, 3, 5, 8, 9, 10, 11, 12, 13, 14, 15, 16] q37l24 Q [.str s, g1, g2, g3, .int .i64 n, g5, .int .i32 a, .int .i64 i, g8, g9, g10, g11, g12, g13, g14, g15, g16] m := by
  intro d
  induction d with
  | zero =>
    intro i a g1 g2 g3 g5 g8 g9 g10 g11 g12 g13 g14 g15 g16 hi hd ha hX
    refine wl_step ?_
    have e1 : decide ((i : Int) < (n : Int)) = false := dF (by omega)
    simp only [List.take_zero, uAcc, List.foldl_nil] at hX
    subst hX
    simp only [go_sem, reduceIte, Nat.reduceEqDiff, Nat.reduceAdd, q37l24, q37r21, e1]
    exact hx _ _ _ _ _ _ _ _ _ _ _ _ _ _
  | succ d ih =>
    intro i a g1 g2 g3 g5 g8 g9 g10 g11 g12 g13 g14 g15 g16 hi hd ha hX
    refine wl_step ?_
    have hin : i < n := by omega
    have e1 : decide ((i : Int) < (n : Int)) = true := dT (by omega)
    have hc : s[i]? = some s[i] := List.getElem?_eq_getElem (by omega)
    rw [take_drop_at hc] at hX
    have hb : 128 ≤ s[i].toNat ∧ s[i].toNat ≤ 191 := by
      refine hgood _ ?_
      refine List.mem_iff_getElem?.2 ⟨i - 1, ?_⟩
      rw [List.getElem?_take, if_pos (by omega), List.getElem?_drop, show 1 + (i - 1) = i by omega]
      exact hc
    have hp : (64 : Nat) ^ (i - 1) ≤ 64 ^ 2 := Nat.pow_le_pow_right (by omega) (by omega)
    have ha2 : a < 524288 := by omega
    have w1 : IntKind.i32.wrap ((a : Int) * 64) = ((a * 64 : Nat) : Int) := by rw [wrap_i32 (by omega)]; omega
    have w2 : IntKind.i32.wrap (s[i].toNat : Int) = (s[i].toNat : Int) := wrap_i32 (by omega)
    have w3 : IntKind.i32.wrap (((a * 64 : Nat) : Int) + (s[i].toNat : Int)) = ((a * 64 + s[i].toNat : Nat) : Int) := by rw [wrap_i32 (by omega)]; omega
    have w4 : IntKind.i32.wrap (((a * 64 + s[i].toNat : Nat) : Int) - 128) = ((a * 64 + (s[i].toNat - 128) : Nat) : Int) := by rw [wrap_i32 (by omega)]; omega
    have hw := wrap_succ (i := i) (by omega)
    simp only [go_sem, reduceIte, Nat.reduceEqDiff, Nat.reduceAdd, q37l24, q37r21, e1, q37r22, idxS_at hc, w1, w2, w3, w4, q37r23, hw]
    refine ih (i + 1) _ _ _ _ _ _ _ _ _ _ _ _ _ _ (by omega) (by omega) ?_ (by rw [hX, uAcc_cons])
    have e : i + 1 - 1 = (i - 1) + 1 := by omega
    rw [e, Nat.pow_succ]; omega

def errU (s : List UInt8) : Nat := if (uNext s).1 = true then 0 else 9
theorem rNext_ok {c : UInt8} {r : List UInt8} (hs : (c :: r).length < 2 ^ 61) (m : Mem) : CS 37 [.str (c :: r)] m (.ret (.tup [.int .i32 (uNext (c :: r)).2.2, .int .i64 (uNext (c :: r)).2.1, .int .i64 (errU (c :: r))])) m := by
  refine call_by xfok mixed q37at q37ok rfl ?_
  simp only [go_sem, reduceIte, Nat.reduceEqDiff, Nat.reduceAdd, q37, q37r0, q37r1, eq_nil, q37r3, idx_0]
  refine callW_ret (rsize_ok c m) ?_
  have hn4 := uSize_le c.toNat
  have hU : uNext (c :: r) = if uSize c.toNat = 0 then (false, 1, 65533) else if uCnt c.toNat (uSize c.toNat) 1 r < uSize c.toNat then (false, uCnt c.toNat (uSize c.toNat) 1 r, 65533) else
      (true, uSize c.toNat, uAcc (c.toNat - uBase (uSize c.toNat)) (r.take (uSize c.toNat - 1))) := rfl
  by_cases h0 : uSize c.toNat = 0
  · have e0 : ((uSize c.toNat : Int) == 0) = true := bqT (by omega)
    rw [if_pos h0] at hU
    simp only [go_sem, reduceIte, Nat.reduceEqDiff, Nat.reduceAdd, q37r4, e0, q37r5]
    simp only [errU, hU]; rfl
  · have e0 : ((uSize c.toNat : Int) == 0) = false := bqF (by omega)
    rw [if_neg h0] at hU
    simp only [go_sem, reduceIte, Nat.reduceEqDiff, Nat.reduceAdd, q37r4, e0, q37r6]
    refine rnext_cnt (c0 := c) hs rfl hn4 (K := uCnt c.toNat (uSize c.toNat) 1 r) (fun g1 g2 g3 g6 g7 g8 g9 g10 g11 g12 g13 g14 g15 g16 => ?_) r 1 _ _ _ _ _ _ _ _ _ _ _ _ _ _ rfl rfl
    by_cases hlt : uCnt c.toNat (uSize c.toNat) 1 r < uSize c.toNat
    · have e1 : decide (((uCnt c.toNat (uSize c.toNat) 1 r : Nat) : Int) < ((uSize c.toNat : Nat) : Int)) = true := dT (by omega)
      rw [if_pos hlt] at hU
      simp only [go_sem, reduceIte, Nat.reduceEqDiff, Nat.reduceAdd, q37r10, e1, q37r11]
      simp only [errU, hU]; simp
    · have e1 : decide (((uCnt c.toNat (uSize c.toNat) 1 r : Nat) : Int) < ((uSize c.toNat : Nat) : Int)) = false := dF (by omega)
      rw [if_neg hlt] at hU
      obtain ⟨hl, hg⟩ := uCnt_good (by omega) hlt
      have hc8 := c.toNat_lt
      have w0 : IntKind.i32.wrap (c.toNat : Int) = (c.toNat : Int) := wrap_i32 (by omega)
      have hlow := uBase_low h0
      have wb : ∀ b : Nat, b ≤ c.toNat → IntKind.i32.wrap ((c.toNat : Int) - (b : Int)) = ((c.toNat - b : Nat) : Int) := by
        intro b hb; rw [wrap_i32 (by omega)]; omega
      have w192 : 192 ≤ c.toNat → IntKind.i32.wrap ((c.toNat : Int) - 192) = ((c.toNat - 192 : Nat) : Int) := wb 192
      have w224 : 224 ≤ c.toNat → IntKind.i32.wrap ((c.toNat : Int) - 224) = ((c.toNat - 224 : Nat) : Int) := wb 224
      have w240 : 240 ≤ c.toNat → IntKind.i32.wrap ((c.toNat : Int) - 240) = ((c.toNat - 240 : Nat) : Int) := wb 240
      have rest : ∀ (a : Nat), a = c.toNat - uBase (uSize c.toNat) → ∀ (g1 g2 g3 g5 g7 g8 g9 g10 g11 g12 g13 g14 g15 g16 : AV), wc CS (.seq (.seq (.region q37r20) (.block 3 (.loop [1, 2, 3, 5, 8, 9, 10, 11, 12, 13, 14, 15, 16] q37l24))) (.seq (.region q37r25) .ret))
          (endsIn [.var 1, .var 2, .var 3] (fun v' m1 => v' = AV.tup [.int .i32 (uNext (c :: r)).2.2, .int .i64 (uNext (c :: r)).2.1, .int .i64 (errU (c :: r))] ∧ m1 = m) noPan) [.str (c :: r), g1, g2, g3, .int .i64 (uSize c.toNat), g5, .int .i32 a, g7, g8, g9, g10, g11, g12, g13, g14, g15, g16] m := by
        rintro a rfl g1 g2 g3 g5 g7 g8 g9 g10 g11 g12 g13 g14 g15 g16
        simp only [go_sem, reduceIte, Nat.reduceEqDiff, Nat.reduceAdd, q37r20]
        refine rnext_val (n := uSize c.toNat) hs hn4 (by simp only [List.length_cons]; omega) (by simpa using hg) (x := uAcc (c.toNat - uBase (uSize c.toNat)) (r.take (uSize c.toNat - 1))) (fun g1 g2 g3 g5 g7 g8 g9 g10 g11 g12 g13 g14 g15 g16 => ?_) (uSize c.toNat - 1) 1 _ _ _ _ _ _ _ _ _ _ _ _ _ _ (by omega) (by omega) (by simpa using hlow.2) rfl
        simp only [go_sem, reduceIte, Nat.reduceEqDiff, Nat.reduceAdd, q37r25]
        simp only [errU, hU]; simp
      have rest' : ∀ (a : Nat), a = c.toNat - uBase (uSize c.toNat) → ∀ (g1 g2 g3 g5 g7 g8 g9 g10 g11 g12 g13 g14 g15 g16 : AV), wo CS { r := q37r20, Q := seqQ CS (.block 3 (.loop [1, 2, 3, 5, 8, 9, 10, 11, 12, 13, 14, 15, 16] q37l24)) (seqQ CS (.seq (.region q37r25) .ret)
          (endsIn [.var 1, .var 2, .var 3] (fun v' m1 => v' = AV.tup [.int .i32 (uNext (c :: r)).2.2, .int .i64 (uNext (c :: r)).2.1, .int .i64 (errU (c :: r))] ∧ m1 = m) noPan)), fr := [.str (c :: r), g1, g2, g3, .int .i64 (uSize c.toNat), g5, .int .i32 a, g7, g8, g9, g10, g11, g12, g13, g14, g15, g16] } [.str (c :: r), g1, g2, g3, .int .i64 (uSize c.toNat), g5, .int .i32 a, g7, g8, g9, g10, g11, g12, g13, g14, g15, g16] (!q37r20.pairs.isEmpty) q37r20.ops [] [] m := by
        intro a ha g1 g2 g3 g5 g7 g8 g9 g10 g11 g12 g13 g14 g15 g16
        have := rest a ha g1 g2 g3 g5 g7 g8 g9 g10 g11 g12 g13 g14 g15 g16
        rw [wc_seq, wc_start] at this
        exact this
      have hsz : uSize c.toNat = 1 ∨ uSize c.toNat = 2 ∨ uSize c.toNat = 3 ∨ uSize c.toNat = 4 := by omega
      have hub : uBase (uSize c.toNat) = (if uSize c.toNat = 2 then 192 else if uSize c.toNat = 3 then 224 else if uSize c.toNat = 4 then 240 else 0) := rfl
      generalize uSize c.toNat = n at *
      rcases hsz with rfl | rfl | rfl | rfl
      · simp only [go_sem, reduceIte, Nat.reduceEqDiff, Nat.reduceAdd, q37r10, e1, q37r12, idx_0, w0, q37r13, q37r14, show (((1 : Nat) : Int) == 2) = false from rfl, q37r16, show (((1 : Nat) : Int) == 3) = false from rfl, q37r18, show (((1 : Nat) : Int) == 4) = false from rfl]
        exact rest' c.toNat (by simp [hub]) _ _ _ _ _ _ _ _ _ _ _ _ _ _
      · simp only [go_sem, reduceIte, Nat.reduceEqDiff, Nat.reduceAdd, q37r10, e1, q37r12, idx_0, w0, q37r13, q37r14, show (((2 : Nat) : Int) == 2) = true from rfl, q37r15, w192 (by simpa [hub] using hlow.1)]
        exact rest' _ (by simp [hub]) _ _ _ _ _ _ _ _ _ _ _ _ _ _
      · simp only [go_sem, reduceIte, Nat.reduceEqDiff, Nat.reduceAdd, q37r10, e1, q37r12, idx_0, w0, q37r13, q37r14, show (((3 : Nat) : Int) == 2) = false from rfl, q37r16, show (((3 : Nat) : Int) == 3) = true from rfl, q37r17, w224 (by simpa [hub] using hlow.1)]
        exact rest' _ (by simp [hub]) _ _ _ _ _ _ _ _ _ _ _ _ _ _
      · simp only [go_sem, reduceIte, Nat.reduceEqDiff, Nat.reduceAdd, q37r10, e1, q37r12, idx_0, w0, q37r13, q37r14, show (((4 : Nat) : Int) == 2) = false from rfl, q37r16, show (((4 : Nat) : Int) == 3) = false from rfl, q37r18, show (((4 : Nat) : Int) == 4) = true from rfl, q37r19, w240 (by simpa [hub] using hlow.1)]
        exact rest' _ (by simp [hub]) _ _ _ _ _ _ _ _ _ _ _ _ _ _

theorem uNext_pos {c : UInt8} {r : List UInt8} : 1 ≤ (uNext (c :: r)).2.1 ∧ (uNext (c :: r)).2.1 ≤ (c :: r).length := by
  have hU : uNext (c :: r) = if uSize c.toNat = 0 then (false, 1, 65533) else if uCnt c.toNat (uSize c.toNat) 1 r < uSize c.toNat then (false, uCnt c.toNat (uSize c.toNat) 1 r, 65533) else
      (true, uSize c.toNat, uAcc (c.toNat - uBase (uSize c.toNat)) (r.take (uSize c.toNat - 1))) := rfl
  rw [hU]
  split
  · simp
  · rename_i h0
    split
    · have h1 := uCnt_ge (f := c.toNat) (n := uSize c.toNat) (r := r) (k := 1)
      have h2 := (uCnt_le (f := c.toNat) (n := uSize c.toNat) (r := r) (k := 1) (by omega)).2
      simp only [List.length_cons]; omega
    · rename_i hlt
      have := (uCnt_good (by omega) hlt).1
      simp only [List.length_cons]; omega
theorem rtext_loop {m : Mem} {B : Bool} {Q : AExit → List AV → Mem → Prop} (hx : B = true → ∀ g0 g1 g2 g3 g4 g5, Q (.exit 0) [g0, g1, g2, g3, g4, g5] m) (hr : B = false → ∀ g0 g2 g3 g4 g5, Q .ret [g0, .bool false, g2, g3, g4, g5] m) :
    ∀ (f : Nat) (s : List UInt8) (g1 g2 g3 g4 g5 : AV), s.length ≤ f → s.length < 2 ^ 61 → B = isTF f s → wl CS [1, 2, 3, 4, 5] q21l6 Q [.str s, g1, g2, g3, g4, g5] m := by
  intro f
  induction f with
  | zero =>
    intro s g1 g2 g3 g4 g5 hf hs hB
    obtain rfl : s = [] := List.eq_nil_of_length_eq_zero (by omega)
    refine wl_step ?_
    have e1 : decide ((([] : List UInt8).length : Int) > 0) = false := by decide
    simp only [go_sem, reduceIte, Nat.reduceEqDiff, Nat.reduceAdd, q21l6, q21r1, e1]
    exact hx (by rw [hB]; rfl) _ _ _ _ _ _
  | succ f ih =>
    intro s g1 g2 g3 g4 g5 hf hs hB
    refine wl_step ?_
    cases s with
    | nil =>
      have e1 : decide ((([] : List UInt8).length : Int) > 0) = false := by decide
      simp only [go_sem, reduceIte, Nat.reduceEqDiff, Nat.reduceAdd, q21l6, q21r1, e1]
      exact hx (by rw [hB]; rfl) _ _ _ _ _ _
    | cons c r =>
      have e1 : decide (((c :: r).length : Int) > 0) = true := dT (by simp only [List.length_cons]; omega)
      have hB' : B = ((uNext (c :: r)).1 && isTF f ((c :: r).drop (uNext (c :: r)).2.1)) := hB
      simp only [go_sem, reduceIte, Nat.reduceEqDiff, Nat.reduceAdd, q21l6, q21r1, e1, q21r2]
      refine callW_ret (rNext_ok hs m) ?_
      obtain ⟨p1, p2⟩ := uNext_pos (c := c) (r := r)
      cases hu : (uNext (c :: r)).1 with
      | true =>
        have e2 : ((errU (c :: r) : Int) != 0) = false := bnF (by simp [errU, hu])
        have hsl := slice_from (s := c :: r) (kk := .i64) (k := (uNext (c :: r)).2.1) p2
        rw [hu, Bool.true_and] at hB'
        simp only [go_sem, reduceIte, Nat.reduceEqDiff, Nat.reduceAdd, q21r3, e2, q21r5, hsl]
        exact ih _ _ _ _ _ _ (by rw [List.length_drop]; omega) (by rw [List.length_drop]; omega) hB'
      | false =>
        have e2 : ((errU (c :: r) : Int) != 0) = true := bnT (by simp [errU, hu])
        rw [hu, Bool.false_and] at hB'
        simp only [go_sem, reduceIte, Nat.reduceEqDiff, Nat.reduceAdd, q21r3, e2, q21r4]
        exact hr hB' _ _ _ _ _
theorem rtext_ok {s : List UInt8} (hs : s.length < 2 ^ 61) (m : Mem) : CS 21 [.str s] m (.ret (.bool (isT s))) m := by
  refine call_by xfok mixed q21at q21ok rfl ?_
  simp only [go_sem, reduceIte, Nat.reduceEqDiff, Nat.reduceAdd, q21, q21r0]
  refine rtext_loop (B := isT s) (fun h g0 g1 g2 g3 g4 g5 => ?_) (fun h g0 g2 g3 g4 g5 => ?_) s.length s _ _ _ _ _ (Nat.le_refl _) hs rfl
  · simp only [go_sem, reduceIte, Nat.reduceEqDiff, Nat.reduceAdd, q21r7, h]
  · simp only [go_sem, reduceIte, Nat.reduceEqDiff, Nat.reduceAdd, h]
end Go.Proofs.YtinlfdkalijffaaDoor.Am.Q

/-
  JSON, 28: the document's Parse.
-/
namespace Go.Proofs.YtinlfdkalijffaaDoor.Am.Q
open Go Go.Proofs Go.Proofs.YtinlfdkalijffaaDoor.Am

/-- What is parsed, and its fault. -/
def parseT (s : List UInt8) : VT × Int × Nat :=
  if 65536 < s.length then (VT.zero, 5, 0) else if isT s = false then (VT.zero, 9, 0) else match parseS s with
    | .error (w, k) => (VT.zero, w, k)
    | .ok v => (v, 0, 0)
theorem extB_ext {p : Nat} {m m' : Mem} (h : ExtB p m m') (hp : m.next ≤ p) : Ext m m' :=
  ⟨fun i hi => h.get i hi (by omega), h.next, h.live, h.ntok, h.tty⟩
theorem ext_extB {p : Nat} {m m' : Mem} (h : Ext m m') : ExtB p m m' := ⟨fun i hi _ => h.get i hi, h.next, h.live, h.ntok, h.tty⟩
abbrev zFault : AObj := .cells 29 [.int .i64 0, .int .i64 0]

theorem rend_loop {p : Nat} {s : List UInt8} {many : Nat} {g1 g2 g4 : AV} {Q : AExit → List AV → Mem → Prop} (hs : s.length < 2 ^ 61) :
    ∀ (n i : Nat) (M : Mem) (g5 g6 g7 g8 g9 : AV), M.get p = RP s i many 0 0 → runN isBlk (s.drop i) = n → i ≤ s.length →
      (∀ g5 g6 g7 g8 g9, Q (.exit 0) [.str s, g1, g2, .ptr p 0, g4, g5, g6, g7, g8, g9] (M.set p (if i + n < s.length then RP s (i + n + 1) many 3 (i + n) else RP s (i + n) many 0 0))) → wl CS [5, 6, 7, 8, 9] q11l11 Q [.str s, g1, g2, .ptr p 0, g4, g5, g6, g7, g8, g9] M := by
  intro n
  induction n with
  | zero =>
    intro i M g5 g6 g7 g8 g9 hp hn hil hq
    refine wl_step ?_
    have z00 : ((0 : Int) == 0) = true := rfl
    have z30 : ((3 : Int) == 0) = false := rfl
    simp only [Nat.add_zero] at hq
    cases hc : s[i]? with
    | none =>
      have h1 := List.getElem?_eq_none_iff.1 hc
      have e1 : decide ((i : Int) < (s.length : Nat)) = false := dF (by omega)
      rw [if_neg (by omega), set_self hp] at hq
      simp only [go_sem, reduceIte, Nat.reduceEqDiff, Nat.reduceAdd, q11l11, q11r7, hp, e1]
      exact hq _ _ _ _ _
    | some c =>
      have h1 := (List.getElem?_eq_some_iff.1 hc).1
      have e1 : decide ((i : Int) < (s.length : Nat)) = true := dT (by omega)
      rw [drop_at hc, runN_cons] at hn
      have hb : ¬ isBlk c = true := by intro h; rw [if_pos h] at hn; omega
      rw [isBlk_iff] at hb
      rw [if_pos h1] at hq
      have e9 : ((c.toNat : Int) != 9) = true := bnT (by omega)
      have e10 : ((c.toNat : Int) != 10) = true := bnT (by omega)
      have e13 : ((c.toNat : Int) != 13) = true := bnT (by omega)
      have e32 : ((c.toNat : Int) != 32) = true := bnT (by omega)
      have hw := wrap_succ (i := i) (by omega)
      simp only [go_sem, reduceIte, Nat.reduceEqDiff, Nat.reduceAdd, q11l11, q11r7, hp, e1, z00, q11r8, idxS_at hc, e9, e10, e13, e32, q11r9]
      refine callW_ret (rfail_ok hp 3 i) ?_
      simp only [go_sem, reduceIte, Nat.reduceEqDiff, Nat.reduceAdd, q11r10, hw]
      refine wl_step ?_
      by_cases h2 : i + 1 < s.length
      · have e2 : decide (((i + 1 : Nat) : Int) < (s.length : Nat)) = true := dT (by omega)
        simp only [go_sem, reduceIte, Nat.reduceEqDiff, Nat.reduceAdd, q11l11, q11r7, e2, z30]
        exact hq _ _ _ _ _
      · have e2 : decide (((i + 1 : Nat) : Int) < (s.length : Nat)) = false := dF (by omega)
        simp only [go_sem, reduceIte, Nat.reduceEqDiff, Nat.reduceAdd, q11l11, q11r7, e2]
        exact hq _ _ _ _ _
  | succ n ih =>
    intro i M g5 g6 g7 g8 g9 hp hn hil hq
    refine wl_step ?_
    have z00 : ((0 : Int) == 0) = true := rfl
    have hi : i < s.length := by
      have := runN_le (p := isBlk) (s := s.drop i)
      simp at this; omega
    have hc : s[i]? = some s[i] := List.getElem?_eq_getElem hi
    rw [drop_at hc, runN_cons] at hn
    have hb : isBlk s[i] = true := by
      by_cases h : isBlk s[i] = true
      · exact h
      · rw [if_neg h] at hn; omega
    rw [if_pos hb] at hn
    rw [isBlk_iff] at hb
    have e1 : decide ((i : Int) < (s.length : Nat)) = true := dT (by omega)
    have hw := wrap_succ (i := i) (by omega)
    have fin : wl CS [5, 6, 7, 8, 9] q11l11 Q [.str s, g1, g2, .ptr p 0, g4, .u, .u, .u, .u, .u] (M.set p (RP s (i + 1) many 0 0)) := by
      refine ih (i + 1) _ _ _ _ _ _ get_set_same (by omega) (by omega) (fun g5 g6 g7 g8 g9 => ?_)
      rw [set_set, show i + 1 + n = i + (n + 1) by omega]
      exact hq _ _ _ _ _
    rcases hb with hb | hb | hb | hb
    · have e9 : ((s[i].toNat : Int) != 9) = false := bnF (by omega)
      simp only [go_sem, reduceIte, Nat.reduceEqDiff, Nat.reduceAdd, q11l11, q11r7, hp, e1, z00, q11r8, idxS_at hc, e9, q11r10, hw]
      exact fin
    · have e9 : ((s[i].toNat : Int) != 9) = true := bnT (by omega)
      have e10 : ((s[i].toNat : Int) != 10) = false := bnF (by omega)
      simp only [go_sem, reduceIte, Nat.reduceEqDiff, Nat.reduceAdd, q11l11, q11r7, hp, e1, z00, q11r8, idxS_at hc, e9, e10, q11r10, hw]
      exact fin
    · have e9 : ((s[i].toNat : Int) != 9) = true := bnT (by omega)
      have e10 : ((s[i].toNat : Int) != 10) = true := bnT (by omega)
      have e13 : ((s[i].toNat : Int) != 13) = false := bnF (by omega)
      simp only [go_sem, reduceIte, Nat.reduceEqDiff, Nat.reduceAdd, q11l11, q11r7, hp, e1, z00, q11r8, idxS_at hc, e9, e10, e13, q11r10, hw]
      exact fin
    · have e9 : ((s[i].toNat : Int) != 9) = true := bnT (by omega)
      have e10 : ((s[i].toNat : Int) != 10) = true := bnT (by omega)
      have e13 : ((s[i].toNat : Int) != 13) = true := bnT (by omega)
      have e32 : ((s[i].toNat : Int) != 32) = false := bnF (by omega)
      simp only [go_sem, reduceIte, Nat.reduceEqDiff, Nat.reduceAdd, q11l11, q11r7, hp, e1, z00, q11r8, idxS_at hc, e9, e10, e13, e32, q11r10, hw]
      exact fin
/-- .. where there is a fault already. -/
theorem rend_no {p : Nat} {s : List UInt8} {many i fat : Nat} {why : Int} {g1 g2 g4 : AV} {Q : AExit → List AV → Mem → Prop} (hw : why ≠ 0) {M : Mem} {g5 g6 g7 g8 g9 : AV} (hp : M.get p = RP s i many why fat)
    (hq : ∀ g5 g6 g7 g8 g9, Q (.exit 0) [.str s, g1, g2, .ptr p 0, g4, g5, g6, g7, g8, g9] M) : wl CS [5, 6, 7, 8, 9] q11l11 Q [.str s, g1, g2, .ptr p 0, g4, g5, g6, g7, g8, g9] M := by
  refine wl_step ?_
  have zw : (why == 0) = false := by simp [hw]
  cases h : decide ((i : Int) < (s.length : Nat)) with
  | true =>
    simp only [go_sem, reduceIte, Nat.reduceEqDiff, Nat.reduceAdd, q11l11, q11r7, hp, h, zw]
    exact hq _ _ _ _ _
  | false =>
    simp only [go_sem, reduceIte, Nat.reduceEqDiff, Nat.reduceAdd, q11l11, q11r7, hp, h]
    exact hq _ _ _ _ _
theorem pushH_true {m : Mem} {h : List Mem} : pushH true m h = m :: h := rfl
/-- The fault that is told. -/
theorem rend_fault {M : Mem} {p a b : Nat} {s : List UInt8} {i many k : Nat} {w : Int} {R : AV → Mem → Prop} (hp : M.get p = RP s i many w k) (hw : w ≠ 0) (ha : M.get a = z26) (hb : M.get b = zFault) (hab : a ≠ b) (hpa : p ≠ a) (hpb : p ≠ b)
    (hR : R (.tup [.agg [.int .i64 0, .str [], .nilSl, .nilSl], .agg [.int .i64 w, .int .i64 k]]) ((M.set a z26).set b (.cells 29 [.int .i64 w, .int .i64 k]))) {g4 g5 g6 g7 g8 g9 : AV} :
    wc CS (.seq (.seq (.region q11r12) (.cond (.var 9) (.seq (.region q11r13) .ret) .skip)) (.seq (.region q11r14) .ret)) (endsIn [.cell 1 true 4, .cell 2 true 2] R noPan) [.str s, .ptr a 0, .ptr b 0, .ptr p 0, g4, g5, g6, g7, g8, g9] M := by
  have zw : (w != 0) = true := by simp [hw]
  have h1 : (M.set a z26).get b = zFault := by rw [get_set_other (Ne.symm hab)]; exact hb
  have h2 : ((M.set a z26).set b (.cells 29 [.int .i64 w, .int .i64 k])).get a = z26 := by rw [get_set_other hab]; exact get_set_same
  have hpart : part true 2 [AV.str s, .int .i64 i, .int .i64 many, .int .i64 w, .int .i64 k] 3 = some (.agg [.int .i64 w, .int .i64 k]) := rfl
  simp only [go_sem, reduceIte, Nat.reduceEqDiff, Nat.reduceAdd, q11r12, hp, zw, q11r13, pushH_true, ha, hpart, h1]
  have L : ∀ M' : Mem, M'.get p = RP s i many w k → M'.load true 2 (.ptr p 3) = some (.agg [.int .i64 w, .int .i64 k]) := by
    intro M' h; rw [load_ptr, h]; rfl
  refine ⟨?_, ?_⟩
  · intro q hq h1 h2
    simp only [List.mem_singleton] at hq
    subst hq
    intro _ m1 m2 e1 e2
    have e1' : some M = some m1 := e1
    have e2' : some (M.set a z26) = some m2 := e2
    injection e1' with e1'
    injection e2' with e2'
    subst e1'; subst e2'
    have key : ∀ M' : Mem, M'.get p = RP s i many w k → (evalP (Opd.ev [.ptr p 3, .agg [.int .i64 0, .str [], .nilSl, .nilSl]] [.str s, .ptr a 0, .ptr b 0, .ptr p 0, g4, g5, g6, g7, g8, .bool true]) M' (.load true 2 (.loc 0))).map (·.1) = some (.agg [.int .i64 w, .int .i64 k]) := by
      intro M' h
      simp only [evalP, ev_loc0, L M' h, Option.map_some]
    exact ⟨key _ hp, key _ (by rw [get_set_other hpa]; exact hp)⟩
  · simp only [go_sem, reduceIte, Nat.reduceEqDiff, Nat.reduceAdd, h2]
    exact hR

def ParR (s : List UInt8) (m : Mem) (v : AV) (m' : Mem) : Prop := ∃ a, v = .tup [a, .agg [.int .i64 (parseT s).2.1, .int .i64 (parseT s).2.2]] ∧ IsVal a (parseT s).1 ∧ Ext m m'
theorem rparse_ok {s : List UInt8} (hs : s.length < 2 ^ 61) (m : Mem) : ∃ v m', CS 11 [.str s] m (.ret v) m' ∧ ParR s m v m' := by
  refine call_some (R := ParR s m) xfok mixed q11at q11ok rfl ?_
  have g1 : ((m.alloc z26).alloc zFault).get m.next = z26 := by rw [get_old (by simp [Mem.alloc])]; exact get_new
  have g2 : ((m.alloc z26).alloc zFault).get (m.next + 1) = zFault := get_new
  have E2 : Ext m ((m.alloc z26).alloc zFault) := (Ext.alloc _ _).trans (Ext.alloc _ _)
  have n2 : ((m.alloc z26).alloc zFault).next = m.next + 2 := rfl
  by_cases hlen : 65536 < s.length
  · have e1 : decide ((s.length : Int) > 65536) = true := dT (by omega)
    have hT : parseT s = (VT.zero, 5, 0) := by simp [parseT, hlen]
    simp only [go_sem, reduceIte, Nat.reduceEqDiff, Nat.reduceAdd, q11, q11r0, q11r1, e1, q11r2, next_alloc, g1]
    have g3 : (((m.alloc z26).alloc zFault).set m.next z26).get (m.next + 1) = zFault := by rw [get_set_other (by omega)]; exact g2
    simp only [go_sem, reduceIte, Nat.reduceEqDiff, Nat.reduceAdd, g3]
    have g4 : ((((m.alloc z26).alloc zFault).set m.next z26).set (m.next + 1) (.cells 29 [.int .i64 5, .int .i64 0])).get m.next = z26 := by rw [get_set_other (by omega)]; exact get_set_same
    simp only [go_sem, reduceIte, Nat.reduceEqDiff, Nat.reduceAdd, g4]
    exact ⟨_, by rw [hT]; rfl, by rw [hT]; exact zero_val, (E2.set (Nat.le_refl _) _).set (by omega) _⟩
  · have e1 : decide ((s.length : Int) > 65536) = false := dF (by omega)
    simp only [go_sem, reduceIte, Nat.reduceEqDiff, Nat.reduceAdd, q11, q11r0, q11r1, e1, q11r3, next_alloc]
    refine callW_ret (rtext_ok hs _) ?_
    cases ht : isT s with
    | false =>
      have hT : parseT s = (VT.zero, 9, 0) := by simp [parseT, hlen, ht]
      simp only [go_sem, reduceIte, Nat.reduceEqDiff, Nat.reduceAdd, q11r4, g1]
      have g3 : (((m.alloc z26).alloc zFault).set m.next z26).get (m.next + 1) = zFault := by rw [get_set_other (by omega)]; exact g2
      simp only [go_sem, reduceIte, Nat.reduceEqDiff, Nat.reduceAdd, g3]
      have g4 : ((((m.alloc z26).alloc zFault).set m.next z26).set (m.next + 1) (.cells 29 [.int .i64 9, .int .i64 0])).get m.next = z26 := by rw [get_set_other (by omega)]; exact get_set_same
      simp only [go_sem, reduceIte, Nat.reduceEqDiff, Nat.reduceAdd, g4]
      exact ⟨_, by rw [hT]; rfl, by rw [hT]; exact zero_val, (E2.set (Nat.le_refl _) _).set (by omega) _⟩
    | true =>
      simp only [go_sem, reduceIte, Nat.reduceEqDiff, Nat.reduceAdd]
      generalize (m.alloc z26).alloc zFault = M2 at g1 g2 E2 n2
      have st : (M2.alloc (.cells 51 [.str [], .int .i64 0, .int .i64 0, .int .i64 0, .int .i64 0])).get M2.next = .cells 51 [.str [], .int .i64 0, .int .i64 0, .int .i64 0, .int .i64 0] := get_new
      simp only [go_sem, reduceIte, Nat.reduceEqDiff, Nat.reduceAdd, q11r5, st]
      have hp3 : ((M2.alloc (.cells 51 [.str [], .int .i64 0, .int .i64 0, .int .i64 0, .int .i64 0])).set M2.next (RP s 0 0 0 0)).get M2.next = RP s 0 0 0 0 := get_set_same
      have g13 : ((M2.alloc (.cells 51 [.str [], .int .i64 0, .int .i64 0, .int .i64 0, .int .i64 0])).set M2.next (RP s 0 0 0 0)).get m.next = z26 := by rw [get_set_other (by omega), get_old (by omega)]; exact g1
      have g23 : ((M2.alloc (.cells 51 [.str [], .int .i64 0, .int .i64 0, .int .i64 0, .int .i64 0])).set M2.next (RP s 0 0 0 0)).get (m.next + 1) = zFault := by rw [get_set_other (by omega), get_old (by omega)]; exact g2
      have E3 : Ext m ((M2.alloc (.cells 51 [.str [], .int .i64 0, .int .i64 0, .int .i64 0, .int .i64 0])).set M2.next (RP s 0 0 0 0)) := (E2.trans (Ext.alloc _ _)).set (by omega) _
      have n3 : ((M2.alloc (.cells 51 [.str [], .int .i64 0, .int .i64 0, .int .i64 0, .int .i64 0])).set M2.next (RP s 0 0 0 0)).next = M2.next + 1 := rfl
      generalize (M2.alloc (.cells 51 [.str [], .int .i64 0, .int .i64 0, .int .i64 0, .int .i64 0])).set M2.next (RP s 0 0 0 0) = M3 at hp3 g13 g23 E3 n3
      obtain ⟨v, M4, k1, k2⟩ := rval_ok (s := s) (by omega) (2 * s.length + 1) M3 M2.next 0 0 0 (by omega) (by omega) (by omega) (by omega) hp3
      have k1' : CS 24 [.ptr M2.next 0, .int .i64 0] M3 (.ret v) M4 := k1
      simp only [go_sem, reduceIte, Nat.reduceEqDiff, Nat.reduceAdd, q11r6]
      refine callW_ret k1' ?_
      have hpS : parseT s = (match parseS s with
        | .error (w, k) => (VT.zero, w, k)
        | .ok v => (v, 0, 0)) := by unfold parseT; rw [if_neg hlen, if_neg (by simp [ht])]
      have fin : ∀ (M : Mem) (i many : Nat) (w : Int) (k : Nat) (g4 g5 g6 g7 g8 g9 : AV), M.get M2.next = RP s i many w k → w ≠ 0 → M.get m.next = z26 → M.get (m.next + 1) = zFault → Ext m M → parseT s = (VT.zero, w, k) →
          wc CS (.seq (.seq (.region q11r12) (.cond (.var 9) (.seq (.region q11r13) .ret) .skip)) (.seq (.region q11r14) .ret)) (endsIn [.cell 1 true 4, .cell 2 true 2] (ParR s m) noPan) [.str s, .ptr m.next 0, .ptr (m.next + 1) 0, .ptr M2.next 0, g4, g5, g6, g7, g8, g9] M := by
        intro M i many w k g4 g5 g6 g7 g8 g9 h1 h2 h3 h4 h5 h6
        refine rend_fault h1 h2 h3 h4 (by omega) (by omega) (by omega) ?_
        exact ⟨_, by rw [h6], by rw [h6]; exact zero_val, (h5.set (Nat.le_refl _) _).set (by omega) _⟩
      -- the value is laid
      have lay : ∀ (k0 : Int) (t0 : List UInt8) (ka kb : AV), v = .agg [.int .i64 k0, .str t0, ka, kb] → one ka = true → one kb = true → ExtB M2.next M3 M4 → ∃ M5, (M4.alloc z26).set M4.next (.cells 26 [.int .i64 k0, .str t0, ka, kb]) = M5 ∧ M5.get M2.next = M4.get M2.next ∧ M5.get m.next = z26 ∧ M5.get (m.next + 1) = zFault ∧ M5.get M4.next = .cells 26 [.int .i64 k0, .str t0, ka, kb] ∧ Ext m M5 ∧ M2.next < M4.next := by
        intro k0 t0 ka kb hv o1 o2 hE
        have hn4 := hE.next
        refine ⟨_, rfl, by rw [get_set_other (by omega), get_old (by omega)], ?_, ?_, get_set_same, ?_, by omega⟩
        · rw [get_set_other (by omega), get_old (by omega), hE.get _ (by omega) (by omega)]; exact g13
        · rw [get_set_other (by omega), get_old (by omega), hE.get _ (by omega) (by omega)]; exact g23
        · have : ExtB M2.next m M4 := (ext_extB E3).trans hE
          exact ((extB_ext this (by omega)).trans (Ext.alloc _ _)).set (by omega) _
      have st4 : (M4.alloc z26).get M4.next = z26 := get_new
      cases hpg : pGo s (2 * s.length + 1) .val 0 0 0 with
      | error x =>
        obtain ⟨w, k⟩ := x
        rw [hpg] at k2
        obtain ⟨⟨T, x1⟩, x2, x3, j, many, x4⟩ := k2
        obtain ⟨k0, t0, ka, kb, hv, o1, o2⟩ := x1.ones
        obtain ⟨M5, e5, a1, a2, a3, a4, a5, a6⟩ := lay k0 t0 ka kb hv o1 o2 x2
        subst hv
        simp only [go_sem, reduceIte, Nat.reduceEqDiff, Nat.reduceAdd, st4, o1, o2]
        rw [e5]
        have hT : parseT s = (VT.zero, w, k) := by rw [hpS]; simp [parseS, hpg]
        have hp5 : M5.get M2.next = RP s j many w k := a1.trans x4
        refine rend_no x3 hp5 (fun g5 g6 g7 g8 g9 => ?_)
        simp only [go_sem, reduceIte, Nat.reduceEqDiff, Nat.reduceAdd]
        have := fin M5 j many w k (.ptr M4.next 0) g5 g6 g7 g8 g9 hp5 x3 a2 a3 a5 hT
        simp only [go_sem, reduceIte, Nat.reduceEqDiff, Nat.reduceAdd] at this
        exact this
      | ok x =>
        obtain ⟨T, j, many⟩ := x
        rw [hpg] at k2
        obtain ⟨x1, x2, x4⟩ := k2
        obtain ⟨k0, t0, ka, kb, hv, o1, o2⟩ := x1.ones
        obtain ⟨M5, e5, a1, a2, a3, a4, a5, a6⟩ := lay k0 t0 ka kb hv o1 o2 x2
        have hjl := (pGo_ok hpg (by omega)).2.1
        subst hv
        simp only [go_sem, reduceIte, Nat.reduceEqDiff, Nat.reduceAdd, st4, o1, o2]
        rw [e5]
        have hp5 : M5.get M2.next = RP s j many 0 0 := a1.trans x4
        refine rend_loop hs (runN isBlk (s.drop j)) j M5 _ _ _ _ _ hp5 rfl hjl (fun g5 g6 g7 g8 g9 => ?_)
        by_cases hlt : j + runN isBlk (s.drop j) < s.length
        · rw [if_pos hlt]
          have hT : parseT s = (VT.zero, 3, skipN s j) := by rw [hpS]; simp only [parseS, hpg]; rw [if_pos (show skipN s j < s.length from hlt)]
          simp only [go_sem, reduceIte, Nat.reduceEqDiff, Nat.reduceAdd]
          have := fin (M5.set M2.next (RP s (j + runN isBlk (s.drop j) + 1) many 3 (j + runN isBlk (s.drop j)))) _ many 3 (skipN s j) (.ptr M4.next 0) g5 g6 g7 g8 g9 get_set_same (by decide) (by rw [get_set_other (by omega)]; exact a2) (by rw [get_set_other (by omega)]; exact a3) (a5.set (by omega) _) hT
          simp only [go_sem, reduceIte, Nat.reduceEqDiff, Nat.reduceAdd] at this
          exact this
        · rw [if_neg hlt]
          have hT : parseT s = (T, 0, 0) := by rw [hpS]; simp only [parseS, hpg]; rw [if_neg (show ¬ skipN s j < s.length from hlt)]
          have b1 : (M5.set M2.next (RP s (j + runN isBlk (s.drop j)) many 0 0)).get m.next = z26 := by rw [get_set_other (by omega)]; exact a2
          have b2 : (M5.set M2.next (RP s (j + runN isBlk (s.drop j)) many 0 0)).get (m.next + 1) = zFault := by rw [get_set_other (by omega)]; exact a3
          have b3 : (M5.set M2.next (RP s (j + runN isBlk (s.drop j)) many 0 0)).get M4.next = .cells 26 [.int .i64 k0, .str t0, ka, kb] := by rw [get_set_other (by omega)]; exact a4
          have b4 : (M5.set M2.next (RP s (j + runN isBlk (s.drop j)) many 0 0)).get M2.next = RP s (j + runN isBlk (s.drop j)) many 0 0 := get_set_same
          have b5 : Ext m (M5.set M2.next (RP s (j + runN isBlk (s.drop j)) many 0 0)) := a5.set (by omega) _
          generalize M5.set M2.next (RP s (j + runN isBlk (s.drop j)) many 0 0) = M6 at b1 b2 b3 b4 b5
          have b6 : (M6.set m.next (.cells 26 [.int .i64 k0, .str t0, ka, kb])).get (m.next + 1) = zFault := by rw [get_set_other (by omega)]; exact b2
          have b7 : ((M6.set m.next (.cells 26 [.int .i64 k0, .str t0, ka, kb])).set (m.next + 1) zFault).get m.next = .cells 26 [.int .i64 k0, .str t0, ka, kb] := by rw [get_set_other (by omega)]; exact get_set_same
          simp only [go_sem, reduceIte, Nat.reduceEqDiff, Nat.reduceAdd, q11r12, b4, show ((0 : Int) != 0) = false from rfl, q11r14, b3, b1, o1, o2, b6, b7]
          exact ⟨_, by rw [hT]; rfl, by rw [hT]; exact x1, (b5.set (Nat.le_refl _) _).set (by omega) _⟩
end Go.Proofs.YtinlfdkalijffaaDoor.Am.Q
