/- Part KM3 of a claim's texts, joined: what the claim needs of them. -/
import Derived.Test.YtkjokjogdehonaaGreatDoorKM2
import Derived.Test.YtkjokjogdehonaaGreatDoorKR6
import Derived.Test.YtkjokjogdehonaaGreatDoorKR5
set_option linter.unusedSimpArgs false
set_option linter.unusedVariables false
namespace Go.Proofs.YtkjokjogdehonaaGreatDoor.Am.Q
open Go Go.Proofs Go.Proofs.YtkjokjogdehonaaGreatDoor.Am
theorem le0_31 : ((0 : Int) ≤ 31) = True := by simp
theorem le0_4d : ((0 : Int) ≤ 4) = True := by simp
theorem b241 (c : UInt8) : bOr .i32 (bNot .i32 (IntKind.i32.wrap c.toNat) ((IntKind.i32.wrap (IntKind.i32.wrap ((241 : Nat) : Int) * 2 ^ min (Int.toNat 31) 32)).fdiv (2 ^ min (Int.toNat 31) 32)))
    (bAnd .i32 65533 ((IntKind.i32.wrap (IntKind.i32.wrap ((241 : Nat) : Int) * 2 ^ min (Int.toNat 31) 32)).fdiv (2 ^ min (Int.toNat 31) 32))) = 65533 := by
  have : ((List.range 256).all fun n => bOr .i32 (bNot .i32 (IntKind.i32.wrap (n : Int)) ((IntKind.i32.wrap (IntKind.i32.wrap ((241 : Nat) : Int) * 2 ^ min (Int.toNat 31) 32)).fdiv (2 ^ min (Int.toNat 31) 32)))
    (bAnd .i32 65533 ((IntKind.i32.wrap (IntKind.i32.wrap ((241 : Nat) : Int) * 2 ^ min (Int.toNat 31) 32)).fdiv (2 ^ min (Int.toNat 31) 32))) == 65533) = true := by decide +kernel
  have := List.all_eq_true.1 this c.toNat (List.mem_range.2 c.toNat_lt)
  simpa using this
theorem fx_facts {n : Nat} (hn : n < 256) (h0 : uSize n ≠ 0) (h1 : 128 ≤ n) : fx n < 240 ∧ fx n % 8 = uSize n ∧ t_unicode_utf8_acceptRanges[fx n / 16 * 2]? = some (.int .u8 (uLo n 1)) ∧ t_unicode_utf8_acceptRanges[fx n / 16 * 2 + 1]? = some (.int .u8 (uHi n 1)) := by
  have : ((List.range 256).all fun n => decide (uSize n = 0) || decide (n < 128) || (decide (fx n < 240) && decide (fx n % 8 = uSize n) && avB t_unicode_utf8_acceptRanges[fx n / 16 * 2]? (uLo n 1) && avB t_unicode_utf8_acceptRanges[fx n / 16 * 2 + 1]? (uHi n 1))) = true := by decide +kernel
  have := List.all_eq_true.1 this n (List.mem_range.2 hn)
  simp only [h0, decide_false, Bool.false_or, Bool.or_eq_true, Bool.and_eq_true, decide_eq_true_eq] at this
  rcases this with h | ⟨⟨⟨a, b⟩, c⟩, d⟩
  · omega
  · exact ⟨a, b, avB_eq c, avB_eq d⟩
theorem x7n {n : Nat} (h : n < 256) : IntKind.u8.wrap (((@HAnd.hAnd (BitVec 8) (BitVec 8) (BitVec 8) (@instHAndOfAndOp (BitVec IntKind.u8.bits) (@BitVec.instAndOp IntKind.u8.bits)) (BitVec.ofInt 8 (n : Int)) (BitVec.ofInt 8 7)).toNat : Nat) : Int) = ((n % 8 : Nat) : Int) := by
  have := x7 (UInt8.ofNat n)
  rw [show (UInt8.ofNat n).toNat = n by simp; omega] at this
  exact this
theorem shr4d {n : Nat} : (n : Int).fdiv (2 ^ min (Int.toNat 4) 8) = ((n / 16 : Nat) : Int) := by
  show (n : Int).fdiv ((16 : Nat) : Int) = _
  rw [Int.fdiv_eq_ediv_of_nonneg _ (by omega)]; rfl
theorem fx_lt {c : UInt8} : fx c.toNat < 256 := by unfold fx; repeat (split <;> try omega)
theorem dslow_alone {c : UInt8} {r : List UInt8} (hs : (c :: r).length < 2 ^ 60) (hc : 128 ≤ c.toNat) : ∃ v m', CS 278 [.str (c :: r)] m0 (.ret v) m' ∧ DR (c :: r) v m' := by
  refine call_some (R := DR (c :: r)) xfok mixed q278at q278ok rfl ?_
  have e0 : decide (((c :: r).length : Int) < 1) = false := dF (by simp only [List.length_cons]; omega)
  have i0 : idxSV (.str (c :: r)) (.int .i64 0) = some (byteAV c) := idx_s (n := 0) rfl rfl
  have hb0 : byteAV c = .int .u8 c.toNat := rfl
  have it : idxAddrAV 256 1 (.sptr t_unicode_utf8_first 0) (.int .u8 c.toNat) = some (.sptr t_unicode_utf8_first c.toNat) := by
    have := idx_tab (t := t_unicode_utf8_first) (k := .u8) (i := (c.toNat : Int)) (len := 256) (sz := 1) rfl c.toNat_lt
    rwa [Nat.mul_one] at this
  have fa := fx_at c
  by_cases hsz : uSize c.toNat = 0
  · have hf : fx c.toNat = 241 := by
      unfold uSize at hsz; unfold fx
      split at hsz
      · omega
      · split at hsz
        · omega
        · split at hsz
          · omega
          · split at hsz
            · omega
            · rw [if_neg (by omega), if_neg (by omega), if_neg (by omega), if_neg (by omega), if_neg (by omega), if_neg (by omega), if_neg (by omega), if_neg (by omega)]
    rw [hf] at fa
    have e6 : decide (((241 : Nat) : Int) ≥ 240) = true := dT (by omega)
    simp only [go_sem, reduceIte, Nat.reduceEqDiff, Nat.reduceAdd, q278, q278r0, q278r1, q278r2, e0, q278r4, i0, hb0, q278r5, it, fa, q278r6, e6, q278r7, le0_31, q278r8]
    have hg : goodS c r[0]? r[1]? r[2]? = false := by
      have h1 : ¬ c.toNat < 0x80 := by omega
      unfold uSize at hsz
      rw [if_neg h1] at hsz
      unfold goodS
      rw [if_neg h1]
      split at hsz
      · omega
      · rename_i h2
        rw [if_neg h2]
        split at hsz
        · omega
        · rename_i h3
          rw [if_neg h3]
          split at hsz
          · omega
          · rename_i h4
            rw [if_neg h4]
    have hx : ∀ y : Int, y = 65533 → DR (c :: r) (.tup [.int .i32 y, .int .i64 1]) m0 := fun y hy => by subst hy; exact dr_bad hg m0
    exact hx _ (b241 c)
  · obtain ⟨f1, f2, f3, f4⟩ := fx_facts c.toNat_lt hsz hc
    have e6 : decide (((fx c.toNat : Nat) : Int) ≥ 240) = false := dF (by omega)
    have w1 : IntKind.i64.wrap ((fx c.toNat % 8 : Nat) : Int) = ((uSize c.toNat : Nat) : Int) := by rw [f2, wrap_i64 (by have := uSize_le c.toNat; omega)]
    have it2 : idxAddrAV 16 2 (.sptr t_unicode_utf8_acceptRanges 0) (.int .u8 ((fx c.toNat / 16 : Nat) : Int)) = some (.sptr t_unicode_utf8_acceptRanges (fx c.toNat / 16 * 2)) :=
      idx_tab (k := .u8) rfl (by omega)
    have pt := part_two f3 f4
    simp only [go_sem, reduceIte, Nat.reduceEqDiff, Nat.reduceAdd, q278, q278r0, q278r1, q278r2, e0, q278r4, i0, hb0, q278r5, it, fa, q278r6, e6, q278r9, x7n (n := fx c.toNat) (by omega), w1, q278r10, shr4d, le0_4d, it2, pt, get_new]
    have hu : uSize c.toNat = 2 ∨ uSize c.toNat = 3 ∨ uSize c.toNat = 4 := by
      unfold uSize at hsz ⊢
      split at hsz
      · omega
      · rename_i h1
        rw [if_neg h1]
        split at hsz
        · rename_i h2; rw [if_pos h2]; omega
        · rename_i h2
          rw [if_neg h2]
          split at hsz
          · rename_i h3; rw [if_pos h3]; omega
          · rename_i h3
            rw [if_neg h3]
            split at hsz
            · rename_i h4; rw [if_pos h4]; omega
            · omega
    rw [← wc_start]
    exact dtail (c := c) (r := r) hs (sz := uSize c.toNat) rfl (by omega) rfl rfl get_set_same
end Go.Proofs.YtkjokjogdehonaaGreatDoor.Am.Q
namespace Go.Proofs.YtkjokjogdehonaaGreatDoor.Am.Q
open Go Go.Proofs Go.Proofs.YtkjokjogdehonaaGreatDoor.Am
theorem closed_str {s : List UInt8} : ∀ a ∈ [AV.str s], Closed a := by
  intro a ha
  simp only [List.mem_cons, List.not_mem_nil, or_false] at ha
  subst ha; exact .str
theorem low_next {c : UInt8} {r : List UInt8} (h : c.toNat < 128) : uNext (c :: r) = (true, 1, c.toNat) := by
  have hs : uSize c.toNat = 1 := by unfold uSize; rw [if_pos h]
  have hn : uCnt c.toNat 1 1 r = 1 := uCnt_stop (Nat.le_refl _)
  simp [uNext, hs, hn, uBase, uAcc]
theorem decode_ok {c : UInt8} {r : List UInt8} (hs : (c :: r).length < 2 ^ 60) (m : Mem) : CS 220 [.str (c :: r)] m (.ret (.tup [.int .i32 (uNext (c :: r)).2.2, .int .i64 (dLen (c :: r))])) m := by
  refine call_by xfok mixed q220at q220ok rfl ?_
  have i0 : idxSV (.str (c :: r)) (.int .i64 0) = some (byteAV c) := idx_s (n := 0) rfl rfl
  have hb0 : byteAV c = .int .u8 c.toNat := rfl
  have ne : ((c :: r) == ([] : List UInt8)) = false := rfl
  by_cases hc : c.toNat < 128
  · have e1 : decide ((c.toNat : Int) < 128) = true := dT (by omega)
    have hn := low_next (r := r) hc
    simp only [go_sem, reduceIte, Nat.reduceEqDiff, Nat.reduceAdd, q220, q220r0, q220r1, ne, i0, hb0, e1, q220r2, c8_i32]
    simp [dLen, hn]
  · have e1 : decide ((c.toNat : Int) < 128) = false := dF (by omega)
    obtain ⟨v, m', h1, h2⟩ := dslow_alone hs (by omega)
    unfold DR at h2; subst h2
    have h3 := call_alone gflat h1 closed_str rfl m
    simp only [go_sem, reduceIte, Nat.reduceEqDiff, Nat.reduceAdd, q220, q220r0, q220r1, ne, i0, hb0, e1, q220r3]
    refine callW_ret h3 ?_
    simp only [go_sem, reduceIte, Nat.reduceEqDiff, Nat.reduceAdd]
def nf (c : UInt8) (q : List UInt8) : Bool := decide (q.length + 1 < uSize c.toNat) && ((match q[0]? with | some b => uGood c.toNat 1 b.toNat | none => true) && (match q[1]? with | some b => uGood c.toNat 2 b.toNat | none => true))
theorem fx_mod (n : Nat) (hn : n < 256) : fx n % 8 = if uSize n = 0 then 1 else if uSize n = 1 then 0 else uSize n := by
  have : ((List.range 256).all fun n => decide (fx n % 8 = if uSize n = 0 then 1 else if uSize n = 1 then 0 else uSize n)) = true := by decide +kernel
  exact of_decide_eq_true (List.all_eq_true.1 this n (List.mem_range.2 hn))
def FB (c : UInt8) (q : List UInt8) (v : AV) (_ : Mem) : Prop := v = .bool (!nf c q)
theorem good2 {c b : Nat} : uGood c 2 b = (decide (128 ≤ b) && decide (b ≤ 191)) := by simp only [uGood, lo2, hi2]
theorem full_alone {c : UInt8} {q : List UInt8} (hs : (c :: q).length < 2 ^ 60) : ∃ v m', CS 279 [.str (c :: q)] m0 (.ret v) m' ∧ FB c q v m' := by
  refine call_some (R := FB c q) xfok mixed q279at q279ok rfl ?_
  have hlen : (c :: q).length = q.length + 1 := rfl
  have e0 : (((c :: q).length : Int) == 0) = false := bqF (by omega)
  have i0 : idxSV (.str (c :: q)) (.int .i64 0) = some (byteAV c) := idx_s (n := 0) rfl rfl
  have hb0 : byteAV c = .int .u8 c.toNat := rfl
  have it : idxAddrAV 256 1 (.sptr t_unicode_utf8_first 0) (.int .u8 c.toNat) = some (.sptr t_unicode_utf8_first c.toNat) := by
    have := idx_tab (t := t_unicode_utf8_first) (k := .u8) (i := (c.toNat : Int)) (len := 256) (sz := 1) rfl c.toNat_lt
    rwa [Nat.mul_one] at this
  have fa := fx_at c
  have hfm := fx_mod c.toNat c.toNat_lt
  have h8 : fx c.toNat % 8 < 8 := Nat.mod_lt _ (by omega)
  have w1 : IntKind.i64.wrap ((fx c.toNat % 8 : Nat) : Int) = ((fx c.toNat % 8 : Nat) : Int) := wrap_i64 (by omega)
  by_cases hfull : fx c.toNat % 8 ≤ (c :: q).length
  · have e1 : decide (((c :: q).length : Int) ≥ ((fx c.toNat % 8 : Nat) : Int)) = true := dT (by omega)
    simp only [go_sem, reduceIte, Nat.reduceEqDiff, Nat.reduceAdd, q279, q279r0, q279r1, q279r2, e0, q279r4, i0, hb0, it, fa, q279r5, x7n (n := fx c.toNat) fx_lt, w1, e1, q279r6]
    unfold FB nf
    have : ¬ q.length + 1 < uSize c.toNat := by
      rw [hfm] at hfull
      split at hfull
      · omega
      · split at hfull <;> omega
    rw [dF this]; rfl
  · have e1 : decide (((c :: q).length : Int) ≥ ((fx c.toNat % 8 : Nat) : Int)) = false := dF (by omega)
    have hsz : uSize c.toNat ≠ 0 := by
      intro h; rw [hfm, if_pos h] at hfull; omega
    have hs1 : uSize c.toNat ≠ 1 := by
      intro h; rw [hfm, if_neg hsz, if_pos h] at hfull; omega
    have hc : 128 ≤ c.toNat := by
      rcases Nat.lt_or_ge c.toNat 128 with h | h
      · exfalso; apply hs1; unfold uSize; rw [if_pos h]
      · exact h
    have hlt : q.length + 1 < uSize c.toNat := by rw [hfm, if_neg hsz, if_neg hs1] at hfull; omega
    obtain ⟨f1, f2, f3, f4⟩ := fx_facts c.toNat_lt hsz hc
    have it2 : idxAddrAV 16 2 (.sptr t_unicode_utf8_acceptRanges 0) (.int .u8 ((fx c.toNat / 16 : Nat) : Int)) = some (.sptr t_unicode_utf8_acceptRanges (fx c.toNat / 16 * 2)) :=
      idx_tab (k := .u8) rfl (by omega)
    have pt := part_two f3 f4
    have g0 : ((m0.alloc (.cells 340 [.int .u8 0, .int .u8 0])).set m0.next (.cells 340 [.int .u8 (uLo c.toNat 1), .int .u8 (uHi c.toNat 1)])).get m0.next = .cells 340 [.int .u8 (uLo c.toNat 1), .int .u8 (uHi c.toNat 1)] := get_set_same
    cases q with
    | nil =>
      have e2 : decide (((([c] : List UInt8).length : Nat) : Int) > 1) = false := dF (by simp)
      have e3 : decide (((([c] : List UInt8).length : Nat) : Int) > 2) = false := dF (by simp)
      simp only [go_sem, reduceIte, Nat.reduceEqDiff, Nat.reduceAdd, q279, q279r0, q279r1, q279r2, e0, q279r4, i0, hb0, it, fa, q279r5, x7n (n := fx c.toNat) fx_lt, w1, e1, q279r7, shr4d, le0_4d, it2, pt, get_new, q279r8, e2, q279r10, e3, q279r12]
      unfold FB nf; rw [dT hlt]; rfl
    | cons b1 q =>
      have e2 : decide ((((c :: b1 :: q).length : Nat) : Int) > 1) = true := dT (by simp only [List.length_cons]; omega)
      have i1 : idxSV (.str (c :: b1 :: q)) (.int .i64 1) = some (byteAV b1) := idx_s (n := 1) rfl rfl
      have hb1 : byteAV b1 = .int .u8 b1.toNat := rfl
      by_cases hl : uLo c.toNat 1 ≤ b1.toNat
      rotate_left
      · have e4 : decide ((b1.toNat : Int) < (uLo c.toNat 1 : Int)) = true := dT (by omega)
        simp only [go_sem, reduceIte, Nat.reduceEqDiff, Nat.reduceAdd, q279, q279r0, q279r1, q279r2, e0, q279r4, i0, hb0, it, fa, q279r5, x7n (n := fx c.toNat) fx_lt, w1, e1, q279r7, shr4d, le0_4d, it2, pt, get_new, q279r8, e2, i1, hb1, e4, q279r9]
        unfold FB nf
        rw [show (b1 :: q)[0]? = some b1 from rfl]
        simp only [uGood]
        rw [dF hl]; simp
      have e4 : decide ((b1.toNat : Int) < (uLo c.toNat 1 : Int)) = false := dF (by omega)
      by_cases hh : b1.toNat ≤ uHi c.toNat 1
      rotate_left
      · have e5 : decide ((uHi c.toNat 1 : Int) < (b1.toNat : Int)) = true := dT (by omega)
        simp only [go_sem, reduceIte, Nat.reduceEqDiff, Nat.reduceAdd, q279, q279r0, q279r1, q279r2, e0, q279r4, i0, hb0, it, fa, q279r5, x7n (n := fx c.toNat) fx_lt, w1, e1, q279r7, shr4d, le0_4d, it2, pt, get_new, q279r8, e2, i1, hb1, e4, e5, q279r9]
        unfold FB nf
        rw [show (b1 :: q)[0]? = some b1 from rfl]
        simp only [uGood]
        rw [dF hh]; simp
      have e5 : decide ((uHi c.toNat 1 : Int) < (b1.toNat : Int)) = false := dF (by omega)
      have hg1 : uGood c.toNat 1 b1.toNat = true := by simp only [uGood]; rw [dT hl, dT hh]; rfl
      cases q with
      | nil =>
        have e3 : decide (((([c, b1] : List UInt8).length : Nat) : Int) > 2) = false := dF (by simp)
        simp only [go_sem, reduceIte, Nat.reduceEqDiff, Nat.reduceAdd, q279, q279r0, q279r1, q279r2, e0, q279r4, i0, hb0, it, fa, q279r5, x7n (n := fx c.toNat) fx_lt, w1, e1, q279r7, shr4d, le0_4d, it2, pt, get_new, q279r8, e2, i1, hb1, e4, e5, q279r10, e3, q279r12]
        unfold FB nf
        rw [dT hlt, show ([b1] : List UInt8)[0]? = some b1 from rfl, show ([b1] : List UInt8)[1]? = none from rfl]
        simp [hg1]
      | cons b2 q =>
        have e3 : decide ((((c :: b1 :: b2 :: q).length : Nat) : Int) > 2) = true := dT (by simp only [List.length_cons]; omega)
        have i2 : idxSV (.str (c :: b1 :: b2 :: q)) (.int .i64 2) = some (byteAV b2) := idx_s (n := 2) rfl rfl
        have hb2 : byteAV b2 = .int .u8 b2.toNat := rfl
        by_cases hl2 : 128 ≤ b2.toNat
        rotate_left
        · have e6 : decide ((b2.toNat : Int) < 128) = true := dT (by omega)
          simp only [go_sem, reduceIte, Nat.reduceEqDiff, Nat.reduceAdd, q279, q279r0, q279r1, q279r2, e0, q279r4, i0, hb0, it, fa, q279r5, x7n (n := fx c.toNat) fx_lt, w1, e1, q279r7, shr4d, le0_4d, it2, pt, get_new, q279r8, e2, i1, hb1, e4, e5, q279r10, e3, i2, hb2, e6, q279r11]
          unfold FB nf
          rw [show (b1 :: b2 :: q)[1]? = some b2 from rfl]
          simp only [good2]
          rw [dF hl2]; simp
        have e6 : decide ((b2.toNat : Int) < 128) = false := dF (by omega)
        by_cases hh2 : b2.toNat ≤ 191
        rotate_left
        · have e7 : decide ((191 : Int) < (b2.toNat : Int)) = true := dT (by omega)
          simp only [go_sem, reduceIte, Nat.reduceEqDiff, Nat.reduceAdd, q279, q279r0, q279r1, q279r2, e0, q279r4, i0, hb0, it, fa, q279r5, x7n (n := fx c.toNat) fx_lt, w1, e1, q279r7, shr4d, le0_4d, it2, pt, get_new, q279r8, e2, i1, hb1, e4, e5, q279r10, e3, i2, hb2, e6, e7, q279r11]
          unfold FB nf
          rw [show (b1 :: b2 :: q)[1]? = some b2 from rfl]
          simp only [good2]
          rw [dF hh2]; simp
        have e7 : decide ((191 : Int) < (b2.toNat : Int)) = false := dF (by omega)
        simp only [go_sem, reduceIte, Nat.reduceEqDiff, Nat.reduceAdd, q279, q279r0, q279r1, q279r2, e0, q279r4, i0, hb0, it, fa, q279r5, x7n (n := fx c.toNat) fx_lt, w1, e1, q279r7, shr4d, le0_4d, it2, pt, get_new, q279r8, e2, i1, hb1, e4, e5, q279r10, e3, i2, hb2, e6, e7, q279r12]
        unfold FB nf
        rw [dT hlt, show (b1 :: b2 :: q)[0]? = some b1 from rfl, show (b1 :: b2 :: q)[1]? = some b2 from rfl]
        simp [hg1, good2, hl2, hh2]
theorem full_ok {c : UInt8} {q : List UInt8} (hs : (c :: q).length < 2 ^ 60) (m : Mem) : CS 279 [.str (c :: q)] m (.ret (.bool (!nf c q))) m := by
  obtain ⟨v, m', h1, h2⟩ := full_alone hs
  unfold FB at h2; subst h2
  exact call_alone gflat h1 closed_str rfl m
end Go.Proofs.YtkjokjogdehonaaGreatDoor.Am.Q
namespace Go.Proofs.YtkjokjogdehonaaGreatDoor.Am.Q
open Go Go.Proofs Go.Proofs.YtkjokjogdehonaaGreatDoor.Am
def pF (c : UInt8) (r : List UInt8) (lim : Nat) : Nat → Nat → Nat → Nat
  | 0, _, n => n
  | f + 1, k, n => if k < lim then pF c r lim f (k + 1) (if nf c (r.take (k - 1)) = true then k else n) else n
theorem part_loop {c : UInt8} {r : List UInt8} (hs : (c :: r).length < 2 ^ 60) {m : Mem} {Q : AExit → List AV → Mem → Prop} {lim : Nat} (hlim : min (c :: r).length 4 + 1 = lim) : ∀ (f k n : Nat) (g4 g5 : AV), lim - k ≤ f → 1 ≤ k → k ≤ lim →
    (∀ i g4 g5, Q (.exit 0) [.str (c :: r), .u, .int .i64 (pF c r lim f k n : Nat), i, g4, g5] m) → wl CS [1, 4, 5] q221l7 Q [.str (c :: r), .u, .int .i64 n, .int .i64 k, g4, g5] m := by
  intro f
  have hmin : minV (.int .i64 ((c :: r).length : Nat)) (.int .i64 4) = some (.int .i64 ((lim - 1 : Nat) : Int)) := by
    rw [min_val]; congr 2; omega
  have hw : IntKind.i64.wrap (((lim - 1 : Nat) : Int) + 1) = (lim : Int) := by rw [wrap_succ (by omega)]; congr 1; omega
  induction f with
  | zero =>
    intro k n g4 g5 h1 h2 h3 hq
    have e1 : decide ((k : Int) < (lim : Int)) = false := dF (by omega)
    refine wl_step ?_
    simp only [go_sem, reduceIte, Nat.reduceEqDiff, Nat.reduceAdd, q221l7, q221r3, hmin, hw, e1]
    exact hq _ _ _
  | succ f ih =>
    intro k n g4 g5 h1 h2 h3 hq
    refine wl_step ?_
    by_cases hk : k < lim
    · have e1 : decide ((k : Int) < (lim : Int)) = true := dT (by omega)
      obtain ⟨j, rfl⟩ : ∃ j, k = j + 1 := ⟨k - 1, by omega⟩
      have hsl : sliceStr (.str (c :: r)) none (some (.int .i64 ((j + 1 : Nat) : Int))) = some (.str (c :: r.take j)) := by
        have := slice_to (s := c :: r) (kk := .i64) (k := j + 1) (by omega)
        rw [List.take_succ_cons] at this; exact this
      have w1 : IntKind.i64.wrap (((j + 1 : Nat) : Int) + 1) = ((j + 1 + 1 : Nat) : Int) := wrap_succ (by omega)
      simp only [go_sem, reduceIte, Nat.reduceEqDiff, Nat.reduceAdd, q221l7, q221r3, hmin, hw, e1, q221r4, hsl]
      refine callW_ret (full_ok (by simp only [List.length_cons, List.length_take] at hs ⊢; omega) m) ?_
      cases hn : nf c (r.take j) with
      | true =>
        simp only [go_sem, reduceIte, Nat.reduceEqDiff, Nat.reduceAdd, q221r5, q221r6, w1]
        refine ih (j + 1 + 1) (j + 1) _ _ (by omega) (by omega) (by omega) (fun i g4 g5 => ?_)
        have := hq i g4 g5
        simp only [pF, if_pos hk, Nat.add_sub_cancel, hn, if_true] at this
        exact this
      | false =>
        simp only [go_sem, reduceIte, Nat.reduceEqDiff, Nat.reduceAdd, q221r6, w1]
        refine ih (j + 1 + 1) n _ _ (by omega) (by omega) (by omega) (fun i g4 g5 => ?_)
        have := hq i g4 g5
        simp only [pF, if_pos hk, Nat.add_sub_cancel, hn, Bool.false_eq_true, if_false] at this
        exact this
    · have e1 : decide ((k : Int) < (lim : Int)) = false := dF (by omega)
      simp only [go_sem, reduceIte, Nat.reduceEqDiff, Nat.reduceAdd, q221l7, q221r3, hmin, hw, e1]
      have := hq
      simp only [pF, if_neg hk] at this
      exact this _ _ _
theorem uNext_bad {c : UInt8} {r : List UInt8} (h : (uNext (c :: r)).1 = false) : (uNext (c :: r)).2.1 = if uSize c.toNat = 0 then 1 else uCnt c.toNat (uSize c.toNat) 1 r := by
  have e : uNext (c :: r) = if uSize c.toNat = 0 then (false, 1, 65533) else if uCnt c.toNat (uSize c.toNat) 1 r < uSize c.toNat then (false, uCnt c.toNat (uSize c.toNat) 1 r, 65533) else
      (true, uSize c.toNat, uAcc (c.toNat - uBase (uSize c.toNat)) (r.take (uSize c.toNat - 1))) := rfl
  rw [e] at h ⊢
  by_cases h1 : uSize c.toNat = 0
  · rw [if_pos h1, if_pos h1]
  · rw [if_neg h1] at h
    rw [if_neg h1, if_neg h1]
    by_cases h2 : uCnt c.toNat (uSize c.toNat) 1 r < uSize c.toNat
    · rw [if_pos h2]
    · rw [if_neg h2] at h; cases h
theorem part_plain {c : UInt8} {r : List UInt8} (h : (uNext (c :: r)).1 = false) : pF c r (min (c :: r).length 4 + 1) 5 1 1 = (uNext (c :: r)).2.1 := by
  rw [uNext_bad h]
  have hg : goodS c r[0]? r[1]? r[2]? = false := by rw [← (next_good (c := c) (r := r)).1]; exact h
  have h4 := uSize_le c.toNat
  have h1 : uSize c.toNat ≠ 1 := by
    intro h1
    have : c.toNat < 0x80 := by
      unfold uSize at h1
      split at h1
      · assumption
      · split at h1
        · omega
        · split at h1
          · omega
          · split at h1 <;> omega
    unfold goodS at hg
    rw [if_pos this] at hg; cases hg
  have hu : uSize c.toNat = 0 ∨ uSize c.toNat = 2 ∨ uSize c.toNat = 3 ∨ uSize c.toNat = 4 := by omega
  match r with
  | [] => rcases hu with e | e | e | e <;> simp [pF, nf, e, uCnt]
  | [a] =>
    rcases hu with e | e | e | e
    · simp [pF, nf, e, uCnt]
    · rw [goodS2 e] at hg
      have : uGood c.toNat 1 a.toNat = false := hg
      simp [pF, nf, e, uCnt, this]
    · cases ha : uGood c.toNat 1 a.toNat <;> simp [pF, nf, e, uCnt, ha]
    · cases ha : uGood c.toNat 1 a.toNat <;> simp [pF, nf, e, uCnt, ha]
  | [a, b] =>
    rcases hu with e | e | e | e
    · simp [pF, nf, e, uCnt]
    · rw [goodS2 e] at hg
      have : uGood c.toNat 1 a.toNat = false := hg
      simp [pF, nf, e, uCnt, this]
    · rw [goodS3 e] at hg
      have hg' : (uGood c.toNat 1 a.toNat && uGood c.toNat 2 b.toNat) = false := hg
      cases ha : uGood c.toNat 1 a.toNat
      · simp [pF, nf, e, uCnt, ha]
      · rw [ha, Bool.true_and] at hg'
        simp [pF, nf, e, uCnt, ha, hg']
    · cases ha : uGood c.toNat 1 a.toNat <;> cases hb : uGood c.toNat 2 b.toNat <;> simp [pF, nf, e, uCnt, ha, hb]
  | a :: b :: d :: r =>
    have hl : min (c :: a :: b :: d :: r).length 4 = 4 := by simp only [List.length_cons]; omega
    rw [hl]
    rcases hu with e | e | e | e
    · simp [pF, nf, e, uCnt]
    · rw [goodS2 e] at hg
      have : uGood c.toNat 1 a.toNat = false := hg
      simp [pF, nf, e, uCnt, this]
    · rw [goodS3 e] at hg
      have hg' : (uGood c.toNat 1 a.toNat && uGood c.toNat 2 b.toNat) = false := hg
      cases ha : uGood c.toNat 1 a.toNat
      · simp [pF, nf, e, uCnt, ha]
      · rw [ha, Bool.true_and] at hg'
        simp [pF, nf, e, uCnt, ha, hg']
    · rw [goodS4 e] at hg
      have hg' : (uGood c.toNat 1 a.toNat && uGood c.toNat 2 b.toNat && uGood c.toNat 3 d.toNat) = false := hg
      cases ha : uGood c.toNat 1 a.toNat
      · simp [pF, nf, e, uCnt, ha]
      · cases hb : uGood c.toNat 2 b.toNat
        · simp [pF, nf, e, uCnt, ha, hb]
        · rw [ha, hb, Bool.true_and, Bool.true_and] at hg'
          simp [pF, nf, e, uCnt, ha, hb, hg']
theorem part_ok {c : UInt8} {r : List UInt8} (hs : (c :: r).length < 2 ^ 60) (h : (uNext (c :: r)).1 = false) (m : Mem) : CS 221 [.str (c :: r)] m (.ret (.int .i64 (uNext (c :: r)).2.1)) m := by
  refine call_by xfok mixed q221at q221ok rfl ?_
  simp only [go_sem, reduceIte, Nat.reduceEqDiff, Nat.reduceAdd, q221, q221r0, q221r1, q221r2]
  refine part_loop hs rfl 5 1 1 _ _ (by omega) (by omega) (by omega) (fun i g4 g5 => ?_)
  simp only [go_sem, reduceIte, Nat.reduceEqDiff, Nat.reduceAdd, q221r8, part_plain h]
theorem unext_ok {c : UInt8} {r : List UInt8} (hs : (c :: r).length < 2 ^ 60) (m : Mem) : CS 142 [.str (c :: r)] m (.ret (.tup [.int .i32 (uNext (c :: r)).2.2, .int .i64 (uNext (c :: r)).2.1, .int .i64 (errU (c :: r))])) m := by
  refine call_by xfok mixed q142at q142ok rfl ?_
  have ne : ((c :: r) == ([] : List UInt8)) = false := rfl
  simp only [go_sem, reduceIte, Nat.reduceEqDiff, Nat.reduceAdd, q142, q142r0, q142r1, ne, q142r3]
  refine callW_ret (decode_ok hs m) ?_
  cases h : (uNext (c :: r)).1 with
  | false =>
    obtain ⟨h1, h2⟩ := bad_sign (s := c :: r) rfl h
    have e1 : (((65533 : Nat) : Int) == 65533) = true := rfl
    have e2 : (((1 : Nat) : Int) == 1) = true := rfl
    have he : errU (c :: r) = 9 := by unfold errU; rw [if_neg (by rw [h]; decide)]
    simp only [go_sem, reduceIte, Nat.reduceEqDiff, Nat.reduceAdd, h1, h2, q142r4, e1, e2, q142r5]
    refine callW_ret (part_ok hs h m) ?_
    simp only [go_sem, reduceIte, Nat.reduceEqDiff, Nat.reduceAdd, he]
    rfl
  | true =>
    have he : errU (c :: r) = 0 := by unfold errU; rw [if_pos h]
    have hd : dLen (c :: r) = (uNext (c :: r)).2.1 := by unfold dLen; rw [if_pos h]
    by_cases hx : (uNext (c :: r)).2.2 = 65533
    · have e1 : (((uNext (c :: r)).2.2 : Int) == 65533) = true := bqT (by omega)
      have e2 : (((uNext (c :: r)).2.1 : Int) == 1) = false := by
        refine bqF fun h1 => ?_
        have hp := next_put h
        rw [hx, show (uNext (c :: r)).2.1 = 1 by omega] at hp
        have := congrArg List.length hp
        rw [show (putN ((65533 : Nat) : Int)).length = 3 by rw [put3 (n := 65533) (valid_iff.2 (by omega)) (by omega) (by omega) (by omega)]; rfl] at this
        simp at this
      simp only [go_sem, reduceIte, Nat.reduceEqDiff, Nat.reduceAdd, hd, q142r4, e1, e2, q142r6, he]
      rfl
    · have e1 : (((uNext (c :: r)).2.2 : Int) == 65533) = false := bqF (by omega)
      simp only [go_sem, reduceIte, Nat.reduceEqDiff, Nat.reduceAdd, hd, q142r4, e1, q142r6, he]
      rfl
end Go.Proofs.YtkjokjogdehonaaGreatDoor.Am.Q
namespace Go.Proofs.YtkjokjogdehonaaGreatDoor.Am.Q
open Go Go.Proofs Go.Proofs.YtkjokjogdehonaaGreatDoor.Am
theorem elems_sl {o : Own} {z : Nat} {xs : List AV} : elems (.sl o z xs) = some xs := rfl
theorem put_small (n : Int) : (putN n).length < 2 ^ 43 := by have := (putN_len n).2; omega
theorem rrep_loop {Q : AExit → List AV → Mem → Prop} : ∀ (n : Nat) {s acc : List UInt8} {out : AV} {m : Mem} {g3 g4 g5 : AV}, s.length ≤ n → 4 * s.length + acc.length < 2 ^ 42 → Mine m0 m 5 1 out (bytesAV acc) →
    (∀ out' m' g3 g4 g5, Mine m0 m' 5 1 out' (bytesAV (acc ++ repS s)) → Q (.exit 0) [.str [], .u, out', g3, g4, g5] m') → wl CS [1, 3, 4, 5] q18l6 Q [.str s, .u, out, g3, g4, g5] m := by
  intro n
  induction n with
  | zero =>
    intro s acc out m g3 g4 g5 hn hs hM hq
    obtain rfl : s = [] := List.eq_nil_of_length_eq_zero (by omega)
    have e1 : decide (((([] : List UInt8).length : Nat) : Int) > 0) = false := by decide
    refine wl_step ?_
    simp only [go_sem, reduceIte, Nat.reduceEqDiff, Nat.reduceAdd, q18l6, q18r2, e1]
    exact hq _ _ _ _ _ (by rw [repS_nil, List.append_nil]; exact hM)
  | succ n ih =>
    intro s acc out m g3 g4 g5 hn hs hM hq
    refine wl_step ?_
    cases s with
    | nil =>
      have e1 : decide (((([] : List UInt8).length : Nat) : Int) > 0) = false := by decide
      simp only [go_sem, reduceIte, Nat.reduceEqDiff, Nat.reduceAdd, q18l6, q18r2, e1]
      exact hq _ _ _ _ _ (by rw [repS_nil, List.append_nil]; exact hM)
    | cons c r =>
      have hl : (c :: r).length = r.length + 1 := rfl
      have e1 : decide ((((c :: r).length : Nat) : Int) > 0) = true := dT (by omega)
      obtain ⟨p1, p2⟩ := uNext_pos (c := c) (r := r)
      have hp := (putN_len ((uNext (c :: r)).2.2 : Nat)).2
      obtain ⟨v, m', a1, A⟩ := mine_app hM (Nat.zero_le _) (by omega) (l := putN ((uNext (c :: r)).2.2 : Nat)) (put_small _)
      have hsl := slice_from (s := c :: r) (kk := .i64) (k := (uNext (c :: r)).2.1) p2
      simp only [go_sem, reduceIte, Nat.reduceEqDiff, Nat.reduceAdd, q18l6, q18r2, e1, q18r3]
      refine callW_ret (rNext_ok (by omega) m) ?_
      simp only [go_sem, reduceIte, Nat.reduceEqDiff, Nat.reduceAdd, q18r4]
      refine callW_ret (one_ok _ m) ?_
      simp only [go_sem, reduceIte, Nat.reduceEqDiff, Nat.reduceAdd, elems_sl, a1, q18r5, hsl]
      refine ih (by rw [List.length_drop]; omega) (by rw [List.length_drop, List.length_append]; omega) A.mine (fun out' m' g3 g4 g5 hM' => ?_)
      refine hq _ _ _ _ _ ?_
      rw [repS_cons, ← List.append_assoc]; exact hM'
theorem rrepair_ok {s : List UInt8} (hs : s.length < 2 ^ 40) (m : Mem) : CS 18 [.str s] m (.ret (.str (repS s))) m := by
  have key : ∃ r m', CS 18 [.str s] m0 (.ret r) m' ∧ r = .str (repS s) := by
    refine call_some (R := fun r _ => r = .str (repS s)) xfok mixed q18at q18ok rfl ?_
    simp only [go_sem, reduceIte, Nat.reduceEqDiff, Nat.reduceAdd, q18, q18r0, q18r1]
    refine rrep_loop s.length (acc := []) (Nat.le_refl _) (by simp; omega) Mine.nil (fun out' m' g3 g4 g5 hM => ?_)
    have hst := str_of hM.sl
    simp only [go_sem, reduceIte, Nat.reduceEqDiff, Nat.reduceAdd, q18r7, hst]
  obtain ⟨r, m', h, rfl⟩ := key
  exact call_alone gflat h closed_str rfl m
theorem sign_valid {c : UInt8} {r : List UInt8} : Utf8.valid (((uNext (c :: r)).2.2 : Nat) : Int) = true := by
  cases h : (uNext (c :: r)).1 with
  | false => rw [(bad_sign (s := c :: r) rfl h).1]; decide
  | true =>
    have hg : goodS c r[0]? r[1]? r[2]? = true := by rw [← (next_good (c := c) (r := r)).1]; exact h
    rw [(good_sign h).1]
    refine valid_iff.2 ?_
    have h4 := uSize_le c.toNat
    by_cases h1 : c.toNat < 0x80
    · rw [show uSize c.toNat = 1 by unfold uSize; rw [if_pos h1]]
      simp [uAcc, uBase]; omega
    have hu : uSize c.toNat = 2 ∨ uSize c.toNat = 3 ∨ uSize c.toNat = 4 := by
      unfold goodS at hg
      rw [if_neg h1] at hg
      unfold uSize
      rw [if_neg h1]
      split at hg
      · rename_i k; rw [if_pos k]; omega
      · rename_i k
        rw [if_neg k]
        split at hg
        · rename_i k; rw [if_pos k]; omega
        · rename_i k
          rw [if_neg k]
          split at hg
          · rename_i k; rw [if_pos k]; omega
          · cases hg
    rcases hu with e | e | e
    · rw [goodS2 e] at hg
      obtain ⟨a, ha, a1, a2⟩ := goodO_some hg
      have := size2.1 e
      have := uLo_ge c.toNat 1
      have := uHi_le c.toNat 1
      cases r with
      | nil => cases ha
      | cons x r =>
        obtain rfl : x = a := by simpa using ha
        rw [e]; simp [uAcc, uBase]; omega
    · rw [goodS3 e, Bool.and_eq_true] at hg
      obtain ⟨a, ha, a1, a2⟩ := goodO_some hg.1
      obtain ⟨b, hb, b1, b2⟩ := goodO_some hg.2
      rw [lo1] at a1; rw [hi1] at a2; rw [lo2] at b1; rw [hi2] at b2
      have := size3.1 e
      match r, ha, hb with
      | x :: y :: r, ha, hb =>
        obtain rfl : x = a := by simpa using ha
        obtain rfl : y = b := by simpa using hb
        rw [e]
        have k1 : 128 ≤ x.toNat ∧ x.toNat ≤ 191 ∧ (c.toNat = 224 → 160 ≤ x.toNat) ∧ (c.toNat = 237 → x.toNat ≤ 159) := by
          refine ⟨?_, ?_, ?_, ?_⟩
          · split at a1
            · omega
            · split at a1 <;> omega
          · split at a2
            · omega
            · split at a2 <;> omega
          · intro hc; rw [if_pos hc] at a1; exact a1
          · intro hc; rw [if_pos hc] at a2; exact a2
        simp [uAcc, uBase]; omega
      | [x], ha, hb => cases hb
      | [], ha, hb => cases ha
    · rw [goodS4 e, Bool.and_eq_true, Bool.and_eq_true] at hg
      obtain ⟨a, ha, a1, a2⟩ := goodO_some hg.1.1
      obtain ⟨b, hb, b1, b2⟩ := goodO_some hg.1.2
      obtain ⟨d, hd, d1, d2⟩ := goodO_some hg.2
      rw [lo1] at a1; rw [hi1] at a2; rw [lo2] at b1; rw [hi2] at b2; rw [lo3] at d1; rw [hi3] at d2
      have := size4.1 e
      match r, ha, hb, hd with
      | x :: y :: z :: r, ha, hb, hd =>
        obtain rfl : x = a := by simpa using ha
        obtain rfl : y = b := by simpa using hb
        obtain rfl : z = d := by simpa using hd
        rw [e]
        have k1 : 128 ≤ x.toNat ∧ x.toNat ≤ 191 ∧ (c.toNat = 240 → 144 ≤ x.toNat) ∧ (c.toNat = 244 → x.toNat ≤ 143) := by
          refine ⟨?_, ?_, ?_, ?_⟩
          · split at a1
            · omega
            · split at a1 <;> omega
          · split at a2
            · omega
            · split at a2 <;> omega
          · intro hc; rw [if_neg (by omega), if_pos hc] at a1; exact a1
          · intro hc; rw [if_neg (by omega), if_pos hc] at a2; exact a2
        simp [uAcc, uBase]; omega
      | [x, y], ha, hb, hd => cases hd
      | [x], ha, hb, hd => cases hb
      | [], ha, hb, hd => cases ha
theorem prep_loop {Q : AExit → List AV → Mem → Prop} : ∀ (n : Nat) {s acc : List UInt8} {out : AV} {m : Mem} {g3 g4 g5 g6 : AV}, s.length ≤ n → 4 * s.length + acc.length < 2 ^ 41 → Mine m0 m 5 1 out (bytesAV acc) →
    (∀ out' m' g3 g4 g5 g6, Mine m0 m' 5 1 out' (bytesAV (acc ++ repS s)) → Q (.exit 0) [.str [], .u, out', g3, g4, g5, g6] m') → wl CS [1, 3, 4, 5, 6] q63l8 Q [.str s, .u, out, g3, g4, g5, g6] m := by
  intro n
  induction n with
  | zero =>
    intro s acc out m g3 g4 g5 g6 hn hs hM hq
    obtain rfl : s = [] := List.eq_nil_of_length_eq_zero (by omega)
    have e1 : (([] : List UInt8) == []) = true := rfl
    refine wl_step ?_
    simp only [go_sem, reduceIte, Nat.reduceEqDiff, Nat.reduceAdd, q63l8, q63r4, e1]
    exact hq _ _ _ _ _ _ (by rw [repS_nil, List.append_nil]; exact hM)
  | succ n ih =>
    intro s acc out m g3 g4 g5 g6 hn hs hM hq
    refine wl_step ?_
    cases s with
    | nil =>
      have e1 : (([] : List UInt8) == []) = true := rfl
      simp only [go_sem, reduceIte, Nat.reduceEqDiff, Nat.reduceAdd, q63l8, q63r4, e1]
      exact hq _ _ _ _ _ _ (by rw [repS_nil, List.append_nil]; exact hM)
    | cons c r =>
      have hl : (c :: r).length = r.length + 1 := rfl
      have e1 : ((c :: r) == ([] : List UInt8)) = false := rfl
      obtain ⟨p1, p2⟩ := uNext_pos (c := c) (r := r)
      have hp := (putN_len ((uNext (c :: r)).2.2 : Nat)).2
      obtain ⟨v, m', k1, A⟩ := rune_ok hM (Nat.zero_le _) (by omega) (sign_valid (c := c) (r := r))
      have hsl := slice_from (s := c :: r) (kk := .i64) (k := (uNext (c :: r)).2.1) p2
      simp only [go_sem, reduceIte, Nat.reduceEqDiff, Nat.reduceAdd, q63l8, q63r4, e1, q63r5]
      refine callW_ret (unext_ok (by omega) m) ?_
      simp only [go_sem, reduceIte, Nat.reduceEqDiff, Nat.reduceAdd, q63r6]
      refine callW_ret k1 ?_
      simp only [go_sem, reduceIte, Nat.reduceEqDiff, Nat.reduceAdd, q63r7, hsl]
      refine ih (by rw [List.length_drop]; omega) (by rw [List.length_drop, List.length_append]; omega) A.mine (fun out' m' g3 g4 g5 g6 hM' => ?_)
      refine hq _ _ _ _ _ _ ?_
      rw [repS_cons, ← List.append_assoc]; exact hM'
theorem prepair_ok {s : List UInt8} (hs : s.length < 2 ^ 38) (m : Mem) : CS 63 [.str s] m (.ret (.str (repS s))) m := by
  have key : ∃ r m', CS 63 [.str s] m0 (.ret r) m' ∧ r = .str (repS s) := by
    refine call_some (R := fun r _ => r = .str (repS s)) xfok mixed q63at q63ok rfl ?_
    obtain ⟨v, m1, k1, rfl, x1⟩ := ptext_ok (s := s) (by omega) m0
    simp only [go_sem, reduceIte, Nat.reduceEqDiff, Nat.reduceAdd, q63, q63r0, q63r1]
    refine callW_ret k1 ?_
    cases ht : isT s with
    | true =>
      simp only [go_sem, reduceIte, Nat.reduceEqDiff, Nat.reduceAdd, q63r2]
      rw [rep_text _ (Nat.le_refl _) ht]
    | false =>
      simp only [go_sem, reduceIte, Nat.reduceEqDiff, Nat.reduceAdd, q63r3]
      refine prep_loop s.length (acc := []) (Nat.le_refl _) (by simp; omega) Mine.nil (fun out' m' g3 g4 g5 g6 hM => ?_)
      have hst := str_of hM.sl
      simp only [go_sem, reduceIte, Nat.reduceEqDiff, Nat.reduceAdd, q63r9, hst]
  obtain ⟨r, m', h, rfl⟩ := key
  exact call_alone gflat h closed_str rfl m
end Go.Proofs.YtkjokjogdehonaaGreatDoor.Am.Q
namespace Go.Proofs.YtkjokjogdehonaaGreatDoor.Am.Q
open Go Go.Proofs Go.Proofs.YtkjokjogdehonaaGreatDoor.Am
theorem rep_len : ∀ (n : Nat) {s : List UInt8}, s.length ≤ n → (repS s).length ≤ 4 * s.length
  | 0, s, hn => by
    obtain rfl : s = [] := List.eq_nil_of_length_eq_zero (by omega)
    simp [repS_nil]
  | n + 1, [], _ => by simp [repS_nil]
  | n + 1, c :: r, hn => by
    obtain ⟨p1, p2⟩ := uNext_pos (c := c) (r := r)
    have hp := (putN_len ((uNext (c :: r)).2.2 : Nat)).2
    have ih := rep_len n (s := (c :: r).drop (uNext (c :: r)).2.1) (by rw [List.length_drop]; simp only [List.length_cons] at hn p2 ⊢; omega)
    rw [repS_cons, List.length_append]
    rw [List.length_drop] at ih
    omega
theorem pquote_ok {s : List UInt8} (hs : s.length < 2 ^ 35) (m : Mem) : ∃ v m', CS 14 [.str s] m (.ret v) m' ∧ v = .str (quotS (repS s)) ∧ Ext m m' := by
  refine call_some (R := fun v m' => v = .str (quotS (repS s)) ∧ Ext m m') xfok mixed q14at q14ok rfl ?_
  have := rep_len _ (Nat.le_refl s.length)
  obtain ⟨v, m1, k1, rfl, x1⟩ := pquoted_ok (s := repS s) (by omega) m
  simp only [go_sem, reduceIte, Nat.reduceEqDiff, Nat.reduceAdd, q14, q14r0, q14r1]
  refine callW_ret (prepair_ok (by omega) m) ?_
  simp only [go_sem, reduceIte, Nat.reduceEqDiff, Nat.reduceAdd]
  refine callW_ret k1 ?_
  simp only [go_sem, reduceIte, Nat.reduceEqDiff, Nat.reduceAdd]
  exact x1
theorem rquote_ok {s : List UInt8} (hs : s.length < 2 ^ 35) (m : Mem) : ∃ v m', CS 15 [.str s] m (.ret v) m' ∧ v = .str (quotS (repS s)) ∧ Ext m m' := by
  refine call_some (R := fun v m' => v = .str (quotS (repS s)) ∧ Ext m m') xfok mixed q15at q15ok rfl ?_
  have := rep_len _ (Nat.le_refl s.length)
  obtain ⟨v, m1, k1, rfl, x1⟩ := rquoted_ok (s := repS s) (by omega) m
  simp only [go_sem, reduceIte, Nat.reduceEqDiff, Nat.reduceAdd, q15, q15r0, q15r1]
  refine callW_ret (rrepair_ok (by omega) m) ?_
  simp only [go_sem, reduceIte, Nat.reduceEqDiff, Nat.reduceAdd]
  refine callW_ret k1 ?_
  simp only [go_sem, reduceIte, Nat.reduceEqDiff, Nat.reduceAdd]
  exact x1
theorem pof_ok {s : List UInt8} (hs : s.length < 2 ^ 35) (m : Mem) : ∃ v m', CS 17 [.str s] m (.ret v) m' ∧ v = .agg [.int .i64 4, .str (repS s), .nilSl, .nilSl] ∧ Ext m m' := by
  refine call_some (R := fun v m' => v = .agg [.int .i64 4, .str (repS s), .nilSl, .nilSl] ∧ Ext m m') xfok mixed q17at q17ok rfl ?_
  simp only [go_sem, reduceIte, Nat.reduceEqDiff, Nat.reduceAdd, q17, q17r0, q17r1]
  refine callW_ret (prepair_ok (by omega) _) ?_
  simp only [go_sem, reduceIte, Nat.reduceEqDiff, Nat.reduceAdd, get_new]
  exact (Ext.alloc _ _).set (Nat.le_refl _) _
theorem pints_ok {n : Int} (hn : -(2 ^ 63) ≤ n ∧ n < 2 ^ 63) (m : Mem) : ∃ v m', CS 24 [.int .i64 n] m (.ret v) m' ∧ v = .agg [.int .i64 3, .str (padS n 1), .nilSl, .nilSl] ∧ Ext m m' := by
  refine call_some (R := fun v m' => v = .agg [.int .i64 3, .str (padS n 1), .nilSl, .nilSl] ∧ Ext m m') xfok mixed q24at q24ok rfl ?_
  simp only [go_sem, reduceIte, Nat.reduceEqDiff, Nat.reduceAdd, q24, q24r0, q24r1]
  refine callW_ret (atext_ok hn _) ?_
  simp only [go_sem, reduceIte, Nat.reduceEqDiff, Nat.reduceAdd, get_new]
  exact (Ext.alloc _ _).set (Nat.le_refl _) _
theorem pbools_ok (b : Bool) (m : Mem) : ∃ v m', CS 25 [.bool b] m (.ret v) m' ∧ v = .agg [.int .i64 2, .str (if b = true then tTrue else tFalse), .nilSl, .nilSl] ∧ Ext m m' := by
  refine call_some (R := fun v m' => v = .agg [.int .i64 2, .str (if b = true then tTrue else tFalse), .nilSl, .nilSl] ∧ Ext m m') xfok mixed q25at q25ok rfl ?_
  cases b with
  | true =>
    simp only [go_sem, reduceIte, Nat.reduceEqDiff, Nat.reduceAdd, q25, q25r0, q25r1, q25r2, get_new]
    exact ⟨rfl, (Ext.alloc _ _).set (Nat.le_refl _) _⟩
  | false =>
    simp only [go_sem, reduceIte, Nat.reduceEqDiff, Nat.reduceAdd, q25, q25r0, q25r1, q25r3, get_new]
    exact ⟨rfl, (Ext.alloc _ _).set (Nat.le_refl _) _⟩
def Vals (xs : List AV) (l : List VT) : Prop := xs.length = l.length ∧ ∀ i, i < l.length → IsVal (xs.getD i .u) (l.getD i VT.zero)
theorem vals_good {xs : List AV} {l : List VT} (h : Vals xs l) : xs.all (fun y => y.cells.length == 4 && y.cells.all scal) = true := by
  refine List.all_eq_true.2 fun y hy => ?_
  obtain ⟨i, hi, rfl⟩ := List.mem_iff_getElem.1 hy
  have h1 := h.2 i (by rw [← h.1]; exact hi)
  rw [getD_eq (List.getElem?_eq_getElem hi)] at h1
  obtain ⟨k, t, ka, kb, e, hs⟩ := h1.shape
  rw [e]
  simp only [AV.cells, Bool.and_eq_true]
  exact ⟨rfl, hs⟩
theorem clone_ok {x : AV} {xs : List AV} {l : List VT} (hx : SlOf 4 x xs) (hv : Vals xs l) (hl : l.length < 2 ^ 30) (m : Mem) : ∃ v m', CS 68 [x] m (.ret v) m' ∧ SlOf 4 v xs ∧ Ext m m' := by
  refine call_some (R := fun v m' => SlOf 4 v xs ∧ Ext m m') xfok mixed q68at q68ok rfl ?_
  rcases hx with ⟨rfl, rfl⟩ | ⟨o, rfl⟩
  · have s0 : eqSafeB m .nilSl .nilSl = true := rfl
    have s1 : eqV (.leaf .sli) .nilSl .nilSl = some true := rfl
    simp only [go_sem, reduceIte, Nat.reduceEqDiff, Nat.reduceAdd, q68, q68r0, q68r1, s0, s1, show (true != false) = true from rfl, q68r2]
    exact ⟨.inl ⟨rfl, rfl⟩, Ext.refl m⟩
  · have s0 : eqSafeB m (.sl o 4 xs) .nilSl = true := rfl
    have s1 : eqV (.leaf .sli) (.sl o 4 xs) .nilSl = some false := rfl
    have hlen : xs.length = l.length := hv.1
    by_cases hxs : xs = []
    · have ha : appendV m 27 4 72 (.sl .full 4 []) xs = some (.sl .full 4 [], m) := by subst hxs; rfl
      simp only [go_sem, reduceIte, Nat.reduceEqDiff, Nat.reduceAdd, q68, q68r0, q68r1, s0, s1, show (false != false) = false from rfl, q68r3, elems_sl, ha]
      exact ⟨.inr ⟨_, by rw [hxs]⟩, Ext.refl m⟩
    · have ha : appendV m 27 4 72 (.sl .full 4 []) xs = some (.sl (.tok m.ntok) 4 xs, m.newTok 27) := by
        simp only [appendV, if_true]
        rw [if_neg hxs, if_pos ⟨by simp [roomMax]; omega, vals_good hv⟩]; rfl
      simp only [go_sem, reduceIte, Nat.reduceEqDiff, Nat.reduceAdd, q68, q68r0, q68r1, s0, s1, show (false != false) = false from rfl, q68r3, elems_sl, ha]
      exact ⟨.inr ⟨_, rfl⟩, extB_ext ((ext_extB (Ext.refl m)).newTok 27) (Nat.le_refl m.next)⟩
theorem plists_ok {x : AV} {xs : List AV} {l : List VT} (hx : SlOf 4 x xs) (hv : Vals xs l) (hl : l.length < 2 ^ 30) (m : Mem) : ∃ v m', CS 19 [x] m (.ret v) m' ∧ IsVal v (.node 5 [] [] l) ∧ Ext m m' := by
  refine call_some (R := fun v m' => IsVal v (.node 5 [] [] l) ∧ Ext m m') xfok mixed q19at q19ok rfl ?_
  obtain ⟨y, m1, k1, hy, x1⟩ := clone_ok hx hv hl (m.alloc z26)
  have hg : m1.get m.next = z26 := by rw [x1.get _ (by simp [Mem.alloc])]; exact get_new
  have hE : Ext m m1 := (Ext.alloc _ _).trans x1
  simp only [go_sem, reduceIte, Nat.reduceEqDiff, Nat.reduceAdd, q19, q19r0, q19r1]
  refine callW_ret k1 ?_
  simp only [go_sem, reduceIte, Nat.reduceEqDiff, Nat.reduceAdd, hy.one, hy.cells, hg]
  exact ⟨.mk (.inl ⟨rfl, rfl⟩) hy hv.1 hv.2, hE.set (Nat.le_refl _) _⟩
theorem padF_succ {f left need : Nat} : padF (f + 1) left need = if 0 < left ∨ 0 < need then dg left :: padF f (left / 10) (need - 1) else [] := rfl
theorem last_pad : ∀ {f left : Nat}, 0 < left → left < 10 ^ f → ∃ l d, padF f left 0 = l ++ [d] ∧ d.toNat ≠ 48
  | 0, left, h1, h2 => by simp at h2; omega
  | f + 1, left, h1, h2 => by
    simp only [padF]
    rw [if_pos (.inl h1)]
    by_cases h : 0 < left / 10
    · obtain ⟨l, d, e, hd⟩ := last_pad (f := f) (left := left / 10) h (by rw [Nat.pow_succ] at h2; omega)
      exact ⟨dg left :: l, d, by rw [show 0 - 1 = 0 from rfl, e]; rfl, hd⟩
    · have e : left / 10 = 0 := by omega
      refine ⟨[], dg left, by rw [e, show 0 - 1 = 0 from rfl, padF_end]; rfl, ?_⟩
      simp [dg]; omega
theorem digs_num {l : List UInt8} (h : ∀ x ∈ l, isDig x = true) (hne : l ≠ []) (h0 : l.length = 1 ∨ ∀ c r, l = c :: r → c.toNat ≠ 48) : absS l = true := by
  have hr : runN isDig l = l.length := run_of_all h
  unfold absS
  rw [hr, if_neg]
  · rw [List.drop_length]; rfl
  · rintro (h1 | ⟨h1, h2⟩)
    · exact hne (List.eq_nil_of_length_eq_zero h1)
    · rcases h0 with h0 | h0
      · omega
      · cases l with
        | nil => simp at h1
        | cons c r =>
          have := h0 c r rfl
          rw [List.head?_cons, Option.some.injEq] at h2
          subst h2; exact this rfl
theorem num_pad (n : Int) (hn : n.natAbs < 10 ^ 20) : numS (padS n 1) = true := by
  have hK : (max (min (1 : Int) 20) 1).toNat = 1 := rfl
  have hd := fun x hx => padF_digits (f := 20) (left := n.natAbs) (need := 1) x (List.mem_reverse.1 hx)
  have hl := padF_need (f := 20) (left := n.natAbs) (need := 1) (by omega)
  have habs : absS (padF 20 n.natAbs 1).reverse = true := by
    refine digs_num hd (by intro e; rw [List.reverse_eq_nil_iff] at e; rw [e] at hl; simp at hl) ?_
    by_cases h0 : n.natAbs = 0
    · left; rw [h0, List.length_reverse]; rfl
    · by_cases h1 : n.natAbs / 10 = 0
      · left
        have e : padF 20 n.natAbs 1 = [dg n.natAbs] := by
          rw [show (20 : Nat) = 19 + 1 from rfl, padF_succ, if_pos (.inl (by omega)), h1, show 1 - 1 = 0 from rfl, padF_end]
        rw [e]; rfl
      · right
        intro c r hcr
        have e : padF 20 n.natAbs 1 = dg n.natAbs :: padF 19 (n.natAbs / 10) 0 := by
          rw [show (20 : Nat) = 19 + 1 from rfl, padF_succ, if_pos (.inl (by omega))]
        obtain ⟨l, d, e2, hd2⟩ := last_pad (f := 19) (left := n.natAbs / 10) (by omega) (by omega)
        rw [e, e2] at hcr
        simp at hcr
        rw [← hcr.1]; exact hd2
  unfold padS
  rw [hK]
  by_cases hneg : n < 0
  · rw [if_pos hneg]
    simp [numS, habs]
  · rw [if_neg hneg, List.nil_append]
    cases hc : (padF 20 n.natAbs 1).reverse with
    | nil => rw [hc] at habs; simp [absS, runN_nil] at habs
    | cons c r =>
      have h1 := hd c (by rw [hc]; simp)
      have : c.toNat ≠ 45 := by simp [isDig, isDigN] at h1; omega
      simp only [numS]
      rw [if_neg this, ← hc]; exact habs
end Go.Proofs.YtkjokjogdehonaaGreatDoor.Am.Q
