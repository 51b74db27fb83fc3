/- Part KM2 of a claim's texts, joined: what the claim needs of them. -/
import Derived.Test.YtkjokjogdehonaaGreatDoorKM1
set_option linter.unusedSimpArgs false
set_option linter.unusedVariables false
namespace Go.Proofs.YtkjokjogdehonaaGreatDoor.Am.Q
open Go Go.Proofs Go.Proofs.YtkjokjogdehonaaGreatDoor.Am
theorem size2 {c : Nat} : uSize c = 2 ↔ 0xC2 ≤ c ∧ c ≤ 0xDF := by
  unfold uSize
  constructor
  · intro h; split at h
    · omega
    · split at h
      · assumption
      · split at h
        · omega
        · split at h <;> omega
  · intro h; rw [if_neg (by omega), if_pos h]
theorem size3 {c : Nat} : uSize c = 3 ↔ 0xE0 ≤ c ∧ c ≤ 0xEF := by
  unfold uSize
  constructor
  · intro h; split at h
    · omega
    · split at h
      · omega
      · split at h
        · assumption
        · split at h <;> omega
  · intro h; rw [if_neg (by omega), if_neg (by omega), if_pos h]
theorem size4 {c : Nat} : uSize c = 4 ↔ 0xF0 ≤ c ∧ c ≤ 0xF4 := by
  unfold uSize
  constructor
  · intro h; split at h
    · omega
    · split at h
      · omega
      · split at h
        · omega
        · split at h
          · assumption
          · omega
  · intro h; rw [if_neg (by omega), if_neg (by omega), if_neg (by omega), if_pos h]
theorem goodS2 {c : UInt8} {o1 o2 o3 : Option UInt8} (h : uSize c.toNat = 2) : goodS c o1 o2 o3 = goodO c 1 o1 := by
  have := size2.1 h
  unfold goodS; rw [if_neg (by omega), if_pos this]
theorem goodS3 {c : UInt8} {o1 o2 o3 : Option UInt8} (h : uSize c.toNat = 3) : goodS c o1 o2 o3 = (goodO c 1 o1 && goodO c 2 o2) := by
  have := size3.1 h
  unfold goodS; rw [if_neg (by omega), if_neg (by omega), if_pos this]
theorem goodS4 {c : UInt8} {o1 o2 o3 : Option UInt8} (h : uSize c.toNat = 4) : goodS c o1 o2 o3 = (goodO c 1 o1 && goodO c 2 o2 && goodO c 3 o3) := by
  have := size4.1 h
  unfold goodS; rw [if_neg (by omega), if_neg (by omega), if_neg (by omega), if_pos this]
theorem goodO1 {c b : UInt8} : goodO c 1 (some b) = (decide (uLo c.toNat 1 ≤ b.toNat) && decide (b.toNat ≤ uHi c.toNat 1)) := rfl
theorem goodO2 {c b : UInt8} : goodO c 2 (some b) = (decide (128 ≤ b.toNat) && decide (b.toNat ≤ 191)) := by simp only [goodO, uGood, lo2, hi2]
theorem goodO3 {c b : UInt8} : goodO c 3 (some b) = (decide (128 ≤ b.toNat) && decide (b.toNat ≤ 191)) := by simp only [goodO, uGood, lo3, hi3]
theorem dr_bad {c : UInt8} {r : List UInt8} (h : goodS c r[0]? r[1]? r[2]? = false) (M : Mem) : DR (c :: r) (.tup [.int .i32 65533, .int .i64 1]) M := by
  have hb : (uNext (c :: r)).1 = false := by rw [(next_good (c := c) (r := r)).1]; exact h
  obtain ⟨h1, h2⟩ := bad_sign (s := c :: r) rfl hb
  unfold DR; rw [h1, h2]; rfl
theorem dr_good {c : UInt8} {r : List UInt8} (h : goodS c r[0]? r[1]? r[2]? = true) {x : Int} {k : Int} (hx : x = (uAcc (c.toNat - uBase (uSize c.toNat)) (r.take (uSize c.toNat - 1)) : Nat)) (hk : k = (uSize c.toNat : Nat)) (M : Mem) :
    DR (c :: r) (.tup [.int .i32 x, .int .i64 k]) M := by
  have hb : (uNext (c :: r)).1 = true := by rw [(next_good (c := c) (r := r)).1]; exact h
  obtain ⟨h1, h2⟩ := good_sign hb
  unfold DR; rw [h1, h2, hx, hk]
theorem conv_i32 {n : Nat} (h : n < 2 ^ 31) : IntKind.i32.wrap (n : Int) = (n : Int) := wrap_i32 (by omega)
theorem c8_i32 (c : UInt8) : IntKind.i32.wrap (c.toNat : Int) = (c.toNat : Int) := conv_i32 (by have := c.toNat_lt; omega)
theorem m_i32 {n k : Nat} (hk : 0 < k) (h : k ≤ 64) : IntKind.i32.wrap ((n % k : Nat) : Int) = ((n % k : Nat) : Int) := conv_i32 (by have := Nat.mod_lt n hk; omega)
theorem dtail {c : UInt8} {r : List UInt8} (hs : (c :: r).length < 2 ^ 60) {sz lo hi : Nat} (hsz : uSize c.toNat = sz) (h2 : 2 ≤ sz) (hlo : uLo c.toNat 1 = lo) (hhi : uHi c.toNat 1 = hi) {M : Mem} {a : Nat} (ha : M.get a = .cells 340 [.int .u8 lo, .int .u8 hi])
    {g1 g2 g5 g6 g9 g10 g11 g12 g13 g14 g15 g16 g17 g18 g19 : AV} : wc CS t278 (endsIn [.var 1, .var 2] (DR (c :: r)) noPan) [.str (c :: r), g1, g2, .int .i64 ((c :: r).length : Nat), .int .u8 c.toNat, g5, g6, .int .i64 sz, .ptr a 0, g9, g10, g11, g12, g13, g14, g15, g16, g17, g18, g19] M := by
  have h4 : sz ≤ 4 := by have := uSize_le c.toNat; omega
  have hlen : (c :: r).length = r.length + 1 := rfl
  by_cases hn : (c :: r).length < sz
  · have e1 : decide (((c :: r).length : Int) < (sz : Int)) = true := dT (by omega)
    simp only [go_sem, reduceIte, Nat.reduceEqDiff, Nat.reduceAdd, t278, q278r11, e1, q278r12]
    refine dr_bad ?_ _
    have h23 : sz = 2 ∨ sz = 3 ∨ sz = 4 := by omega
    rcases h23 with rfl | rfl | rfl
    · rw [goodS2 hsz, List.getElem?_eq_none (by omega)]; rfl
    · rw [goodS3 hsz, show r[1]? = none from List.getElem?_eq_none (by omega)]; simp [goodO]
    · rw [goodS4 hsz, show r[2]? = none from List.getElem?_eq_none (by omega)]; simp [goodO]
  have e1 : decide (((c :: r).length : Int) < (sz : Int)) = false := dF (by omega)
  cases r with
  | nil => simp at hn; omega
  | cons b1 r =>
  have i1 : idxSV (.str (c :: b1 :: r)) (.int .i64 1) = some (byteAV b1) := idx_s (n := 1) rfl rfl
  have hb1 : byteAV b1 = .int .u8 b1.toNat := rfl
  by_cases hl : lo ≤ b1.toNat
  rotate_left
  · have e2 : decide ((b1.toNat : Int) < (lo : Int)) = true := dT (by omega)
    simp only [go_sem, reduceIte, Nat.reduceEqDiff, Nat.reduceAdd, t278, q278r11, e1, q278r13, i1, hb1, q278r14, ha, e2, q278r15]
    refine dr_bad ?_ _
    have hg : goodO c 1 (some b1) = false := by rw [goodO1, hlo, dF hl, Bool.false_and]
    have h23 : sz = 2 ∨ sz = 3 ∨ sz = 4 := by omega
    rcases h23 with rfl | rfl | rfl
    · rw [goodS2 hsz]; exact hg
    · rw [goodS3 hsz, show (b1 :: r)[0]? = some b1 from rfl, hg]; rfl
    · rw [goodS4 hsz, show (b1 :: r)[0]? = some b1 from rfl, hg]; rfl
  have e2 : decide ((b1.toNat : Int) < (lo : Int)) = false := dF (by omega)
  by_cases hh : b1.toNat ≤ hi
  rotate_left
  · have e3 : decide ((hi : Int) < (b1.toNat : Int)) = true := dT (by omega)
    simp only [go_sem, reduceIte, Nat.reduceEqDiff, Nat.reduceAdd, t278, q278r11, e1, q278r13, i1, hb1, q278r14, ha, e2, e3, q278r15]
    refine dr_bad ?_ _
    have hg : goodO c 1 (some b1) = false := by rw [goodO1, hhi, dF hh, Bool.and_false]
    have h23 : sz = 2 ∨ sz = 3 ∨ sz = 4 := by omega
    rcases h23 with rfl | rfl | rfl
    · rw [goodS2 hsz]; exact hg
    · rw [goodS3 hsz, show (b1 :: r)[0]? = some b1 from rfl, hg]; rfl
    · rw [goodS4 hsz, show (b1 :: r)[0]? = some b1 from rfl, hg]; rfl
  have e3 : decide ((hi : Int) < (b1.toNat : Int)) = false := dF (by omega)
  have hg1 : goodO c 1 (some b1) = true := by rw [goodO1, hlo, hhi, dT hl, dT hh]; rfl
  have hr1 : 128 ≤ b1.toNat ∧ b1.toNat ≤ 191 := by
    have := uLo_ge c.toNat 1
    have := uHi_le c.toNat 1
    omega
  by_cases s2 : sz = 2
  · subst s2
    have e4 : decide (((2 : Nat) : Int) ≤ 2) = true := dT (by omega)
    have hc := size2.1 hsz
    have k1 := sh6 (n := c.toNat % 32) (by omega)
    have k2 := or_i32 (x := c.toNat % 32 * 64) (y := b1.toNat % 64) (or6 (by omega) (by omega)) (by omega)
    simp only [go_sem, reduceIte, Nat.reduceEqDiff, Nat.reduceAdd, t278, q278r11, e1, q278r13, i1, hb1, q278r14, ha, e2, e3, q278r16, e4, q278r17, x31, x63, m_i32 (n := c.toNat) (k := 32) (by omega) (by omega), m_i32 (n := b1.toNat) (k := 64) (by omega) (by omega), le0_6, k1, k2]
    refine dr_good (r := b1 :: r) (by rw [goodS2 hsz]; exact hg1) ?_ (by rw [hsz]; rfl) _
    rw [hsz]
    simp only [uAcc, uBase, List.take_succ_cons, List.take_zero, List.foldl_cons, List.foldl_nil]
    rw [if_pos trivial]; omega
  have e4 : decide ((sz : Int) ≤ 2) = false := dF (by omega)
  cases r with
  | nil => simp at hn; omega
  | cons b2 r =>
  have i2 : idxSV (.str (c :: b1 :: b2 :: r)) (.int .i64 2) = some (byteAV b2) := idx_s (n := 2) rfl rfl
  have hb2 : byteAV b2 = .int .u8 b2.toNat := rfl
  by_cases hl2 : 128 ≤ b2.toNat
  rotate_left
  · have e5 : decide ((b2.toNat : Int) < 128) = true := dT (by omega)
    simp only [go_sem, reduceIte, Nat.reduceEqDiff, Nat.reduceAdd, t278, q278r11, e1, q278r13, i1, hb1, q278r14, ha, e2, e3, q278r16, e4, q278r18, i2, hb2, q278r19, e5, q278r20]
    refine dr_bad ?_ _
    have hg : goodO c 2 (some b2) = false := by rw [goodO2, dF hl2, Bool.false_and]
    have h23 : sz = 3 ∨ sz = 4 := by omega
    rcases h23 with rfl | rfl
    · rw [goodS3 hsz, show (b1 :: b2 :: r)[1]? = some b2 from rfl, hg, Bool.and_false]
    · rw [goodS4 hsz, show (b1 :: b2 :: r)[1]? = some b2 from rfl, hg, Bool.and_false]; rfl
  have e5 : decide ((b2.toNat : Int) < 128) = false := dF (by omega)
  by_cases hh2 : b2.toNat ≤ 191
  rotate_left
  · have e6 : decide ((191 : Int) < (b2.toNat : Int)) = true := dT (by omega)
    simp only [go_sem, reduceIte, Nat.reduceEqDiff, Nat.reduceAdd, t278, q278r11, e1, q278r13, i1, hb1, q278r14, ha, e2, e3, q278r16, e4, q278r18, i2, hb2, q278r19, e5, e6, q278r20]
    refine dr_bad ?_ _
    have hg : goodO c 2 (some b2) = false := by rw [goodO2, dF hh2, Bool.and_false]
    have h23 : sz = 3 ∨ sz = 4 := by omega
    rcases h23 with rfl | rfl
    · rw [goodS3 hsz, show (b1 :: b2 :: r)[1]? = some b2 from rfl, hg, Bool.and_false]
    · rw [goodS4 hsz, show (b1 :: b2 :: r)[1]? = some b2 from rfl, hg, Bool.and_false]; rfl
  have e6 : decide ((191 : Int) < (b2.toNat : Int)) = false := dF (by omega)
  have hg2 : goodO c 2 (some b2) = true := by rw [goodO2, dT hl2, dT hh2]; rfl
  by_cases s3 : sz = 3
  · subst s3
    have e7 : decide (((3 : Nat) : Int) ≤ 3) = true := dT (by omega)
    have hc := size3.1 hsz
    have k1 := sh12 (n := c.toNat % 16) (by omega)
    have k2 := sh6 (n := b1.toNat % 64) (by omega)
    have k3 := or_i32 (x := c.toNat % 16 * 4096) (y := b1.toNat % 64 * 64) (or12 (by omega) (by omega)) (by omega)
    have k4 := or_i32 (x := c.toNat % 16 * 4096 + b1.toNat % 64 * 64) (y := b2.toNat % 64) (or6 (by omega) (by omega)) (by omega)
    simp only [go_sem, reduceIte, Nat.reduceEqDiff, Nat.reduceAdd, t278, q278r11, e1, q278r13, i1, hb1, q278r14, ha, e2, e3, q278r16, e4, q278r18, i2, hb2, q278r19, e5, e6, q278r21, e7, q278r22, x15, x63, m_i32 (n := c.toNat) (k := 16) (by omega) (by omega), m_i32 (n := b1.toNat) (k := 64) (by omega) (by omega), m_i32 (n := b2.toNat) (k := 64) (by omega) (by omega), le0_6, le0_12, k1, k2, k3, k4]
    refine dr_good (r := b1 :: b2 :: r) (by rw [goodS3 hsz, show (b1 :: b2 :: r)[0]? = some b1 from rfl, show (b1 :: b2 :: r)[1]? = some b2 from rfl, hg1, hg2]; rfl) ?_ (by rw [hsz]; rfl) _
    rw [hsz]
    simp only [uAcc, uBase, List.take_succ_cons, List.take_zero, List.foldl_cons, List.foldl_nil]
    rw [if_neg (by omega), if_pos trivial]; omega
  have e7 : decide ((sz : Int) ≤ 3) = false := dF (by omega)
  obtain rfl : sz = 4 := by omega
  cases r with
  | nil => simp at hn
  | cons b3 r =>
  have i3 : idxSV (.str (c :: b1 :: b2 :: b3 :: r)) (.int .i64 3) = some (byteAV b3) := idx_s (n := 3) rfl rfl
  have hb3 : byteAV b3 = .int .u8 b3.toNat := rfl
  by_cases hl3 : 128 ≤ b3.toNat
  rotate_left
  · have e8 : decide ((b3.toNat : Int) < 128) = true := dT (by omega)
    simp only [go_sem, reduceIte, Nat.reduceEqDiff, Nat.reduceAdd, t278, q278r11, e1, q278r13, i1, hb1, q278r14, ha, e2, e3, q278r16, e4, q278r18, i2, hb2, q278r19, e5, e6, q278r21, e7, q278r23, i3, hb3, q278r24, e8, q278r25]
    refine dr_bad ?_ _
    have hg : goodO c 3 (some b3) = false := by rw [goodO3, dF hl3, Bool.false_and]
    rw [goodS4 hsz, show (b1 :: b2 :: b3 :: r)[2]? = some b3 from rfl, hg, Bool.and_false]
  have e8 : decide ((b3.toNat : Int) < 128) = false := dF (by omega)
  by_cases hh3 : b3.toNat ≤ 191
  rotate_left
  · have e9 : decide ((191 : Int) < (b3.toNat : Int)) = true := dT (by omega)
    simp only [go_sem, reduceIte, Nat.reduceEqDiff, Nat.reduceAdd, t278, q278r11, e1, q278r13, i1, hb1, q278r14, ha, e2, e3, q278r16, e4, q278r18, i2, hb2, q278r19, e5, e6, q278r21, e7, q278r23, i3, hb3, q278r24, e8, e9, q278r25]
    refine dr_bad ?_ _
    have hg : goodO c 3 (some b3) = false := by rw [goodO3, dF hh3, Bool.and_false]
    rw [goodS4 hsz, show (b1 :: b2 :: b3 :: r)[2]? = some b3 from rfl, hg, Bool.and_false]
  have e9 : decide ((191 : Int) < (b3.toNat : Int)) = false := dF (by omega)
  have hg3 : goodO c 3 (some b3) = true := by rw [goodO3, dT hl3, dT hh3]; rfl
  have hc := size4.1 hsz
  have k1 := sh18 (n := c.toNat % 8) (by omega)
  have k2 := sh12 (n := b1.toNat % 64) (by omega)
  have k3 := or_i32 (x := c.toNat % 8 * 262144) (y := b1.toNat % 64 * 4096) (or18 (by omega) (by omega)) (by omega)
  have k4 := sh6 (n := b2.toNat % 64) (by omega)
  have k5 := or_i32 (x := c.toNat % 8 * 262144 + b1.toNat % 64 * 4096) (y := b2.toNat % 64 * 64) (or12 (by omega) (by omega)) (by omega)
  have k6 := or_i32 (x := c.toNat % 8 * 262144 + b1.toNat % 64 * 4096 + b2.toNat % 64 * 64) (y := b3.toNat % 64) (or6 (by omega) (by omega)) (by omega)
  simp only [go_sem, reduceIte, Nat.reduceEqDiff, Nat.reduceAdd, t278, q278r11, e1, q278r13, i1, hb1, q278r14, ha, e2, e3, q278r16, e4, q278r18, i2, hb2, q278r19, e5, e6, q278r21, e7, q278r23, i3, hb3, q278r24, e8, e9, q278r26, x7, x63, m_i32 (n := c.toNat) (k := 8) (by omega) (by omega), m_i32 (n := b1.toNat) (k := 64) (by omega) (by omega), m_i32 (n := b2.toNat) (k := 64) (by omega) (by omega), m_i32 (n := b3.toNat) (k := 64) (by omega) (by omega), le0_6, le0_12, le0_18, k1, k2, k3, k4, k5, k6]
  refine dr_good (r := b1 :: b2 :: b3 :: r) (by rw [goodS4 hsz, show (b1 :: b2 :: b3 :: r)[0]? = some b1 from rfl, show (b1 :: b2 :: b3 :: r)[1]? = some b2 from rfl, show (b1 :: b2 :: b3 :: r)[2]? = some b3 from rfl, hg1, hg2, hg3]; rfl) ?_ (by rw [hsz]; rfl) _
  rw [hsz]
  simp only [uAcc, uBase, List.take_succ_cons, List.take_zero, List.foldl_cons, List.foldl_nil]
  rw [if_neg (by omega), if_neg (by omega), if_pos trivial]; omega
end Go.Proofs.YtkjokjogdehonaaGreatDoor.Am.Q
