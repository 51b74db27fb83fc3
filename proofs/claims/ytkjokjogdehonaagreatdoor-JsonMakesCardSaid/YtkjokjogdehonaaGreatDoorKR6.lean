/- Part KR6 of a claim's texts, joined: what the claim needs of them. -/
import Derived.Test.YtkjokjogdehonaaGreatDoorKR1
set_option linter.unusedSimpArgs false
set_option linter.unusedVariables false
namespace Go.Proofs.YtkjokjogdehonaaGreatDoor.Am.Q
open Go Go.Proofs Go.Proofs.YtkjokjogdehonaaGreatDoor.Am
section
variable {A s B : List UInt8}
def okB (B : List UInt8) : Prop := ∀ x ∈ B.head?, isNum x = false ∧ isSmall x = false
end
end Go.Proofs.YtkjokjogdehonaaGreatDoor.Am.Q
namespace Go.Proofs.YtkjokjogdehonaaGreatDoor.Am.Q
open Go Go.Proofs Go.Proofs.YtkjokjogdehonaaGreatDoor.Am
section
variable {A s B : List UInt8}
def Blks (B : List UInt8) : Prop := (∀ x ∈ B, isBlk x = true) ∧ ∃ r, B = 13 :: r
theorem Blks.ok (h : Blks B) : okB B := by
  obtain ⟨_, r, rfl⟩ := h
  intro x hx
  simp only [List.head?_cons, Option.mem_def, Option.some.injEq] at hx
  subst hx; exact ⟨by decide, by decide⟩
theorem run_of_all {p : UInt8 → Bool} : ∀ {l : List UInt8}, (∀ x ∈ l, p x = true) → runN p l = l.length
  | [], _ => rfl
  | c :: l, h => by rw [runN_cons, if_pos (h c (by simp)), run_of_all fun x hx => h x (by simp [hx])]; rfl
end
end Go.Proofs.YtkjokjogdehonaaGreatDoor.Am.Q
namespace Go.Proofs.YtkjokjogdehonaaGreatDoor.Am.Q
open Go Go.Proofs Go.Proofs.YtkjokjogdehonaaGreatDoor.Am
theorem b8_is {x : Nat} {c : UInt8} (h : x = c.toNat) : b8 x = c := by subst h; simp [b8]
theorem goodO_some {c : UInt8} {k : Nat} {o : Option UInt8} (h : goodO c k o = true) : ∃ b, o = some b ∧ uLo c.toNat k ≤ b.toNat ∧ b.toNat ≤ uHi c.toNat k := by
  cases o with
  | none => cases h
  | some b => exact ⟨b, rfl, good_iff.1 h⟩
theorem next_put {c : UInt8} {r : List UInt8} (h : (uNext (c :: r)).1 = true) : putN ((uNext (c :: r)).2.2 : Nat) = (c :: r).take (uNext (c :: r)).2.1 := by
  obtain ⟨g1, g2⟩ := next_good (c := c) (r := r)
  rw [h] at g1
  have g := g1.symm
  have hu : ¬ uSize c.toNat = 0 := by
    intro e
    simp only [uNext, e, if_true] at h
    cases h
  have hn : ¬ uCnt c.toNat (uSize c.toNat) 1 r < uSize c.toNat := by
    intro e
    simp only [uNext, if_neg hu, if_pos e] at h
    cases h
  have e : uNext (c :: r) = (true, uSize c.toNat, uAcc (c.toNat - uBase (uSize c.toNat)) (r.take (uSize c.toNat - 1))) := by simp only [uNext, if_neg hu, if_neg hn]
  rw [e]
  dsimp only
  unfold goodS at g
  by_cases h1 : c.toNat < 0x80
  · have hs : uSize c.toNat = 1 := by unfold uSize; rw [if_pos h1]
    rw [hs, show uBase 1 = 0 from rfl]
    have : uAcc (c.toNat - 0) (r.take (1 - 1)) = c.toNat := by simp [uAcc]
    rw [this, put1 h1, b8_is rfl]; rfl
  rw [if_neg h1] at g
  by_cases h2 : 0xC2 ≤ c.toNat ∧ c.toNat ≤ 0xDF
  · have hs : uSize c.toNat = 2 := by unfold uSize; rw [if_neg h1, if_pos h2]
    rw [if_pos h2] at g
    obtain ⟨a, ha, a1, a2⟩ := goodO_some g
    rw [lo1] at a1; rw [hi1] at a2
    rw [if_neg (by omega), if_neg (by omega)] at a1 a2
    cases r with
    | nil => cases ha
    | cons x r =>
      simp only [List.getElem?_cons_zero, Option.some.injEq] at ha
      subst ha
      rw [hs, show uBase 2 = 192 from rfl]
      have : uAcc (c.toNat - 192) ((x :: r).take (2 - 1)) = (c.toNat - 192) * 64 + (x.toNat - 128) := by simp [uAcc]
      rw [this, put2 (by omega) (by omega), b8_is (c := c) (by omega), b8_is (c := x) (by omega)]; rfl
  rw [if_neg h2] at g
  by_cases h3 : 0xE0 ≤ c.toNat ∧ c.toNat ≤ 0xEF
  · have hs : uSize c.toNat = 3 := by unfold uSize; rw [if_neg h1, if_neg h2, if_pos h3]
    rw [if_pos h3, Bool.and_eq_true] at g
    obtain ⟨a, ha, a1, a2⟩ := goodO_some g.1
    obtain ⟨b, hb, b1, b2⟩ := goodO_some g.2
    rw [lo1] at a1; rw [hi1] at a2; rw [lo2] at b1; rw [hi2] at b2
    rw [hs, show uBase 3 = 224 from rfl]
    match r, ha, hb with
    | x :: y :: r, ha, hb =>
      simp only [List.getElem?_cons_zero, List.getElem?_cons_succ, Option.some.injEq] at ha hb
      subst ha; subst hb
      have : uAcc (c.toNat - 224) ((x :: y :: r).take (3 - 1)) = ((c.toNat - 224) * 64 + (x.toNat - 128)) * 64 + (y.toNat - 128) := by simp [uAcc]
      have k1 : 128 ≤ x.toNat ∧ x.toNat ≤ 191 ∧ (c.toNat = 224 → 160 ≤ x.toNat) ∧ (c.toNat = 237 → x.toNat ≤ 159) := by
        refine ⟨?_, ?_, ?_, ?_⟩
        · split at a1
          · omega
          · split at a1 <;> omega
        · split at a2
          · omega
          · split at a2 <;> omega
        · intro hc; rw [if_pos hc] at a1; exact a1
        · intro hc; rw [if_pos hc] at a2; exact a2
      have hv : Utf8.valid ((((c.toNat - 224) * 64 + (x.toNat - 128)) * 64 + (y.toNat - 128) : Nat) : Int) = true := valid_iff.2 (by omega)
      rw [this, put3 hv (by omega) (by omega) (by omega), b8_is (c := c) (by omega), b8_is (c := x) (by omega), b8_is (c := y) (by omega)]; rfl
    | [x], ha, hb => cases hb
    | [], ha, hb => cases ha
  rw [if_neg h3] at g
  by_cases h4 : 0xF0 ≤ c.toNat ∧ c.toNat ≤ 0xF4
  · have hs : uSize c.toNat = 4 := by unfold uSize; rw [if_neg h1, if_neg h2, if_neg h3, if_pos h4]
    rw [if_pos h4, Bool.and_eq_true, Bool.and_eq_true] at g
    obtain ⟨a, ha, a1, a2⟩ := goodO_some g.1.1
    obtain ⟨b, hb, b1, b2⟩ := goodO_some g.1.2
    obtain ⟨d, hd, d1, d2⟩ := goodO_some g.2
    rw [lo1] at a1; rw [hi1] at a2; rw [lo2] at b1; rw [hi2] at b2; rw [lo3] at d1; rw [hi3] at d2
    rw [hs, show uBase 4 = 240 from rfl]
    match r, ha, hb, hd with
    | x :: y :: z :: r, ha, hb, hd =>
      simp only [List.getElem?_cons_zero, List.getElem?_cons_succ, Option.some.injEq] at ha hb hd
      subst ha; subst hb; subst hd
      have : uAcc (c.toNat - 240) ((x :: y :: z :: r).take (4 - 1)) = (((c.toNat - 240) * 64 + (x.toNat - 128)) * 64 + (y.toNat - 128)) * 64 + (z.toNat - 128) := by simp [uAcc]
      have k1 : 128 ≤ x.toNat ∧ x.toNat ≤ 191 ∧ (c.toNat = 240 → 144 ≤ x.toNat) ∧ (c.toNat = 244 → x.toNat ≤ 143) := by
        refine ⟨?_, ?_, ?_, ?_⟩
        · split at a1
          · omega
          · split at a1 <;> omega
        · split at a2
          · omega
          · split at a2 <;> omega
        · intro hc; rw [if_neg (by omega), if_pos hc] at a1; exact a1
        · intro hc; rw [if_neg (by omega), if_pos hc] at a2; exact a2
      have hv : Utf8.valid (((((c.toNat - 240) * 64 + (x.toNat - 128)) * 64 + (y.toNat - 128)) * 64 + (z.toNat - 128) : Nat) : Int) = true := valid_iff.2 (by omega)
      rw [this, put4 hv (by omega) (by omega) (by omega), b8_is (c := c) (by omega), b8_is (c := x) (by omega), b8_is (c := y) (by omega), b8_is (c := z) (by omega)]; rfl
    | [x, y], ha, hb, hd => cases hd
    | [x], ha, hb, hd => cases hb
    | [], ha, hb, hd => cases ha
  rw [if_neg h4] at g; cases g
def repF : Nat → List UInt8 → List UInt8
  | _, [] => []
  | 0, _ :: _ => []
  | f + 1, c :: r => putN ((uNext (c :: r)).2.2 : Nat) ++ repF f ((c :: r).drop (uNext (c :: r)).2.1)
def repS (s : List UInt8) : List UInt8 := repF s.length s
theorem repF_fuel : ∀ {f g : Nat} {s : List UInt8}, s.length ≤ f → s.length ≤ g → repF f s = repF g s
  | 0, g, s, hf, hg => by
    obtain rfl : s = [] := List.eq_nil_of_length_eq_zero (by omega)
    cases g <;> rfl
  | f + 1, 0, s, hf, hg => by
    obtain rfl : s = [] := List.eq_nil_of_length_eq_zero (by omega)
    rfl
  | f + 1, g + 1, [], _, _ => rfl
  | f + 1, g + 1, c :: r, hf, hg => by
    obtain ⟨p1, p2⟩ := uNext_pos (c := c) (r := r)
    have := repF_fuel (f := f) (g := g) (s := (c :: r).drop (uNext (c :: r)).2.1) (by rw [List.length_drop]; omega) (by rw [List.length_drop]; omega)
    simp only [repF, this]
theorem repS_nil : repS [] = [] := rfl
theorem repS_cons {c : UInt8} {r : List UInt8} : repS (c :: r) = putN ((uNext (c :: r)).2.2 : Nat) ++ repS ((c :: r).drop (uNext (c :: r)).2.1) := by
  obtain ⟨p1, p2⟩ := uNext_pos (c := c) (r := r)
  have h : repS (c :: r) = putN ((uNext (c :: r)).2.2 : Nat) ++ repF r.length ((c :: r).drop (uNext (c :: r)).2.1) := rfl
  rw [h]
  unfold repS
  rw [repF_fuel (f := r.length) (g := ((c :: r).drop (uNext (c :: r)).2.1).length) (by rw [List.length_drop, List.length_cons]; omega) (Nat.le_refl _)]
theorem rep_text : ∀ (n : Nat) {s : List UInt8}, s.length ≤ n → isT s = true → repS s = s
  | 0, s, hn, _ => by
    obtain rfl : s = [] := List.eq_nil_of_length_eq_zero (by omega)
    rfl
  | n + 1, [], _, _ => rfl
  | n + 1, c :: r, hn, h => by
    rw [isT_cons, Bool.and_eq_true] at h
    obtain ⟨p1, p2⟩ := uNext_pos (c := c) (r := r)
    rw [repS_cons, next_put h.1, rep_text n (by rw [List.length_drop]; simp only [List.length_cons] at hn p2 ⊢; omega) h.2, List.take_append_drop]
end Go.Proofs.YtkjokjogdehonaaGreatDoor.Am.Q
