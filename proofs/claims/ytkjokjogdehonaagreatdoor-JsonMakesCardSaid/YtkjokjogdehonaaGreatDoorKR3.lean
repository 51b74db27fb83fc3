/- Part KR3 of a claim's texts, joined: what the claim needs of them. -/
import Derived.Test.YtkjokjogdehonaaGreatDoorKB2
set_option linter.unusedSimpArgs false
set_option linter.unusedVariables false
namespace Go.Proofs.YtkjokjogdehonaaGreatDoor.Am.Q
open Go Go.Proofs Go.Proofs.YtkjokjogdehonaaGreatDoor.Am
theorem pGo_list2 {s : List UInt8} {f i many deep : Nat} {acc : List VT} : pGo s (f + 1) (.list acc) i many deep = (match moreS s i (decide (acc = [])) 93 with
    | .error e => .error e
    | .ok (b, a) => if b = false then .ok (.node 5 [] [] acc, a, many) else
      (match pGo s f .val a many (deep + 1) with
        | .error e => .error e
        | .ok (v, k, many') => pGo s f (.list (acc ++ [v])) k many' deep)) := by
  rw [pGo_list]
  unfold moreS
  cases nxt s i with
  | error e => rfl
  | ok x =>
    obtain ⟨j, c⟩ := x
    dsimp only
    by_cases h93 : c.toNat = 93
    · rw [if_pos h93, if_pos h93]; rfl
    · rw [if_neg h93, if_neg h93]
      by_cases ha : acc = []
      · simp only [ha, decide_true, if_true, ne_eq, not_true_eq_false, false_and, if_false, Bool.true_eq_false]
        cases pGo s f .val j many (deep + 1) <;> rfl
      · by_cases h44 : c.toNat = 44
        · simp only [ha, h44, decide_false, if_true, ne_eq, not_true_eq_false, not_false_eq_true, and_false, if_false, Bool.true_eq_false, Bool.false_eq_true]
          cases pGo s f .val (j + 1) many (deep + 1) <;> rfl
        · simp [ha, h44]
end Go.Proofs.YtkjokjogdehonaaGreatDoor.Am.Q
namespace Go.Proofs.YtkjokjogdehonaaGreatDoor.Am.Q
open Go Go.Proofs Go.Proofs.YtkjokjogdehonaaGreatDoor.Am
def metOf (ks : List (List UInt8)) : List (AV × AV) := ks.map fun k => (.str k, .bool true)
theorem pGo_tab2 {s : List UInt8} {f i many deep : Nat} {ks : List (List UInt8)} {acc : List VT} : pGo s (f + 1) (.tab ks acc) i many deep = (match moreS s i (decide (acc = [])) 125 with
    | .error e => .error e
    | .ok (b, a0) => if b = false then .ok (.node 6 [] ks acc, a0, many) else
      (match nxt s a0 with
        | .error e => .error e
        | .ok (a, q) => if q.toNat ≠ 34 then .error (3, a) else
          (match quote s a with
          | .error e => .error e
          | .ok (key, b) => if key ∈ ks then .error (7, a) else
            (match mustS s b 58 with
            | .error e => .error e
            | .ok (_, d) =>
              (match pGo s f .val d many (deep + 1) with
              | .error e => .error e
              | .ok (v, k, many') => pGo s f (.tab (ks ++ [key]) (acc ++ [v])) k many' deep))))) := by
  have tail : ∀ a0, ((match nxt s a0 with
        | .error e => .error e
        | .ok (a, q) => if q.toNat ≠ 34 then .error (3, a) else
          (match quote s a with
          | .error e => .error e
          | .ok (key, b) => if key ∈ ks then .error (7, a) else
            (match nxt s b with
            | .error e => .error e
            | .ok (d, o) => if o.toNat ≠ 58 then .error (3, d) else
              (match pGo s f .val (d + 1) many (deep + 1) with
              | .error e => .error e
              | .ok (v, k, many') => pGo s f (.tab (ks ++ [key]) (acc ++ [v])) k many' deep)))) : Except Flt (VT × Nat × Nat)) = (match nxt s a0 with
        | .error e => .error e
        | .ok (a, q) => if q.toNat ≠ 34 then .error (3, a) else
          (match quote s a with
          | .error e => .error e
          | .ok (key, b) => if key ∈ ks then .error (7, a) else
            (match mustS s b 58 with
            | .error e => .error e
            | .ok (_, d) =>
              (match pGo s f .val d many (deep + 1) with
              | .error e => .error e
              | .ok (v, k, many') => pGo s f (.tab (ks ++ [key]) (acc ++ [v])) k many' deep)))) := by
    intro a0
    cases nxt s a0 with
    | error e => rfl
    | ok x =>
      obtain ⟨a, q⟩ := x
      dsimp only
      by_cases h34 : q.toNat ≠ 34
      · rw [if_pos h34, if_pos h34]
      · rw [if_neg h34, if_neg h34]
        cases quote s a with
        | error e => rfl
        | ok x =>
          obtain ⟨key, b⟩ := x
          dsimp only
          by_cases hk : key ∈ ks
          · rw [if_pos hk, if_pos hk]
          · rw [if_neg hk, if_neg hk]
            unfold mustS
            cases nxt s b with
            | error e => rfl
            | ok x =>
              obtain ⟨d, o⟩ := x
              dsimp only
              by_cases h58 : o.toNat ≠ 58
              · rw [if_pos h58, if_pos h58]
              · rw [if_neg h58, if_neg h58]
  rw [pGo_tab]
  unfold moreS
  cases nxt s i with
  | error e => rfl
  | ok x =>
    obtain ⟨j, c⟩ := x
    dsimp only
    by_cases h93 : c.toNat = 125
    · rw [if_pos h93, if_pos h93]; rfl
    · rw [if_neg h93, if_neg h93]
      by_cases ha : acc = []
      · rw [if_neg (fun h => h.1 ha), if_pos ha, if_pos (dT ha)]
        exact tail j
      · by_cases h44 : c.toNat = 44
        · rw [if_neg (fun h => h.2 h44), if_neg ha, if_neg (by simp [ha]), if_neg (fun h => h h44)]
          exact tail (j + 1)
        · rw [if_pos ⟨ha, h44⟩, if_neg (by simp [ha]), if_pos h44]
structure TSt (p q r w : Nat) (m M : Mem) (s : List UInt8) (i many : Nat) (ka kb : AV) (met ks : List (List UInt8)) (xs : List AV) : Prop where
  vst : VSt p q m M (PP s i (4096 - (many : Int))) (lObj 6 ka kb)
  gr : M.get r = z26
  gw : M.get w = .map (metOf met)
  lw : w < M.next
  ma : Mine m M 9 1 ka (ks.map .str)
  mb : Mine m M 27 4 kb xs
  rq : r < q
  qw : q < w
  rm : m.next ≤ r
  pn : p < m.next
theorem TSt.call {p q r w : Nat} {m M M' : Mem} {s : List UInt8} {i i' many many' : Nat} {ka kb : AV} {met ks : List (List UInt8)} {xs : List AV} (h : TSt p q r w m M s i many ka kb met ks xs) (hE : ExtB p M M') (hg : M'.get p = PP s i' (4096 - (many' : Int))) : TSt p q r w m M' s i' many' ka kb met ks xs :=
  have h1 := h.rq
  have h2 := h.qw
  have h3 := h.rm
  have h4 := h.pn
  have h5 := h.lw
  ⟨h.vst.call hE hg, by rw [hE.get r (by omega) (by omega)]; exact h.gr, by rw [hE.get w h5 (by omega)]; exact h.gw, Nat.lt_of_lt_of_le h5 hE.next, h.ma.ext hE, h.mb.ext hE, h.rq, h.qw, h.rm, h.pn⟩
theorem TSt.setp {p q r w : Nat} {m M : Mem} {s : List UInt8} {i many : Nat} {ka kb : AV} {met ks : List (List UInt8)} {xs : List AV} (h : TSt p q r w m M s i many ka kb met ks xs) (i' : Nat) : TSt p q r w m (M.set p (PP s i' (4096 - (many : Int)))) s i' many ka kb met ks xs :=
  h.call ((ExtB.refl p M).setp _) get_set_same
end Go.Proofs.YtkjokjogdehonaaGreatDoor.Am.Q
namespace Go.Proofs.YtkjokjogdehonaaGreatDoor.Am.Q
open Go Go.Proofs Go.Proofs.YtkjokjogdehonaaGreatDoor.Am
def contO (o : Option UInt8) : Bool := match o with | some b => b.toNat / 64 == 2 | none => false
def decO (c : UInt8) (o1 o2 o3 : Option UInt8) : Nat × Nat :=
  let v (o : Option UInt8) : Nat := (o.getD 0).toNat
  if c.toNat < 0x80 then (c.toNat, 1)
  else if c.toNat / 32 == 6 && contO o1 then
    if (c.toNat % 32) * 64 + v o1 % 64 ≥ 0x80 then ((c.toNat % 32) * 64 + v o1 % 64, 2) else (65533, 1)
  else if c.toNat / 16 == 14 && contO o1 && contO o2 then
    if (c.toNat % 16) * 4096 + (v o1 % 64) * 64 + v o2 % 64 ≥ 0x800 && Utf8.valid (((c.toNat % 16) * 4096 + (v o1 % 64) * 64 + v o2 % 64 : Nat) : Int) then ((c.toNat % 16) * 4096 + (v o1 % 64) * 64 + v o2 % 64, 3) else (65533, 1)
  else if c.toNat / 8 == 30 && contO o1 && contO o2 && contO o3 then
    if (c.toNat % 8) * 262144 + (v o1 % 64) * 4096 + (v o2 % 64) * 64 + v o3 % 64 ≥ 0x10000 && Utf8.valid (((c.toNat % 8) * 262144 + (v o1 % 64) * 4096 + (v o2 % 64) * 64 + v o3 % 64 : Nat) : Int) then ((c.toNat % 8) * 262144 + (v o1 % 64) * 4096 + (v o2 % 64) * 64 + v o3 % 64, 4) else (65533, 1)
  else (65533, 1)
theorem get_at {s : List UInt8} {i : Nat} : (ByteArray.mk s.toArray).get! i = (s[i]?).getD 0 := by
  show s.toArray[i]! = _
  rw [getElem!_def, List.getElem?_toArray]
  cases s[i]? <;> rfl
theorem cont_at {s : List UInt8} {i k : Nat} : (decide (i + k < (ByteArray.mk s.toArray).size) && (s[i + k]?.getD 0).toNat / 64 == 2) = contO s[i + k]? := by
  have e : (ByteArray.mk s.toArray).size = s.length := by simp [ByteArray.size]
  rw [e]
  by_cases h : i + k < s.length
  · rw [List.getElem?_eq_getElem h]; simp [h, contO]
  · rw [List.getElem?_eq_none_iff.2 (by omega)]; simp [h, contO]
theorem decode_at {s : List UInt8} {i : Nat} {c : UInt8} (hc : s[i]? = some c) : Utf8.decode ⟨s.toArray⟩ i = decO c s[i + 1]? s[i + 2]? s[i + 3]? := by
  unfold Utf8.decode decO
  simp only [cont_at, get_at, Nat.add_zero, hc, Option.getD_some, Utf8.runeError]
def goodO (c : UInt8) (k : Nat) (o : Option UInt8) : Bool := match o with | some b => uGood c.toNat k b.toNat | none => false
def goodS (c : UInt8) (o1 o2 o3 : Option UInt8) : Bool :=
  if c.toNat < 0x80 then true else if 0xC2 ≤ c.toNat ∧ c.toNat ≤ 0xDF then goodO c 1 o1 else if 0xE0 ≤ c.toNat ∧ c.toNat ≤ 0xEF then goodO c 1 o1 && goodO c 2 o2 else
    if 0xF0 ≤ c.toNat ∧ c.toNat ≤ 0xF4 then goodO c 1 o1 && goodO c 2 o2 && goodO c 3 o3 else false
theorem uCnt_stop {f n k : Nat} {r : List UInt8} (h : n ≤ k) : uCnt f n k r = k := by
  cases r with
  | nil => rfl
  | cons c r => simp only [uCnt]; rw [if_neg (by omega)]
theorem cnt_cons {f n k : Nat} {a : UInt8} {r : List UInt8} (hk : k < n) : uCnt f n k (a :: r) = if uGood f k a.toNat = true then uCnt f n (k + 1) r else k := by
  simp only [uCnt, hk, true_and]
theorem cnt2 {c : UInt8} {r : List UInt8} : uCnt c.toNat 2 1 r < 2 ↔ ¬ goodO c 1 r[0]? = true := by
  cases r with
  | nil => simp [uCnt, goodO]
  | cons a r =>
    rw [cnt_cons (by omega)]
    show _ ↔ ¬ uGood c.toNat 1 a.toNat = true
    by_cases hg : uGood c.toNat 1 a.toNat = true
    · rw [if_pos hg, uCnt_stop (by omega)]; simp [hg]
    · rw [if_neg hg]; simp [hg]
theorem cnt3 {c : UInt8} {r : List UInt8} : uCnt c.toNat 3 1 r < 3 ↔ ¬ (goodO c 1 r[0]? && goodO c 2 r[1]?) = true := by
  cases r with
  | nil => simp [uCnt, goodO]
  | cons a r =>
    rw [cnt_cons (by omega)]
    show _ ↔ ¬ (uGood c.toNat 1 a.toNat && goodO c 2 r[0]?) = true
    by_cases hg : uGood c.toNat 1 a.toNat = true
    · rw [if_pos hg]
      cases r with
      | nil => simp [uCnt, goodO]
      | cons b r =>
        rw [cnt_cons (by omega)]
        show _ ↔ ¬ (uGood c.toNat 1 a.toNat && uGood c.toNat 2 b.toNat) = true
        by_cases hb : uGood c.toNat 2 b.toNat = true
        · rw [if_pos hb, uCnt_stop (by omega)]; simp [hg, hb]
        · rw [if_neg hb]; simp [hb]
    · rw [if_neg hg]; simp [hg]
theorem cnt4 {c : UInt8} {r : List UInt8} : uCnt c.toNat 4 1 r < 4 ↔ ¬ (goodO c 1 r[0]? && goodO c 2 r[1]? && goodO c 3 r[2]?) = true := by
  cases r with
  | nil => simp [uCnt, goodO]
  | cons a r =>
    rw [cnt_cons (by omega)]
    show _ ↔ ¬ (uGood c.toNat 1 a.toNat && goodO c 2 r[0]? && goodO c 3 r[1]?) = true
    by_cases hg : uGood c.toNat 1 a.toNat = true
    · rw [if_pos hg]
      cases r with
      | nil => simp [uCnt, goodO]
      | cons b r =>
        rw [cnt_cons (by omega)]
        show _ ↔ ¬ (uGood c.toNat 1 a.toNat && uGood c.toNat 2 b.toNat && goodO c 3 r[0]?) = true
        by_cases hb : uGood c.toNat 2 b.toNat = true
        · rw [if_pos hb]
          cases r with
          | nil => simp [uCnt, goodO]
          | cons d r =>
            rw [cnt_cons (by omega)]
            show _ ↔ ¬ (uGood c.toNat 1 a.toNat && uGood c.toNat 2 b.toNat && uGood c.toNat 3 d.toNat) = true
            by_cases hd : uGood c.toNat 3 d.toNat = true
            · rw [if_pos hd, uCnt_stop (by omega)]; simp [hg, hb, hd]
            · rw [if_neg hd]; simp [hd]
        · rw [if_neg hb]; simp [hb]
    · rw [if_neg hg]; simp [hg]
theorem next_good {c : UInt8} {r : List UInt8} : (uNext (c :: r)).1 = goodS c r[0]? r[1]? r[2]? ∧ (goodS c r[0]? r[1]? r[2]? = true → (uNext (c :: r)).2.1 = uSize c.toNat) := by
  have key : ∀ n : Nat, uSize c.toNat = n → n ≠ 0 → (uCnt c.toNat n 1 r < n ↔ ¬ goodS c r[0]? r[1]? r[2]? = true) → (uNext (c :: r)).1 = goodS c r[0]? r[1]? r[2]? ∧ (goodS c r[0]? r[1]? r[2]? = true → (uNext (c :: r)).2.1 = uSize c.toNat) := by
    intro n hn h0 h
    simp only [uNext, hn]
    rw [if_neg h0]
    by_cases hg : goodS c r[0]? r[1]? r[2]? = true
    · rw [if_neg (fun h1 => h.1 h1 hg)]; exact ⟨hg.symm, fun _ => rfl⟩
    · rw [if_pos (h.2 hg)]; exact ⟨(Bool.eq_false_iff.2 hg).symm, fun h => absurd h hg⟩
  by_cases h1 : c.toNat < 0x80
  · refine key 1 (by simp [uSize, h1]) (by omega) ?_
    rw [uCnt_stop (by omega)]; simp [goodS, h1]
  · by_cases h2 : 0xC2 ≤ c.toNat ∧ c.toNat ≤ 0xDF
    · refine key 2 (by unfold uSize; rw [if_neg h1, if_pos h2]) (by omega) ?_
      rw [cnt2]; unfold goodS; rw [if_neg h1, if_pos h2]
    · by_cases h3 : 0xE0 ≤ c.toNat ∧ c.toNat ≤ 0xEF
      · refine key 3 (by unfold uSize; rw [if_neg h1, if_neg h2, if_pos h3]) (by omega) ?_
        rw [cnt3]; unfold goodS; rw [if_neg h1, if_neg h2, if_pos h3]
      · by_cases h4 : 0xF0 ≤ c.toNat ∧ c.toNat ≤ 0xF4
        · refine key 4 (by unfold uSize; rw [if_neg h1, if_neg h2, if_neg h3, if_pos h4]) (by omega) ?_
          rw [cnt4]; unfold goodS; rw [if_neg h1, if_neg h2, if_neg h3, if_pos h4]
        · have hu : uSize c.toNat = 0 := by unfold uSize; rw [if_neg h1, if_neg h2, if_neg h3, if_neg h4]
          have hg : goodS c r[0]? r[1]? r[2]? = false := by unfold goodS; rw [if_neg h1, if_neg h2, if_neg h3, if_neg h4]
          simp [uNext, hu, hg]
theorem u_eq {c : UInt8} {k : Nat} (hk : k < 256) : c = UInt8.ofNat k ↔ c.toNat = k := by
  constructor
  · intro h; rw [h]; simp; omega
  · intro h; apply UInt8.toNat_inj.1; rw [h]; simp; omega
theorem good_iff {f k b : Nat} : uGood f k b = true ↔ uLo f k ≤ b ∧ b ≤ uHi f k := by simp [uGood]
theorem lo1 {f : Nat} : uLo f 1 = if f = 224 then 160 else if f = 240 then 144 else 128 := by simp [uLo]
theorem hi1 {f : Nat} : uHi f 1 = if f = 237 then 159 else if f = 244 then 143 else 191 := by simp [uHi]
theorem lo2 {f : Nat} : uLo f 2 = 128 := by simp [uLo]
theorem hi2 {f : Nat} : uHi f 2 = 191 := by simp [uHi]
theorem lo3 {f : Nat} : uLo f 3 = 128 := by simp [uLo]
theorem hi3 {f : Nat} : uHi f 3 = 191 := by simp [uHi]
theorem cont_iff {b : UInt8} : contO (some b) = true ↔ 128 ≤ b.toNat ∧ b.toNat ≤ 191 := by
  simp only [contO, beq_iff_eq]; omega
theorem valid_iff {n : Nat} : Utf8.valid (n : Int) = true ↔ n < 0xD800 ∨ (0xE000 ≤ n ∧ n ≤ 0x10FFFF) := by
  simp [Utf8.valid]; omega
theorem dec_bad {c : UInt8} {o1 o2 o3 : Option UInt8} (h : goodS c o1 o2 o3 = false) : (decO c o1 o2 o3).1 = 65533 := by
  have h0 := c.toNat_lt
  unfold goodS at h
  by_cases h1 : c.toNat < 0x80
  · rw [if_pos h1] at h; cases h
  rw [if_neg h1] at h
  unfold decO
  simp only
  rw [if_neg h1]
  split
  · rename_i e
    simp only [Bool.and_eq_true, beq_iff_eq] at e
    split
    · rename_i e2
      rw [if_pos (by omega)] at h
      cases o1 with
      | none => have := e.2; simp [contO] at this
      | some b =>
        have hb := cont_iff.1 e.2
        have : goodO c 1 (some b) = true := by
          simp only [goodO, good_iff, lo1, hi1]
          rw [if_neg (by omega), if_neg (by omega), if_neg (by omega), if_neg (by omega)]; exact hb
        rw [this] at h; cases h
    · rfl
  · split
    · rename_i e
      simp only [Bool.and_eq_true, beq_iff_eq] at e
      split
      · rename_i e2
        simp only [Bool.and_eq_true, decide_eq_true_eq, valid_iff, ge_iff_le] at e2
        rw [if_neg (by omega), if_pos (by omega)] at h
        cases o1 with
        | none => have := e.1.2; simp [contO] at this
        | some b =>
          cases o2 with
          | none => have := e.2; simp [contO] at this
          | some d =>
            have hb := cont_iff.1 e.1.2
            have hd := cont_iff.1 e.2
            simp only [Option.getD_some] at e2
            have g1 : goodO c 1 (some b) = true := by
              simp only [goodO, good_iff, lo1, hi1]
              constructor <;> split <;> (try split) <;> omega
            have g2 : goodO c 2 (some d) = true := by
              simp only [goodO, good_iff, lo2, hi2]; exact hd
            rw [g1, g2] at h; cases h
      · rfl
    · split
      · rename_i e
        simp only [Bool.and_eq_true, beq_iff_eq] at e
        split
        · rename_i e2
          simp only [Bool.and_eq_true, decide_eq_true_eq, valid_iff, ge_iff_le] at e2
          cases o1 with
          | none => have := e.1.1.2; simp [contO] at this
          | some b =>
            cases o2 with
            | none => have := e.1.2; simp [contO] at this
            | some d =>
              cases o3 with
              | none => have := e.2; simp [contO] at this
              | some t =>
                have hb := cont_iff.1 e.1.1.2
                have hd := cont_iff.1 e.1.2
                have ht := cont_iff.1 e.2
                simp only [Option.getD_some] at e2
                rw [if_neg (by omega), if_neg (by omega), if_pos (by omega)] at h
                have g1 : goodO c 1 (some b) = true := by
                  simp only [goodO, good_iff, lo1, hi1]
                  constructor <;> split <;> (try split) <;> omega
                have g2 : goodO c 2 (some d) = true := by
                  simp only [goodO, good_iff, lo2, hi2]; exact hd
                have g3 : goodO c 3 (some t) = true := by
                  simp only [goodO, good_iff, lo3, hi3]; exact ht
                rw [g1, g2, g3] at h; cases h
        · rfl
      · rfl
theorem dec_good {c : UInt8} {o1 o2 o3 : Option UInt8} (h : goodS c o1 o2 o3 = true) : (decO c o1 o2 o3).2 = uSize c.toNat ∧ ((decO c o1 o2 o3).1 = 65533 → c = 239 ∧ o1 = some 191 ∧ o2 = some 189) := by
  have h0 := c.toNat_lt
  unfold goodS at h
  by_cases h1 : c.toNat < 0x80
  · unfold decO uSize
    simp only [if_pos h1]
    exact ⟨trivial, fun h => by omega⟩
  rw [if_neg h1] at h
  by_cases h2 : 0xC2 ≤ c.toNat ∧ c.toNat ≤ 0xDF
  · rw [if_pos h2] at h
    cases o1 with
    | none => cases h
    | some b =>
      simp only [goodO, good_iff, lo1, hi1] at h
      rw [if_neg (by omega), if_neg (by omega), if_neg (by omega), if_neg (by omega)] at h
      have hc : contO (some b) = true := cont_iff.2 h
      unfold decO uSize
      simp only [if_neg h1, if_pos h2, hc, Bool.and_true, Option.getD_some]
      rw [if_pos (by simp; omega), if_pos (by omega)]
      exact ⟨rfl, fun h => by dsimp only at h; omega⟩
  · rw [if_neg h2] at h
    by_cases h3 : 0xE0 ≤ c.toNat ∧ c.toNat ≤ 0xEF
    · rw [if_pos h3] at h
      simp only [Bool.and_eq_true] at h
      cases o1 with
      | none => cases h.1
      | some b =>
        cases o2 with
        | none => cases h.2
        | some d =>
          simp only [goodO, good_iff, lo1, hi1, lo2, hi2] at h
          obtain ⟨⟨p1, p2⟩, p3⟩ := h
          have q1 : 128 ≤ b.toNat ∧ (c.toNat = 224 → 160 ≤ b.toNat) := by
            split at p1
            · omega
            · split at p1 <;> omega
          have q2 : b.toNat ≤ 191 ∧ (c.toNat = 237 → b.toNat ≤ 159) := by
            split at p2
            · omega
            · split at p2 <;> omega
          have hc : contO (some b) = true := cont_iff.2 ⟨q1.1, q2.1⟩
          have hd : contO (some d) = true := cont_iff.2 p3
          unfold decO uSize
          simp only [if_neg h1, if_neg h2, if_pos h3, hc, hd, Bool.and_true, Option.getD_some]
          rw [if_neg (by simp; omega), if_pos (by simp; omega), if_pos (by
            simp only [Bool.and_eq_true, decide_eq_true_eq, valid_iff, ge_iff_le]; omega)]
          refine ⟨rfl, fun h => ?_⟩
          dsimp only at h
          refine ⟨(u_eq (k := 239) (by omega)).2 (by omega), ?_, ?_⟩
          · rw [(u_eq (c := b) (k := 191) (by omega)).2 (by omega)]; rfl
          · rw [(u_eq (c := d) (k := 189) (by omega)).2 (by omega)]; rfl
    · rw [if_neg h3] at h
      by_cases h4 : 0xF0 ≤ c.toNat ∧ c.toNat ≤ 0xF4
      · rw [if_pos h4] at h
        simp only [Bool.and_eq_true] at h
        cases o1 with
        | none => cases h.1.1
        | some b =>
          cases o2 with
          | none => cases h.1.2
          | some d =>
            cases o3 with
            | none => cases h.2
            | some t =>
              simp only [goodO, good_iff, lo1, hi1, lo2, hi2, lo3, hi3] at h
              obtain ⟨⟨⟨p1, p2⟩, p3⟩, p4⟩ := h
              have q1 : 128 ≤ b.toNat ∧ (c.toNat = 240 → 144 ≤ b.toNat) := by
                split at p1
                · omega
                · split at p1 <;> omega
              have q2 : b.toNat ≤ 191 ∧ (c.toNat = 244 → b.toNat ≤ 143) := by
                split at p2
                · omega
                · split at p2 <;> omega
              have hc : contO (some b) = true := cont_iff.2 ⟨q1.1, q2.1⟩
              have hd : contO (some d) = true := cont_iff.2 p3
              have ht : contO (some t) = true := cont_iff.2 p4
              unfold decO uSize
              simp only [if_neg h1, if_neg h2, if_neg h3, if_pos h4, hc, hd, ht, Bool.and_true, Option.getD_some]
              rw [if_neg (by simp; omega), if_neg (by simp; omega), if_pos (by simp; omega), if_pos (by
                simp only [Bool.and_eq_true, decide_eq_true_eq, valid_iff, ge_iff_le]; omega)]
              exact ⟨rfl, fun h => by dsimp only at h; omega⟩
      · rw [if_neg h4] at h; cases h
theorem bad_pre {c : UInt8} {o3 : Option UInt8} (hc : c = 239) : goodS c (some 191) (some 189) o3 = true := by
  subst hc; cases o3 <;> rfl
end Go.Proofs.YtkjokjogdehonaaGreatDoor.Am.Q
namespace Go.Proofs.YtkjokjogdehonaaGreatDoor.Am.Q
open Go Go.Proofs Go.Proofs.YtkjokjogdehonaaGreatDoor.Am
theorem nextV_at {M : Mem} {it pos : Nat} {s : List UInt8} (hg : M.get it = .iter s pos) (h : pos < s.length) : nextV M (.ptr it 0) = some (.tup [.bool true, .int .i64 pos, .int .i32 (Utf8.decode ⟨s.toArray⟩ pos).1], M.set it (.iter s (pos + (Utf8.decode ⟨s.toArray⟩ pos).2))) := by
  simp only [nextV, hg]; rw [if_pos h]
theorem nextV_end {M : Mem} {it pos : Nat} {s : List UInt8} (hg : M.get it = .iter s pos) (h : ¬ pos < s.length) : nextV M (.ptr it 0) = some (.tup [.bool false], M) := by
  simp only [nextV, hg]; rw [if_neg h]
theorem hasPrefix_ok {s t : List UInt8} (m : Mem) : CS 183 [.str s, .str t] m (.ret (.bool (decide (t.length ≤ s.length) && (s.take t.length == t)))) m := by
  refine call_by xfok mixed q183at q183ok rfl ?_
  simp only [go_sem, reduceIte, Nat.reduceEqDiff, Nat.reduceAdd, q183, q183r0, q183r1]
  refine callW_ret (has_prefix m) ?_
  simp only [go_sem, reduceIte, Nat.reduceEqDiff, Nat.reduceAdd]
def pre3 (l : List UInt8) : Bool := decide (([239, 191, 189] : List UInt8).length ≤ l.length) && (l.take ([239, 191, 189] : List UInt8).length == [239, 191, 189])
theorem pre3_iff {c : UInt8} {r : List UInt8} : pre3 (c :: r) = true ↔ c = 239 ∧ r[0]? = some 191 ∧ r[1]? = some 189 := by
  cases r with
  | nil => simp [pre3]
  | cons a r =>
    cases r with
    | nil => simp [pre3]
    | cons b r => simp [pre3]
theorem step_good {c : UInt8} {r : List UInt8} (h : (uNext (c :: r)).1 = true) : (decO c r[0]? r[1]? r[2]?).2 = (uNext (c :: r)).2.1 ∧ ((decO c r[0]? r[1]? r[2]?).1 = 65533 → pre3 (c :: r) = true) := by
  obtain ⟨g1, g2⟩ := next_good (c := c) (r := r)
  rw [h] at g1
  have := dec_good g1.symm
  exact ⟨this.1.trans (g2 g1.symm).symm, fun e => pre3_iff.2 (this.2 e)⟩
theorem step_bad {c : UInt8} {r : List UInt8} (h : (uNext (c :: r)).1 = false) : (decO c r[0]? r[1]? r[2]?).1 = 65533 ∧ pre3 (c :: r) = false := by
  obtain ⟨g1, g2⟩ := next_good (c := c) (r := r)
  rw [h] at g1
  refine ⟨dec_bad g1.symm, ?_⟩
  cases hp : pre3 (c :: r) with
  | false => rfl
  | true =>
    obtain ⟨p1, p2, p3⟩ := pre3_iff.1 hp
    rw [p2, p3, bad_pre p1] at g1
    cases g1
theorem ptext_loop {m : Mem} {s : List UInt8} {it : Nat} (hs : s.length < 2 ^ 60) (hit : m.next ≤ it) {B : Bool} {Q : AExit → List AV → Mem → Prop} (hx : B = true → ∀ M, Ext m M → ∀ g0 g1 g2 g3 g4 g5 g6 g7, Q (.exit 0) [g0, g1, g2, g3, g4, g5, g6, g7] M) (hr : B = false → ∀ M, Ext m M → ∀ g0 g2 g3 g4 g5 g6 g7, Q .ret [g0, .bool false, g2, g3, g4, g5, g6, g7] M) :
    ∀ (f pos : Nat) (M : Mem) (g1 g2 g3 g5 g6 g7 : AV), s.length - pos ≤ f → Ext m M → M.get it = .iter s pos → B = isTF f (s.drop pos) → wl CS [1, 2, 3, 5, 6, 7] q103l6 Q [.str s, g1, g2, g3, .ptr it 0, g5, g6, g7] M := by
  intro f
  induction f with
  | zero =>
    intro pos M g1 g2 g3 g5 g6 g7 hf hE hg hB
    refine wl_step ?_
    simp only [go_sem, reduceIte, Nat.reduceEqDiff, Nat.reduceAdd, q103l6, q103r2, nextV_end hg (by omega)]
    exact hx (by rw [hB, List.drop_of_length_le (by omega)]; rfl) _ hE _ _ _ _ _ _ _ _
  | succ f ih =>
    intro pos M g1 g2 g3 g5 g6 g7 hf hE hg hB
    refine wl_step ?_
    by_cases hlt : pos < s.length
    · have hc : s[pos]? = some s[pos] := List.getElem?_eq_getElem hlt
      have hd := drop_at hc
      have hr0 : s[pos + 1]? = (s.drop (pos + 1))[0]? := by simp [List.getElem?_drop]
      have hr1 : s[pos + 2]? = (s.drop (pos + 1))[1]? := by simp [List.getElem?_drop]
      have hr2 : s[pos + 3]? = (s.drop (pos + 1))[2]? := by simp [List.getElem?_drop]
      have hdec := decode_at hc
      rw [hr0, hr1, hr2] at hdec
      rw [hd] at hB
      have hB' : B = ((uNext (s[pos] :: s.drop (pos + 1))).1 && isTF f ((s[pos] :: s.drop (pos + 1)).drop (uNext (s[pos] :: s.drop (pos + 1))).2.1)) := hB
      have hnx := nextV_at hg hlt
      rw [hdec] at hnx
      have hsl := slice_from (s := s) (kk := .i64) (k := pos) (by omega)
      rw [hd] at hsl
      obtain ⟨p1, p2⟩ := uNext_pos (c := s[pos]) (r := s.drop (pos + 1))
      have hpre := hasPrefix_ok (s := s[pos] :: s.drop (pos + 1)) (t := [239, 191, 189])
      have hpe : (decide (([239, 191, 189] : List UInt8).length ≤ (s[pos] :: s.drop (pos + 1)).length) && ((s[pos] :: s.drop (pos + 1)).take ([239, 191, 189] : List UInt8).length == [239, 191, 189])) = pre3 (s[pos] :: s.drop (pos + 1)) := rfl
      rw [hpe] at hpre
      have hdd : (s[pos] :: s.drop (pos + 1)).drop (uNext (s[pos] :: s.drop (pos + 1))).2.1 = s.drop (pos + (uNext (s[pos] :: s.drop (pos + 1))).2.1) := by rw [← hd, List.drop_drop]
      rw [hdd] at hB'
      generalize s[pos] = c at *
      generalize hrr : s.drop (pos + 1) = r at *
      cases hu : (uNext (c :: r)).1 with
      | true =>
        obtain ⟨k1, k2⟩ := step_good hu
        rw [hu, Bool.true_and] at hB'
        rw [k1] at hnx
        by_cases h65 : (decO c r[0]? r[1]? r[2]?).1 = 65533
        · have e1 : (((decO c r[0]? r[1]? r[2]?).1 : Int) == 65533) = true := bqT (by omega)
          rw [k2 h65] at hpre
          simp only [go_sem, reduceIte, Nat.reduceEqDiff, Nat.reduceAdd, q103l6, q103r2, hnx, q103r3, q103r4, e1, hsl]
          refine callW_ret (hpre _) ?_
          simp only [go_sem, reduceIte, Nat.reduceEqDiff, Nat.reduceAdd]
          exact ih _ _ _ _ _ _ _ _ (by omega) (hE.set hit _) get_set_same hB'
        · have e1 : (((decO c r[0]? r[1]? r[2]?).1 : Int) == 65533) = false := bqF (by omega)
          simp only [go_sem, reduceIte, Nat.reduceEqDiff, Nat.reduceAdd, q103l6, q103r2, hnx, q103r3, q103r4, e1]
          exact ih _ _ _ _ _ _ _ _ (by omega) (hE.set hit _) get_set_same hB'
      | false =>
        obtain ⟨k1, k2⟩ := step_bad hu
        rw [hu, Bool.false_and] at hB'
        have e1 : (((decO c r[0]? r[1]? r[2]?).1 : Int) == 65533) = true := bqT (by omega)
        rw [k2] at hpre
        simp only [go_sem, reduceIte, Nat.reduceEqDiff, Nat.reduceAdd, q103l6, q103r2, hnx, q103r3, q103r4, e1, hsl]
        refine callW_ret (hpre _) ?_
        simp only [go_sem, reduceIte, Nat.reduceEqDiff, Nat.reduceAdd, q103r5]
        exact hr hB' _ (hE.set hit _) _ _ _ _ _ _ _
    · simp only [go_sem, reduceIte, Nat.reduceEqDiff, Nat.reduceAdd, q103l6, q103r2, nextV_end hg hlt]
      exact hx (by rw [hB, List.drop_of_length_le (by omega)]; rfl) _ hE _ _ _ _ _ _ _ _
theorem ptext_ok {s : List UInt8} (hs : s.length < 2 ^ 60) (m : Mem) : ∃ v m', CS 103 [.str s] m (.ret v) m' ∧ v = .bool (isT s) ∧ Ext m m' := by
  refine call_some (R := fun v m' => v = .bool (isT s) ∧ Ext m m') xfok mixed q103at q103ok rfl ?_
  simp only [go_sem, reduceIte, Nat.reduceEqDiff, Nat.reduceAdd, q103, q103r0, q103r1]
  refine ptext_loop (m := m) (B := isT s) hs (Nat.le_refl _) (fun h M hE g0 g1 g2 g3 g4 g5 g6 g7 => ?_) (fun h M hE g0 g2 g3 g4 g5 g6 g7 => ?_) s.length 0 _ _ _ _ _ _ _ (by omega) (Ext.alloc _ _) get_new (by rw [List.drop_zero]; rfl)
  · simp only [go_sem, reduceIte, Nat.reduceEqDiff, Nat.reduceAdd, q103r7, h]
    exact hE
  · simp only [go_sem, reduceIte, Nat.reduceEqDiff, Nat.reduceAdd, h]
    exact hE
end Go.Proofs.YtkjokjogdehonaaGreatDoor.Am.Q
namespace Go.Proofs.YtkjokjogdehonaaGreatDoor.Am.Q
open Go Go.Proofs Go.Proofs.YtkjokjogdehonaaGreatDoor.Am
end Go.Proofs.YtkjokjogdehonaaGreatDoor.Am.Q
namespace Go.Proofs.YtkjokjogdehonaaGreatDoor.Am.Q
open Go Go.Proofs Go.Proofs.YtkjokjogdehonaaGreatDoor.Am
theorem rparse_any (s : List UInt8) (m : Mem) : ∃ v m', CS 23 [.str s] m (.ret v) m' ∧ ParR s m v m' := by
  by_cases hlen : 65536 < s.length
  · refine call_some (R := ParR s m) xfok mixed q23at q23ok rfl ?_
    have g1 : ((m.alloc z26).alloc zFault).get m.next = z26 := by rw [get_old (by simp [Mem.alloc])]; exact get_new
    have g2 : ((m.alloc z26).alloc zFault).get (m.next + 1) = zFault := get_new
    have E2 : Ext m ((m.alloc z26).alloc zFault) := (Ext.alloc _ _).trans (Ext.alloc _ _)
    have e1 : decide ((s.length : Int) > 65536) = true := dT (by omega)
    have hT : parseT s = (VT.zero, 5, 0) := by simp [parseT, hlen]
    simp only [go_sem, reduceIte, Nat.reduceEqDiff, Nat.reduceAdd, q23, q23r0, q23r1, e1, q23r2, next_alloc, g1]
    have g3 : (((m.alloc z26).alloc zFault).set m.next z26).get (m.next + 1) = zFault := by rw [get_set_other (by omega)]; exact g2
    simp only [go_sem, reduceIte, Nat.reduceEqDiff, Nat.reduceAdd, g3]
    have g4 : ((((m.alloc z26).alloc zFault).set m.next z26).set (m.next + 1) (.cells 41 [.int .i64 5, .int .i64 0])).get m.next = z26 := by rw [get_set_other (by omega)]; exact get_set_same
    simp only [go_sem, reduceIte, Nat.reduceEqDiff, Nat.reduceAdd, g4]
    exact ⟨_, by rw [hT]; rfl, by rw [hT]; exact zero_val, (E2.set (Nat.le_refl _) _).set (by omega) _⟩
  · exact rparse_ok (by omega) m
end Go.Proofs.YtkjokjogdehonaaGreatDoor.Am.Q
namespace Go.Proofs.YtkjokjogdehonaaGreatDoor.Am.Q
open Go Go.Proofs Go.Proofs.YtkjokjogdehonaaGreatDoor.Am
theorem small_leaf {k : Int} {t : List UInt8} : Small (.node k t [] []) := .mk (by simp) (by simp) (fun i hi => absurd hi (Nat.not_lt_zero _))
theorem small_kids {k : Int} {t : List UInt8} {ks : List (List UInt8)} {acc : List VT} (h1 : ks.length < 2 ^ 47) (h2 : acc.length < 2 ^ 47) (h3 : ∀ x ∈ acc, Small x) : Small (.node k t ks acc) :=
  .mk h1 h2 fun i hi => by
    rw [show acc.getD i VT.zero = acc[i] by simp [List.getD, hi]]
    exact h3 _ (List.getElem_mem hi)
end Go.Proofs.YtkjokjogdehonaaGreatDoor.Am.Q
