/- Part KR1 of a claim's texts, joined: what the claim needs of them. -/
import Derived.Test.YtkjokjogdehonaaGreatDoorKR5
import Derived.Test.YtkjokjogdehonaaGreatDoorKR3
set_option linter.unusedSimpArgs false
set_option linter.unusedVariables false
namespace Go.Proofs.YtkjokjogdehonaaGreatDoor.Am.Q
open Go Go.Proofs Go.Proofs.YtkjokjogdehonaaGreatDoor.Am
theorem drop_cons {s : List UInt8} {i : Nat} {c : UInt8} {r : List UInt8} (h : s.drop i = c :: r) : s[i]? = some c ∧ s.drop (i + 1) = r := by
  constructor
  · have := congrArg (·[0]?) h
    simpa using this
  · rw [← List.drop_drop, h]; rfl
theorem drop_app {s : List UInt8} {i : Nat} {a b : List UInt8} (h : s.drop i = a ++ b) : s.drop (i + a.length) = b := by
  rw [← List.drop_drop, h, List.drop_left]
theorem esc_read {k : Nat} {c : UInt8} (h : sevF[k]? = some c) : ∃ j, escIdx (sevT.getD k 0) = some j ∧ escT.getD j 0 = c := by
  have hk : k < 7 := (List.getElem?_eq_some_iff.1 h).1
  have key : ∀ j : Fin 7, escIdx (sevT.getD j.val 0) = some j.val ∧ escT.getD j.val 0 = sevF.getD j.val 0 := by decide +kernel
  have := key ⟨k, hk⟩
  rw [show sevF.getD k 0 = c by simp [List.getD, h]] at this
  exact ⟨k, this⟩
theorem hex_read (c : UInt8) : ([48, 48, hexs.getD (c.toNat / 16) 0, hexs.getD (c.toNat % 16) 0] : List UInt8).any bad = false ∧ hexN [48, 48, hexs.getD (c.toNat / 16) 0, hexs.getD (c.toNat % 16) 0] = c.toNat := by
  have := byte_all (P := fun c => decide (([48, 48, hexs.getD (c.toNat / 16) 0, hexs.getD (c.toNat % 16) 0] : List UInt8).any bad = false ∧ hexN [48, 48, hexs.getD (c.toNat / 16) 0, hexs.getD (c.toNat % 16) 0] = c.toNat)) (by decide +kernel) c
  exact of_decide_eq_true this
theorem quo_read {s : List UInt8} : ∀ {l rest : List UInt8} {f i : Nat} {out : List UInt8}, s.drop i = l.flatMap escB ++ 34 :: rest → l.length + 1 ≤ f → quoS s f i out = .ok (out ++ l, i + (l.flatMap escB).length + 1)
  | [], rest, f, i, out, h, hf => by
    obtain ⟨h1, _⟩ := drop_cons (show s.drop i = 34 :: rest from h)
    cases f with
    | zero => omega
    | succ f =>
      simp only [quoS, h1]
      rw [if_neg (by decide), if_pos (by decide)]
      simp
  | c :: l, rest, f, i, out, h, hf => by
    cases f with
    | zero => omega
    | succ f =>
      have hf' : l.length + 1 ≤ f := by simp at hf; omega
      rw [List.flatMap_cons, List.append_assoc] at h
      have hnext := drop_app h
      by_cases hin : c ∈ sevF
      · obtain ⟨k, hk, hk1, _, _⟩ := fA c hin
        have he := esc_at hk1
        rw [he] at h hnext
        obtain ⟨h1, h2⟩ := drop_cons (show s.drop i = 92 :: (sevT.getD k 0 :: (l.flatMap escB ++ 34 :: rest)) from h)
        obtain ⟨h3, _⟩ := drop_cons h2
        obtain ⟨j, j1, j2⟩ := esc_read hk1
        have hS : escS s i = .ok ([c], i + 2) := by
          simp only [escS, h3, j1]
          rw [show (([8, 9, 10, 12, 13, 34, 92, 47] : List UInt8).getD j 0) = c from j2]
        have ih := quo_read (s := s) (l := l) (rest := rest) (f := f) (i := i + 2) (out := out ++ [c]) (by simpa using hnext) hf'
        simp only [quoS, h1]
        rw [if_neg (by decide), if_neg (by decide), if_pos (by decide), hS]
        dsimp only
        rw [ih, List.flatMap_cons, he]
        simp only [List.append_assoc, List.singleton_append, List.length_append, List.length_cons, List.length_nil]
        congr 2
        omega
      · have he := esc_none hin
        by_cases hx : c.toNat < 32 ∨ c.toNat = 127
        · rw [if_pos hx] at he
          rw [he] at h hnext
          obtain ⟨h1, h2⟩ := drop_cons (show s.drop i = 92 :: (117 :: (48 :: 48 :: hexs.getD (c.toNat / 16) 0 :: hexs.getD (c.toNat % 16) 0 :: (l.flatMap escB ++ 34 :: rest))) from h)
          obtain ⟨h3, h4⟩ := drop_cons h2
          obtain ⟨x1, x2⟩ := hex_read c
          have h4' : (s.drop (i + 2)).take 4 = [48, 48, hexs.getD (c.toNat / 16) 0, hexs.getD (c.toNat % 16) 0] := by
            rw [show s.drop (i + 2) = _ from h4]; rfl
          have hh : hex4 s (i + 2) i = .ok c.toNat := by
            rw [hex4_ok (by rw [h4']; exact x1) (by rw [h4']; simp), h4', x2]
          have e117 : escIdx 117 = none := by decide
          have hS : escS s i = .ok ([c], i + 6) := by
            simp only [escS, h3, e117, hh]
            rw [if_neg (by decide), if_pos (by omega), put1 (by omega)]
            simp [b8]
          have ih := quo_read (s := s) (l := l) (rest := rest) (f := f) (i := i + 6) (out := out ++ [c]) (by simpa using hnext) hf'
          simp only [quoS, h1]
          rw [if_neg (by decide), if_neg (by decide), if_pos (by decide), hS]
          dsimp only
          rw [ih, List.flatMap_cons, he]
          simp only [List.append_assoc, List.singleton_append, List.length_append, List.length_cons, List.length_nil]
          congr 2
          omega
        · rw [if_neg hx] at he
          rw [he] at h hnext
          obtain ⟨h1, h2⟩ := drop_cons (show s.drop i = c :: (l.flatMap escB ++ 34 :: rest) from h)
          have n34 : ¬ c.toNat = 34 := fun e => hin (by rw [show c = 34 from UInt8.toNat_inj.1 e]; decide)
          have n92 : ¬ c.toNat = 92 := fun e => hin (by rw [show c = 92 from UInt8.toNat_inj.1 e]; decide)
          have ih := quo_read (s := s) (l := l) (rest := rest) (f := f) (i := i + 1) (out := out ++ [c]) h2 hf'
          simp only [quoS, h1]
          rw [if_neg (by omega), if_neg n34, if_neg n92, ih, List.flatMap_cons, he]
          simp only [List.append_assoc, List.singleton_append, List.length_append, List.length_cons, List.length_nil]
          congr 2
          omega
theorem flat_ge (l : List UInt8) : l.length ≤ (l.flatMap escB).length := by
  induction l with
  | nil => simp
  | cons c l ih => have := (escB_len c).2; simp only [List.flatMap_cons, List.length_append, List.length_cons]; omega
theorem quote_read {s t rest : List UInt8} {i : Nat} (h : s.drop i = quotS t ++ rest) : quote s i = .ok (t, i + (quotS t).length) := by
  have h1 : s.drop i = 34 :: (t.flatMap escB ++ 34 :: rest) := by rw [h]; simp [quotS]
  obtain ⟨_, h2⟩ := drop_cons h1
  have hlen := congrArg List.length h1
  simp only [List.length_drop, List.length_cons, List.length_append] at hlen
  have hg := flat_ge t
  have := quo_read (s := s) (l := t) (rest := rest) (f := s.length - i + 1) (i := i + 1) (out := []) h2 (by omega)
  unfold quote
  rw [this]
  simp only [quotS, List.nil_append, List.length_append, List.length_cons, List.length_nil]
  congr 2
  omega
end Go.Proofs.YtkjokjogdehonaaGreatDoor.Am.Q
namespace Go.Proofs.YtkjokjogdehonaaGreatDoor.Am.Q
open Go Go.Proofs Go.Proofs.YtkjokjogdehonaaGreatDoor.Am
theorem nxt_here {s : List UInt8} {i : Nat} {c : UInt8} (h : s[i]? = some c) (hb : isBlk c = false) : nxt s i = .ok (i, c) := by
  have hs : skipN s i = i := by unfold skipN; rw [drop_at h, runN_cons, hb]; simp
  have := nxt_some (s := s) (i := i) (c := c) (by rw [hs]; exact h)
  rw [this, hs]
def EndsV (rest : List UInt8) : Prop := ∀ c r, rest = c :: r → isNum c = false ∧ isSmall c = false
theorem take_ends {p : UInt8 → Bool} {t rest : List UInt8} (ht : ∀ x ∈ t, p x = true) (hr : ∀ c r, rest = c :: r → p c = false) : (t ++ rest).takeWhile p = t := by
  rw [List.takeWhile_append_of_pos ht]
  cases rest with
  | nil => simp
  | cons c r => rw [List.takeWhile_cons, hr c r rfl]; simp
theorem run_all {p : UInt8 → Bool} : ∀ {l : List UInt8}, runN p l = l.length → ∀ x ∈ l, p x = true
  | c :: l, h, x, hx => by
    rw [runN_cons] at h
    cases hc : p c with
    | false => rw [hc] at h; simp at h
    | true =>
      rw [hc, if_pos rfl, List.length_cons] at h
      rcases List.mem_cons.1 hx with rfl | hx
      · exact hc
      · exact run_all (by omega) x hx
theorem dig_num {c : UInt8} (h : isDig c = true) : isNum c = true := by
  unfold isDig at h
  simp only [isNum, isNumN, h, Bool.true_or]
theorem take_mem {p : UInt8 → Bool} {l : List UInt8} {x : UInt8} (h : x ∈ l.take (runN p l)) : p x = true := by
  rw [take_runN] at h
  induction l with
  | nil => simp at h
  | cons c l ih =>
    rw [List.takeWhile_cons] at h
    split at h
    · rename_i hc
      rcases List.mem_cons.1 h with rfl | h
      · exact hc
      · exact ih h
    · simp at h
theorem exp_num {s : List UInt8} (h : expS s = true) : ∀ x ∈ s, isNum x = true := by
  cases s with
  | nil => simp
  | cons c r =>
    simp only [expS, Bool.and_eq_true, Bool.or_eq_true, decide_eq_true_eq] at h
    obtain ⟨h1, h2⟩ := h
    have hc : isNum c = true := by simp [isNum, isNumN]; omega
    intro x hx
    rcases List.mem_cons.1 hx with rfl | hx
    · exact hc
    · cases r with
      | nil => simp at hx
      | cons d q =>
        dsimp only at h2
        split at h2
        · rename_i hd
          simp only [Bool.and_eq_true, decide_eq_true_eq] at h2
          rcases List.mem_cons.1 hx with rfl | hx
          · simp [isNum, isNumN]; omega
          · exact dig_num (run_all h2.2 x hx)
        · exact dig_num (run_all (of_decide_eq_true h2) x hx)
theorem frac_num {s : List UInt8} (h : fracS s = true) : ∀ x ∈ s, isNum x = true := by
  cases s with
  | nil => simp
  | cons c r =>
    simp only [fracS] at h
    split at h
    · rename_i hc
      split at h
      · cases h
      · intro x hx
        rcases List.mem_cons.1 hx with rfl | hx
        · simp [isNum, isNumN]; omega
        · rw [← List.take_append_drop (runN isDig r) r] at hx
          rcases List.mem_append.1 hx with hx | hx
          · exact dig_num (take_mem hx)
          · exact exp_num h x hx
    · exact exp_num h
theorem abs_num {s : List UInt8} (h : absS s = true) : ∀ x ∈ s, isNum x = true := by
  unfold absS at h
  split at h
  · cases h
  · intro x hx
    rw [← List.take_append_drop (runN isDig s) s] at hx
    rcases List.mem_append.1 hx with hx | hx
    · exact dig_num (take_mem hx)
    · exact frac_num h x hx
theorem num_num {s : List UInt8} (h : numS s = true) : ∀ x ∈ s, isNum x = true := by
  cases s with
  | nil => simp
  | cons c r =>
    simp only [numS] at h
    split at h
    · rename_i hc
      intro x hx
      rcases List.mem_cons.1 hx with rfl | hx
      · simp [isNum, isNumN]; omega
      · exact abs_num h x hx
    · exact abs_num h
theorem num_head {s : List UInt8} (h : numS s = true) : ∃ c r, s = c :: r ∧ (c.toNat = 45 ∨ isDig c = true) := by
  cases s with
  | nil => cases h
  | cons c r =>
    refine ⟨c, r, rfl, ?_⟩
    simp only [numS] at h
    split at h
    · exact .inl ‹_›
    · right
      unfold absS at h
      split at h
      · cases h
      · rename_i hn
        cases hd : isDig c with
        | true => rfl
        | false => exact absurd (.inl (by rw [runN_cons, hd]; simp)) hn
theorem dig_range {c : UInt8} (h : isDig c = true) : 48 ≤ c.toNat ∧ c.toNat ≤ 57 := by
  simp only [isDig, isDigN, Bool.and_eq_true, decide_eq_true_eq] at h; exact h
theorem blk_range {c : UInt8} (h : 32 < c.toNat) : isBlk c = false := by
  cases hb : isBlk c with
  | false => rfl
  | true => have := isBlk_iff.1 hb; omega
theorem text_head {d : Nat} : ∀ {T : VT}, goodT d T = true → ∃ c r, textT T = c :: r ∧ isBlk c = false ∧ c.toNat ≠ 93 ∧ c.toNat ≠ 125 ∧ c.toNat ≠ 44
  | .node k t ks l, h => by
    simp only [goodT, Bool.and_eq_true] at h
    have hone := h.1
    by_cases k1 : k = 1
    · exact ⟨110, [117, 108, 108], by simp only [textT, if_pos k1]; rfl, by decide, by decide, by decide, by decide⟩
    · by_cases k4 : k = 4
      · exact ⟨34, t.flatMap escB ++ [34], by simp only [textT, if_neg k1, if_pos k4]; simp [quotS], by decide, by decide, by decide, by decide⟩
      · by_cases k5 : k = 5
        · exact ⟨91, itemsT false true ks l ++ [93], by simp only [textT, if_neg k1, if_neg k4, if_pos k5]; simp, by decide, by decide, by decide, by decide⟩
        · by_cases k6 : k = 6
          · exact ⟨123, itemsT true true ks l ++ [125], by simp only [textT, if_neg k1, if_neg k4, if_neg k5, if_pos k6]; simp, by decide, by decide, by decide, by decide⟩
          · have hS : textT (.node k t ks l) = t := by simp only [textT, if_neg k1, if_neg k4, if_neg k5, if_neg k6]
            by_cases k2 : k = 2
            · have : t = tTrue ∨ t = tFalse := by
                simp [oneS, k2] at hone; exact hone.2
              rcases this with rfl | rfl
              · exact ⟨116, [114, 117, 101], by rw [hS]; rfl, by decide, by decide, by decide, by decide⟩
              · exact ⟨102, [97, 108, 115, 101], by rw [hS]; rfl, by decide, by decide, by decide, by decide⟩
            · have k3 : k = 3 := by have := oneS_kind hone; omega
              have hn : numS t = true := by simp [oneS, k3] at hone; exact hone.2
              obtain ⟨c, r, rfl, hc⟩ := num_head hn
              refine ⟨c, r, hS, ?_⟩
              rcases hc with hc | hc
              · exact ⟨blk_range (by omega), by omega, by omega, by omega⟩
              · have := dig_range hc
                exact ⟨blk_range (by omega), by omega, by omega, by omega⟩
end Go.Proofs.YtkjokjogdehonaaGreatDoor.Am.Q
namespace Go.Proofs.YtkjokjogdehonaaGreatDoor.Am.Q
open Go Go.Proofs Go.Proofs.YtkjokjogdehonaaGreatDoor.Am
theorem ends_punct {c : UInt8} (h : c.toNat = 44 ∨ c.toNat = 93 ∨ c.toNat = 125) : isNum c = false ∧ isSmall c = false := by
  constructor
  · simp [isNum, isNumN, isDigN]; omega
  · simp [isSmall, isSmallN]; omega
theorem node_pos (T : VT) : 1 ≤ nodesT T := by cases T; simp only [nodesT]; omega
def VR (n : Nat) : Prop := ∀ (T : VT), nodesT T ≤ n → ∀ (d i many f : Nat) (s rest : List UInt8), goodT d T = true → s.drop i = textT T ++ rest → EndsV rest → many + nodesT T ≤ 4096 → 2 * (s.length - i) + 1 ≤ f → pGo s f .val i many d = .ok (T, i + (textT T).length, many + nodesT T)
theorem items_ends {tb : Bool} {ks : List (List UInt8)} {l : List VT} {e : UInt8} {rest : List UInt8} (he : e.toNat = 93 ∨ e.toNat = 125) : EndsV (itemsT tb false ks l ++ e :: rest) := by
  intro c r h
  cases l with
  | nil =>
    simp only [itemsT, List.nil_append, List.cons.injEq] at h
    rw [← h.1]; exact ends_punct (by omega)
  | cons v l =>
    simp only [itemsT, Bool.false_eq_true, if_false, List.cons_append, List.cons.injEq] at h
    rw [← h.1]; exact ends_punct (by decide)
theorem more_first {s : List UInt8} {i e : Nat} {c : UInt8} (h : s[i]? = some c) (hb : isBlk c = false) (he : c.toNat ≠ e) : moreS s i true e = .ok (true, i) := by
  simp only [moreS, nxt_here h hb, if_neg he]; rfl
theorem more_comma {s : List UInt8} {i e : Nat} {c : UInt8} (h : s[i]? = some c) (hc : c.toNat = 44) (he : e ≠ 44) : moreS s i false e = .ok (true, i + 1) := by
  have hb : isBlk c = false := blk_range (by omega)
  simp only [moreS, nxt_here h hb]
  rw [if_neg (by omega), if_neg (by decide), if_neg (by omega)]
theorem more_end {s : List UInt8} {i e : Nat} {c : UInt8} {first : Bool} (h : s[i]? = some c) (hb : isBlk c = false) (he : c.toNat = e) : moreS s i first e = .ok (false, i + 1) := by
  simp only [moreS, nxt_here h hb, if_pos he]
theorem list_read {n : Nat} (IH : VR n) {s : List UInt8} {d : Nat} {rest : List UInt8} : ∀ {l : List VT}, nodesL l ≤ n → ∀ {acc : List VT} {i many f : Nat} {ks : List (List UInt8)}, goodL (d + 1) l = true → s.drop i = itemsT false (decide (acc = [])) ks l ++ 93 :: rest → many + nodesL l ≤ 4096 → 2 * (s.length - i) + 2 ≤ f →
    pGo s f (.list acc) i many d = .ok (.node 5 [] [] (acc ++ l), i + (itemsT false (decide (acc = [])) ks l).length + 1, many + nodesL l)
  | [], _, acc, i, many, f, ks, _, h, _, hf => by
    simp only [itemsT, List.nil_append] at h
    obtain ⟨h1, _⟩ := drop_cons h
    cases f with
    | zero => omega
    | succ f =>
      rw [pGo_list2, more_end h1 (by decide) (by decide)]
      simp [itemsT, nodesL]
  | v :: r, hn, acc, i, many, f, ks, hg, h, hm, hf => by
    simp only [goodL, Bool.and_eq_true] at hg
    simp only [nodesL] at hn hm
    have hv0 := node_pos v
    obtain ⟨c, tr, hc1, hc2, hc3, hc4, hc5⟩ := text_head hg.1
    have htl : 1 ≤ (textT v).length := by rw [hc1]; simp
    cases f with
    | zero => omega
    | succ f =>
      have hlt : i < s.length := by
        by_cases hi : i < s.length
        · exact hi
        · rw [List.drop_of_length_le (by omega)] at h
          have := congrArg List.length h
          simp at this
      rw [pGo_list2]
      by_cases ha : acc = []
      · have e : decide (acc = []) = true := dT ha
        rw [e] at h ⊢
        simp only [itemsT, if_true, List.nil_append, keyB, List.append_assoc] at h ⊢
        obtain ⟨h1, _⟩ := drop_cons (show s.drop i = c :: (tr ++ (itemsT false false ks.tail r ++ 93 :: rest)) by rw [h, hc1]; rfl)
        rw [more_first h1 hc2 hc3]
        have hv := IH v (by omega) (d + 1) i many f s (itemsT false false ks.tail r ++ 93 :: rest) hg.1 h (items_ends (by decide)) (by omega) (by omega)
        have hd := drop_app h
        have hnn : ¬ (acc ++ [v] = []) := by simp
        have ih := list_read IH (s := s) (d := d) (rest := rest) (l := r) (by omega) (acc := acc ++ [v]) (i := i + (textT v).length) (many := many + nodesT v) (f := f) (ks := ks.tail) hg.2 (by rw [dF hnn]; exact hd) (by omega) (by omega)
        rw [dF hnn] at ih
        simp only [Bool.true_eq_false, if_false, hv, ih, List.length_append, nodesL, List.append_assoc, List.singleton_append]
        congr 3 <;> omega
      · have e : decide (acc = []) = false := dF ha
        rw [e] at h ⊢
        simp only [itemsT, Bool.false_eq_true, if_false, keyB, List.append_assoc, List.nil_append] at h ⊢
        obtain ⟨h1, h2⟩ := drop_cons (show s.drop i = 44 :: (textT v ++ (itemsT false false ks.tail r ++ 93 :: rest)) from h)
        rw [more_comma h1 (by decide) (by decide)]
        have hv := IH v (by omega) (d + 1) (i + 1) many f s (itemsT false false ks.tail r ++ 93 :: rest) hg.1 h2 (items_ends (by decide)) (by omega) (by omega)
        have hd := drop_app h2
        have hnn : ¬ (acc ++ [v] = []) := by simp
        have ih := list_read IH (s := s) (d := d) (rest := rest) (l := r) (by omega) (acc := acc ++ [v]) (i := i + 1 + (textT v).length) (many := many + nodesT v) (f := f) (ks := ks.tail) hg.2 (by rw [dF hnn]; exact hd) (by omega) (by omega)
        rw [dF hnn] at ih
        simp only [Bool.true_eq_false, if_false, hv, ih, List.length_append, nodesL, List.append_assoc, List.singleton_append, List.length_cons, List.length_nil]
        congr 3 <;> omega
theorem tab_read {n : Nat} (IH : VR n) {s : List UInt8} {d : Nat} {rest : List UInt8} : ∀ {l : List VT}, nodesL l ≤ n → ∀ {ks0 ks : List (List UInt8)} {acc : List VT} {i many f : Nat}, ks.length = l.length → twS ks0 ks = false → goodL (d + 1) l = true → s.drop i = itemsT true (decide (acc = [])) ks l ++ 125 :: rest → many + nodesL l ≤ 4096 → 2 * (s.length - i) + 2 ≤ f →
    pGo s f (.tab ks0 acc) i many d = .ok (.node 6 [] (ks0 ++ ks) (acc ++ l), i + (itemsT true (decide (acc = [])) ks l).length + 1, many + nodesL l)
  | [], _, ks0, ks, acc, i, many, f, hk, _, _, h, _, hf => by
    obtain rfl : ks = [] := List.eq_nil_of_length_eq_zero (by simpa using hk)
    simp only [itemsT, List.nil_append] at h
    obtain ⟨h1, _⟩ := drop_cons h
    cases f with
    | zero => omega
    | succ f =>
      rw [pGo_tab2, more_end h1 (by decide) (by decide)]
      simp [itemsT, nodesL]
  | v :: r, hn, ks0, ks, acc, i, many, f, hk, htw, hg, h, hm, hf => by
    cases ks with
    | nil => simp at hk
    | cons key ks =>
    simp only [goodL, Bool.and_eq_true] at hg
    simp only [nodesL] at hn hm
    simp only [twS, Bool.or_eq_false_iff, decide_eq_false_iff_not] at htw
    have hkl : ks.length = r.length := by simpa using hk
    cases f with
    | zero => omega
    | succ f =>
      have hlt : i < s.length := by
        by_cases hi : i < s.length
        · exact hi
        · rw [List.drop_of_length_le (by omega)] at h
          have := congrArg List.length h
          simp at this
      rw [pGo_tab2]
      -- behind 'more', at a
      have rest' : ∀ a, i ≤ a → s.drop a = quotS key ++ (58 :: (textT v ++ (itemsT true false ks r ++ 125 :: rest))) → (match nxt s a with
        | .error e => (.error e : Except Flt (VT × Nat × Nat))
        | .ok (a, q) => if q.toNat ≠ 34 then .error (3, a) else
          (match quote s a with
          | .error e => .error e
          | .ok (key, b) => if key ∈ ks0 then .error (7, a) else
            (match mustS s b 58 with
            | .error e => .error e
            | .ok (_, d') =>
              (match pGo s f .val d' many (d + 1) with
              | .error e => .error e
              | .ok (v, k, many') => pGo s f (.tab (ks0 ++ [key]) (acc ++ [v])) k many' d)))) = .ok (.node 6 [] (ks0 ++ key :: ks) (acc ++ v :: r), a + (quotS key).length + 1 + (textT v).length + (itemsT true false ks r).length + 1, many + (nodesT v + nodesL r)) := by
        intro a hia ha
        obtain ⟨h1, _⟩ := drop_cons (show s.drop a = 34 :: (key.flatMap escB ++ [34] ++ (58 :: (textT v ++ (itemsT true false ks r ++ 125 :: rest)))) by rw [ha]; simp [quotS])
        rw [nxt_here h1 (by decide)]
        dsimp only
        rw [if_neg (by decide), quote_read ha]
        dsimp only
        rw [if_neg htw.1]
        obtain ⟨h2, h3⟩ := drop_cons (drop_app ha)
        have hmu : mustS s (a + (quotS key).length) 58 = .ok ((), a + (quotS key).length + 1) := by
          simp only [mustS, nxt_here h2 (by decide)]
          rw [if_neg (by decide)]
        rw [hmu]
        dsimp only
        have hv := IH v (by omega) (d + 1) (a + (quotS key).length + 1) many f s (itemsT true false ks r ++ 125 :: rest) hg.1 h3 (items_ends (by decide)) (by omega) (by omega)
        rw [hv]
        dsimp only
        have hd := drop_app h3
        have hnn : ¬ (acc ++ [v] = []) := by simp
        have hq2 : 2 ≤ (quotS key).length := by simp [quotS]
        have ih := tab_read IH (s := s) (d := d) (rest := rest) (l := r) (by omega) (ks0 := ks0 ++ [key]) (ks := ks) (acc := acc ++ [v]) (i := a + (quotS key).length + 1 + (textT v).length) (many := many + nodesT v) (f := f) hkl htw.2 hg.2 (by rw [dF hnn]; exact hd) (by omega) (by omega)
        rw [dF hnn] at ih
        rw [ih]
        simp only [List.append_assoc, List.singleton_append]
        congr 3
        omega
      by_cases ha : acc = []
      · have e : decide (acc = []) = true := dT ha
        rw [e] at h ⊢
        simp only [itemsT, if_true, List.nil_append, keyB, List.append_assoc, List.tail_cons, List.cons_append] at h ⊢
        obtain ⟨h1, _⟩ := drop_cons (show s.drop i = 34 :: (key.flatMap escB ++ [34] ++ (58 :: (textT v ++ (itemsT true false ks r ++ 125 :: rest)))) by rw [h]; simp [quotS])
        rw [more_first h1 (by decide) (by decide)]
        have := rest' i (Nat.le_refl _) h
        simp only [Bool.true_eq_false, if_false]
        refine Eq.trans this ?_
        simp only [List.length_append, nodesL, List.length_cons, List.length_nil]
        congr 3 <;> omega
      · have e : decide (acc = []) = false := dF ha
        rw [e] at h ⊢
        simp only [itemsT, Bool.false_eq_true, if_false, keyB, List.append_assoc, List.nil_append, List.tail_cons, List.cons_append] at h ⊢
        obtain ⟨h1, h2⟩ := drop_cons h
        rw [more_comma h1 (by decide) (by decide)]
        have := rest' (i + 1) (by omega) h2
        simp only [Bool.true_eq_false, if_false]
        refine Eq.trans this ?_
        simp only [List.length_append, nodesL, List.length_cons, List.length_nil]
        congr 3 <;> omega
end Go.Proofs.YtkjokjogdehonaaGreatDoor.Am.Q
namespace Go.Proofs.YtkjokjogdehonaaGreatDoor.Am.Q
open Go Go.Proofs Go.Proofs.YtkjokjogdehonaaGreatDoor.Am
theorem pGo_val {s : List UInt8} {f i many deep j : Nat} {c : UInt8} (hx : nxt s i = .ok (j, c)) : pGo s (f + 1) .val i many deep = if 4096 < many + 1 then .error (5, j) else
      if c.toNat = 34 then (match quote s j with
        | .error e => .error e
        | .ok (t, k) => .ok (.node 4 t [] [], k, many + 1))
      else if c.toNat = 91 ∨ c.toNat = 123 then
        (if 64 ≤ deep then .error (8, j) else if c.toNat = 91 then pGo s f (.list []) (j + 1) (many + 1) deep else pGo s f (.tab [] []) (j + 1) (many + 1) deep)
      else if c.toNat = 45 ∨ isDig c = true then
        (if numS ((s.drop j).takeWhile isNum) then .ok (.node 3 ((s.drop j).takeWhile isNum) [] [], j + runN isNum (s.drop j), many + 1) else .error (3, j))
      else if (s.drop j).takeWhile isSmall = tNull then .ok (.node 1 [] [] [], j + runN isSmall (s.drop j), many + 1)
      else if (s.drop j).takeWhile isSmall = tTrue ∨ (s.drop j).takeWhile isSmall = tFalse then .ok (.node 2 ((s.drop j).takeWhile isSmall) [] [], j + runN isSmall (s.drop j), many + 1)
      else .error (3, j) := by
  simp only [pGo, hx]; rfl
theorem bare_nil {ks : List (List UInt8)} {l : List VT} (h : bareS ks l.length = true) : ks = [] ∧ l = [] := by
  simp only [bareS, Bool.and_eq_true, decide_eq_true_eq] at h
  exact ⟨List.eq_nil_of_length_eq_zero h.1, List.eq_nil_of_length_eq_zero h.2⟩
theorem word_read {s : List UInt8} {i f many deep : Nat} {w rest : List UInt8} {c : UInt8} {r : List UInt8} (hw : w = c :: r) (hc : isSmall c = true) (hall : ∀ x ∈ w, isSmall x = true) (h : s.drop i = w ++ rest) (he : EndsV rest) (hm : many + 1 ≤ 4096) :
    pGo s (f + 1) .val i many deep = if w = tNull then .ok (.node 1 [] [] [], i + w.length, many + 1) else if w = tTrue ∨ w = tFalse then .ok (.node 2 w [] [], i + w.length, many + 1) else .error (3, i) := by
  subst hw
  obtain ⟨h1, _⟩ := drop_cons (show s.drop i = c :: (r ++ rest) from h)
  have hr : 97 ≤ c.toNat ∧ c.toNat ≤ 122 := by
    simp only [isSmall, isSmallN, Bool.and_eq_true, decide_eq_true_eq] at hc; exact hc
  have ht : (s.drop i).takeWhile isSmall = c :: r := by rw [h]; exact take_ends hall (fun x y e => (he x y e).2)
  have hrun : runN isSmall (s.drop i) = (c :: r).length := by rw [← takeWhile_len, ht]
  have hd : isDig c = false := by
    cases hd : isDig c with
    | false => rfl
    | true => have := dig_range hd; omega
  rw [pGo_val (nxt_here h1 (blk_range (by omega))), if_neg (by omega), if_neg (by omega), if_neg (by omega), if_neg (by rw [hd]; simp; omega), ht, hrun]
theorem val_read : ∀ n, VR n
  | 0 => fun T h => by have := node_pos T; omega
  | n + 1 => by
    intro T hn d i many f s rest hg h he hm hf
    have IH := val_read n
    cases T with
    | node k t ks l =>
    cases f with
    | zero => omega
    | succ f =>
    have hnl : nodesL l ≤ n := by simp only [nodesT] at hn; omega
    have hg' := hg
    simp only [goodT, Bool.and_eq_true] at hg
    obtain ⟨hone, hdp, hgl⟩ := hg
    have hdp' : k < 5 ∨ d < 64 := by simpa using hdp
    simp only [nodesT] at hm ⊢
    have hk := oneS_kind hone
    by_cases k1 : k = 1
    · subst k1
      have hb : bareS ks l.length = true ∧ t = [] := by simpa [oneS] using hone
      obtain ⟨rfl, rfl⟩ := bare_nil hb.1
      obtain rfl := hb.2
      have hS : textT (.node 1 [] [] []) = tNull := by simp only [textT, if_true]
      rw [hS] at h ⊢
      rw [word_read (w := tNull) (c := 110) (r := [117, 108, 108]) rfl (by decide) (by decide) h he (by omega), if_pos rfl]
      simp [nodesL]
    by_cases k2 : k = 2
    · subst k2
      have hb : bareS ks l.length = true ∧ (t = tTrue ∨ t = tFalse) := by simpa [oneS] using hone
      obtain ⟨rfl, rfl⟩ := bare_nil hb.1
      have hS : textT (.node 2 t [] []) = t := by simp [textT]
      rw [hS] at h ⊢
      rcases hb.2 with rfl | rfl
      · rw [word_read (w := tTrue) (c := 116) (r := [114, 117, 101]) rfl (by decide) (by decide) h he (by omega), if_neg (by decide), if_pos (.inl rfl)]
        simp [nodesL]
      · rw [word_read (w := tFalse) (c := 102) (r := [97, 108, 115, 101]) rfl (by decide) (by decide) h he (by omega), if_neg (by decide), if_pos (.inr rfl)]
        simp [nodesL]
    by_cases k3 : k = 3
    · subst k3
      have hb : bareS ks l.length = true ∧ numS t = true := by simpa [oneS] using hone
      obtain ⟨rfl, rfl⟩ := bare_nil hb.1
      have hS : textT (.node 3 t [] []) = t := by simp [textT]
      rw [hS] at h ⊢
      obtain ⟨c, r, rfl, hc⟩ := num_head hb.2
      obtain ⟨h1, _⟩ := drop_cons (show s.drop i = c :: (r ++ rest) from h)
      have ht : (s.drop i).takeWhile isNum = c :: r := by rw [h]; exact take_ends (num_num hb.2) (fun x y e => (he x y e).1)
      have hrun : runN isNum (s.drop i) = (c :: r).length := by rw [← takeWhile_len, ht]
      have hrange : c.toNat = 45 ∨ (48 ≤ c.toNat ∧ c.toNat ≤ 57) := hc.imp id dig_range
      rw [pGo_val (nxt_here h1 (blk_range (by omega))), if_neg (by omega), if_neg (by omega), if_neg (by omega), if_pos hc, ht, if_pos hb.2, hrun]
      simp [nodesL]
    by_cases k4 : k = 4
    · subst k4
      have hb : bareS ks l.length = true := by simp [oneS] at hone; exact hone.1
      obtain ⟨rfl, rfl⟩ := bare_nil hb
      have hS : textT (.node 4 t [] []) = quotS t := by simp [textT]
      rw [hS] at h ⊢
      obtain ⟨h1, _⟩ := drop_cons (show s.drop i = 34 :: (t.flatMap escB ++ [34] ++ rest) by rw [h]; simp [quotS])
      rw [pGo_val (nxt_here h1 (by decide)), if_neg (by omega), if_pos (by decide), quote_read h]
      simp [nodesL]
    by_cases k5 : k = 5
    · subst k5
      have hb : t = [] ∧ ks = [] := by simpa [oneS] using hone
      obtain ⟨rfl, rfl⟩ := hb
      have hS : textT (.node 5 [] [] l) = [91] ++ (itemsT false true [] l ++ [93]) := by simp [textT]
      rw [hS] at h ⊢
      simp only [List.append_assoc, List.singleton_append, List.cons_append, List.nil_append] at h
      obtain ⟨h1, h2⟩ := drop_cons h
      rw [pGo_val (nxt_here h1 (by decide)), if_neg (by omega), if_neg (by decide), if_pos (.inl (by decide)), if_neg (by omega), if_pos (by decide)]
      have hlt : i < s.length := (List.getElem?_eq_some_iff.1 h1).1
      have := list_read IH (s := s) (d := d) (rest := rest) (l := l) hnl (acc := []) (i := i + 1) (many := many + 1) (f := f) (ks := []) hgl h2 (by omega) (by omega)
      rw [this]
      simp only [decide_true, List.nil_append, List.length_append, List.length_cons, List.length_nil]
      congr 3 <;> omega
    · have k6 : k = 6 := by omega
      subst k6
      have hb : (t = [] ∧ ks.length = l.length) ∧ twS [] ks = false ∧ allT ks = true := by simpa [oneS] using hone
      obtain ⟨⟨rfl, hkl⟩, htw, _⟩ := hb
      have hS : textT (.node 6 [] ks l) = [123] ++ (itemsT true true ks l ++ [125]) := by simp [textT]
      rw [hS] at h ⊢
      simp only [List.append_assoc, List.singleton_append, List.cons_append, List.nil_append] at h
      obtain ⟨h1, h2⟩ := drop_cons h
      rw [pGo_val (nxt_here h1 (by decide)), if_neg (by omega), if_neg (by decide), if_pos (.inr (by decide)), if_neg (by omega), if_neg (by decide)]
      have hlt : i < s.length := (List.getElem?_eq_some_iff.1 h1).1
      have := tab_read IH (s := s) (d := d) (rest := rest) (l := l) hnl (ks0 := []) (ks := ks) (acc := []) (i := i + 1) (many := many + 1) (f := f) hkl htw hgl h2 (by omega) (by omega)
      rw [this]
      simp only [decide_true, List.nil_append, List.length_append, List.length_cons, List.length_nil]
      congr 3 <;> omega
theorem parseS_text {T : VT} (h : mayT T = true) : parseS (textT T) = .ok T := by
  have hg : goodT 0 T = true := by simp only [mayT, Bool.and_eq_true] at h; exact h.1
  have hn := mayT_nodes h
  have := val_read (nodesT T) T (Nat.le_refl _) 0 0 0 (2 * (textT T).length + 1) (textT T) [] hg (by simp) (fun c r e => by cases e) (by omega) (by omega)
  unfold parseS
  rw [this]
  dsimp only
  rw [if_neg]
  have : skipN (textT T) (0 + (textT T).length) = (textT T).length := by
    unfold skipN
    rw [Nat.zero_add, List.drop_length]; rfl
  omega
end Go.Proofs.YtkjokjogdehonaaGreatDoor.Am.Q
namespace Go.Proofs.YtkjokjogdehonaaGreatDoor.Am.Q
open Go Go.Proofs Go.Proofs.YtkjokjogdehonaaGreatDoor.Am
theorem isTF_fuel : ∀ {f g : Nat} {s : List UInt8}, s.length ≤ f → s.length ≤ g → isTF f s = isTF g s
  | 0, g, s, hf, hg => by
    obtain rfl : s = [] := List.eq_nil_of_length_eq_zero (by omega)
    cases g <;> rfl
  | f + 1, 0, s, hf, hg => by
    obtain rfl : s = [] := List.eq_nil_of_length_eq_zero (by omega)
    rfl
  | f + 1, g + 1, [], _, _ => rfl
  | f + 1, g + 1, c :: r, hf, hg => by
    obtain ⟨p1, p2⟩ := uNext_pos (c := c) (r := r)
    have := isTF_fuel (f := f) (g := g) (s := (c :: r).drop (uNext (c :: r)).2.1) (by rw [List.length_drop]; omega) (by rw [List.length_drop]; omega)
    simp only [isTF, this]
theorem isT_cons {c : UInt8} {r : List UInt8} : isT (c :: r) = ((uNext (c :: r)).1 && isT ((c :: r).drop (uNext (c :: r)).2.1)) := by
  obtain ⟨p1, p2⟩ := uNext_pos (c := c) (r := r)
  have h : isT (c :: r) = ((uNext (c :: r)).1 && isTF r.length ((c :: r).drop (uNext (c :: r)).2.1)) := rfl
  rw [h]
  unfold isT
  rw [isTF_fuel (f := r.length) (g := ((c :: r).drop (uNext (c :: r)).2.1).length) (by rw [List.length_drop, List.length_cons]; omega) (Nat.le_refl _)]
theorem goodO_mono {c : UInt8} {k j : Nat} {r b : List UInt8} (h : goodO c k r[j]? = true) : goodO c k (r ++ b)[j]? = true := by
  cases hj : r[j]? with
  | none => rw [hj] at h; cases h
  | some x =>
    have hlt := (List.getElem?_eq_some_iff.1 hj).1
    rw [List.getElem?_append_left hlt, hj]
    rw [hj] at h; exact h
theorem goodS_mono {c : UInt8} {r b : List UInt8} (h : goodS c r[0]? r[1]? r[2]? = true) : goodS c (r ++ b)[0]? (r ++ b)[1]? (r ++ b)[2]? = true := by
  unfold goodS at h ⊢
  split
  · rfl
  · rename_i h1
    rw [if_neg h1] at h
    split
    · rename_i h2
      rw [if_pos h2] at h
      exact goodO_mono h
    · rename_i h2
      rw [if_neg h2] at h
      split
      · rename_i h3
        rw [if_pos h3, Bool.and_eq_true] at h
        rw [goodO_mono h.1, goodO_mono h.2]; rfl
      · rename_i h3
        rw [if_neg h3] at h
        split
        · rename_i h4
          rw [if_pos h4, Bool.and_eq_true, Bool.and_eq_true] at h
          rw [goodO_mono h.1.1, goodO_mono h.1.2, goodO_mono h.2]; rfl
        · rename_i h4
          rw [if_neg h4] at h; cases h
theorem next_app {c : UInt8} {r b : List UInt8} (h : (uNext (c :: r)).1 = true) : (uNext (c :: (r ++ b))).1 = true ∧ (uNext (c :: (r ++ b))).2.1 = (uNext (c :: r)).2.1 := by
  obtain ⟨g1, g2⟩ := next_good (c := c) (r := r)
  obtain ⟨k1, k2⟩ := next_good (c := c) (r := r ++ b)
  rw [h] at g1
  have hm := goodS_mono (b := b) g1.symm
  rw [k1, hm, k2 hm, g2 g1.symm]
  exact ⟨rfl, rfl⟩
theorem isT_app {b : List UInt8} : ∀ (n : Nat) {a : List UInt8}, a.length ≤ n → isT a = true → isT (a ++ b) = isT b
  | 0, a, hn, _ => by
    obtain rfl : a = [] := List.eq_nil_of_length_eq_zero (by omega)
    rfl
  | n + 1, [], _, _ => rfl
  | n + 1, c :: r, hn, h => by
    rw [isT_cons, Bool.and_eq_true] at h
    obtain ⟨p1, p2⟩ := uNext_pos (c := c) (r := r)
    obtain ⟨q1, q2⟩ := next_app (b := b) h.1
    rw [List.cons_append, isT_cons, q1, Bool.true_and, q2]
    have hd : (c :: (r ++ b)).drop (uNext (c :: r)).2.1 = (c :: r).drop (uNext (c :: r)).2.1 ++ b := by
      rw [← List.cons_append, List.drop_append_of_le_length p2]
    rw [hd]
    exact isT_app n (by rw [List.length_drop]; simp only [List.length_cons] at hn p2 ⊢; omega) h.2
theorem isT_append {a b : List UInt8} (ha : isT a = true) (hb : isT b = true) : isT (a ++ b) = true := by
  rw [isT_app a.length (Nat.le_refl _) ha]; exact hb
theorem isT_ascii (c : UInt8) (h : c.toNat < 128) : isT (escB c) = true := by
  have := byte_all (P := fun c => decide (c.toNat < 128 → isT (escB c) = true)) (by decide +kernel) c
  exact (of_decide_eq_true this) h
theorem escB_high {c : UInt8} (h : 128 ≤ c.toNat) : escB c = [c] := by
  have := byte_all (P := fun c => decide (128 ≤ c.toNat → escB c = [c])) (by decide +kernel) c
  exact (of_decide_eq_true this) h
theorem flat_high : ∀ {l : List UInt8}, (∀ x ∈ l, 128 ≤ x.toNat) → l.flatMap escB = l
  | [], _ => rfl
  | c :: l, h => by
    rw [List.flatMap_cons, escB_high (h c (by simp)), flat_high (fun x hx => h x (by simp [hx]))]; rfl
theorem next_high {c : UInt8} {r : List UInt8} (h : (uNext (c :: r)).1 = true) (hc : 128 ≤ c.toNat) : ∀ x ∈ (c :: r).take (uNext (c :: r)).2.1, 128 ≤ x.toNat := by
  obtain ⟨p1, p2⟩ := uNext_pos (c := c) (r := r)
  have hu : ¬ uSize c.toNat = 0 := by
    intro e
    simp only [uNext, e, if_true] at h
    cases h
  have hn : ¬ uCnt c.toNat (uSize c.toNat) 1 r < uSize c.toNat := by
    intro e
    simp only [uNext, if_neg hu, if_pos e] at h
    cases h
  have hs : (uNext (c :: r)).2.1 = uSize c.toNat := by simp only [uNext, if_neg hu, if_neg hn]
  rw [hs]
  obtain ⟨_, hg⟩ := uCnt_good (by have := uSize_le c.toNat; omega) hn
  obtain ⟨m, hm⟩ : ∃ m, uSize c.toNat = m + 1 := ⟨uSize c.toNat - 1, by omega⟩
  rw [hm] at hg ⊢
  intro x hx
  rw [List.take_succ_cons] at hx
  rcases List.mem_cons.1 hx with rfl | hx
  · exact hc
  · exact (hg x (by simpa using hx)).1
theorem goodS_take {c : UInt8} {r : List UInt8} (h : goodS c r[0]? r[1]? r[2]? = true) : goodS c (r.take (uSize c.toNat - 1))[0]? (r.take (uSize c.toNat - 1))[1]? (r.take (uSize c.toNat - 1))[2]? = true := by
  unfold goodS at h ⊢
  split
  · rfl
  · rename_i h1
    rw [if_neg h1] at h
    split
    · rename_i h2
      rw [if_pos h2] at h
      have hu : uSize c.toNat = 2 := by unfold uSize; rw [if_neg h1, if_pos h2]
      rw [hu, List.getElem?_take_of_lt (by omega)]; exact h
    · rename_i h2
      rw [if_neg h2] at h
      split
      · rename_i h3
        rw [if_pos h3] at h
        have hu : uSize c.toNat = 3 := by unfold uSize; rw [if_neg h1, if_neg h2, if_pos h3]
        rw [hu, List.getElem?_take_of_lt (by omega), List.getElem?_take_of_lt (by omega)]; exact h
      · rename_i h3
        rw [if_neg h3] at h
        split
        · rename_i h4
          rw [if_pos h4] at h
          have hu : uSize c.toNat = 4 := by unfold uSize; rw [if_neg h1, if_neg h2, if_neg h3, if_pos h4]
          rw [hu, List.getElem?_take_of_lt (by omega), List.getElem?_take_of_lt (by omega), List.getElem?_take_of_lt (by omega)]; exact h
        · rename_i h4
          rw [if_neg h4] at h; cases h
theorem isT_take {c : UInt8} {r : List UInt8} (h : (uNext (c :: r)).1 = true) : isT ((c :: r).take (uNext (c :: r)).2.1) = true := by
  obtain ⟨p1, p2⟩ := uNext_pos (c := c) (r := r)
  obtain ⟨g1, g2⟩ := next_good (c := c) (r := r)
  rw [h] at g1
  have hs := g2 g1.symm
  have ht := goodS_take g1.symm
  obtain ⟨m, hm⟩ : ∃ m, uSize c.toNat = m + 1 := ⟨uSize c.toNat - 1, by omega⟩
  rw [hs]
  rw [hs] at p1 p2
  rw [hm] at ht p2 ⊢
  simp only [Nat.add_sub_cancel] at ht
  obtain ⟨k1, k2⟩ := next_good (c := c) (r := r.take m)
  rw [List.take_succ_cons, isT_cons, k1, ht, k2 ht, hm, Bool.true_and]
  have : (c :: r.take m).drop (m + 1) = [] := by
    rw [List.drop_succ_cons]
    exact List.drop_of_length_le (by rw [List.length_take]; omega)
  rw [this]; rfl
theorem isT_flat : ∀ (n : Nat) {s : List UInt8}, s.length ≤ n → isT s = true → isT (s.flatMap escB) = true
  | 0, s, hn, _ => by
    obtain rfl : s = [] := List.eq_nil_of_length_eq_zero (by omega)
    rfl
  | n + 1, [], _, _ => rfl
  | n + 1, c :: r, hn, h => by
    have h' := h
    rw [isT_cons, Bool.and_eq_true] at h'
    obtain ⟨p1, p2⟩ := uNext_pos (c := c) (r := r)
    simp only [List.length_cons] at hn
    by_cases hc : c.toNat < 128
    · have hu : (uNext (c :: r)).2.1 = 1 := by
        obtain ⟨g1, g2⟩ := next_good (c := c) (r := r)
        rw [h'.1] at g1
        rw [g2 g1.symm]; unfold uSize; rw [if_pos hc]
      rw [hu] at h'
      rw [List.flatMap_cons]
      exact isT_append (isT_ascii c hc) (isT_flat n (by omega) h'.2)
    · have hX := next_high h'.1 (by omega)
      have hsplit := List.take_append_drop (uNext (c :: r)).2.1 (c :: r)
      rw [← hsplit, List.flatMap_append, flat_high hX]
      exact isT_append (isT_take h'.1) (isT_flat n (by rw [List.length_drop]; simp only [List.length_cons] at p2 ⊢; omega) h'.2)
theorem isT_quot {s : List UInt8} (h : isT s = true) : isT (quotS s) = true :=
  isT_append (by decide) (isT_append (isT_flat _ (Nat.le_refl _) h) (by decide))
theorem isT_low {c : UInt8} (h : c.toNat < 128) : isT [c] = true := by
  have := byte_all (P := fun c => decide (c.toNat < 128 → isT [c] = true)) (by decide +kernel) c
  exact (of_decide_eq_true this) h
theorem isT_lows : ∀ {l : List UInt8}, (∀ x ∈ l, x.toNat < 128) → isT l = true
  | [], _ => rfl
  | c :: l, h => isT_append (a := [c]) (isT_low (h c (by simp))) (isT_lows fun x hx => h x (by simp [hx]))
theorem isT_items {tb : Bool} : ∀ {l : List VT} {ks : List (List UInt8)} {first : Bool}, (∀ v ∈ l, isT (textT v) = true) → (tb = true → ∀ k ∈ ks, isT k = true) → isT (itemsT tb first ks l) = true
  | [], _, _, _, _ => by simp [itemsT]; rfl
  | v :: r, ks, first, h, hk => by
    have h1 : isT (if first = true then [] else [44] : List UInt8) = true := by cases first <;> decide
    have h2 : isT (keyB tb ks) = true := by
      unfold keyB
      split
      · exact isT_append (isT_quot (hk rfl _ (by simp))) (by decide)
      · rfl
    simp only [itemsT]
    exact isT_append h1 (isT_append h2 (isT_append (h v (by simp)) (isT_items (fun x hx => h x (by simp [hx])) (fun e x hx => hk e x (List.mem_of_mem_tail hx)))))
theorem isT_text : ∀ (n : Nat) {T : VT} {d : Nat}, nodesT T ≤ n → goodT d T = true → isT (textT T) = true
  | 0, T, _, hn, _ => by have := node_pos T; omega
  | n + 1, .node k t ks l, d, hn, h => by
    simp only [goodT, Bool.and_eq_true] at h
    obtain ⟨hone, _, hgl⟩ := h
    have hkids : ∀ v ∈ l, isT (textT v) = true := fun v hv => isT_text n (by have := nodes_mem hv; simp only [nodesT] at hn; omega) (goodL_mem hgl v hv)
    have hk := oneS_kind hone
    by_cases k1 : k = 1
    · simp only [textT, if_pos k1]; decide
    by_cases k4 : k = 4
    · have ht : isT t = true := by simp [oneS, k4] at hone; exact hone.2
      simp only [textT, if_neg k1, if_pos k4]; exact isT_quot ht
    by_cases k5 : k = 5
    · simp only [textT, if_neg k1, if_neg k4, if_pos k5]
      exact isT_append (by decide) (isT_append (isT_items hkids (fun e => by cases e)) (by decide))
    by_cases k6 : k = 6
    · have hall : allT ks = true := by simp [oneS, k6] at hone; exact hone.2.2
      simp only [textT, if_neg k1, if_neg k4, if_neg k5, if_pos k6]
      exact isT_append (by decide) (isT_append (isT_items hkids (fun _ x hx => List.all_eq_true.1 hall x hx)) (by decide))
    · simp only [textT, if_neg k1, if_neg k4, if_neg k5, if_neg k6]
      by_cases k2 : k = 2
      · have : t = tTrue ∨ t = tFalse := by simp [oneS, k2] at hone; exact hone.2
        rcases this with rfl | rfl <;> decide
      · have k3 : k = 3 := by omega
        have hnum : numS t = true := by simp [oneS, k3] at hone; exact hone.2
        refine isT_lows fun x hx => ?_
        have hx' := num_num hnum x hx
        simp [isNum, isNumN, isDigN] at hx'
        omega
theorem parseT_text {T : VT} (h : mayT T = true) (hl : (textT T).length ≤ 65536) : parseT (textT T) = (T, 0, 0) := by
  have hg : goodT 0 T = true := by simp only [mayT, Bool.and_eq_true] at h; exact h.1
  unfold parseT
  rw [if_neg (by omega), if_neg (by rw [isT_text _ (Nat.le_refl _) hg]; simp), parseS_text h]
end Go.Proofs.YtkjokjogdehonaaGreatDoor.Am.Q
namespace Go.Proofs.YtkjokjogdehonaaGreatDoor.Am.Q
open Go Go.Proofs Go.Proofs.YtkjokjogdehonaaGreatDoor.Am
end Go.Proofs.YtkjokjogdehonaaGreatDoor.Am.Q
namespace Go.Proofs.YtkjokjogdehonaaGreatDoor.Am.Q
open Go Go.Proofs Go.Proofs.YtkjokjogdehonaaGreatDoor.Am
end Go.Proofs.YtkjokjogdehonaaGreatDoor.Am.Q
namespace Go.Proofs.YtkjokjogdehonaaGreatDoor.Am.Q
open Go Go.Proofs Go.Proofs.YtkjokjogdehonaaGreatDoor.Am
end Go.Proofs.YtkjokjogdehonaaGreatDoor.Am.Q
namespace Go.Proofs.YtkjokjogdehonaaGreatDoor.Am.Q
open Go Go.Proofs Go.Proofs.YtkjokjogdehonaaGreatDoor.Am
end Go.Proofs.YtkjokjogdehonaaGreatDoor.Am.Q
namespace Go.Proofs.YtkjokjogdehonaaGreatDoor.Am.Q
open Go Go.Proofs Go.Proofs.YtkjokjogdehonaaGreatDoor.Am
end Go.Proofs.YtkjokjogdehonaaGreatDoor.Am.Q
namespace Go.Proofs.YtkjokjogdehonaaGreatDoor.Am.Q
open Go Go.Proofs Go.Proofs.YtkjokjogdehonaaGreatDoor.Am
end Go.Proofs.YtkjokjogdehonaaGreatDoor.Am.Q
namespace Go.Proofs.YtkjokjogdehonaaGreatDoor.Am.Q
open Go Go.Proofs Go.Proofs.YtkjokjogdehonaaGreatDoor.Am
end Go.Proofs.YtkjokjogdehonaaGreatDoor.Am.Q
namespace Go.Proofs.YtkjokjogdehonaaGreatDoor.Am.Q
open Go Go.Proofs Go.Proofs.YtkjokjogdehonaaGreatDoor.Am
end Go.Proofs.YtkjokjogdehonaaGreatDoor.Am.Q
namespace Go.Proofs.YtkjokjogdehonaaGreatDoor.Am.Q
open Go Go.Proofs Go.Proofs.YtkjokjogdehonaaGreatDoor.Am
end Go.Proofs.YtkjokjogdehonaaGreatDoor.Am.Q
namespace Go.Proofs.YtkjokjogdehonaaGreatDoor.Am.Q
open Go Go.Proofs Go.Proofs.YtkjokjogdehonaaGreatDoor.Am
end Go.Proofs.YtkjokjogdehonaaGreatDoor.Am.Q
namespace Go.Proofs.YtkjokjogdehonaaGreatDoor.Am.Q
open Go Go.Proofs Go.Proofs.YtkjokjogdehonaaGreatDoor.Am
end Go.Proofs.YtkjokjogdehonaaGreatDoor.Am.Q
namespace Go.Proofs.YtkjokjogdehonaaGreatDoor.Am.Q
open Go Go.Proofs Go.Proofs.YtkjokjogdehonaaGreatDoor.Am
end Go.Proofs.YtkjokjogdehonaaGreatDoor.Am.Q
