/- Part KR1 of a claim's texts, joined: what the claim needs of them. -/
import Derived.Test.YtinlfdkalijffaaDoorKR5
import Derived.Test.YtinlfdkalijffaaDoorKR3
set_option linter.unusedSimpArgs false
set_option linter.unusedVariables false
namespace Go.Proofs.YtinlfdkalijffaaDoor.Am.Q
open Go Go.Proofs Go.Proofs.YtinlfdkalijffaaDoor.Am
theorem drop_cons {s : List UInt8} {i : Nat} {c : UInt8} {r : List UInt8} (h : s.drop i = c :: r) : s[i]? = some c ∧ s.drop (i + 1) = r := by
  constructor
  · have := congrArg (·[0]?) h
    simpa using this
  · rw [← List.drop_drop, h]; rfl
theorem drop_app {s : List UInt8} {i : Nat} {a b : List UInt8} (h : s.drop i = a ++ b) : s.drop (i + a.length) = b := by
  rw [← List.drop_drop, h, List.drop_left]
theorem esc_read {k : Nat} {c : UInt8} (h : sevF[k]? = some c) : ∃ j, escIdx (sevT.getD k 0) = some j ∧ escT.getD j 0 = c := by
  have hk : k < 7 := (List.getElem?_eq_some_iff.1 h).1
  have key : ∀ j : Fin 7, escIdx (sevT.getD j.val 0) = some j.val ∧ escT.getD j.val 0 = sevF.getD j.val 0 := by decide +kernel
  have := key ⟨k, hk⟩
  rw [show sevF.getD k 0 = c by simp [List.getD, h]] at this
  exact ⟨k, this⟩
theorem hex_read (c : UInt8) : ([48, 48, hexs.getD (c.toNat / 16) 0, hexs.getD (c.toNat % 16) 0] : List UInt8).any bad = false ∧ hexN [48, 48, hexs.getD (c.toNat / 16) 0, hexs.getD (c.toNat % 16) 0] = c.toNat := by
  have := byte_all (P := fun c => decide (([48, 48, hexs.getD (c.toNat / 16) 0, hexs.getD (c.toNat % 16) 0] : List UInt8).any bad = false ∧ hexN [48, 48, hexs.getD (c.toNat / 16) 0, hexs.getD (c.toNat % 16) 0] = c.toNat)) (by decide +kernel) c
  exact of_decide_eq_true this
theorem quo_read {s : List UInt8} : ∀ {l rest : List UInt8} {f i : Nat} {out : List UInt8}, s.drop i = l.flatMap escB ++ 34 :: rest → l.length + 1 ≤ f → quoS s f i out = .ok (out ++ l, i + (l.flatMap escB).length + 1)
  | [], rest, f, i, out, h, hf => by
    obtain ⟨h1, _⟩ := drop_cons (show s.drop i = 34 :: rest from h)
    cases f with
    | zero => omega
    | succ f =>
      simp only [quoS, h1]
      rw [if_neg (by decide), if_pos (by decide)]
      simp
  | c :: l, rest, f, i, out, h, hf => by
    cases f with
    | zero => omega
    | succ f =>
      have hf' : l.length + 1 ≤ f := by simp at hf; omega
      rw [List.flatMap_cons, List.append_assoc] at h
      have hnext := drop_app h
      by_cases hin : c ∈ sevF
      · obtain ⟨k, hk, hk1, _, _⟩ := fA c hin
        have he := esc_at hk1
        rw [he] at h hnext
        obtain ⟨h1, h2⟩ := drop_cons (show s.drop i = 92 :: (sevT.getD k 0 :: (l.flatMap escB ++ 34 :: rest)) from h)
        obtain ⟨h3, _⟩ := drop_cons h2
        obtain ⟨j, j1, j2⟩ := esc_read hk1
        have hS : escS s i = .ok ([c], i + 2) := by
          simp only [escS, h3, j1]
          rw [show (([8, 9, 10, 12, 13, 34, 92, 47] : List UInt8).getD j 0) = c from j2]
        have ih := quo_read (s := s) (l := l) (rest := rest) (f := f) (i := i + 2) (out := out ++ [c]) (by simpa using hnext) hf'
        simp only [quoS, h1]
        rw [if_neg (by decide), if_neg (by decide), if_pos (by decide), hS]
        dsimp only
        rw [ih, List.flatMap_cons, he]
        simp only [List.append_assoc, List.singleton_append, List.length_append, List.length_cons, List.length_nil]
        congr 2
        omega
      · have he := esc_none hin
        by_cases hx : c.toNat < 32 ∨ c.toNat = 127
        · rw [if_pos hx] at he
          rw [he] at h hnext
          obtain ⟨h1, h2⟩ := drop_cons (show s.drop i = 92 :: (117 :: (48 :: 48 :: hexs.getD (c.toNat / 16) 0 :: hexs.getD (c.toNat % 16) 0 :: (l.flatMap escB ++ 34 :: rest))) from h)
          obtain ⟨h3, h4⟩ := drop_cons h2
          obtain ⟨x1, x2⟩ := hex_read c
          have h4' : (s.drop (i + 2)).take 4 = [48, 48, hexs.getD (c.toNat / 16) 0, hexs.getD (c.toNat % 16) 0] := by
            rw [show s.drop (i + 2) = _ from h4]; rfl
          have hh : hex4 s (i + 2) i = .ok c.toNat := by
            rw [hex4_ok (by rw [h4']; exact x1) (by rw [h4']; simp), h4', x2]
          have e117 : escIdx 117 = none := by decide
          have hS : escS s i = .ok ([c], i + 6) := by
            simp only [escS, h3, e117, hh]
            rw [if_neg (by decide), if_pos (by omega), put1 (by omega)]
            simp [b8]
          have ih := quo_read (s := s) (l := l) (rest := rest) (f := f) (i := i + 6) (out := out ++ [c]) (by simpa using hnext) hf'
          simp only [quoS, h1]
          rw [if_neg (by decide), if_neg (by decide), if_pos (by decide), hS]
          dsimp only
          rw [ih, List.flatMap_cons, he]
          simp only [List.append_assoc, List.singleton_append, List.length_append, List.length_cons, List.length_nil]
          congr 2
          omega
        · rw [if_neg hx] at he
          rw [he] at h hnext
          obtain ⟨h1, h2⟩ := drop_cons (show s.drop i = c :: (l.flatMap escB ++ 34 :: rest) from h)
          have n34 : ¬ c.toNat = 34 := fun e => hin (by rw [show c = 34 from UInt8.toNat_inj.1 e]; decide)
          have n92 : ¬ c.toNat = 92 := fun e => hin (by rw [show c = 92 from UInt8.toNat_inj.1 e]; decide)
          have ih := quo_read (s := s) (l := l) (rest := rest) (f := f) (i := i + 1) (out := out ++ [c]) h2 hf'
          simp only [quoS, h1]
          rw [if_neg (by omega), if_neg n34, if_neg n92, ih, List.flatMap_cons, he]
          simp only [List.append_assoc, List.singleton_append, List.length_append, List.length_cons, List.length_nil]
          congr 2
          omega
theorem flat_ge (l : List UInt8) : l.length ≤ (l.flatMap escB).length := by
  induction l with
  | nil => simp
  | cons c l ih => have := (escB_len c).2; simp only [List.flatMap_cons, List.length_append, List.length_cons]; omega
theorem quote_read {s t rest : List UInt8} {i : Nat} (h : s.drop i = quotS t ++ rest) : quote s i = .ok (t, i + (quotS t).length) := by
  have h1 : s.drop i = 34 :: (t.flatMap escB ++ 34 :: rest) := by rw [h]; simp [quotS]
  obtain ⟨_, h2⟩ := drop_cons h1
  have hlen := congrArg List.length h1
  simp only [List.length_drop, List.length_cons, List.length_append] at hlen
  have hg := flat_ge t
  have := quo_read (s := s) (l := t) (rest := rest) (f := s.length - i + 1) (i := i + 1) (out := []) h2 (by omega)
  unfold quote
  rw [this]
  simp only [quotS, List.nil_append, List.length_append, List.length_cons, List.length_nil]
  congr 2
  omega
end Go.Proofs.YtinlfdkalijffaaDoor.Am.Q
namespace Go.Proofs.YtinlfdkalijffaaDoor.Am.Q
open Go Go.Proofs Go.Proofs.YtinlfdkalijffaaDoor.Am
theorem nxt_here {s : List UInt8} {i : Nat} {c : UInt8} (h : s[i]? = some c) (hb : isBlk c = false) : nxt s i = .ok (i, c) := by
  have hs : skipN s i = i := by unfold skipN; rw [drop_at h, runN_cons, hb]; simp
  have := nxt_some (s := s) (i := i) (c := c) (by rw [hs]; exact h)
  rw [this, hs]
def EndsV (rest : List UInt8) : Prop := ∀ c r, rest = c :: r → isNum c = false ∧ isSmall c = false
theorem take_ends {p : UInt8 → Bool} {t rest : List UInt8} (ht : ∀ x ∈ t, p x = true) (hr : ∀ c r, rest = c :: r → p c = false) : (t ++ rest).takeWhile p = t := by
  rw [List.takeWhile_append_of_pos ht]
  cases rest with
  | nil => simp
  | cons c r => rw [List.takeWhile_cons, hr c r rfl]; simp
theorem run_all {p : UInt8 → Bool} : ∀ {l : List UInt8}, runN p l = l.length → ∀ x ∈ l, p x = true
  | c :: l, h, x, hx => by
    rw [runN_cons] at h
    cases hc : p c with
    | false => rw [hc] at h; simp at h
    | true =>
      rw [hc, if_pos rfl, List.length_cons] at h
      rcases List.mem_cons.1 hx with rfl | hx
      · exact hc
      · exact run_all (by omega) x hx
theorem dig_num {c : UInt8} (h : isDig c = true) : isNum c = true := by
  unfold isDig at h
  simp only [isNum, isNumN, h, Bool.true_or]
theorem take_mem {p : UInt8 → Bool} {l : List UInt8} {x : UInt8} (h : x ∈ l.take (runN p l)) : p x = true := by
  rw [take_runN] at h
  induction l with
  | nil => simp at h
  | cons c l ih =>
    rw [List.takeWhile_cons] at h
    split at h
    · rename_i hc
      rcases List.mem_cons.1 h with rfl | h
      · exact hc
      · exact ih h
    · simp at h
theorem exp_num {s : List UInt8} (h : expS s = true) : ∀ x ∈ s, isNum x = true := by
  cases s with
  | nil => simp
  | cons c r =>
    simp only [expS, Bool.and_eq_true, Bool.or_eq_true, decide_eq_true_eq] at h
    obtain ⟨h1, h2⟩ := h
    have hc : isNum c = true := by simp [isNum, isNumN]; omega
    intro x hx
    rcases List.mem_cons.1 hx with rfl | hx
    · exact hc
    · cases r with
      | nil => simp at hx
      | cons d q =>
        dsimp only at h2
        split at h2
        · rename_i hd
          simp only [Bool.and_eq_true, decide_eq_true_eq] at h2
          rcases List.mem_cons.1 hx with rfl | hx
          · simp [isNum, isNumN]; omega
          · exact dig_num (run_all h2.2 x hx)
        · exact dig_num (run_all (of_decide_eq_true h2) x hx)
theorem frac_num {s : List UInt8} (h : fracS s = true) : ∀ x ∈ s, isNum x = true := by
  cases s with
  | nil => simp
  | cons c r =>
    simp only [fracS] at h
    split at h
    · rename_i hc
      split at h
      · cases h
      · intro x hx
        rcases List.mem_cons.1 hx with rfl | hx
        · simp [isNum, isNumN]; omega
        · rw [← List.take_append_drop (runN isDig r) r] at hx
          rcases List.mem_append.1 hx with hx | hx
          · exact dig_num (take_mem hx)
          · exact exp_num h x hx
    · exact exp_num h
theorem abs_num {s : List UInt8} (h : absS s = true) : ∀ x ∈ s, isNum x = true := by
  unfold absS at h
  split at h
  · cases h
  · intro x hx
    rw [← List.take_append_drop (runN isDig s) s] at hx
    rcases List.mem_append.1 hx with hx | hx
    · exact dig_num (take_mem hx)
    · exact frac_num h x hx
theorem num_num {s : List UInt8} (h : numS s = true) : ∀ x ∈ s, isNum x = true := by
  cases s with
  | nil => simp
  | cons c r =>
    simp only [numS] at h
    split at h
    · rename_i hc
      intro x hx
      rcases List.mem_cons.1 hx with rfl | hx
      · simp [isNum, isNumN]; omega
      · exact abs_num h x hx
    · exact abs_num h
theorem num_head {s : List UInt8} (h : numS s = true) : ∃ c r, s = c :: r ∧ (c.toNat = 45 ∨ isDig c = true) := by
  cases s with
  | nil => cases h
  | cons c r =>
    refine ⟨c, r, rfl, ?_⟩
    simp only [numS] at h
    split at h
    · exact .inl ‹_›
    · right
      unfold absS at h
      split at h
      · cases h
      · rename_i hn
        cases hd : isDig c with
        | true => rfl
        | false => exact absurd (.inl (by rw [runN_cons, hd]; simp)) hn
theorem dig_range {c : UInt8} (h : isDig c = true) : 48 ≤ c.toNat ∧ c.toNat ≤ 57 := by
  simp only [isDig, isDigN, Bool.and_eq_true, decide_eq_true_eq] at h; exact h
theorem blk_range {c : UInt8} (h : 32 < c.toNat) : isBlk c = false := by
  cases hb : isBlk c with
  | false => rfl
  | true => have := isBlk_iff.1 hb; omega
theorem text_head {d : Nat} : ∀ {T : VT}, goodT d T = true → ∃ c r, textT T = c :: r ∧ isBlk c = false ∧ c.toNat ≠ 93 ∧ c.toNat ≠ 125 ∧ c.toNat ≠ 44
  | .node k t ks l, h => by
    simp only [goodT, Bool.and_eq_true] at h
    have hone := h.1
    by_cases k1 : k = 1
    · exact ⟨110, [117, 108, 108], by simp only [textT, if_pos k1]; rfl, by decide, by decide, by decide, by decide⟩
    · by_cases k4 : k = 4
      · exact ⟨34, t.flatMap escB ++ [34], by simp only [textT, if_neg k1, if_pos k4]; simp [quotS], by decide, by decide, by decide, by decide⟩
      · by_cases k5 : k = 5
        · exact ⟨91, itemsT false true ks l ++ [93], by simp only [textT, if_neg k1, if_neg k4, if_pos k5]; simp, by decide, by decide, by decide, by decide⟩
        · by_cases k6 : k = 6
          · exact ⟨123, itemsT true true ks l ++ [125], by simp only [textT, if_neg k1, if_neg k4, if_neg k5, if_pos k6]; simp, by decide, by decide, by decide, by decide⟩
          · have hS : textT (.node k t ks l) = t := by simp only [textT, if_neg k1, if_neg k4, if_neg k5, if_neg k6]
            by_cases k2 : k = 2
            · have : t = tTrue ∨ t = tFalse := by
                simp [oneS, k2] at hone; exact hone.2
              rcases this with rfl | rfl
              · exact ⟨116, [114, 117, 101], by rw [hS]; rfl, by decide, by decide, by decide, by decide⟩
              · exact ⟨102, [97, 108, 115, 101], by rw [hS]; rfl, by decide, by decide, by decide, by decide⟩
            · have k3 : k = 3 := by have := oneS_kind hone; omega
              have hn : numS t = true := by simp [oneS, k3] at hone; exact hone.2
              obtain ⟨c, r, rfl, hc⟩ := num_head hn
              refine ⟨c, r, hS, ?_⟩
              rcases hc with hc | hc
              · exact ⟨blk_range (by omega), by omega, by omega, by omega⟩
              · have := dig_range hc
                exact ⟨blk_range (by omega), by omega, by omega, by omega⟩
end Go.Proofs.YtinlfdkalijffaaDoor.Am.Q
namespace Go.Proofs.YtinlfdkalijffaaDoor.Am.Q
open Go Go.Proofs Go.Proofs.YtinlfdkalijffaaDoor.Am
theorem ends_punct {c : UInt8} (h : c.toNat = 44 ∨ c.toNat = 93 ∨ c.toNat = 125) : isNum c = false ∧ isSmall c = false := by
  constructor
  · simp [isNum, isNumN, isDigN]; omega
  · simp [isSmall, isSmallN]; omega
theorem node_pos (T : VT) : 1 ≤ nodesT T := by cases T; simp only [nodesT]; omega
def VR (n : Nat) : Prop := ∀ (T : VT), nodesT T ≤ n → ∀ (d i many f : Nat) (s rest : List UInt8), goodT d T = true → s.drop i = textT T ++ rest → EndsV rest → many + nodesT T ≤ 4096 → 2 * (s.length - i) + 1 ≤ f → pGo s f .val i many d = .ok (T, i + (textT T).length, many + nodesT T)
theorem items_ends {tb : Bool} {ks : List (List UInt8)} {l : List VT} {e : UInt8} {rest : List UInt8} (he : e.toNat = 93 ∨ e.toNat = 125) : EndsV (itemsT tb false ks l ++ e :: rest) := by
  intro c r h
  cases l with
  | nil =>
    simp only [itemsT, List.nil_append, List.cons.injEq] at h
    rw [← h.1]; exact ends_punct (by omega)
  | cons v l =>
    simp only [itemsT, Bool.false_eq_true, if_false, List.cons_append, List.cons.injEq] at h
    rw [← h.1]; exact ends_punct (by decide)
theorem more_first {s : List UInt8} {i e : Nat} {c : UInt8} (h : s[i]? = some c) (hb : isBlk c = false) (he : c.toNat ≠ e) : moreS s i true e = .ok (true, i) := by
  simp only [moreS, nxt_here h hb, if_neg he]; rfl
theorem more_comma {s : List UInt8} {i e : Nat} {c : UInt8} (h : s[i]? = some c) (hc : c.toNat = 44) (he : e ≠ 44) : moreS s i false e = .ok (true, i + 1) := by
  have hb : isBlk c = false := blk_range (by omega)
  simp only [moreS, nxt_here h hb]
  rw [if_neg (by omega), if_neg (by decide), if_neg (by omega)]
theorem more_end {s : List UInt8} {i e : Nat} {c : UInt8} {first : Bool} (h : s[i]? = some c) (hb : isBlk c = false) (he : c.toNat = e) : moreS s i first e = .ok (false, i + 1) := by
  simp only [moreS, nxt_here h hb, if_pos he]
theorem list_read {n : Nat} (IH : VR n) {s : List UInt8} {d : Nat} {rest : List UInt8} : ∀ {l : List VT}, nodesL l ≤ n → ∀ {acc : List VT} {i many f : Nat} {ks : List (List UInt8)}, goodL (d + 1) l = true → s.drop i = itemsT false (decide (acc = [])) ks l ++ 93 :: rest → many + nodesL l ≤ 4096 → 2 * (s.length - i) + 2 ≤ f →
    pGo s f (.list acc) i many d = .ok (.node 5 [] [] (acc ++ l), i + (itemsT false (decide (acc = [])) ks l).length + 1, many + nodesL l)
  | [], _, acc, i, many, f, ks, _, h, _, hf => by
    simp only [itemsT, List.nil_append] at h
    obtain ⟨h1, _⟩ := drop_cons h
    cases f with
    | zero => omega
    | succ f =>
      rw [pGo_list2, more_end h1 (by decide) (by decide)]
      simp [itemsT, nodesL]
  | v :: r, hn, acc, i, many, f, ks, hg, h, hm, hf => by
    simp only [goodL, Bool.and_eq_true] at hg
    simp only [nodesL] at hn hm
    have hv0 := node_pos v
    obtain ⟨c, tr, hc1, hc2, hc3, hc4, hc5⟩ := text_head hg.1
    have htl : 1 ≤ (textT v).length := by rw [hc1]; simp
    cases f with
    | zero => omega
    | succ f =>
      have hlt : i < s.length := by
        by_cases hi : i < s.length
        · exact hi
        · rw [List.drop_of_length_le (by omega)] at h
          have := congrArg List.length h
          simp at this
      rw [pGo_list2]
      by_cases ha : acc = []
      · have e : decide (acc = []) = true := dT ha
        rw [e] at h ⊢
        simp only [itemsT, if_true, List.nil_append, keyB, List.append_assoc] at h ⊢
        obtain ⟨h1, _⟩ := drop_cons (show s.drop i = c :: (tr ++ (itemsT false false ks.tail r ++ 93 :: rest)) by rw [h, hc1]; rfl)
        rw [more_first h1 hc2 hc3]
        have hv := IH v (by omega) (d + 1) i many f s (itemsT false false ks.tail r ++ 93 :: rest) hg.1 h (items_ends (by decide)) (by omega) (by omega)
        have hd := drop_app h
        have hnn : ¬ (acc ++ [v] = []) := by simp
        have ih := list_read IH (s := s) (d := d) (rest := rest) (l := r) (by omega) (acc := acc ++ [v]) (i := i + (textT v).length) (many := many + nodesT v) (f := f) (ks := ks.tail) hg.2 (by rw [dF hnn]; exact hd) (by omega) (by omega)
        rw [dF hnn] at ih
        simp only [Bool.true_eq_false, if_false, hv, ih, List.length_append, nodesL, List.append_assoc, List.singleton_append]
        congr 3 <;> omega
      · have e : decide (acc = []) = false := dF ha
        rw [e] at h ⊢
        simp only [itemsT, Bool.false_eq_true, if_false, keyB, List.append_assoc, List.nil_append] at h ⊢
        obtain ⟨h1, h2⟩ := drop_cons (show s.drop i = 44 :: (textT v ++ (itemsT false false ks.tail r ++ 93 :: rest)) from h)
        rw [more_comma h1 (by decide) (by decide)]
        have hv := IH v (by omega) (d + 1) (i + 1) many f s (itemsT false false ks.tail r ++ 93 :: rest) hg.1 h2 (items_ends (by decide)) (by omega) (by omega)
        have hd := drop_app h2
        have hnn : ¬ (acc ++ [v] = []) := by simp
        have ih := list_read IH (s := s) (d := d) (rest := rest) (l := r) (by omega) (acc := acc ++ [v]) (i := i + 1 + (textT v).length) (many := many + nodesT v) (f := f) (ks := ks.tail) hg.2 (by rw [dF hnn]; exact hd) (by omega) (by omega)
        rw [dF hnn] at ih
        simp only [Bool.true_eq_false, if_false, hv, ih, List.length_append, nodesL, List.append_assoc, List.singleton_append, List.length_cons, List.length_nil]
        congr 3 <;> omega
theorem tab_read {n : Nat} (IH : VR n) {s : List UInt8} {d : Nat} {rest : List UInt8} : ∀ {l : List VT}, nodesL l ≤ n → ∀ {ks0 ks : List (List UInt8)} {acc : List VT} {i many f : Nat}, ks.length = l.length → twS ks0 ks = false → goodL (d + 1) l = true → s.drop i = itemsT true (decide (acc = [])) ks l ++ 125 :: rest → many + nodesL l ≤ 4096 → 2 * (s.length - i) + 2 ≤ f →
    pGo s f (.tab ks0 acc) i many d = .ok (.node 6 [] (ks0 ++ ks) (acc ++ l), i + (itemsT true (decide (acc = [])) ks l).length + 1, many + nodesL l)
  | [], _, ks0, ks, acc, i, many, f, hk, _, _, h, _, hf => by
    obtain rfl : ks = [] := List.eq_nil_of_length_eq_zero (by simpa using hk)
    simp only [itemsT, List.nil_append] at h
    obtain ⟨h1, _⟩ := drop_cons h
    cases f with
    | zero => omega
    | succ f =>
      rw [pGo_tab2, more_end h1 (by decide) (by decide)]
      simp [itemsT, nodesL]
  | v :: r, hn, ks0, ks, acc, i, many, f, hk, htw, hg, h, hm, hf => by
    cases ks with
    | nil => simp at hk
    | cons key ks =>
    simp only [goodL, Bool.and_eq_true] at hg
    simp only [nodesL] at hn hm
    simp only [twS, Bool.or_eq_false_iff, decide_eq_false_iff_not] at htw
    have hkl : ks.length = r.length := by simpa using hk
    cases f with
    | zero => omega
    | succ f =>
      have hlt : i < s.length := by
        by_cases hi : i < s.length
        · exact hi
        · rw [List.drop_of_length_le (by omega)] at h
          have := congrArg List.length h
          simp at this
      rw [pGo_tab2]
      -- behind 'more', at a
      have rest' : ∀ a, i ≤ a → s.drop a = quotS key ++ (58 :: (textT v ++ (itemsT true false ks r ++ 125 :: rest))) → (match nxt s a with
        | .error e => (.error e : Except Flt (VT × Nat × Nat))
        | .ok (a, q) => if q.toNat ≠ 34 then .error (3, a) else
          (match quote s a with
          | .error e => .error e
          | .ok (key, b) => if key ∈ ks0 then .error (7, a) else
            (match mustS s b 58 with
            | .error e => .error e
            | .ok (_, d') =>
              (match pGo s f .val d' many (d + 1) with
              | .error e => .error e
              | .ok (v, k, many') => pGo s f (.tab (ks0 ++ [key]) (acc ++ [v])) k many' d)))) = .ok (.node 6 [] (ks0 ++ key :: ks) (acc ++ v :: r), a + (quotS key).length + 1 + (textT v).length + (itemsT true false ks r).length + 1, many + (nodesT v + nodesL r)) := by
        intro a hia ha
        obtain ⟨h1, _⟩ := drop_cons (show s.drop a = 34 :: (key.flatMap escB ++ [34] ++ (58 :: (textT v ++ (itemsT true false ks r ++ 125 :: rest)))) by rw [ha]; simp [quotS])
        rw [nxt_here h1 (by decide)]
        dsimp only
        rw [if_neg (by decide), quote_read ha]
        dsimp only
        rw [if_neg htw.1]
        obtain ⟨h2, h3⟩ := drop_cons (drop_app ha)
        have hmu : mustS s (a + (quotS key).length) 58 = .ok ((), a + (quotS key).length + 1) := by
          simp only [mustS, nxt_here h2 (by decide)]
          rw [if_neg (by decide)]
        rw [hmu]
        dsimp only
        have hv := IH v (by omega) (d + 1) (a + (quotS key).length + 1) many f s (itemsT true false ks r ++ 125 :: rest) hg.1 h3 (items_ends (by decide)) (by omega) (by omega)
        rw [hv]
        dsimp only
        have hd := drop_app h3
        have hnn : ¬ (acc ++ [v] = []) := by simp
        have hq2 : 2 ≤ (quotS key).length := by simp [quotS]
        have ih := tab_read IH (s := s) (d := d) (rest := rest) (l := r) (by omega) (ks0 := ks0 ++ [key]) (ks := ks) (acc := acc ++ [v]) (i := a + (quotS key).length + 1 + (textT v).length) (many := many + nodesT v) (f := f) hkl htw.2 hg.2 (by rw [dF hnn]; exact hd) (by omega) (by omega)
        rw [dF hnn] at ih
        rw [ih]
        simp only [List.append_assoc, List.singleton_append]
        congr 3
        omega
      by_cases ha : acc = []
      · have e : decide (acc = []) = true := dT ha
        rw [e] at h ⊢
        simp only [itemsT, if_true, List.nil_append, keyB, List.append_assoc, List.tail_cons, List.cons_append] at h ⊢
        obtain ⟨h1, _⟩ := drop_cons (show s.drop i = 34 :: (key.flatMap escB ++ [34] ++ (58 :: (textT v ++ (itemsT true false ks r ++ 125 :: rest)))) by rw [h]; simp [quotS])
        rw [more_first h1 (by decide) (by decide)]
        have := rest' i (Nat.le_refl _) h
        simp only [Bool.true_eq_false, if_false]
        refine Eq.trans this ?_
        simp only [List.length_append, nodesL, List.length_cons, List.length_nil]
        congr 3 <;> omega
      · have e : decide (acc = []) = false := dF ha
        rw [e] at h ⊢
        simp only [itemsT, Bool.false_eq_true, if_false, keyB, List.append_assoc, List.nil_append, List.tail_cons, List.cons_append] at h ⊢
        obtain ⟨h1, h2⟩ := drop_cons h
        rw [more_comma h1 (by decide) (by decide)]
        have := rest' (i + 1) (by omega) h2
        simp only [Bool.true_eq_false, if_false]
        refine Eq.trans this ?_
        simp only [List.length_append, nodesL, List.length_cons, List.length_nil]
        congr 3 <;> omega
end Go.Proofs.YtinlfdkalijffaaDoor.Am.Q
namespace Go.Proofs.YtinlfdkalijffaaDoor.Am.Q
open Go Go.Proofs Go.Proofs.YtinlfdkalijffaaDoor.Am
theorem pGo_val {s : List UInt8} {f i many deep j : Nat} {c : UInt8} (hx : nxt s i = .ok (j, c)) : pGo s (f + 1) .val i many deep = if 4096 < many + 1 then .error (5, j) else
      if c.toNat = 34 then (match quote s j with
        | .error e => .error e
        | .ok (t, k) => .ok (.node 4 t [] [], k, many + 1))
      else if c.toNat = 91 ∨ c.toNat = 123 then
        (if 64 ≤ deep then .error (8, j) else if c.toNat = 91 then pGo s f (.list []) (j + 1) (many + 1) deep else pGo s f (.tab [] []) (j + 1) (many + 1) deep)
      else if c.toNat = 45 ∨ isDig c = true then
        (if numS ((s.drop j).takeWhile isNum) then .ok (.node 3 ((s.drop j).takeWhile isNum) [] [], j + runN isNum (s.drop j), many + 1) else .error (3, j))
      else if (s.drop j).takeWhile isSmall = tNull then .ok (.node 1 [] [] [], j + runN isSmall (s.drop j), many + 1)
      else if (s.drop j).takeWhile isSmall = tTrue ∨ (s.drop j).takeWhile isSmall = tFalse then .ok (.node 2 ((s.drop j).takeWhile isSmall) [] [], j + runN isSmall (s.drop j), many + 1)
      else .error (3, j) := by
  simp only [pGo, hx]; rfl
theorem bare_nil {ks : List (List UInt8)} {l : List VT} (h : bareS ks l.length = true) : ks = [] ∧ l = [] := by
  simp only [bareS, Bool.and_eq_true, decide_eq_true_eq] at h
  exact ⟨List.eq_nil_of_length_eq_zero h.1, List.eq_nil_of_length_eq_zero h.2⟩
theorem word_read {s : List UInt8} {i f many deep : Nat} {w rest : List UInt8} {c : UInt8} {r : List UInt8} (hw : w = c :: r) (hc : isSmall c = true) (hall : ∀ x ∈ w, isSmall x = true) (h : s.drop i = w ++ rest) (he : EndsV rest) (hm : many + 1 ≤ 4096) :
    pGo s (f + 1) .val i many deep = if w = tNull then .ok (.node 1 [] [] [], i + w.length, many + 1) else if w = tTrue ∨ w = tFalse then .ok (.node 2 w [] [], i + w.length, many + 1) else .error (3, i) := by
  subst hw
  obtain ⟨h1, _⟩ := drop_cons (show s.drop i = c :: (r ++ rest) from h)
  have hr : 97 ≤ c.toNat ∧ c.toNat ≤ 122 := by
    simp only [isSmall, isSmallN, Bool.and_eq_true, decide_eq_true_eq] at hc; exact hc
  have ht : (s.drop i).takeWhile isSmall = c :: r := by rw [h]; exact take_ends hall (fun x y e => (he x y e).2)
  have hrun : runN isSmall (s.drop i) = (c :: r).length := by rw [← takeWhile_len, ht]
  have hd : isDig c = false := by
    cases hd : isDig c with
    | false => rfl
    | true => have := dig_range hd; omega
  rw [pGo_val (nxt_here h1 (blk_range (by omega))), if_neg (by omega), if_neg (by omega), if_neg (by omega), if_neg (by rw [hd]; simp; omega), ht, hrun]
theorem val_read : ∀ n, VR n
  | 0 => fun T h => by have := node_pos T; omega
  | n + 1 => by
    intro T hn d i many f s rest hg h he hm hf
    have IH := val_read n
    cases T with
    | node k t ks l =>
    cases f with
    | zero => omega
    | succ f =>
    have hnl : nodesL l ≤ n := by simp only [nodesT] at hn; omega
    have hg' := hg
    simp only [goodT, Bool.and_eq_true] at hg
    obtain ⟨hone, hdp, hgl⟩ := hg
    have hdp' : k < 5 ∨ d < 64 := by simpa using hdp
    simp only [nodesT] at hm ⊢
    have hk := oneS_kind hone
    by_cases k1 : k = 1
    · subst k1
      have hb : bareS ks l.length = true ∧ t = [] := by simpa [oneS] using hone
      obtain ⟨rfl, rfl⟩ := bare_nil hb.1
      obtain rfl := hb.2
      have hS : textT (.node 1 [] [] []) = tNull := by simp only [textT, if_true]
      rw [hS] at h ⊢
      rw [word_read (w := tNull) (c := 110) (r := [117, 108, 108]) rfl (by decide) (by decide) h he (by omega), if_pos rfl]
      simp [nodesL]
    by_cases k2 : k = 2
    · subst k2
      have hb : bareS ks l.length = true ∧ (t = tTrue ∨ t = tFalse) := by simpa [oneS] using hone
      obtain ⟨rfl, rfl⟩ := bare_nil hb.1
      have hS : textT (.node 2 t [] []) = t := by simp [textT]
      rw [hS] at h ⊢
      rcases hb.2 with rfl | rfl
      · rw [word_read (w := tTrue) (c := 116) (r := [114, 117, 101]) rfl (by decide) (by decide) h he (by omega), if_neg (by decide), if_pos (.inl rfl)]
        simp [nodesL]
      · rw [word_read (w := tFalse) (c := 102) (r := [97, 108, 115, 101]) rfl (by decide) (by decide) h he (by omega), if_neg (by decide), if_pos (.inr rfl)]
        simp [nodesL]
    by_cases k3 : k = 3
    · subst k3
      have hb : bareS ks l.length = true ∧ numS t = true := by simpa [oneS] using hone
      obtain ⟨rfl, rfl⟩ := bare_nil hb.1
      have hS : textT (.node 3 t [] []) = t := by simp [textT]
      rw [hS] at h ⊢
      obtain ⟨c, r, rfl, hc⟩ := num_head hb.2
      obtain ⟨h1, _⟩ := drop_cons (show s.drop i = c :: (r ++ rest) from h)
      have ht : (s.drop i).takeWhile isNum = c :: r := by rw [h]; exact take_ends (num_num hb.2) (fun x y e => (he x y e).1)
      have hrun : runN isNum (s.drop i) = (c :: r).length := by rw [← takeWhile_len, ht]
      have hrange : c.toNat = 45 ∨ (48 ≤ c.toNat ∧ c.toNat ≤ 57) := hc.imp id dig_range
      rw [pGo_val (nxt_here h1 (blk_range (by omega))), if_neg (by omega), if_neg (by omega), if_neg (by omega), if_pos hc, ht, if_pos hb.2, hrun]
      simp [nodesL]
    by_cases k4 : k = 4
    · subst k4
      have hb : bareS ks l.length = true := by simp [oneS] at hone; exact hone.1
      obtain ⟨rfl, rfl⟩ := bare_nil hb
      have hS : textT (.node 4 t [] []) = quotS t := by simp [textT]
      rw [hS] at h ⊢
      obtain ⟨h1, _⟩ := drop_cons (show s.drop i = 34 :: (t.flatMap escB ++ [34] ++ rest) by rw [h]; simp [quotS])
      rw [pGo_val (nxt_here h1 (by decide)), if_neg (by omega), if_pos (by decide), quote_read h]
      simp [nodesL]
    by_cases k5 : k = 5
    · subst k5
      have hb : t = [] ∧ ks = [] := by simpa [oneS] using hone
      obtain ⟨rfl, rfl⟩ := hb
      have hS : textT (.node 5 [] [] l) = [91] ++ (itemsT false true [] l ++ [93]) := by simp [textT]
      rw [hS] at h ⊢
      simp only [List.append_assoc, List.singleton_append, List.cons_append, List.nil_append] at h
      obtain ⟨h1, h2⟩ := drop_cons h
      rw [pGo_val (nxt_here h1 (by decide)), if_neg (by omega), if_neg (by decide), if_pos (.inl (by decide)), if_neg (by omega), if_pos (by decide)]
      have hlt : i < s.length := (List.getElem?_eq_some_iff.1 h1).1
      have := list_read IH (s := s) (d := d) (rest := rest) (l := l) hnl (acc := []) (i := i + 1) (many := many + 1) (f := f) (ks := []) hgl h2 (by omega) (by omega)
      rw [this]
      simp only [decide_true, List.nil_append, List.length_append, List.length_cons, List.length_nil]
      congr 3 <;> omega
    · have k6 : k = 6 := by omega
      subst k6
      have hb : (t = [] ∧ ks.length = l.length) ∧ twS [] ks = false ∧ allT ks = true := by simpa [oneS] using hone
      obtain ⟨⟨rfl, hkl⟩, htw, _⟩ := hb
      have hS : textT (.node 6 [] ks l) = [123] ++ (itemsT true true ks l ++ [125]) := by simp [textT]
      rw [hS] at h ⊢
      simp only [List.append_assoc, List.singleton_append, List.cons_append, List.nil_append] at h
      obtain ⟨h1, h2⟩ := drop_cons h
      rw [pGo_val (nxt_here h1 (by decide)), if_neg (by omega), if_neg (by decide), if_pos (.inr (by decide)), if_neg (by omega), if_neg (by decide)]
      have hlt : i < s.length := (List.getElem?_eq_some_iff.1 h1).1
      have := tab_read IH (s := s) (d := d) (rest := rest) (l := l) hnl (ks0 := []) (ks := ks) (acc := []) (i := i + 1) (many := many + 1) (f := f) hkl htw hgl h2 (by omega) (by omega)
      rw [this]
      simp only [decide_true, List.nil_append, List.length_append, List.length_cons, List.length_nil]
      congr 3 <;> omega
end Go.Proofs.YtinlfdkalijffaaDoor.Am.Q
namespace Go.Proofs.YtinlfdkalijffaaDoor.Am.Q
open Go Go.Proofs Go.Proofs.YtinlfdkalijffaaDoor.Am
theorem isTF_fuel : ∀ {f g : Nat} {s : List UInt8}, s.length ≤ f → s.length ≤ g → isTF f s = isTF g s
  | 0, g, s, hf, hg => by
    obtain rfl : s = [] := List.eq_nil_of_length_eq_zero (by omega)
    cases g <;> rfl
  | f + 1, 0, s, hf, hg => by
    obtain rfl : s = [] := List.eq_nil_of_length_eq_zero (by omega)
    rfl
  | f + 1, g + 1, [], _, _ => rfl
  | f + 1, g + 1, c :: r, hf, hg => by
    obtain ⟨p1, p2⟩ := uNext_pos (c := c) (r := r)
    have := isTF_fuel (f := f) (g := g) (s := (c :: r).drop (uNext (c :: r)).2.1) (by rw [List.length_drop]; omega) (by rw [List.length_drop]; omega)
    simp only [isTF, this]
theorem isT_cons {c : UInt8} {r : List UInt8} : isT (c :: r) = ((uNext (c :: r)).1 && isT ((c :: r).drop (uNext (c :: r)).2.1)) := by
  obtain ⟨p1, p2⟩ := uNext_pos (c := c) (r := r)
  have h : isT (c :: r) = ((uNext (c :: r)).1 && isTF r.length ((c :: r).drop (uNext (c :: r)).2.1)) := rfl
  rw [h]
  unfold isT
  rw [isTF_fuel (f := r.length) (g := ((c :: r).drop (uNext (c :: r)).2.1).length) (by rw [List.length_drop, List.length_cons]; omega) (Nat.le_refl _)]
theorem goodO_mono {c : UInt8} {k j : Nat} {r b : List UInt8} (h : goodO c k r[j]? = true) : goodO c k (r ++ b)[j]? = true := by
  cases hj : r[j]? with
  | none => rw [hj] at h; cases h
  | some x =>
    have hlt := (List.getElem?_eq_some_iff.1 hj).1
    rw [List.getElem?_append_left hlt, hj]
    rw [hj] at h; exact h
theorem goodS_mono {c : UInt8} {r b : List UInt8} (h : goodS c r[0]? r[1]? r[2]? = true) : goodS c (r ++ b)[0]? (r ++ b)[1]? (r ++ b)[2]? = true := by
  unfold goodS at h ⊢
  split
  · rfl
  · rename_i h1
    rw [if_neg h1] at h
    split
    · rename_i h2
      rw [if_pos h2] at h
      exact goodO_mono h
    · rename_i h2
      rw [if_neg h2] at h
      split
      · rename_i h3
        rw [if_pos h3, Bool.and_eq_true] at h
        rw [goodO_mono h.1, goodO_mono h.2]; rfl
      · rename_i h3
        rw [if_neg h3] at h
        split
        · rename_i h4
          rw [if_pos h4, Bool.and_eq_true, Bool.and_eq_true] at h
          rw [goodO_mono h.1.1, goodO_mono h.1.2, goodO_mono h.2]; rfl
        · rename_i h4
          rw [if_neg h4] at h; cases h
theorem next_app {c : UInt8} {r b : List UInt8} (h : (uNext (c :: r)).1 = true) : (uNext (c :: (r ++ b))).1 = true ∧ (uNext (c :: (r ++ b))).2.1 = (uNext (c :: r)).2.1 := by
  obtain ⟨g1, g2⟩ := next_good (c := c) (r := r)
  obtain ⟨k1, k2⟩ := next_good (c := c) (r := r ++ b)
  rw [h] at g1
  have hm := goodS_mono (b := b) g1.symm
  rw [k1, hm, k2 hm, g2 g1.symm]
  exact ⟨rfl, rfl⟩
theorem isT_app {b : List UInt8} : ∀ (n : Nat) {a : List UInt8}, a.length ≤ n → isT a = true → isT (a ++ b) = isT b
  | 0, a, hn, _ => by
    obtain rfl : a = [] := List.eq_nil_of_length_eq_zero (by omega)
    rfl
  | n + 1, [], _, _ => rfl
  | n + 1, c :: r, hn, h => by
    rw [isT_cons, Bool.and_eq_true] at h
    obtain ⟨p1, p2⟩ := uNext_pos (c := c) (r := r)
    obtain ⟨q1, q2⟩ := next_app (b := b) h.1
    rw [List.cons_append, isT_cons, q1, Bool.true_and, q2]
    have hd : (c :: (r ++ b)).drop (uNext (c :: r)).2.1 = (c :: r).drop (uNext (c :: r)).2.1 ++ b := by
      rw [← List.cons_append, List.drop_append_of_le_length p2]
    rw [hd]
    exact isT_app n (by rw [List.length_drop]; simp only [List.length_cons] at hn p2 ⊢; omega) h.2
theorem isT_append {a b : List UInt8} (ha : isT a = true) (hb : isT b = true) : isT (a ++ b) = true := by
  rw [isT_app a.length (Nat.le_refl _) ha]; exact hb
theorem next_high {c : UInt8} {r : List UInt8} (h : (uNext (c :: r)).1 = true) (hc : 128 ≤ c.toNat) : ∀ x ∈ (c :: r).take (uNext (c :: r)).2.1, 128 ≤ x.toNat := by
  obtain ⟨p1, p2⟩ := uNext_pos (c := c) (r := r)
  have hu : ¬ uSize c.toNat = 0 := by
    intro e
    simp only [uNext, e, if_true] at h
    cases h
  have hn : ¬ uCnt c.toNat (uSize c.toNat) 1 r < uSize c.toNat := by
    intro e
    simp only [uNext, if_neg hu, if_pos e] at h
    cases h
  have hs : (uNext (c :: r)).2.1 = uSize c.toNat := by simp only [uNext, if_neg hu, if_neg hn]
  rw [hs]
  obtain ⟨_, hg⟩ := uCnt_good (by have := uSize_le c.toNat; omega) hn
  obtain ⟨m, hm⟩ : ∃ m, uSize c.toNat = m + 1 := ⟨uSize c.toNat - 1, by omega⟩
  rw [hm] at hg ⊢
  intro x hx
  rw [List.take_succ_cons] at hx
  rcases List.mem_cons.1 hx with rfl | hx
  · exact hc
  · exact (hg x (by simpa using hx)).1
theorem goodS_take {c : UInt8} {r : List UInt8} (h : goodS c r[0]? r[1]? r[2]? = true) : goodS c (r.take (uSize c.toNat - 1))[0]? (r.take (uSize c.toNat - 1))[1]? (r.take (uSize c.toNat - 1))[2]? = true := by
  unfold goodS at h ⊢
  split
  · rfl
  · rename_i h1
    rw [if_neg h1] at h
    split
    · rename_i h2
      rw [if_pos h2] at h
      have hu : uSize c.toNat = 2 := by unfold uSize; rw [if_neg h1, if_pos h2]
      rw [hu, List.getElem?_take_of_lt (by omega)]; exact h
    · rename_i h2
      rw [if_neg h2] at h
      split
      · rename_i h3
        rw [if_pos h3] at h
        have hu : uSize c.toNat = 3 := by unfold uSize; rw [if_neg h1, if_neg h2, if_pos h3]
        rw [hu, List.getElem?_take_of_lt (by omega), List.getElem?_take_of_lt (by omega)]; exact h
      · rename_i h3
        rw [if_neg h3] at h
        split
        · rename_i h4
          rw [if_pos h4] at h
          have hu : uSize c.toNat = 4 := by unfold uSize; rw [if_neg h1, if_neg h2, if_neg h3, if_pos h4]
          rw [hu, List.getElem?_take_of_lt (by omega), List.getElem?_take_of_lt (by omega), List.getElem?_take_of_lt (by omega)]; exact h
        · rename_i h4
          rw [if_neg h4] at h; cases h
theorem isT_take {c : UInt8} {r : List UInt8} (h : (uNext (c :: r)).1 = true) : isT ((c :: r).take (uNext (c :: r)).2.1) = true := by
  obtain ⟨p1, p2⟩ := uNext_pos (c := c) (r := r)
  obtain ⟨g1, g2⟩ := next_good (c := c) (r := r)
  rw [h] at g1
  have hs := g2 g1.symm
  have ht := goodS_take g1.symm
  obtain ⟨m, hm⟩ : ∃ m, uSize c.toNat = m + 1 := ⟨uSize c.toNat - 1, by omega⟩
  rw [hs]
  rw [hs] at p1 p2
  rw [hm] at ht p2 ⊢
  simp only [Nat.add_sub_cancel] at ht
  obtain ⟨k1, k2⟩ := next_good (c := c) (r := r.take m)
  rw [List.take_succ_cons, isT_cons, k1, ht, k2 ht, hm, Bool.true_and]
  have : (c :: r.take m).drop (m + 1) = [] := by
    rw [List.drop_succ_cons]
    exact List.drop_of_length_le (by rw [List.length_take]; omega)
  rw [this]; rfl
theorem isT_low {c : UInt8} (h : c.toNat < 128) : isT [c] = true := by
  have := byte_all (P := fun c => decide (c.toNat < 128 → isT [c] = true)) (by decide +kernel) c
  exact (of_decide_eq_true this) h
theorem isT_lows : ∀ {l : List UInt8}, (∀ x ∈ l, x.toNat < 128) → isT l = true
  | [], _ => rfl
  | c :: l, h => isT_append (a := [c]) (isT_low (h c (by simp))) (isT_lows fun x hx => h x (by simp [hx]))
end Go.Proofs.YtinlfdkalijffaaDoor.Am.Q
namespace Go.Proofs.YtinlfdkalijffaaDoor.Am.Q
open Go Go.Proofs Go.Proofs.YtinlfdkalijffaaDoor.Am
def ErrAt (s : List UInt8) (e : Flt) : Prop := e.2 ≤ s.length ∧ e.1 ≠ 0 ∧ (e.1 = 4 → e.2 = s.length)
theorem err_end {s : List UInt8} : ErrAt s (4, s.length) := ⟨Nat.le_refl _, by simp, fun _ => rfl⟩
theorem err_at {s : List UInt8} {w : Int} {k : Nat} (hk : k ≤ s.length) (h0 : w ≠ 0) (h4 : w ≠ 4) : ErrAt s (w, k) := ⟨hk, h0, fun h => absurd h h4⟩
theorem hex4_err {s : List UInt8} {i of : Nat} {e : Flt} (h : hex4 s i of = .error e) (hof : of ≤ s.length) : ErrAt s e := by
  unfold hex4 at h
  split at h
  · cases h; exact err_at hof (by decide) (by decide)
  · split at h
    · cases h; exact err_end
    · cases h
theorem surS_err {s : List UInt8} {i n : Nat} {e : Flt} (h : surS s i n = .error e) (hi : i ≤ s.length) : ErrAt s e := by
  unfold surS at h
  split at h
  · cases h; exact err_end
  · split at h
    · cases h; exact err_at hi (by decide) (by decide)
    · split at h
      · cases h; exact err_end
      · split at h
        · cases h; exact err_at hi (by decide) (by decide)
        · split at h
          · rename_i hh; cases h; exact hex4_err hh hi
          · split at h
            · cases h; exact err_at hi (by decide) (by decide)
            · cases h
theorem escS_err {s : List UInt8} {i : Nat} {e : Flt} (h : escS s i = .error e) (hi : i ≤ s.length) : ErrAt s e := by
  unfold escS at h
  split at h
  · cases h; exact err_end
  · split at h
    · cases h
    · split at h
      · cases h; exact err_at hi (by decide) (by decide)
      · split at h
        · rename_i hh; cases h; exact hex4_err hh hi
        · split at h
          · cases h
          · split at h
            · cases h; exact err_at hi (by decide) (by decide)
            · exact surS_err h hi
theorem quoS_err {s : List UInt8} : ∀ {f i : Nat} {out : List UInt8} {e : Flt}, quoS s f i out = .error e → s.length - i + 1 ≤ f → ErrAt s e
  | 0, i, out, e, _, hf => by omega
  | f + 1, i, out, e, h, hf => by
    simp only [quoS] at h
    split at h
    · cases h; exact err_end
    · rename_i c hc
      have hi := (List.getElem?_eq_some_iff.1 hc).1
      split at h
      · cases h; exact err_at (by omega) (by decide) (by decide)
      · split at h
        · cases h
        · split at h
          · split at h
            · rename_i hh; cases h; exact escS_err hh (by omega)
            · rename_i b j hh
              have := escS_ok hh
              exact quoS_err h (by omega)
          · exact quoS_err h (by omega)
theorem quote_err {s : List UInt8} {i : Nat} {e : Flt} (h : quote s i = .error e) : ErrAt s e := quoS_err h (by omega)
theorem nxt_err {s : List UInt8} {i : Nat} {e : Flt} (h : nxt s i = .error e) : ErrAt s e := by
  unfold nxt at h
  split at h
  · cases h
  · cases h; exact err_end
theorem moreS_err {s : List UInt8} {i n : Nat} {b : Bool} {e : Flt} (h : moreS s i b n = .error e) : ErrAt s e := by
  unfold moreS at h
  split at h
  · rename_i hh; cases h; exact nxt_err hh
  · rename_i j c hh
    have := nxt_ok hh
    split at h
    · cases h
    · split at h
      · cases h
      · split at h
        · cases h; exact err_at (by omega) (by decide) (by decide)
        · cases h
theorem mustS_err {s : List UInt8} {i n : Nat} {e : Flt} (h : mustS s i n = .error e) : ErrAt s e := by
  unfold mustS at h
  split at h
  · rename_i hh; cases h; exact nxt_err hh
  · rename_i j c hh
    have := nxt_ok hh
    split at h
    · cases h; exact err_at (by omega) (by decide) (by decide)
    · cases h
def fuelOk (s : List UInt8) (t : PT) (i f : Nat) : Prop :=
  match t with
  | .val => 2 * (s.length - i) + 1 ≤ f
  | _ => 2 * (s.length - i) + 2 ≤ f ∧ i ≤ s.length
theorem pGo_err {s : List UInt8} : ∀ {f : Nat} {t : PT} {i many deep : Nat} {e : Flt}, pGo s f t i many deep = .error e → fuelOk s t i f → many ≤ 4096 → ErrAt s e
  | 0, .val, _, _, _, _, _, hf, _ => by simp only [fuelOk] at hf; omega
  | 0, .list _, _, _, _, _, _, hf, _ => by simp only [fuelOk] at hf; omega
  | 0, .tab _ _, _, _, _, _, _, hf, _ => by simp only [fuelOk] at hf; omega
  | f + 1, .val, i, many, deep, e, h, hf, hm => by
    simp only [fuelOk] at hf
    simp only [pGo] at h
    split at h
    · rename_i hh; cases h; exact nxt_err hh
    · rename_i a c hn
      obtain ⟨n1, n2, n3, _⟩ := nxt_ok hn
      split at h
      · cases h; exact err_at (by omega) (by decide) (by decide)
      · split at h
        · split at h
          · rename_i hh; cases h; exact quote_err hh
          · cases h
        · split at h
          · split at h
            · cases h; exact err_at (by omega) (by decide) (by decide)
            · split at h
              · exact pGo_err h (by simp only [fuelOk]; omega) (by omega)
              · exact pGo_err h (by simp only [fuelOk]; omega) (by omega)
          · split at h
            · split at h
              · cases h
              · cases h; exact err_at (by omega) (by decide) (by decide)
            · split at h
              · cases h
              · split at h
                · cases h
                · cases h; exact err_at (by omega) (by decide) (by decide)
  | f + 1, .list acc, i, many, deep, e, h, hf, hm => by
    simp only [fuelOk] at hf
    rw [pGo_list2] at h
    split at h
    · rename_i hh; cases h; exact moreS_err hh
    · rename_i b a hmo
      obtain ⟨m1, m2, m3, m4⟩ := moreS_ok hmo
      split at h
      · cases h
      · split at h
        · rename_i hh; cases h; exact pGo_err hh (by simp only [fuelOk]; omega) hm
        · rename_i v k many1 hv
          obtain ⟨p1, p2, p3⟩ := pGo_ok hv hm
          exact pGo_err h (by simp only [fuelOk]; omega) p3
  | f + 1, .tab ks acc, i, many, deep, e, h, hf, hm => by
    simp only [fuelOk] at hf
    rw [pGo_tab2] at h
    split at h
    · rename_i hh; cases h; exact moreS_err hh
    · rename_i b a hmo
      obtain ⟨m1, m2, m3, m4⟩ := moreS_ok hmo
      split at h
      · cases h
      · split at h
        · rename_i hh; cases h; exact nxt_err hh
        · rename_i a1 q hn
          obtain ⟨n1, n2, n3, _⟩ := nxt_ok hn
          split at h
          · cases h; exact err_at (by omega) (by decide) (by decide)
          · split at h
            · rename_i hh; cases h; exact quote_err hh
            · rename_i key b1 hq
              have hq1 := quote_ok hq
              split at h
              · cases h; exact err_at (by omega) (by decide) (by decide)
              · split at h
                · rename_i hh; cases h; exact mustS_err hh
                · rename_i d hmu
                  have hmu1 := mustS_ok hmu
                  split at h
                  · rename_i hh; cases h; exact pGo_err hh (by simp only [fuelOk]; omega) hm
                  · rename_i v1 k many1 hv
                    obtain ⟨p1, p2, p3⟩ := pGo_ok hv hm
                    exact pGo_err h (by simp only [fuelOk]; omega) p3
theorem parseS_err {s : List UInt8} {e : Flt} (h : parseS s = .error e) : ErrAt s e := by
  unfold parseS at h
  split at h
  · rename_i hh
    cases h
    exact pGo_err hh (by simp only [fuelOk]; omega) (by omega)
  · split at h
    · rename_i hlt
      cases h; exact err_at (by omega) (by decide) (by decide)
    · cases h
end Go.Proofs.YtinlfdkalijffaaDoor.Am.Q
namespace Go.Proofs.YtinlfdkalijffaaDoor.Am.Q
open Go Go.Proofs Go.Proofs.YtinlfdkalijffaaDoor.Am
theorem quoS_high {s : List UInt8} : ∀ {x y : List UInt8} {f i : Nat} {out : List UInt8}, s.drop i = x ++ y → (∀ c ∈ x, 128 ≤ c.toNat) → x.length ≤ f → quoS s f i out = quoS s (f - x.length) (i + x.length) (out ++ x)
  | [], _, f, i, out, _, _, _ => by simp
  | c :: x, y, f, i, out, h, hx, hf => by
    cases f with
    | zero => simp at hf
    | succ f =>
      obtain ⟨h1, h2⟩ := drop_cons (show s.drop i = c :: (x ++ y) from h)
      have hc := hx c (by simp)
      have ih := quoS_high (s := s) (x := x) (y := y) (f := f) (i := i + 1) (out := out ++ [c]) h2 (fun z hz => hx z (by simp [hz])) (by simp at hf; omega)
      simp only [quoS, h1]
      rw [if_neg (by omega), if_neg (by omega), if_neg (by omega), ih]
      simp only [List.length_cons, List.append_assoc, List.singleton_append]
      congr 1 <;> omega
theorem isT_cut {a b : List UInt8} (ha : isT a = true) (h : isT (a ++ b) = true) : isT b = true := by
  rw [isT_app a.length (Nat.le_refl _) ha] at h; exact h
theorem isT_tail {c : UInt8} {r : List UInt8} (h : isT (c :: r) = true) (hc : c.toNat < 128) : isT r = true := isT_cut (a := [c]) (isT_low hc) h
theorem isT_lows_cut {a b : List UInt8} (ha : ∀ x ∈ a, x.toNat < 128) (h : isT (a ++ b) = true) : isT b = true := isT_cut (isT_lows ha) h
end Go.Proofs.YtinlfdkalijffaaDoor.Am.Q
namespace Go.Proofs.YtinlfdkalijffaaDoor.Am.Q
open Go Go.Proofs Go.Proofs.YtinlfdkalijffaaDoor.Am
theorem b8_nat {n : Nat} (h : n < 256) : (b8 n).toNat = n := by simp [b8]; omega
theorem isT_good {c : UInt8} {r : List UInt8} (hg : goodS c r[0]? r[1]? r[2]? = true) (hl : r.length + 1 = uSize c.toNat) : isT (c :: r) = true := by
  obtain ⟨g1, g2⟩ := next_good (c := c) (r := r)
  rw [isT_cons, g1, hg, g2 hg, Bool.true_and, ← hl, List.drop_succ_cons, List.drop_length]; rfl
theorem isT_put {n : Nat} (hv : Utf8.valid (n : Int) = true) : isT (putN n) = true := by
  have hb := valid_iff.1 hv
  by_cases h1 : n < 0x80
  · rw [put1 h1]
    exact isT_low (by rw [b8_nat (by omega)]; omega)
  by_cases h2 : n < 0x800
  · rw [put2 h1 h2]
    have c0 := b8_nat (n := 0xC0 + n / 64) (by omega)
    have c1 := b8_nat (n := 0x80 + n % 64) (by omega)
    refine isT_good ?_ ?_
    · unfold goodS
      rw [c0, if_neg (by omega), if_pos (by omega)]
      simp only [List.getElem?_cons_zero, goodO, good_iff, lo1, hi1, c0, c1]
      rw [if_neg (by omega), if_neg (by omega), if_neg (by omega), if_neg (by omega)]; omega
    · rw [c0]; unfold uSize; rw [if_neg (by omega), if_pos (by omega)]; rfl
  by_cases h3 : n < 0x10000
  · rw [put3 hv h1 h2 h3]
    have c0 := b8_nat (n := 0xE0 + n / 4096) (by omega)
    have c1 := b8_nat (n := 0x80 + n / 64 % 64) (by omega)
    have c2 := b8_nat (n := 0x80 + n % 64) (by omega)
    refine isT_good ?_ ?_
    · unfold goodS
      rw [c0, if_neg (by omega), if_neg (by omega), if_pos (by omega)]
      simp only [List.getElem?_cons_zero, List.getElem?_cons_succ, goodO, Bool.and_eq_true, good_iff, lo1, hi1, lo2, hi2, c0, c1, c2]
      refine ⟨⟨?_, ?_⟩, by omega⟩
      · split
        · omega
        · split <;> omega
      · split
        · omega
        · split <;> omega
    · rw [c0]; unfold uSize; rw [if_neg (by omega), if_neg (by omega), if_pos (by omega)]; rfl
  · rw [put4 hv h1 h2 h3]
    have c0 := b8_nat (n := 0xF0 + n / 262144) (by omega)
    have c1 := b8_nat (n := 0x80 + n / 4096 % 64) (by omega)
    have c2 := b8_nat (n := 0x80 + n / 64 % 64) (by omega)
    have c3 := b8_nat (n := 0x80 + n % 64) (by omega)
    refine isT_good ?_ ?_
    · unfold goodS
      rw [c0, if_neg (by omega), if_neg (by omega), if_neg (by omega), if_pos (by omega)]
      simp only [List.getElem?_cons_zero, List.getElem?_cons_succ, goodO, Bool.and_eq_true, good_iff, lo1, hi1, lo2, hi2, lo3, hi3, c0, c1, c2, c3]
      refine ⟨⟨⟨?_, ?_⟩, by omega⟩, by omega⟩
      · split
        · omega
        · split <;> omega
      · split
        · omega
        · split <;> omega
    · rw [c0]; unfold uSize; rw [if_neg (by omega), if_neg (by omega), if_neg (by omega), if_pos (by omega)]; rfl
end Go.Proofs.YtinlfdkalijffaaDoor.Am.Q
namespace Go.Proofs.YtinlfdkalijffaaDoor.Am.Q
open Go Go.Proofs Go.Proofs.YtinlfdkalijffaaDoor.Am
theorem bad_low {c : UInt8} (h : bad c = false) : c.toNat < 128 := by
  have := byte_all (P := fun c => decide (bad c = false → c.toNat < 128)) (by decide +kernel) c
  exact (of_decide_eq_true this) h
theorem idx_low {c : UInt8} {k : Nat} (h : escIdx c = some k) : c.toNat < 128 ∧ (escT.getD k 0).toNat < 128 := by
  have := byte_all (P := fun c => match escIdx c with | some k => decide (c.toNat < 128 ∧ (escT.getD k 0).toNat < 128) | none => true) (by decide +kernel) c
  rw [h] at this
  exact of_decide_eq_true this
theorem drop_step {s : List UInt8} {i : Nat} {c : UInt8} (hc : s[i]? = some c) (hl : c.toNat < 128) (h : isT (s.drop i) = true) : isT (s.drop (i + 1)) = true := by
  rw [drop_at hc] at h; exact isT_tail h hl
theorem hex4_text {s : List UInt8} {i of n : Nat} (hh : hex4 s i of = .ok n) (h : isT (s.drop i) = true) : isT (s.drop (i + 4)) = true ∧ n < 65536 := by
  refine ⟨?_, hex4_lt hh⟩
  unfold hex4 at hh
  split at hh
  · cases hh
  · rename_i hb
    rw [← List.take_append_drop 4 (s.drop i), List.drop_drop] at h
    refine isT_lows_cut (fun x hx => ?_) h
    refine bad_low ?_
    cases hx' : bad x with
    | false => rfl
    | true => exact absurd (List.any_eq_true.2 ⟨x, hx, hx'⟩) hb
theorem escS_text {s : List UInt8} {i j : Nat} {b : List UInt8} (hs : escS s i = .ok (b, j)) (h0 : s[i]? = some 92) (h : isT (s.drop i) = true) : isT b = true ∧ isT (s.drop j) = true := by
  have h1 := drop_step h0 (by decide) h
  unfold escS at hs
  split at hs
  · cases hs
  · rename_i c hc
    split at hs
    · rename_i k hk
      obtain ⟨k1, k2⟩ := idx_low hk
      cases hs
      exact ⟨isT_low k2, drop_step hc k1 h1⟩
    · split at hs
      · cases hs
      · rename_i h117
        have h2 := drop_step hc (by omega) h1
        split at hs
        · cases hs
        · rename_i n hh
          obtain ⟨h6, hn⟩ := hex4_text hh h2
          split at hs
          · rename_i hr
            cases hs
            exact ⟨isT_put (valid_iff.2 (by omega)), h6⟩
          · split at hs
            · cases hs
            · unfold surS at hs
              split at hs
              · cases hs
              · rename_i a ha
                split at hs
                · cases hs
                · rename_i ha92
                  have h7 := drop_step ha (by omega) h6
                  split at hs
                  · cases hs
                  · rename_i b2 hb2
                    split at hs
                    · cases hs
                    · rename_i hb117
                      have h8 := drop_step hb2 (by omega) h7
                      split at hs
                      · cases hs
                      · rename_i k hk
                        obtain ⟨h12, hk2⟩ := hex4_text hk h8
                        split at hs
                        · cases hs
                        · cases hs
                          refine ⟨isT_put (valid_iff.2 (by omega)), h12⟩
end Go.Proofs.YtinlfdkalijffaaDoor.Am.Q
namespace Go.Proofs.YtinlfdkalijffaaDoor.Am.Q
open Go Go.Proofs Go.Proofs.YtinlfdkalijffaaDoor.Am
theorem quoS_text {s : List UInt8} : ∀ (F : Nat) {f i : Nat} {out t : List UInt8} {j : Nat}, f ≤ F → s.length - i + 1 ≤ f → quoS s f i out = .ok (t, j) → isT (s.drop i) = true → isT out = true → isT t = true ∧ isT (s.drop j) = true
  | 0, f, i, out, t, j, hF, hf, _, _, _ => by omega
  | F + 1, 0, i, out, t, j, hF, hf, _, _, _ => by omega
  | F + 1, f + 1, i, out, t, j, hF, hf, hq, h, ho => by
    have hq0 := hq
    simp only [quoS] at hq
    split at hq
    · cases hq
    · rename_i c hc
      have hi := (List.getElem?_eq_some_iff.1 hc).1
      split at hq
      · cases hq
      · split at hq
        · rename_i h34
          cases hq
          exact ⟨ho, drop_step hc (by omega) h⟩
        · split at hq
          · rename_i h92
            have hc92 : s[i]? = some 92 := by rw [hc, show c = 92 from UInt8.toNat_inj.1 h92]
            split at hq
            · cases hq
            · rename_i b j' hes
              obtain ⟨e1, e2⟩ := escS_text hes hc92 h
              have := escS_ok hes
              exact quoS_text F (by omega) (by omega) hq e2 (isT_append ho e1)
          · by_cases hl : c.toNat < 128
            · exact quoS_text F (by omega) (by omega) hq (drop_step hc hl h) (isT_append ho (isT_low hl))
            · have hd := drop_at hc
              rw [hd] at h
              have h' := h
              rw [isT_cons, Bool.and_eq_true] at h'
              obtain ⟨p1, p2⟩ := uNext_pos (c := c) (r := s.drop (i + 1))
              have hX := next_high h'.1 (by omega)
              have hT := isT_take h'.1
              generalize (uNext (c :: s.drop (i + 1))).2.1 = n at *
              have hxl : ((c :: s.drop (i + 1)).take n).length = n := by rw [List.length_take]; omega
              have hsl : n ≤ s.length - i := by
                have : (c :: s.drop (i + 1)).length = s.length - i := by rw [← hd, List.length_drop]
                omega
              have hsplit : s.drop i = (c :: s.drop (i + 1)).take n ++ (c :: s.drop (i + 1)).drop n := by rw [List.take_append_drop, hd]
              rw [quoS_high hsplit hX (by omega), hxl] at hq0
              have hdn : s.drop (i + n) = (c :: s.drop (i + 1)).drop n := by rw [← hd, List.drop_drop]
              exact quoS_text F (by omega) (by omega) hq0 (by rw [hdn]; exact h'.2) (isT_append ho hT)
theorem quote_text {s : List UInt8} {i j : Nat} {t : List UInt8} (hq : quote s i = .ok (t, j)) (h0 : s[i]? = some 34) (h : isT (s.drop i) = true) : isT t = true ∧ isT (s.drop j) = true :=
  quoS_text _ (Nat.le_refl _) (by omega) hq (drop_step h0 (by decide) h) rfl
end Go.Proofs.YtinlfdkalijffaaDoor.Am.Q
namespace Go.Proofs.YtinlfdkalijffaaDoor.Am.Q
open Go Go.Proofs Go.Proofs.YtinlfdkalijffaaDoor.Am
theorem skip_text {s : List UInt8} : ∀ {n i : Nat}, runN isBlk (s.drop i) = n → isT (s.drop i) = true → isT (s.drop (i + n)) = true
  | 0, i, _, h => h
  | n + 1, i, hn, h => by
    cases hd : s.drop i with
    | nil => rw [hd] at hn; simp [runN_nil] at hn
    | cons c r =>
      obtain ⟨h1, h2⟩ := drop_cons hd
      rw [hd, runN_cons] at hn
      have hb : isBlk c = true := by
        cases hb : isBlk c with
        | true => rfl
        | false => rw [hb] at hn; simp at hn
      rw [if_pos hb] at hn
      have hl : c.toNat < 128 := by have := isBlk_iff.1 hb; omega
      have := skip_text (s := s) (n := n) (i := i + 1) (by rw [h2]; omega) (drop_step h1 hl h)
      rw [show i + (n + 1) = i + 1 + n by omega]; exact this
theorem nxt_text {s : List UInt8} {i j : Nat} {c : UInt8} (hn : nxt s i = .ok (j, c)) (h : isT (s.drop i) = true) : isT (s.drop j) = true ∧ s[j]? = some c := by
  obtain ⟨h1, h2, h3, h4⟩ := nxt_ok hn
  refine ⟨?_, h3⟩
  rw [h4]; exact skip_text rfl h
theorem moreS_text {s : List UInt8} {i e j : Nat} {first b : Bool} (he : e < 128) (hm : moreS s i first e = .ok (b, j)) (h : isT (s.drop i) = true) : isT (s.drop j) = true := by
  unfold moreS at hm
  split at hm
  · cases hm
  · rename_i a c hn
    obtain ⟨n1, n2⟩ := nxt_text hn h
    split at hm
    · cases hm; exact drop_step n2 (by omega) n1
    · split at hm
      · cases hm; exact n1
      · split at hm
        · cases hm
        · cases hm; exact drop_step n2 (by omega) n1
theorem mustS_text {s : List UInt8} {i e j : Nat} {x : Unit} (he : e < 128) (hm : mustS s i e = .ok (x, j)) (h : isT (s.drop i) = true) : isT (s.drop j) = true := by
  unfold mustS at hm
  split at hm
  · cases hm
  · rename_i a c hn
    obtain ⟨n1, n2⟩ := nxt_text hn h
    split at hm
    · cases hm
    · cases hm; exact drop_step n2 (by omega) n1
theorem run_text {s : List UInt8} {p : UInt8 → Bool} (hp : ∀ c, p c = true → c.toNat < 128) {i : Nat} (h : isT (s.drop i) = true) : isT (s.drop (i + runN p (s.drop i))) = true := by
  rw [← List.take_append_drop (runN p (s.drop i)) (s.drop i), List.drop_drop] at h
  exact isT_lows_cut (fun x hx => hp x (take_mem hx)) h
theorem num_low (c : UInt8) (h : isNum c = true) : c.toNat < 128 := by
  simp [isNum, isNumN, isDigN] at h; omega
theorem small_low (c : UInt8) (h : isSmall c = true) : c.toNat < 128 := by
  simp [isSmall, isSmallN] at h; omega
theorem tw_app {ks : List (List UInt8)} {key : List UInt8} : ∀ {met : List (List UInt8)}, twS met ks = false → key ∉ met → key ∉ ks → twS met (ks ++ [key]) = false := by
  induction ks with
  | nil => intro met _ h _; simp [twS, h]
  | cons k ks ih =>
    intro met h h1 h2
    simp only [twS, Bool.or_eq_false_iff, decide_eq_false_iff_not, List.cons_append] at h ⊢
    refine ⟨h.1, ih h.2 ?_ (fun e => h2 (by simp [e]))⟩
    intro e
    rcases List.mem_append.1 e with e | e
    · exact h1 e
    · exact h2 (by simp only [List.mem_singleton] at e; simp [e])
theorem nodesL_app {a b : List VT} : nodesL (a ++ b) = nodesL a + nodesL b := by
  induction a with
  | nil => simp [nodesL]
  | cons v a ih => simp only [List.cons_append, nodesL, ih]; omega
theorem goodL_app {d : Nat} {a b : List VT} : goodL d (a ++ b) = (goodL d a && goodL d b) := by
  induction a with
  | nil => simp [goodL]
  | cons v a ih => simp only [List.cons_append, goodL, ih, Bool.and_assoc]
end Go.Proofs.YtinlfdkalijffaaDoor.Am.Q
namespace Go.Proofs.YtinlfdkalijffaaDoor.Am.Q
open Go Go.Proofs Go.Proofs.YtinlfdkalijffaaDoor.Am
def GoodPT (t : PT) (d : Nat) : Prop :=
  match t with
  | .val => True
  | .list acc => d < 64 ∧ goodL (d + 1) acc = true
  | .tab ks acc => d < 64 ∧ ks.length = acc.length ∧ twS [] ks = false ∧ allT ks = true ∧ goodL (d + 1) acc = true
def CntPT (t : PT) (v : VT) (many many' : Nat) : Prop :=
  match t with
  | .val => many' = many + nodesT v
  | .list acc => nodesT v + many = many' + 1 + nodesL acc
  | .tab _ acc => nodesT v + many = many' + 1 + nodesL acc
theorem allT_app {ks : List (List UInt8)} {k : List UInt8} : allT (ks ++ [k]) = (allT ks && isT k) := by simp [allT]
theorem pGo_good {s : List UInt8} : ∀ {f : Nat} {t : PT} {i many deep : Nat} {v : VT} {j many' : Nat}, pGo s f t i many deep = .ok (v, j, many') → isT (s.drop i) = true → GoodPT t deep → goodT deep v = true ∧ isT (s.drop j) = true ∧ CntPT t v many many'
  | 0, _, _, _, _, _, _, _, h, _, _ => by cases h
  | f + 1, .val, i, many, deep, v, j, many', h, ht, _ => by
    simp only [pGo] at h
    split at h
    · cases h
    · rename_i a c hn
      obtain ⟨n1, n2⟩ := nxt_text hn ht
      split at h
      · cases h
      · split at h
        · rename_i h34
          split at h
          · cases h
          · rename_i t k hq
            have hc : s[a]? = some 34 := by rw [n2, show c = 34 from UInt8.toNat_inj.1 h34]
            obtain ⟨q1, q2⟩ := quote_text hq hc n1
            cases h
            exact ⟨by simp [goodT, oneS, bareS, q1, goodL], q2, by simp [CntPT, nodesT, nodesL]⟩
        · split at h
          · rename_i hbr
            split at h
            · cases h
            · have hs : isT (s.drop (a + 1)) = true := drop_step n2 (by omega) n1
              split at h
              · obtain ⟨g1, g2, g3⟩ := pGo_good h hs ⟨by omega, by simp [goodL]⟩
                exact ⟨g1, g2, by simp only [CntPT, nodesL] at g3 ⊢; omega⟩
              · obtain ⟨g1, g2, g3⟩ := pGo_good h hs ⟨by omega, rfl, rfl, rfl, by simp [goodL]⟩
                exact ⟨g1, g2, by simp only [CntPT, nodesL] at g3 ⊢; omega⟩
          · split at h
            · split at h
              · rename_i hnum
                cases h
                exact ⟨by simp [goodT, oneS, bareS, hnum, goodL], run_text num_low n1, by simp [CntPT, nodesT, nodesL]⟩
              · cases h
            · split at h
              · cases h
                exact ⟨by simp [goodT, oneS, bareS, goodL], run_text small_low n1, by simp [CntPT, nodesT, nodesL]⟩
              · split at h
                · rename_i hw
                  cases h
                  exact ⟨by simp [goodT, oneS, bareS, goodL, hw], run_text small_low n1, by simp [CntPT, nodesT, nodesL]⟩
                · cases h
  | f + 1, .list acc, i, many, deep, v, j, many', h, ht, ⟨hd, hg⟩ => by
    rw [pGo_list2] at h
    split at h
    · cases h
    · rename_i b a hmo
      have h1 := moreS_text (by decide) hmo ht
      split at h
      · cases h
        exact ⟨by simp [goodT, oneS, hd, hg], h1, by simp only [CntPT, nodesT]; omega⟩
      · split at h
        · cases h
        · rename_i v1 k many1 hv
          obtain ⟨g1, g2, g3⟩ := pGo_good hv h1 trivial
          obtain ⟨k1, k2, k3⟩ := pGo_good h g2 ⟨hd, by rw [goodL_app, hg]; simp [goodL, g1]⟩
          refine ⟨k1, k2, ?_⟩
          simp only [CntPT, nodesL_app, nodesL] at g3 k3 ⊢
          omega
  | f + 1, .tab ks acc, i, many, deep, v, j, many', h, ht, ⟨hd, hkl, htw, hal, hg⟩ => by
    rw [pGo_tab2] at h
    split at h
    · cases h
    · rename_i b a hmo
      have h1 := moreS_text (by decide) hmo ht
      split at h
      · cases h
        exact ⟨by simp [goodT, oneS, hd, hg, hkl, htw, hal], h1, by simp only [CntPT, nodesT]; omega⟩
      · split at h
        · cases h
        · rename_i a1 q hn
          obtain ⟨n1, n2⟩ := nxt_text hn h1
          split at h
          · cases h
          · rename_i h34
            split at h
            · cases h
            · rename_i key b1 hq
              have hc : s[a1]? = some 34 := by rw [n2, show q = 34 from UInt8.toNat_inj.1 (Classical.not_not.1 h34)]
              obtain ⟨q1, q2⟩ := quote_text hq hc n1
              split at h
              · cases h
              · rename_i hin
                split at h
                · cases h
                · rename_i d hmu
                  have m1 := mustS_text (by decide) hmu q2
                  split at h
                  · cases h
                  · rename_i v1 k many1 hv
                    obtain ⟨g1, g2, g3⟩ := pGo_good hv m1 trivial
                    obtain ⟨k1, k2, k3⟩ := pGo_good h g2 ⟨hd, by simp [hkl], tw_app htw (by simp) hin, by rw [allT_app, hal, q1]; rfl, by rw [goodL_app, hg]; simp [goodL, g1]⟩
                    refine ⟨k1, k2, ?_⟩
                    simp only [CntPT, nodesL_app, nodesL] at g3 k3 ⊢
                    omega
theorem parseS_may {s : List UInt8} {v : VT} (h : parseS s = .ok v) (ht : isT s = true) : mayT v = true := by
  unfold parseS at h
  split at h
  · cases h
  · rename_i v1 i n hv
    split at h
    · cases h
    · cases h
      obtain ⟨g1, _, g3⟩ := pGo_good hv (by simpa using ht) trivial
      obtain ⟨_, _, p3⟩ := pGo_ok hv (by omega)
      simp only [CntPT] at g3
      simp only [mayT, g1, Bool.true_and, decide_eq_true_eq]; omega
end Go.Proofs.YtinlfdkalijffaaDoor.Am.Q
namespace Go.Proofs.YtinlfdkalijffaaDoor.Am.Q
open Go Go.Proofs Go.Proofs.YtinlfdkalijffaaDoor.Am
theorem escS_len {s : List UInt8} {i j : Nat} {b : List UInt8} (h : escS s i = .ok (b, j)) : b.length ≤ j - i ∧ i < j := by
  unfold escS at h
  split at h
  · cases h
  · split at h
    · cases h; simp
    · split at h
      · cases h
      · split at h
        · cases h
        · split at h
          · cases h; have := (putN_len (by assumption : Nat)).2; omega
          · split at h
            · cases h
            · unfold surS at h
              split at h
              · cases h
              · split at h
                · cases h
                · split at h
                  · cases h
                  · split at h
                    · cases h
                    · split at h
                      · cases h
                      · split at h
                        · cases h
                        · injection h with h
                          injection h with h1 h2
                          subst h1; subst h2
                          refine ⟨?_, by omega⟩
                          exact Nat.le_trans (putN_len _).2 (by omega)
theorem quoS_len {s : List UInt8} : ∀ {f i : Nat} {out t : List UInt8} {j : Nat}, quoS s f i out = .ok (t, j) → (t.flatMap escB).length + 6 ≤ (out.flatMap escB).length + 6 * (j - i) ∧ i < j
  | 0, _, _, _, _, h => by cases h
  | f + 1, i, out, t, j, h => by
    simp only [quoS] at h
    split at h
    · cases h
    · rename_i c hc
      split at h
      · cases h
      · split at h
        · cases h; omega
        · split at h
          · split at h
            · cases h
            · rename_i b j' he
              obtain ⟨e1, e2⟩ := escS_len he
              obtain ⟨i1, i2⟩ := quoS_len h
              have := flat_len b
              rw [List.flatMap_append, List.length_append] at i1
              omega
          · obtain ⟨i1, i2⟩ := quoS_len h
            have := flat_len [c]
            rw [List.flatMap_append, List.length_append] at i1
            simp only [List.length_singleton] at this
            omega
theorem quote_len {s : List UInt8} {i j : Nat} {t : List UInt8} (h : quote s i = .ok (t, j)) : (quotS t).length ≤ 6 * (j - i) ∧ i + 1 < j := by
  obtain ⟨h1, h2⟩ := quoS_len h
  simp only [List.flatMap_nil, List.length_nil, quotS, List.length_append, List.length_cons] at h1 ⊢
  omega
end Go.Proofs.YtinlfdkalijffaaDoor.Am.Q
namespace Go.Proofs.YtinlfdkalijffaaDoor.Am.Q
open Go Go.Proofs Go.Proofs.YtinlfdkalijffaaDoor.Am
theorem items_push {tb : Bool} {v : VT} : ∀ {acc : List VT} {ks : List (List UInt8)} {key : List UInt8} {first : Bool}, ks.length = acc.length → (itemsT tb first (ks ++ [key]) (acc ++ [v])).length ≤ (itemsT tb first ks acc).length + (if acc = [] then (if first = true then 0 else 1) else 1) + (if tb = true then (quotS key).length + 1 else 0) + (textT v).length
  | [], ks, key, first, h => by
    obtain rfl : ks = [] := List.eq_nil_of_length_eq_zero (by simpa using h)
    cases tb <;> cases first <;> simp [itemsT, keyB] <;> omega
  | w :: acc, [], key, first, h => by simp at h
  | w :: acc, k :: ks, key, first, h => by
    have ih := items_push (tb := tb) (v := v) (acc := acc) (ks := ks) (key := key) (first := false) (by simpa using h)
    have hk : keyB tb (k :: (ks ++ [key])) = keyB tb (k :: ks) := by cases tb <;> rfl
    simp only [List.cons_append, itemsT, List.length_append, List.tail_cons, hk, Bool.false_eq_true, if_false, ite_self] at ih ⊢
    have hw : (if w :: acc = [] then (if first = true then 0 else 1) else 1) = 1 := if_neg (by simp)
    rw [hw]
    omega
theorem items_push_l {v : VT} : ∀ {acc : List VT} {first : Bool}, (itemsT false first [] (acc ++ [v])).length ≤ (itemsT false first [] acc).length + (if acc = [] then (if first = true then 0 else 1) else 1) + (textT v).length
  | [], first => by cases first <;> simp [itemsT, keyB] <;> omega
  | w :: acc, first => by
    have ih := items_push_l (v := v) (acc := acc) (first := false)
    simp only [List.cons_append, itemsT, List.length_append, List.tail_nil, Bool.false_eq_true, if_false, ite_self] at ih ⊢
    have hw : (if w :: acc = [] then (if first = true then 0 else 1) else 1) = 1 := if_neg (by simp)
    rw [hw]
    omega
end Go.Proofs.YtinlfdkalijffaaDoor.Am.Q
namespace Go.Proofs.YtinlfdkalijffaaDoor.Am.Q
open Go Go.Proofs Go.Proofs.YtinlfdkalijffaaDoor.Am
def LenPT (t : PT) (v : VT) (i j : Nat) : Prop :=
  match t with
  | .val => (textT v).length ≤ 6 * (j - i)
  | .list acc => (textT v).length ≤ (itemsT false true [] acc).length + 6 * (j - i)
  | .tab ks acc => ks.length = acc.length → (textT v).length ≤ (itemsT true true ks acc).length + 6 * (j - i)
theorem pGo_len {s : List UInt8} : ∀ {f : Nat} {t : PT} {i many deep : Nat} {v : VT} {j many' : Nat}, pGo s f t i many deep = .ok (v, j, many') → many ≤ 4096 → LenPT t v i j
  | 0, _, _, _, _, _, _, _, h, _ => by cases h
  | f + 1, .val, i, many, deep, v, j, many', h, hm => by
    have hij := (pGo_ok h hm).1
    simp only [pGo] at h
    split at h
    · cases h
    · rename_i a c hn
      obtain ⟨n1, n2, n3, _⟩ := nxt_ok hn
      split at h
      · cases h
      · split at h
        · split at h
          · cases h
          · rename_i t k hq
            have := quote_len hq
            cases h
            simp only [LenPT]
            have hS : textT (.node 4 t [] []) = quotS t := by simp [textT]
            rw [hS]; omega
        · split at h
          · split at h
            · cases h
            · split at h
              · have := pGo_len h (by omega)
                simp only [LenPT, itemsT, List.length_nil] at this ⊢; omega
              · have := pGo_len h (by omega) rfl
                simp only [itemsT, List.length_nil] at this
                simp only [LenPT]; omega
          · split at h
            · split at h
              · cases h
                have hS : ∀ x, textT (.node 3 x [] []) = x := by intro x; simp [textT]
                simp only [LenPT, hS, takeWhile_len]; omega
              · cases h
            · split at h
              · rename_i hw
                have hr : runN isSmall (s.drop a) = 4 := by rw [← takeWhile_len, hw]; rfl
                cases h
                have hS : textT (.node 1 [] [] []) = tNull := by simp [textT]
                simp only [LenPT, hS, hr, tNull, List.length_cons, List.length_nil]; omega
              · split at h
                · cases h
                  have hS : ∀ x, textT (.node 2 x [] []) = x := by intro x; simp [textT]
                  simp only [LenPT, hS, takeWhile_len]; omega
                · cases h
  | f + 1, .list acc, i, many, deep, v, j, many', h, hm => by
    have hij := (pGo_ok h hm).1
    rw [pGo_list2] at h
    split at h
    · cases h
    · rename_i b a hmo
      obtain ⟨m1, m2, m3, m4⟩ := moreS_ok hmo
      split at h
      · cases h
        have hS : textT (.node 5 [] [] acc) = [91] ++ (itemsT false true [] acc ++ [93]) := by simp [textT]
        simp only [LenPT, hS, List.length_append, List.length_singleton]; omega
      · rename_i hb
        have hb' : b = true := by simpa using hb
        split at h
        · cases h
        · rename_i v1 k many1 hv
          obtain ⟨p1, p2, p3⟩ := pGo_ok hv hm
          have l1 := pGo_len hv hm
          have l2 := pGo_len h p3
          have l3 := items_push_l (v := v1) (acc := acc) (first := true)
          have q1 := (pGo_ok h p3).1
          simp only [LenPT] at l1 l2 ⊢
          by_cases ha : acc = []
          · rw [if_pos ha, if_pos rfl] at l3; omega
          · rw [if_neg ha] at l3
            have := m3 hb' (dF ha)
            omega
  | f + 1, .tab ks acc, i, many, deep, v, j, many', h, hm => by
    intro hkl
    have hij := (pGo_ok h hm).1
    rw [pGo_tab2] at h
    split at h
    · cases h
    · rename_i b a hmo
      obtain ⟨m1, m2, m3, m4⟩ := moreS_ok hmo
      split at h
      · cases h
        have hS : textT (.node 6 [] ks acc) = [123] ++ (itemsT true true ks acc ++ [125]) := by simp [textT]
        simp only [hS, List.length_append, List.length_singleton]; omega
      · rename_i hb
        have hb' : b = true := by simpa using hb
        split at h
        · cases h
        · rename_i a1 q hn
          obtain ⟨n1, n2, n3, _⟩ := nxt_ok hn
          split at h
          · cases h
          · split at h
            · cases h
            · rename_i key b1 hq
              have hq1 := quote_len hq
              split at h
              · cases h
              · split at h
                · cases h
                · rename_i d hmu
                  have hmu1 := mustS_ok hmu
                  split at h
                  · cases h
                  · rename_i v1 k many1 hv
                    obtain ⟨p1, p2, p3⟩ := pGo_ok hv hm
                    have l1 := pGo_len hv hm
                    have l2 := pGo_len h p3 (by simp [hkl])
                    have l3 := items_push (tb := true) (v := v1) (acc := acc) (ks := ks) (key := key) (first := true) hkl
                    have q1 := (pGo_ok h p3).1
                    simp only [LenPT] at l1
                    simp only [if_true] at l3
                    by_cases ha : acc = []
                    · rw [if_pos ha] at l3; omega
                    · rw [if_neg ha] at l3
                      have := m3 hb' (dF ha)
                      omega
theorem parseS_len {s : List UInt8} {v : VT} (h : parseS s = .ok v) : (textT v).length ≤ 6 * s.length := by
  unfold parseS at h
  split at h
  · cases h
  · rename_i v1 i n hv
    split at h
    · cases h
    · cases h
      have h1 := pGo_len hv (by omega)
      obtain ⟨_, p2, _⟩ := pGo_ok hv (by omega)
      simp only [LenPT] at h1; omega
end Go.Proofs.YtinlfdkalijffaaDoor.Am.Q
namespace Go.Proofs.YtinlfdkalijffaaDoor.Am.Q
open Go Go.Proofs Go.Proofs.YtinlfdkalijffaaDoor.Am
theorem items_kid {tb : Bool} {v : VT} : ∀ {l : List VT} {ks : List (List UInt8)} {first : Bool}, v ∈ l → (textT v).length ≤ (itemsT tb first ks l).length
  | w :: l, ks, first, h => by
    simp only [itemsT, List.length_append]
    rcases List.mem_cons.1 h with rfl | h
    · omega
    · have := items_kid (tb := tb) (l := l) (ks := ks.tail) (first := false) h; omega
theorem items_key {k : List UInt8} : ∀ {l : List VT} {ks : List (List UInt8)} {first : Bool}, ks.length ≤ l.length → k ∈ ks → k.length ≤ (itemsT true first ks l).length
  | [], ks, first, h, hk => by
    obtain rfl : ks = [] := List.eq_nil_of_length_eq_zero (by simpa using h)
    cases hk
  | w :: l, [], first, _, hk => by cases hk
  | w :: l, q :: ks, first, h, hk => by
    simp only [itemsT, keyB, List.length_append, List.tail_cons]
    rcases List.mem_cons.1 hk with rfl | hk
    · have := flat_ge k
      simp only [quotS, List.length_append]; omega
    · have := items_key (l := l) (ks := ks) (first := false) (by simpa using h) hk; omega
theorem fit_text : ∀ (n : Nat) {T : VT} {d : Nat}, nodesT T ≤ n → n ≤ 4096 → goodT d T = true → (textT T).length < 2 ^ 20 → Fit T
  | 0, T, _, hn, _, _, _ => by have := node_pos T; omega
  | n + 1, .node k t ks l, d, hn, h4, h, hl => by
    simp only [goodT, Bool.and_eq_true] at h
    obtain ⟨hone, _, hgl⟩ := h
    simp only [nodesT] at hn
    have hge := nodesL_ge (l := l)
    have hkl := oneS_keys hone
    have hk := oneS_kind hone
    have kidsfit : (∀ v ∈ l, (textT v).length < 2 ^ 20) → ∀ i, i < l.length → Fit (l.getD i VT.zero) := by
      intro hv i hi
      have e : l.getD i VT.zero = l[i] := by simp [List.getD, hi]
      rw [e]
      exact fit_text n (by have := nodes_mem (List.getElem_mem hi); omega) (by omega) (goodL_mem hgl _ (List.getElem_mem hi)) (hv _ (List.getElem_mem hi))
    by_cases k5 : k = 5
    · subst k5
      have hb : t = [] ∧ ks = [] := by simpa [oneS] using hone
      obtain ⟨rfl, rfl⟩ := hb
      have hS : textT (.node 5 [] [] l) = [91] ++ (itemsT false true [] l ++ [93]) := by simp [textT]
      rw [hS] at hl
      simp only [List.length_append] at hl
      exact .mk (by simp) (by omega) (by simp) (by simp) (kidsfit fun v hv => by have := items_kid (tb := false) (ks := []) (first := true) hv; omega)
    by_cases k6 : k = 6
    · subst k6
      have hb : (t = [] ∧ ks.length = l.length) ∧ twS [] ks = false ∧ allT ks = true := by simpa [oneS] using hone
      obtain ⟨⟨rfl, hkl⟩, _, _⟩ := hb
      have hS : textT (.node 6 [] ks l) = [123] ++ (itemsT true true ks l ++ [125]) := by simp [textT]
      rw [hS] at hl
      simp only [List.length_append] at hl
      exact .mk (by omega) (by omega) (by simp) (fun x hx => by have := items_key (l := l) (first := true) (by omega) hx; omega) (kidsfit fun v hv => by have := items_kid (tb := true) (ks := ks) (first := true) hv; omega)
    have hl0 : l = [] := by
      by_cases h0 : l.length = 0
      · exact List.eq_nil_of_length_eq_zero h0
      · rcases oneS_kids hone h0 with e | e
        · exact absurd e k5
        · exact absurd e k6
    subst hl0
    have hks0 : ks = [] := List.eq_nil_of_length_eq_zero (by simp only [List.length_nil] at hkl; omega)
    subst hks0
    refine .mk (by simp) (by simp) ?_ (by simp) (fun i hi => absurd hi (Nat.not_lt_zero _))
    by_cases k1 : k = 1
    · have : t = [] := by simp [oneS, k1, bareS] at hone; exact hone
      rw [this]; simp
    by_cases k4 : k = 4
    · have hS : textT (.node k t [] []) = quotS t := by simp only [textT, if_neg k1, if_pos k4]
      rw [hS] at hl
      have := flat_ge t
      simp only [quotS, List.length_append] at hl; omega
    · have hS : textT (.node k t [] []) = t := by simp only [textT, if_neg k1, if_neg k4, if_neg k5, if_neg k6]
      rw [hS] at hl; omega
end Go.Proofs.YtinlfdkalijffaaDoor.Am.Q
namespace Go.Proofs.YtinlfdkalijffaaDoor.Am.Q
open Go Go.Proofs Go.Proofs.YtinlfdkalijffaaDoor.Am
end Go.Proofs.YtinlfdkalijffaaDoor.Am.Q
namespace Go.Proofs.YtinlfdkalijffaaDoor.Am.Q
open Go Go.Proofs Go.Proofs.YtinlfdkalijffaaDoor.Am
theorem flt_ne {w : Int} {k : Nat} (h : w ≠ 0) : eqV (.struct [(0, .int), (1, .int)]) (.agg [.int .i64 w, .int .i64 k]) (.agg [.int .i64 0, .int .i64 0]) = some false := by
  have : (w == 0) = false := by simp [h]
  simp [eqV, eqFs, eqL, this]
theorem flt_eq : eqV (.struct [(0, .int), (1, .int)]) (.agg [.int .i64 0, .int .i64 0]) (.agg [.int .i64 0, .int .i64 0]) = some true := by simp [eqV, eqFs, eqL]
end Go.Proofs.YtinlfdkalijffaaDoor.Am.Q
