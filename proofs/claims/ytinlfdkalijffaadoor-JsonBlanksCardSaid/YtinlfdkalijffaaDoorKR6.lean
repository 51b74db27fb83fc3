/- Part KR6 of a claim's texts, joined: what the claim needs of them. -/
import Derived.Test.YtinlfdkalijffaaDoorKR1
set_option linter.unusedSimpArgs false
set_option linter.unusedVariables false
namespace Go.Proofs.YtinlfdkalijffaaDoor.Am.Q
open Go Go.Proofs Go.Proofs.YtinlfdkalijffaaDoor.Am
section
variable {A s B : List UInt8}
theorem sub_get {i : Nat} (h : i < s.length) : (A ++ (s ++ B))[i + A.length]? = s[i]? := by
  rw [List.getElem?_append_right (by omega), Nat.add_sub_cancel, List.getElem?_append_left h]
theorem sub_drop {i : Nat} (h : i ≤ s.length) : (A ++ (s ++ B)).drop (i + A.length) = s.drop i ++ B := by
  rw [Nat.add_comm, ← List.drop_drop, List.drop_left, List.drop_append_of_le_length h]
theorem sub_len : (A ++ (s ++ B)).length = A.length + s.length + B.length := by simp only [List.length_append]; omega
theorem take_app {p : UInt8 → Bool} {a b : List UInt8} (h : (a.takeWhile p).length < a.length ∨ ∀ x ∈ b.head?, p x = false) : (a ++ b).takeWhile p = a.takeWhile p := by
  rw [List.takeWhile_append]
  split
  · rename_i e
    rcases h with h | h
    · omega
    · have : a.takeWhile p = a := by
        have := List.takeWhile_prefix (l := a) p
        exact this.eq_of_length e
      rw [this]
      cases b with
      | nil => simp
      | cons x b => simp [h x (by simp)]
  · rfl
def okB (B : List UInt8) : Prop := ∀ x ∈ B.head?, isNum x = false ∧ isSmall x = false
theorem sub_nxt {i j : Nat} {c : UInt8} (h : nxt s i = .ok (j, c)) : nxt (A ++ (s ++ B)) (i + A.length) = .ok (j + A.length, c) := by
  obtain ⟨h1, h2, h3, h4⟩ := nxt_ok h
  have e : skipN (A ++ (s ++ B)) (i + A.length) = j + A.length := by
    unfold skipN runN
    rw [sub_drop (by omega), take_app (.inl ?_)]
    · unfold skipN runN at h4; omega
    · rw [List.length_drop]; unfold skipN runN at h4; omega
  unfold nxt
  rw [e, sub_get h2, h3]
theorem sub_hex {i of n : Nat} (h : hex4 s i of = .ok n) (of' : Nat) : hex4 (A ++ (s ++ B)) (i + A.length) of' = .ok n := by
  unfold hex4 at h
  split at h
  · cases h
  · rename_i h1
    split at h
    · cases h
    · rename_i h2
      have hl : 4 ≤ (s.drop i).length := by rw [List.length_take] at h2; omega
      have hi : i ≤ s.length := by rw [List.length_drop] at hl; omega
      unfold hex4
      rw [sub_drop hi, List.take_append_of_le_length hl, if_neg h1, if_neg h2]; exact h
theorem get_lt {i : Nat} {c : UInt8} (h : s[i]? = some c) : i < s.length := (List.getElem?_eq_some_iff.1 h).1
theorem sub_some {i : Nat} {c : UInt8} (h : s[i]? = some c) : (A ++ (s ++ B))[i + A.length]? = some c := by rw [sub_get (get_lt h)]; exact h
theorem sub_sur {i n j : Nat} {b : List UInt8} (h : surS s i n = .ok (b, j)) : surS (A ++ (s ++ B)) (i + A.length) n = .ok (b, j + A.length) := by
  unfold surS at h
  split at h
  · cases h
  · rename_i a ha
    split at h
    · cases h
    · rename_i h1
      split at h
      · cases h
      · rename_i b' hb
        split at h
        · cases h
        · rename_i h2
          split at h
          · cases h
          · rename_i k hk
            split at h
            · cases h
            · rename_i h3
              cases h
              unfold surS
              rw [show i + A.length + 6 = i + 6 + A.length by omega, sub_some ha]
              simp only
              rw [if_neg h1, show i + A.length + 7 = i + 7 + A.length by omega, sub_some hb]
              simp only
              rw [if_neg h2, show i + A.length + 8 = i + 8 + A.length by omega, sub_hex hk]
              simp only
              rw [if_neg h3, show i + A.length + 12 = i + 12 + A.length by omega]
theorem sub_esc {i j : Nat} {b : List UInt8} (h : escS s i = .ok (b, j)) : escS (A ++ (s ++ B)) (i + A.length) = .ok (b, j + A.length) := by
  unfold escS at h
  split at h
  · cases h
  · rename_i c hc
    split at h
    · rename_i k hk
      cases h
      unfold escS
      rw [show i + A.length + 1 = i + 1 + A.length by omega, sub_some hc]
      simp only [hk]
      rw [show i + A.length + 2 = i + 2 + A.length by omega]
    · rename_i hk
      split at h
      · cases h
      · rename_i h1
        split at h
        · cases h
        · rename_i n hn
          unfold escS
          rw [show i + A.length + 1 = i + 1 + A.length by omega, sub_some hc]
          simp only [hk]
          rw [if_neg h1, show i + A.length + 2 = i + 2 + A.length by omega, sub_hex hn]
          simp only
          split at h
          · rename_i h2
            cases h
            rw [if_pos h2, show i + A.length + 6 = i + 6 + A.length by omega]
          · rename_i h2
            rw [if_neg h2]
            split at h
            · cases h
            · rename_i h3
              rw [if_neg h3]; exact sub_sur h
theorem sub_quoS : ∀ {f f' i : Nat} {out t : List UInt8} {j : Nat}, quoS s f i out = .ok (t, j) → f ≤ f' → quoS (A ++ (s ++ B)) f' (i + A.length) out = .ok (t, j + A.length)
  | 0, _, _, _, _, _, h, _ => by cases h
  | f + 1, 0, _, _, _, _, _, hf => by omega
  | f + 1, f' + 1, i, out, t, j, h, hf => by
    simp only [quoS] at h ⊢
    split at h
    · cases h
    · rename_i c hc
      rw [sub_some hc]
      simp only
      split at h
      · cases h
      · rename_i h1
        rw [if_neg h1]
        split at h
        · rename_i h2
          cases h
          rw [if_pos h2, show i + A.length + 1 = i + 1 + A.length by omega]
        · rename_i h2
          rw [if_neg h2]
          split at h
          · rename_i h3
            rw [if_pos h3]
            split at h
            · cases h
            · rename_i b k hb
              rw [sub_esc hb]
              exact sub_quoS h (by omega)
          · rename_i h3
            rw [if_neg h3, show i + A.length + 1 = i + 1 + A.length by omega]
            exact sub_quoS h (by omega)
theorem sub_quote {i j : Nat} {t : List UInt8} (h : quote s i = .ok (t, j)) : quote (A ++ (s ++ B)) (i + A.length) = .ok (t, j + A.length) := by
  unfold quote at h ⊢
  rw [show i + A.length + 1 = i + 1 + A.length by omega]
  exact sub_quoS h (by rw [sub_len]; omega)
theorem sub_more {i e j : Nat} {first b : Bool} (h : moreS s i first e = .ok (b, j)) : moreS (A ++ (s ++ B)) (i + A.length) first e = .ok (b, j + A.length) := by
  unfold moreS at h ⊢
  split at h
  · cases h
  · rename_i a c hn
    rw [sub_nxt hn]
    simp only
    split at h
    · rename_i h1
      cases h
      rw [if_pos h1, show a + A.length + 1 = a + 1 + A.length by omega]
    · rename_i h1
      rw [if_neg h1]
      split at h
      · rename_i h2
        cases h
        rw [if_pos h2]
      · rename_i h2
        rw [if_neg h2]
        split at h
        · cases h
        · rename_i h3
          cases h
          rw [if_neg h3, show a + A.length + 1 = a + 1 + A.length by omega]
theorem sub_must {i e j : Nat} {x : Unit} (h : mustS s i e = .ok (x, j)) : mustS (A ++ (s ++ B)) (i + A.length) e = .ok (x, j + A.length) := by
  unfold mustS at h ⊢
  split at h
  · cases h
  · rename_i a c hn
    rw [sub_nxt hn]
    simp only
    split at h
    · cases h
    · rename_i h1
      cases h
      rw [if_neg h1, show a + A.length + 1 = a + 1 + A.length by omega]
def Shut (B : List UInt8) (t : PT) (j n : Nat) : Prop :=
  match t with
  | .val => j < n ∨ okB B
  | _ => True
theorem sub_run {p : UInt8 → Bool} {a : Nat} (ha : a ≤ s.length) (h : a + runN p (s.drop a) < s.length ∨ ∀ x ∈ B.head?, p x = false) : ((A ++ (s ++ B)).drop (a + A.length)).takeWhile p = (s.drop a).takeWhile p := by
  rw [sub_drop ha]
  refine take_app ?_
  rcases h with h | h
  · left; rw [List.length_drop]; unfold runN at h; omega
  · exact .inr h
theorem pGo_sub : ∀ {f f' : Nat} {t : PT} {i many deep : Nat} {v : VT} {j many' : Nat}, pGo s f t i many deep = .ok (v, j, many') → f ≤ f' → many ≤ 4096 → Shut B t j s.length → pGo (A ++ (s ++ B)) f' t (i + A.length) many deep = .ok (v, j + A.length, many')
  | 0, _, _, _, _, _, _, _, _, h, _, _, _ => by cases h
  | f + 1, 0, _, _, _, _, _, _, _, _, hf, _, _ => by omega
  | f + 1, f' + 1, .val, i, many, deep, v, j, many', h, hf, hm, hS => by
    simp only [Shut] at hS
    simp only [pGo] at h ⊢
    split at h
    · cases h
    · rename_i a c hn
      obtain ⟨n1, n2, n3, _⟩ := nxt_ok hn
      rw [sub_nxt hn]
      simp only
      split at h
      · cases h
      · rename_i h0
        rw [if_neg h0]
        split at h
        · rename_i h1
          rw [if_pos h1]
          split at h
          · cases h
          · rename_i t k hq
            cases h
            rw [sub_quote hq]
        · rename_i h1
          rw [if_neg h1]
          split at h
          · rename_i h2
            rw [if_pos h2]
            split at h
            · cases h
            · rename_i h3
              rw [if_neg h3, show a + A.length + 1 = a + 1 + A.length by omega]
              split at h
              · rename_i h4
                rw [if_pos h4]
                exact pGo_sub h (by omega) (by omega) trivial
              · rename_i h4
                rw [if_neg h4]
                exact pGo_sub h (by omega) (by omega) trivial
          · rename_i h2
            rw [if_neg h2]
            split at h
            · rename_i h3
              rw [if_pos h3]
              split at h
              · rename_i h4
                cases h
                have e := sub_run (A := A) (B := B) (p := isNum) (a := a) (by omega) (hS.imp id fun h x hx => (h x hx).1)
                unfold runN
                rw [e, if_pos h4]
                simp only [Except.ok.injEq, Prod.mk.injEq, true_and, and_true]; omega
              · cases h
            · rename_i h3
              rw [if_neg h3]
              have e : (a + runN isSmall (s.drop a) < s.length ∨ okB B) → ((A ++ (s ++ B)).drop (a + A.length)).takeWhile isSmall = (s.drop a).takeWhile isSmall := fun hS => sub_run (by omega) (hS.imp id fun h x hx => (h x hx).2)
              split at h
              · rename_i h4
                cases h
                unfold runN
                rw [e hS, if_pos h4]
                simp only [Except.ok.injEq, Prod.mk.injEq, true_and, and_true]; omega
              · rename_i h4
                split at h
                · rename_i h5
                  cases h
                  unfold runN
                  rw [e hS, if_neg h4, if_pos h5]
                  simp only [Except.ok.injEq, Prod.mk.injEq, true_and, and_true]; omega
                · cases h
  | f + 1, f' + 1, .list acc, i, many, deep, v, j, many', h, hf, hm, _ => by
    rw [pGo_list2] at h ⊢
    split at h
    · cases h
    · rename_i b a hmo
      rw [sub_more hmo]
      simp only
      split at h
      · rename_i h1
        cases h
        rw [if_pos h1]
      · rename_i h1
        rw [if_neg h1]
        split at h
        · cases h
        · rename_i v1 k many1 hv
          obtain ⟨p1, p2, p3⟩ := pGo_ok hv hm
          obtain ⟨q1, q2, _⟩ := pGo_ok h p3
          rw [pGo_sub hv (f' := f') (by omega) hm (.inl (by omega))]
          exact pGo_sub h (by omega) p3 trivial
  | f + 1, f' + 1, .tab ks acc, i, many, deep, v, j, many', h, hf, hm, _ => by
    rw [pGo_tab2] at h ⊢
    split at h
    · cases h
    · rename_i b a hmo
      rw [sub_more hmo]
      simp only
      split at h
      · rename_i h1
        cases h
        rw [if_pos h1]
      · rename_i h1
        rw [if_neg h1]
        split at h
        · cases h
        · rename_i a1 q hn
          rw [sub_nxt hn]
          simp only
          split at h
          · cases h
          · rename_i h2
            rw [if_neg h2]
            split at h
            · cases h
            · rename_i key b1 hq
              rw [sub_quote hq]
              simp only
              split at h
              · cases h
              · rename_i h3
                rw [if_neg h3]
                split at h
                · cases h
                · rename_i d hmu
                  rw [sub_must hmu]
                  simp only
                  split at h
                  · cases h
                  · rename_i v1 k many1 hv
                    obtain ⟨p1, p2, p3⟩ := pGo_ok hv hm
                    obtain ⟨q1, q2, _⟩ := pGo_ok h p3
                    rw [pGo_sub hv (f' := f') (by omega) hm (.inl (by omega))]
                    exact pGo_sub h (by omega) p3 trivial
end
end Go.Proofs.YtinlfdkalijffaaDoor.Am.Q
namespace Go.Proofs.YtinlfdkalijffaaDoor.Am.Q
open Go Go.Proofs Go.Proofs.YtinlfdkalijffaaDoor.Am
section
variable {A s B : List UInt8}
def Blks (B : List UInt8) : Prop := (∀ x ∈ B, isBlk x = true) ∧ ∃ r, B = 13 :: r
def Bad (B : List UInt8) (w : Int) : Prop := w ≠ 0 ∧ ((w ≠ 3 ∧ w ≠ 4) ∨ Blks B)
theorem Bad.three (h : Bad B 3) : Blks B := h.2.resolve_left (by simp)
theorem Bad.four (h : Bad B 4) : Blks B := h.2.resolve_left (by simp)
theorem Blks.ok (h : Blks B) : okB B := by
  obtain ⟨_, r, rfl⟩ := h
  intro x hx
  simp only [List.head?_cons, Option.mem_def, Option.some.injEq] at hx
  subst hx; exact ⟨by decide, by decide⟩
theorem run_of_all {p : UInt8 → Bool} : ∀ {l : List UInt8}, (∀ x ∈ l, p x = true) → runN p l = l.length
  | [], _ => rfl
  | c :: l, h => by rw [runN_cons, if_pos (h c (by simp)), run_of_all fun x hx => h x (by simp [hx])]; rfl
theorem nxt_stop {i : Nat} (hi : i ≤ s.length) (h : ∀ x ∈ s.drop i, isBlk x = true) : nxt s i = .error (4, s.length) := by
  have : skipN s i = s.length := by unfold skipN; rw [run_of_all h, List.length_drop]; omega
  unfold nxt
  rw [this, List.getElem?_eq_none (Nat.le_refl _)]
theorem nxt_end : nxt s s.length = .error (4, s.length) := nxt_stop (Nat.le_refl _) (by rw [List.drop_length]; simp)
theorem nxt_blk {i : Nat} {e : Flt} (h : nxt s i = .error e) : e = (4, s.length) ∧ ∀ x ∈ s.drop i, isBlk x = true := by
  unfold nxt at h
  split at h
  · cases h
  · rename_i hn
    cases h
    refine ⟨rfl, run_all ?_⟩
    have := List.getElem?_eq_none_iff.1 hn
    have h2 := runN_le (p := isBlk) (s := s.drop i)
    rw [List.length_drop] at h2 ⊢
    unfold skipN at this; omega
theorem sub_nxtE {i : Nat} {w : Int} {k : Nat} (h : nxt s i = .error (w, k)) (hb : Bad B w) (hi : i ≤ s.length) : ∃ e, nxt (A ++ (s ++ B)) (i + A.length) = .error e := by
  obtain ⟨h1, h2⟩ := nxt_blk h
  cases h1
  refine ⟨_, nxt_stop (by rw [sub_len]; omega) ?_⟩
  rw [sub_drop hi]
  intro x hx
  rcases List.mem_append.1 hx with hx | hx
  · exact h2 x hx
  · exact hb.four.1 x hx
theorem sub_hexE {i of : Nat} {e : Flt} (h : hex4 s i of = .error e) (hb : Blks B) (hi : i ≤ s.length) (of' : Nat) : ∃ e, hex4 (A ++ (s ++ B)) (i + A.length) of' = .error e := by
  unfold hex4 at h ⊢
  rw [sub_drop hi]
  by_cases hl : 4 ≤ (s.drop i).length
  · rw [List.take_append_of_le_length hl]
    split at h
    · rename_i h1
      rw [if_pos h1]; exact ⟨_, rfl⟩
    · rename_i h1
      split at h
      · rename_i h2
        rw [List.length_take] at h2; omega
      · cases h
  · obtain ⟨_, r, rfl⟩ := hb
    rw [if_pos]
    · exact ⟨_, rfl⟩
    · refine List.any_eq_true.2 ⟨13, ?_, by decide⟩
      refine List.mem_of_getElem? (i := (s.drop i).length) ?_
      rw [List.getElem?_take_of_lt (by omega), List.getElem?_append_right (Nat.le_refl _), Nat.sub_self]; rfl
theorem get_none {i : Nat} (h : s[i]? = none) (hi : i ≤ s.length) : i = s.length := by
  have := List.getElem?_eq_none_iff.1 h; omega
theorem sub_end (hb : Blks B) : (A ++ (s ++ B))[s.length + A.length]? = some 13 := by
  obtain ⟨_, r, rfl⟩ := hb
  rw [List.getElem?_append_right (by omega), Nat.add_sub_cancel, List.getElem?_append_right (Nat.le_refl _), Nat.sub_self]; rfl
theorem sub_surE {i n : Nat} {w : Int} {k : Nat} (h : surS s i n = .error (w, k)) (hb : Bad B w) (hi : i + 6 ≤ s.length) : ∃ e, surS (A ++ (s ++ B)) (i + A.length) n = .error e := by
  have e6 : i + A.length + 6 = i + 6 + A.length := by omega
  have e7 : i + A.length + 7 = i + 7 + A.length := by omega
  have e8 : i + A.length + 8 = i + 8 + A.length := by omega
  unfold surS at h ⊢
  rw [e6, e7, e8]
  split at h
  · rename_i ha
    cases h
    rw [get_none ha hi, sub_end hb.four]
    simp only
    rw [if_pos (by decide)]; exact ⟨_, rfl⟩
  · rename_i a ha
    have la := get_lt ha
    rw [sub_some ha]
    simp only
    split at h
    · rename_i h1
      rw [if_pos h1]; exact ⟨_, rfl⟩
    · rename_i h1
      rw [if_neg h1]
      split at h
      · rename_i hb'
        cases h
        rw [get_none hb' la, sub_end hb.four]
        simp only
        rw [if_pos (by decide)]; exact ⟨_, rfl⟩
      · rename_i b' hb'
        have lb := get_lt hb'
        rw [sub_some hb']
        simp only
        split at h
        · rename_i h2
          rw [if_pos h2]; exact ⟨_, rfl⟩
        · rename_i h2
          rw [if_neg h2]
          split at h
          · rename_i e hk
            cases h
            have hB : Blks B := by
              unfold hex4 at hk
              split at hk
              · cases hk; exact hb.three
              · split at hk
                · cases hk; exact hb.four
                · cases hk
            obtain ⟨e, he⟩ := sub_hexE (A := A) hk hB (by omega) (i + A.length)
            rw [he]; exact ⟨_, rfl⟩
          · rename_i k' hk
            rw [sub_hex hk]
            simp only
            split at h
            · rename_i h3
              rw [if_pos h3]; exact ⟨_, rfl⟩
            · cases h
theorem sub_escE {i : Nat} {w : Int} {k : Nat} (h : escS s i = .error (w, k)) (hb : Bad B w) (hi : i < s.length) : ∃ e, escS (A ++ (s ++ B)) (i + A.length) = .error e := by
  have e1 : i + A.length + 1 = i + 1 + A.length := by omega
  have e2 : i + A.length + 2 = i + 2 + A.length := by omega
  unfold escS at h ⊢
  rw [e1, e2]
  split at h
  · rename_i hc
    cases h
    rw [get_none hc hi, sub_end hb.four]
    simp only
    rw [show escIdx 13 = none by decide]
    simp only
    rw [if_pos (by decide)]; exact ⟨_, rfl⟩
  · rename_i c hc
    have lc := get_lt hc
    rw [sub_some hc]
    simp only
    split at h
    · cases h
    · rename_i hk
      split at h
      · rename_i h1
        rw [if_pos h1]; exact ⟨_, rfl⟩
      · rename_i h1
        rw [if_neg h1]
        split at h
        · rename_i e hn
          cases h
          have hB : Blks B := by
            unfold hex4 at hn
            split at hn
            · cases hn; exact hb.three
            · split at hn
              · cases hn; exact hb.four
              · cases hn
          obtain ⟨e, he⟩ := sub_hexE (A := A) hn hB (by omega) (i + A.length)
          rw [he]; exact ⟨_, rfl⟩
        · rename_i n hn
          rw [sub_hex hn]
          simp only
          split at h
          · cases h
          · rename_i h2
            rw [if_neg h2]
            split at h
            · rename_i h3
              rw [if_pos h3]; exact ⟨_, rfl⟩
            · rename_i h3
              rw [if_neg h3]
              refine sub_surE h hb ?_
              unfold hex4 at hn
              split at hn
              · cases hn
              · split at hn
                · cases hn
                · rename_i h4
                  rw [List.length_take, List.length_drop] at h4; omega
theorem sub_quoSE : ∀ {f f' i : Nat} {out : List UInt8} {w : Int} {k : Nat}, quoS s f i out = .error (w, k) → Bad B w → i ≤ s.length → ∃ e, quoS (A ++ (s ++ B)) f' (i + A.length) out = .error e
  | 0, _, _, _, _, _, h, hb, _ => by cases h; exact absurd rfl hb.1
  | f + 1, 0, _, _, _, _, _, _, _ => ⟨_, rfl⟩
  | f + 1, f' + 1, i, out, w, k, h, hb, hi => by
    simp only [quoS] at h ⊢
    split at h
    · rename_i hc
      cases h
      rw [get_none hc hi, sub_end hb.four]
      simp only
      rw [if_pos (by decide)]; exact ⟨_, rfl⟩
    · rename_i c hc
      have lc := get_lt hc
      rw [sub_some hc]
      simp only
      split at h
      · rename_i h1
        rw [if_pos h1]; exact ⟨_, rfl⟩
      · rename_i h1
        rw [if_neg h1]
        split at h
        · cases h
        · rename_i h2
          rw [if_neg h2]
          split at h
          · rename_i h3
            rw [if_pos h3]
            split at h
            · rename_i e he
              cases h
              obtain ⟨e, he⟩ := sub_escE (A := A) he hb lc
              rw [he]; exact ⟨_, rfl⟩
            · rename_i b k' hb'
              have := escS_ok hb'
              rw [sub_esc hb']
              exact sub_quoSE h hb this.2.1
          · rename_i h3
            rw [if_neg h3, show i + A.length + 1 = i + 1 + A.length by omega]
            exact sub_quoSE h hb lc
theorem sub_quoteE {i : Nat} {w : Int} {k : Nat} (h : quote s i = .error (w, k)) (hb : Bad B w) (hi : i < s.length) : ∃ e, quote (A ++ (s ++ B)) (i + A.length) = .error e := by
  unfold quote at h ⊢
  rw [show i + A.length + 1 = i + 1 + A.length by omega]
  exact sub_quoSE h hb hi
theorem sub_moreE {i e : Nat} {first : Bool} {w : Int} {k : Nat} (h : moreS s i first e = .error (w, k)) (hb : Bad B w) (hi : i ≤ s.length) : ∃ e', moreS (A ++ (s ++ B)) (i + A.length) first e = .error e' := by
  unfold moreS at h ⊢
  split at h
  · rename_i hn
    cases h
    obtain ⟨e', he⟩ := sub_nxtE (A := A) hn hb hi
    rw [he]; exact ⟨_, rfl⟩
  · rename_i a c hn
    rw [sub_nxt hn]
    simp only
    split at h
    · cases h
    · rename_i h1
      rw [if_neg h1]
      split at h
      · cases h
      · rename_i h2
        rw [if_neg h2]
        split at h
        · rename_i h3
          rw [if_pos h3]; exact ⟨_, rfl⟩
        · cases h
theorem sub_mustE {i e : Nat} {w : Int} {k : Nat} (h : mustS s i e = .error (w, k)) (hb : Bad B w) (hi : i ≤ s.length) : ∃ e', mustS (A ++ (s ++ B)) (i + A.length) e = .error e' := by
  unfold mustS at h ⊢
  split at h
  · rename_i hn
    cases h
    obtain ⟨e', he⟩ := sub_nxtE (A := A) hn hb hi
    rw [he]; exact ⟨_, rfl⟩
  · rename_i a c hn
    rw [sub_nxt hn]
    simp only
    split at h
    · rename_i h1
      rw [if_pos h1]; exact ⟨_, rfl⟩
    · cases h
theorem list_end {f many deep : Nat} {acc : List VT} {w : Int} {k : Nat} (h : pGo s f (.list acc) s.length many deep = .error (w, k)) (hb : Bad B w) : okB B := by
  cases f with
  | zero => cases h; exact absurd rfl hb.1
  | succ f => simp only [pGo, nxt_end] at h; cases h; exact hb.four.ok
theorem tab_end {f many deep : Nat} {ks : List (List UInt8)} {acc : List VT} {w : Int} {k : Nat} (h : pGo s f (.tab ks acc) s.length many deep = .error (w, k)) (hb : Bad B w) : okB B := by
  cases f with
  | zero => cases h; exact absurd rfl hb.1
  | succ f => simp only [pGo, nxt_end] at h; cases h; exact hb.four.ok
theorem pGo_subE : ∀ {f f' : Nat} {t : PT} {i many deep : Nat} {w : Int} {k : Nat}, pGo s f t i many deep = .error (w, k) → Bad B w → f ≤ f' → many ≤ 4096 → i ≤ s.length → ∃ e, pGo (A ++ (s ++ B)) f' t (i + A.length) many deep = .error e
  | 0, _, _, _, _, _, _, _, h, hb, _, _, _ => by cases h; exact absurd rfl hb.1
  | f + 1, 0, _, _, _, _, _, _, _, _, hf, _, _ => by omega
  | f + 1, f' + 1, .val, i, many, deep, w, k, h, hb, hf, hm, hi => by
    simp only [pGo] at h ⊢
    split at h
    · rename_i hn
      cases h
      obtain ⟨e', he⟩ := sub_nxtE (A := A) hn hb hi
      rw [he]; exact ⟨_, rfl⟩
    · rename_i a c hn
      obtain ⟨n1, n2, n3, _⟩ := nxt_ok hn
      rw [sub_nxt hn]
      simp only
      split at h
      · rename_i h0
        rw [if_pos h0]; exact ⟨_, rfl⟩
      · rename_i h0
        rw [if_neg h0]
        split at h
        · rename_i h1
          rw [if_pos h1]
          split at h
          · rename_i hq
            cases h
            obtain ⟨e', he⟩ := sub_quoteE (A := A) hq hb n2
            rw [he]; exact ⟨_, rfl⟩
          · cases h
        · rename_i h1
          rw [if_neg h1]
          split at h
          · rename_i h2
            rw [if_pos h2]
            split at h
            · rename_i h3
              rw [if_pos h3]; exact ⟨_, rfl⟩
            · rename_i h3
              rw [if_neg h3, show a + A.length + 1 = a + 1 + A.length by omega]
              split at h
              · rename_i h4
                rw [if_pos h4]
                exact pGo_subE h hb (by omega) (by omega) n2
              · rename_i h4
                rw [if_neg h4]
                exact pGo_subE h hb (by omega) (by omega) n2
          · rename_i h2
            rw [if_neg h2]
            split at h
            · rename_i h3
              rw [if_pos h3]
              split at h
              · cases h
              · rename_i h4
                injection h with h; injection h with hw0 hk0; subst hw0
                have e := sub_run (A := A) (s := s) (B := B) (p := isNum) (a := a) (by omega) (.inr fun x hx => (hb.three.ok x hx).1)
                rw [e, if_neg h4]; exact ⟨_, rfl⟩
            · rename_i h3
              rw [if_neg h3]
              split at h
              · cases h
              · rename_i h4
                split at h
                · cases h
                · rename_i h5
                  injection h with h; injection h with hw0 hk0; subst hw0
                  have e := sub_run (A := A) (s := s) (B := B) (p := isSmall) (a := a) (by omega) (.inr fun x hx => (hb.three.ok x hx).2)
                  rw [e, if_neg h4, if_neg h5]; exact ⟨_, rfl⟩
  | f + 1, f' + 1, .list acc, i, many, deep, w, k, h, hb, hf, hm, hi => by
    rw [pGo_list2] at h ⊢
    split at h
    · rename_i hmo
      cases h
      obtain ⟨e', he⟩ := sub_moreE (A := A) hmo hb hi
      rw [he]; exact ⟨_, rfl⟩
    · rename_i b a hmo
      obtain ⟨m1, m2, m3, m4⟩ := moreS_ok hmo
      rw [sub_more hmo]
      simp only
      split at h
      · cases h
      · rename_i h1
        rw [if_neg h1]
        split at h
        · rename_i hv
          cases h
          obtain ⟨e', he⟩ := pGo_subE (f' := f') hv hb (by omega) hm m2
          rw [he]; exact ⟨_, rfl⟩
        · rename_i v1 k1 many1 hv
          obtain ⟨p1, p2, p3⟩ := pGo_ok hv hm
          have hS : k1 < s.length ∨ okB B := by
            by_cases hk : k1 < s.length
            · exact .inl hk
            · obtain rfl : k1 = s.length := by omega
              exact .inr (list_end h hb)
          rw [pGo_sub hv (f' := f') (by omega) hm hS]
          exact pGo_subE h hb (by omega) p3 p2
  | f + 1, f' + 1, .tab ks acc, i, many, deep, w, k, h, hb, hf, hm, hi => by
    rw [pGo_tab2] at h ⊢
    split at h
    · rename_i hmo
      cases h
      obtain ⟨e', he⟩ := sub_moreE (A := A) hmo hb hi
      rw [he]; exact ⟨_, rfl⟩
    · rename_i b a hmo
      obtain ⟨m1, m2, m3, m4⟩ := moreS_ok hmo
      rw [sub_more hmo]
      simp only
      split at h
      · cases h
      · rename_i h1
        rw [if_neg h1]
        split at h
        · rename_i hn
          cases h
          obtain ⟨e', he⟩ := sub_nxtE (A := A) hn hb m2
          rw [he]; exact ⟨_, rfl⟩
        · rename_i a1 q hn
          obtain ⟨n1, n2, n3, _⟩ := nxt_ok hn
          rw [sub_nxt hn]
          simp only
          split at h
          · rename_i h2
            rw [if_pos h2]; exact ⟨_, rfl⟩
          · rename_i h2
            rw [if_neg h2]
            split at h
            · rename_i hq
              cases h
              obtain ⟨e', he⟩ := sub_quoteE (A := A) hq hb n2
              rw [he]; exact ⟨_, rfl⟩
            · rename_i key b1 hq
              have hq1 := quote_ok hq
              rw [sub_quote hq]
              simp only
              split at h
              · rename_i h3
                rw [if_pos h3]; exact ⟨_, rfl⟩
              · rename_i h3
                rw [if_neg h3]
                split at h
                · rename_i hmu
                  cases h
                  obtain ⟨e', he⟩ := sub_mustE (A := A) hmu hb hq1.2
                  rw [he]; exact ⟨_, rfl⟩
                · rename_i d hmu
                  have hmu1 := mustS_ok hmu
                  rw [sub_must hmu]
                  simp only
                  split at h
                  · rename_i hv
                    cases h
                    obtain ⟨e', he⟩ := pGo_subE (f' := f') hv hb (by omega) hm hmu1.2
                    rw [he]; exact ⟨_, rfl⟩
                  · rename_i v1 k1 many1 hv
                    obtain ⟨p1, p2, p3⟩ := pGo_ok hv hm
                    have hS : k1 < s.length ∨ okB B := by
                      by_cases hk : k1 < s.length
                      · exact .inl hk
                      · obtain rfl : k1 = s.length := by omega
                        exact .inr (tab_end h hb)
                    rw [pGo_sub hv (f' := f') (by omega) hm hS]
                    exact pGo_subE h hb (by omega) p3 p2
end
end Go.Proofs.YtinlfdkalijffaaDoor.Am.Q
namespace Go.Proofs.YtinlfdkalijffaaDoor.Am.Q
open Go Go.Proofs Go.Proofs.YtinlfdkalijffaaDoor.Am
theorem byte_high {c x : UInt8} {k : Nat} (h : goodO c k (some x) = true) : 128 ≤ x.toNat := by
  simp only [goodO, uGood, Bool.and_eq_true, decide_eq_true_eq] at h
  have h1 := h.1
  unfold uLo at h1
  split at h1
  · omega
  · split at h1
    · omega
    · omega
theorem isT_ends {B : List UInt8} (hB : ∀ x ∈ B, x.toNat < 128) : ∀ (n : Nat) {s : List UInt8}, s.length ≤ n → isT (s ++ B) = true → isT s = true
  | 0, s, hn, _ => by
    obtain rfl : s = [] := List.eq_nil_of_length_eq_zero (by omega)
    rfl
  | n + 1, [], _, _ => rfl
  | n + 1, c :: r, hn, h => by
    rw [List.cons_append, isT_cons, Bool.and_eq_true] at h
    obtain ⟨h1, h2⟩ := h
    obtain ⟨g1, g2⟩ := next_good (c := c) (r := r ++ B)
    obtain ⟨k1, k2⟩ := next_good (c := c) (r := r)
    obtain ⟨p1, p2⟩ := uNext_pos (c := c) (r := r)
    rw [h1] at g1
    have hO : ∀ k j : Nat, 1 ≤ k → goodO c k (r ++ B)[j]? = true → goodO c k r[j]? = true := by
      intro k j hk hg
      by_cases hj : j < r.length
      · rw [List.getElem?_append_left hj] at hg; exact hg
      · rw [List.getElem?_append_right (by omega)] at hg
        cases hb : B[j - r.length]? with
        | none => rw [hb] at hg; cases hg
        | some x =>
          have hx := hB x (List.mem_of_getElem? hb)
          rw [hb] at hg
          have := byte_high hg
          omega
    have hg : goodS c r[0]? r[1]? r[2]? = true := by
      have g := g1.symm
      unfold goodS at g ⊢
      split
      · rfl
      · rename_i q1
        rw [if_neg q1] at g
        split
        · rename_i q2
          rw [if_pos q2] at g
          exact hO 1 0 (by omega) g
        · rename_i q2
          rw [if_neg q2] at g
          split
          · rename_i q3
            rw [if_pos q3, Bool.and_eq_true] at g
            rw [hO 1 0 (by omega) g.1, hO 2 1 (by omega) g.2]; rfl
          · rename_i q3
            rw [if_neg q3] at g
            split
            · rename_i q4
              rw [if_pos q4, Bool.and_eq_true, Bool.and_eq_true] at g
              rw [hO 1 0 (by omega) g.1.1, hO 2 1 (by omega) g.1.2, hO 3 2 (by omega) g.2]; rfl
            · rename_i q4
              rw [if_neg q4] at g; cases g
    rw [isT_cons, k1, hg, Bool.true_and]
    have e : (uNext (c :: (r ++ B))).2.1 = (uNext (c :: r)).2.1 := by rw [g2 g1.symm, k2 hg]
    rw [e, ← List.cons_append, List.drop_append_of_le_length p2] at h2
    exact isT_ends hB n (by rw [List.length_drop]; simp only [List.length_cons] at hn p2 ⊢; omega) h2
def preB : List UInt8 := [32, 9, 10]
def postB : List UInt8 := [13, 32]
theorem isT_around {s : List UInt8} : isT (preB ++ (s ++ postB)) = isT s := by
  rw [isT_app preB.length (Nat.le_refl _) (by decide)]
  cases h : isT s with
  | true => exact isT_append h (by decide)
  | false =>
    cases h2 : isT (s ++ postB) with
    | false => rfl
    | true =>
      have := isT_ends (B := postB) (by decide) s.length (Nat.le_refl _) h2
      rw [h] at this; cases this
theorem nxt_pre {r : List UInt8} : nxt (preB ++ r) 0 = nxt (preB ++ r) 3 := by
  have : skipN (preB ++ r) 0 = skipN (preB ++ r) 3 := by
    unfold skipN preB
    simp only [List.cons_append, List.nil_append, List.drop_zero, List.drop_succ_cons]
    rw [runN_cons, if_pos (by decide), runN_cons, if_pos (by decide), runN_cons, if_pos (by decide)]; omega
  unfold nxt; rw [this]
theorem post_blk : Blks postB := ⟨by decide, [32], rfl⟩
theorem skip_around {s : List UInt8} {i : Nat} (hi : i ≤ s.length) : (skipN (preB ++ (s ++ postB)) (i + 3) < (preB ++ (s ++ postB)).length ↔ skipN s i < s.length) := by
  have hd : (preB ++ (s ++ postB)).drop (i + 3) = s.drop i ++ postB := sub_drop (A := preB) hi
  have hl : (preB ++ (s ++ postB)).length = s.length + 5 := by simp [preB, postB]
  have h2 := runN_le (p := isBlk) (s := s.drop i)
  rw [List.length_drop] at h2
  unfold skipN
  rw [hd, hl]
  constructor
  · intro h
    by_cases hs : i + runN isBlk (s.drop i) < s.length
    · exact hs
    · have ha := run_all (p := isBlk) (l := s.drop i) (by rw [List.length_drop]; omega)
      have : runN isBlk (s.drop i ++ postB) = (s.drop i ++ postB).length := run_of_all fun x hx => by
        rcases List.mem_append.1 hx with hx | hx
        · exact ha x hx
        · exact post_blk.1 x hx
      rw [this, List.length_append, List.length_drop] at h
      simp only [postB, List.length_cons, List.length_nil] at h; omega
  · intro h
    have : runN isBlk (s.drop i ++ postB) = runN isBlk (s.drop i) := by
      unfold runN
      rw [take_app (.inl (by rw [List.length_drop]; unfold runN at h; omega))]
    omega
theorem parseS_around {s : List UInt8} : (∀ v, parseS s = .ok v → parseS (preB ++ (s ++ postB)) = .ok v) ∧ (∀ e, parseS s = .error e → ∃ e', parseS (preB ++ (s ++ postB)) = .error e') := by
  have hst : pGo (preB ++ (s ++ postB)) (2 * (preB ++ (s ++ postB)).length + 1) .val 0 0 0 = pGo (preB ++ (s ++ postB)) (2 * (preB ++ (s ++ postB)).length + 1) .val (0 + preB.length) 0 0 := by
    simp only [pGo]
    rw [nxt_pre]; rfl
  have hl : (preB ++ (s ++ postB)).length = s.length + 5 := by simp [preB, postB]
  have hpl : preB.length = 3 := rfl
  constructor
  · intro v h
    unfold parseS at h ⊢
    split at h
    · cases h
    · rename_i v1 i n hv
      obtain ⟨_, p2, _⟩ := pGo_ok hv (by omega)
      have k := pGo_sub (A := preB) (B := postB) hv (f' := 2 * (preB ++ (s ++ postB)).length + 1) (by omega) (by omega) (.inr post_blk.ok)
      rw [hst, k]
      simp only
      split at h
      · cases h
      · rename_i h1
        cases h
        rw [hpl, if_neg]
        intro h2
        exact h1 ((skip_around p2).1 h2)
  · intro e h
    unfold parseS at h ⊢
    split at h
    · rename_i w hv
      obtain ⟨w, k⟩ := w
      have hw : w ≠ 0 := (pGo_err hv (by simp only [fuelOk]; omega) (by omega)).2.1
      obtain ⟨e', he⟩ := pGo_subE (A := preB) (B := postB) hv ⟨hw, .inr post_blk⟩ (f' := 2 * (preB ++ (s ++ postB)).length + 1) (by omega) (by omega) (by omega)
      rw [hst, he]; exact ⟨_, rfl⟩
    · rename_i v1 i n hv
      obtain ⟨_, p2, _⟩ := pGo_ok hv (by omega)
      have k := pGo_sub (A := preB) (B := postB) hv (f' := 2 * (preB ++ (s ++ postB)).length + 1) (by omega) (by omega) (.inr post_blk.ok)
      rw [hst, k]
      simp only
      split at h
      · rename_i h1
        rw [hpl, if_pos ((skip_around p2).2 h1)]; exact ⟨_, rfl⟩
      · cases h
theorem parse_begin {T : VT} (hm : mayT T = true) {c : UInt8} {r : List UInt8} (ht : textT T = c :: r) (hc : c.toNat = 34 ∨ c.toNat = 91 ∨ c.toNat = 123) {cut : Nat} (hcut : cut < (textT T).length) :
    ∃ (w : Int) (k : Nat), parseS ((textT T).take cut) = .error (w, k) ∧ (w = 4 ∧ k = cut ∨ w = 3) := by
  have hpl : ((textT T).take cut).length = cut := by rw [List.length_take]; omega
  have hX : [] ++ ((textT T).take cut ++ (textT T).drop cut) = textT T := by simp
  have hg : goodT 0 T = true := by simp only [mayT, Bool.and_eq_true] at hm; exact hm.1
  have hfull := val_read (nodesT T) T (Nat.le_refl _) 0 0 0 (2 * (textT T).length + 1) (textT T) [] hg (by simp) (fun c r e => by cases e) (by have := mayT_nodes hm; omega) (by omega)
  rw [Nat.zero_add] at hfull
  have hbl : isBlk c = false := blk_range (by omega)
  have hn0 : nxt (textT T) 0 = .ok (0, c) := nxt_here (by rw [ht]; rfl) hbl
  cases hp : parseS ((textT T).take cut) with
  | error e =>
    obtain ⟨w, k⟩ := e
    refine ⟨w, k, rfl, ?_⟩
    obtain ⟨e1, e2, e3⟩ := parseS_err hp
    rw [hpl] at e3
    by_cases h3 : w = 3
    · exact .inr h3
    by_cases h4 : w = 4
    · exact .inl ⟨h4, e3 h4⟩
    exfalso
    unfold parseS at hp
    split at hp
    · rename_i hv
      cases hp
      obtain ⟨e', he⟩ := pGo_subE (A := []) (B := (textT T).drop cut) hv ⟨e2, .inl ⟨h3, h4⟩⟩ (f' := 2 * (textT T).length + 1) (by omega) (by omega) (by omega)
      rw [hX] at he
      rw [show 0 + ([] : List UInt8).length = 0 from rfl, hfull] at he; cases he
    · split at hp
      · cases hp; exact h3 rfl
      · cases hp
  | ok v =>
    exfalso
    unfold parseS at hp
    split at hp
    · cases hp
    · rename_i v1 i n hv
      obtain ⟨q1, q2, _⟩ := pGo_ok hv (by omega)
      rw [hpl] at q2
      cases cut with
      | zero => omega
      | succ m =>
        have hpt : (textT T).take (m + 1) = c :: r.take m := by rw [ht, List.take_succ_cons]
        have hn1 : nxt ((textT T).take (m + 1)) 0 = .ok (0, c) := nxt_here (by rw [hpt]; rfl) hbl
        rw [pGo_val hn1] at hv
        rw [pGo_val hn0] at hfull
        rw [if_neg (by omega)] at hv hfull
        by_cases c1 : c.toNat = 34
        · rw [if_pos c1] at hv hfull
          split at hv
          · cases hv
          · rename_i t k hq
            cases hv
            have hq2 := sub_quote (A := []) (B := (textT T).drop (m + 1)) hq
            rw [hX] at hq2
            rw [show 0 + ([] : List UInt8).length = 0 from rfl, show i + ([] : List UInt8).length = i from rfl] at hq2
            rw [hq2] at hfull
            simp only [Except.ok.injEq, Prod.mk.injEq] at hfull
            omega
        · rw [if_neg c1, if_pos (by omega), if_neg (by omega)] at hv hfull
          by_cases c2 : c.toNat = 91
          · rw [if_pos c2] at hv hfull
            have := pGo_sub (A := []) (B := (textT T).drop (m + 1)) hv (f' := 2 * (textT T).length) (by rw [hpl]; omega) (by omega) trivial
            rw [hX] at this
            rw [show 0 + 1 + ([] : List UInt8).length = 0 + 1 from rfl, hfull] at this
            simp only [Except.ok.injEq, Prod.mk.injEq, List.length_nil] at this
            omega
          · rw [if_neg c2] at hv hfull
            have := pGo_sub (A := []) (B := (textT T).drop (m + 1)) hv (f' := 2 * (textT T).length) (by rw [hpl]; omega) (by omega) trivial
            rw [hX] at this
            rw [show 0 + 1 + ([] : List UInt8).length = 0 + 1 from rfl, hfull] at this
            simp only [Except.ok.injEq, Prod.mk.injEq, List.length_nil] at this
            omega
end Go.Proofs.YtinlfdkalijffaaDoor.Am.Q
namespace Go.Proofs.YtinlfdkalijffaaDoor.Am.Q
open Go Go.Proofs Go.Proofs.YtinlfdkalijffaaDoor.Am
theorem around_law {s : List UInt8} (hs : s.length ≤ 5000) : (∃ (w : Int) (k : Nat) (w' : Int) (k' : Nat), parseT s = (VT.zero, w, k) ∧ w ≠ 0 ∧ parseT (32 :: 9 :: 10 :: (s ++ [13, 32])) = (VT.zero, w', k') ∧ w' ≠ 0) ∨
    ∃ v, parseT s = (v, 0, 0) ∧ parseT (32 :: 9 :: 10 :: (s ++ [13, 32])) = (v, 0, 0) ∧ mayT v = true ∧ (textT v).length ≤ 30000 ∧ Fit v := by
  have hX : (32 :: 9 :: 10 :: (s ++ [13, 32]) : List UInt8) = preB ++ (s ++ postB) := rfl
  have hl : (preB ++ (s ++ postB)).length = s.length + 5 := by simp [preB, postB]
  rw [hX]
  have hn1 : ¬ 65536 < s.length := by omega
  have hn2 : ¬ 65536 < (preB ++ (s ++ postB)).length := by omega
  unfold parseT
  rw [if_neg hn1, if_neg hn2, isT_around]
  cases ht : isT s with
  | false => exact .inl ⟨9, 0, 9, 0, rfl, by decide, rfl, by decide⟩
  | true =>
    rw [if_neg (by decide), if_neg (by decide)]
    obtain ⟨a1, a2⟩ := parseS_around (s := s)
    cases hp : parseS s with
    | error e =>
      obtain ⟨w, k⟩ := e
      obtain ⟨⟨w', k'⟩, he⟩ := a2 _ hp
      rw [he]
      exact .inl ⟨w, k, w', k', rfl, (parseS_err hp).2.1, rfl, (parseS_err he).2.1⟩
    | ok v =>
      rw [a1 v hp]
      have hm := parseS_may hp ht
      have hl := parseS_len hp
      have hg : goodT 0 v = true := by simp only [mayT, Bool.and_eq_true] at hm; exact hm.1
      exact .inr ⟨v, rfl, rfl, hm, by omega, fit_text _ (Nat.le_refl _) (mayT_nodes hm) hg (by omega)⟩
theorem begin_law {k : Int} {t : List UInt8} {ks : List (List UInt8)} {l : List VT} (hm : mayT (.node k t ks l) = true) (hk : k = 5 ∨ k = 6 ∨ k = 4) (hl : (textT (.node k t ks l)).length ≤ 30000) :
    0 < (textT (.node k t ks l)).length ∧ ∀ cut, cut < (textT (.node k t ks l)).length → ∃ (w : Int) (j : Nat), parseT ((textT (.node k t ks l)).take cut) = (VT.zero, w, j) ∧ (w = 4 ∧ j = cut ∨ w = 9 ∧ j = 0 ∨ w = 3) := by
  obtain ⟨c, r, hc, hr⟩ : ∃ c r, textT (.node k t ks l) = c :: r ∧ (c.toNat = 34 ∨ c.toNat = 91 ∨ c.toNat = 123) := by
    rcases hk with rfl | rfl | rfl
    · exact ⟨91, itemsT false true ks l ++ [93], by simp [textT], by decide⟩
    · exact ⟨123, itemsT true true ks l ++ [125], by simp [textT], by decide⟩
    · exact ⟨34, t.flatMap escB ++ [34], by simp [textT, quotS], by decide⟩
  refine ⟨by rw [hc]; simp, fun cut hcut => ?_⟩
  unfold parseT
  rw [if_neg (by rw [List.length_take]; omega)]
  cases ht : isT ((textT (.node k t ks l)).take cut) with
  | false => exact ⟨9, 0, by simp, .inr (.inl ⟨rfl, rfl⟩)⟩
  | true =>
    rw [if_neg (by simp)]
    obtain ⟨w, j, hp, h⟩ := parse_begin hm hc hr hcut
    rw [hp]
    exact ⟨w, j, rfl, h.imp id .inr⟩
def lay2 (m : Mem) (cs : List AV) (w k : Int) : Mem := (((m.alloc z26).alloc zFault).set m.next (.cells 26 cs)).set (m.next + 1) (.cells 29 [.int .i64 w, .int .i64 k])
theorem lay2_eq {m : Mem} {cs : List AV} {w k : Int} : (((m.alloc z26).alloc zFault).set m.next (.cells 26 cs)).set (m.next + 1) (.cells 29 [.int .i64 w, .int .i64 k]) = lay2 m cs w k := rfl
theorem lay2_z {m : Mem} : ((m.alloc z26).alloc zFault).get m.next = z26 := by rw [get_old (by simp [Mem.alloc])]; exact get_new
theorem lay2_f {m : Mem} {o : AObj} : (((m.alloc z26).alloc zFault).set m.next o).get (m.next + 1) = zFault := by rw [get_set_other (by omega)]; exact get_new
theorem lay2_nx {m : Mem} {o : AObj} : (m.alloc o).next = m.next + 1 := rfl
theorem lay2_a {m : Mem} {cs : List AV} {w k : Int} : (lay2 m cs w k).get m.next = .cells 26 cs := by unfold lay2; rw [get_set_other (by omega)]; exact get_set_same
theorem lay2_b {m : Mem} {cs : List AV} {w k : Int} : (lay2 m cs w k).get (m.next + 1) = .cells 29 [.int .i64 w, .int .i64 k] := get_set_same
theorem lay2_old {m : Mem} {cs : List AV} {w k : Int} {i : Nat} (h : i < m.next) : (lay2 m cs w k).get i = m.get i := by
  unfold lay2; rw [get_set_other (by omega), get_set_other (by omega), get_old (by rw [lay2_nx]; omega), get_old (by omega)]
theorem lay2_next {m : Mem} {cs : List AV} {w k : Int} : (lay2 m cs w k).next = m.next + 2 := rfl
theorem cut_of {c : Int} {n : Nat} (h : 0 < n) : ∃ a : Nat, Int.tmod (Int.tmod c n + n) n = a ∧ a < n ∧ -(2 ^ 63 : Int) ≤ Int.tmod c n + n ∧ (n < 2 ^ 62 → Int.tmod c n + n < 2 ^ 63) := by
  have h1 : Int.tmod c n < n := Int.tmod_lt_of_pos c (by omega)
  have h2 : -(n : Int) < Int.tmod c n := Int.lt_tmod_of_pos c (by omega)
  have h3 : 0 ≤ Int.tmod (Int.tmod c n + n) n := Int.tmod_nonneg _ (by omega)
  have h4 : Int.tmod (Int.tmod c n + n) n < n := Int.tmod_lt_of_pos _ (by omega)
  exact ⟨(Int.tmod (Int.tmod c n + n) n).toNat, by omega, by omega, by omega, fun _ => by omega⟩
theorem flt_of {w k w' k' : Int} : eqV (.struct [(0, .int), (1, .int)]) (.agg [.int .i64 w, .int .i64 k]) (.agg [.int .i64 w', .int .i64 k']) = some (w == w' && (k == k' && true)) := by simp [eqV, eqFs, eqL]
theorem eqv_bool {a b : Bool} : eqV (.leaf .bool) (.bool a) (.bool b) = some (a == b) := rfl
theorem sB_bool (M : Mem) (x y : Bool) : eqSafeB M (.bool x) (.bool y) = true := rfl
theorem bff : (false != false) = false := rfl
theorem btf : (true != false) = true := rfl
theorem btt : (true != true) = false := rfl
theorem sB_agg (M : Mem) (x y : List AV) : eqSafeB M (.agg x) (.agg y) = true := rfl
theorem blanks_law (s : List UInt8) (cut : Int) : ∃ m', CS 8 [.str s, .int .i64 cut] m0 (.ret (.bool true)) m' := by
  have key : ∃ r m', CS 8 [.str s, .int .i64 cut] m0 (.ret r) m' ∧ r = .bool true := by
    refine call_some (R := fun r _ => r = .bool true) xfok mixed q8at q8ok rfl ?_
    by_cases h5 : 5000 < s.length
    · have e1 : decide ((s.length : Int) > 5000) = true := dT (by omega)
      simp only [go_sem, reduceIte, Nat.reduceEqDiff, Nat.reduceAdd, q8, q8r0, q8r1, e1, q8r2]
      refine callW_ret (alive_ok m0) ?_
      simp only [go_sem, reduceIte, Nat.reduceEqDiff, Nat.reduceAdd]
    have e1 : decide ((s.length : Int) > 5000) = false := dF (by omega)
    have hl1 : ([32, 9, 10] : List UInt8).length + s.length ≤ 2 ^ 62 := by simp only [List.length_cons, List.length_nil]; omega
    have hl2 : (32 :: 9 :: 10 :: s : List UInt8).length + ([13, 32] : List UInt8).length ≤ 2 ^ 62 := by simp only [List.length_cons, List.length_nil]; omega
    obtain ⟨v, m1, k1, a, rfl, x1, x2⟩ := pparse_ok s m0
    simp only [go_sem, reduceIte, Nat.reduceEqDiff, Nat.reduceAdd, q8, q8r0, q8r1, e1, q8r3]
    refine callW_ret k1 ?_
    obtain ⟨c1, c2, c3, c4, rfl, o1, o2⟩ := x1.ones
    simp only [go_sem, reduceIte, Nat.reduceEqDiff, Nat.reduceAdd, lay2_nx, lay2_z, o1, o2, lay2_f, lay2_eq]
    obtain ⟨v, m2, k2, b, rfl, y1, y2⟩ := pparse_ok (32 :: 9 :: 10 :: (s ++ [13, 32])) (lay2 m1 [.int .i64 c1, .str c2, c3, c4] (parseT s).2.1 (parseT s).2.2)
    simp only [go_sem, reduceIte, Nat.reduceEqDiff, Nat.reduceAdd, q8r4, hl1, hl2]
    refine callW_ret k2 ?_
    obtain ⟨f1, f2, f3, f4, rfl, p1, p2⟩ := y1.ones
    simp only [go_sem, reduceIte, Nat.reduceEqDiff, Nat.reduceAdd, lay2_nx, lay2_z, p1, p2, lay2_f, lay2_eq]
    have n2 : m1.next + 2 ≤ m2.next := by have := y2.next; rw [lay2_next] at this; exact this
    have d1 : (lay2 m2 [.int .i64 f1, .str f2, f3, f4] (parseT (32 :: 9 :: 10 :: (s ++ [13, 32]))).2.1 (parseT (32 :: 9 :: 10 :: (s ++ [13, 32]))).2.2).get m1.next = .cells 26 [.int .i64 c1, .str c2, c3, c4] := by
      rw [lay2_old (by omega), y2.get _ (by rw [lay2_next]; omega)]; exact lay2_a
    have d2 : (lay2 m2 [.int .i64 f1, .str f2, f3, f4] (parseT (32 :: 9 :: 10 :: (s ++ [13, 32]))).2.1 (parseT (32 :: 9 :: 10 :: (s ++ [13, 32]))).2.2).get (m1.next + 1) = .cells 29 [.int .i64 (parseT s).2.1, .int .i64 (parseT s).2.2] := by
      rw [lay2_old (by omega), y2.get _ (by rw [lay2_next]; omega)]; exact lay2_b
    have d3 := lay2_a (m := m2) (cs := [.int .i64 f1, .str f2, f3, f4]) (w := (parseT (32 :: 9 :: 10 :: (s ++ [13, 32]))).2.1) (k := (parseT (32 :: 9 :: 10 :: (s ++ [13, 32]))).2.2)
    have d4 := lay2_b (m := m2) (cs := [.int .i64 f1, .str f2, f3, f4]) (w := (parseT (32 :: 9 :: 10 :: (s ++ [13, 32]))).2.1) (k := (parseT (32 :: 9 :: 10 :: (s ++ [13, 32]))).2.2)
    have nM := lay2_next (m := m2) (cs := [.int .i64 f1, .str f2, f3, f4]) (w := (parseT (32 :: 9 :: 10 :: (s ++ [13, 32]))).2.1) (k := (parseT (32 :: 9 :: 10 :: (s ++ [13, 32]))).2.2)
    generalize lay2 m2 [.int .i64 f1, .str f2, f3, f4] (parseT (32 :: 9 :: 10 :: (s ++ [13, 32]))).2.1 (parseT (32 :: 9 :: 10 :: (s ++ [13, 32]))).2.2 = M at d1 d2 d3 d4 nM
    rcases around_law (s := s) (by omega) with ⟨w, k, w', k', hp, hw, hp', hw'⟩ | ⟨T, hp, hp', hmay, hlen, hfit⟩
    · rw [hp] at x1 d2
      rw [hp'] at y1 d4
      have d2' : M.get (m1.next + 1) = .cells 29 [.int .i64 w, .int .i64 k] := d2
      have d4' : M.get (m2.next + 1) = .cells 29 [.int .i64 w', .int .i64 k'] := d4
      obtain ⟨v2, m3, l1, rfl, l2⟩ := psame small_zero VT.zero M _ _ true x1 y1 ⟨fun _ => rfl, fun _ => rfl⟩
      have d5 : m3.get (m1.next + 1) = .cells 29 [.int .i64 w, .int .i64 k] := by rw [l2.get _ (by omega)]; exact d2'
      simp only [go_sem, reduceIte, Nat.reduceEqDiff, Nat.reduceAdd, q8r5, d2', d4', sB_agg, flt_ne hw, flt_ne hw', d1, d3, eqv_bool, sB_bool, bff, btf, btt]
      refine callW_ret l1 ?_
      simp only [go_sem, reduceIte, Nat.reduceEqDiff, Nat.reduceAdd, q8r7, d5, sB_agg, flt_ne hw, q8r14, bff]
      refine callW_ret (alive_ok m3) ?_
      simp only [go_sem, reduceIte, Nat.reduceEqDiff, Nat.reduceAdd]
    · rw [hp] at x1 d2
      rw [hp'] at y1 d4
      have d2' : M.get (m1.next + 1) = zFault := d2
      have d4' : M.get (m2.next + 1) = zFault := d4
      obtain ⟨v2, m3, l1, rfl, l2⟩ := psame (fit_small hfit) T M _ _ true x1 y1 ⟨fun _ => rfl, fun _ => rfl⟩
      have d5 : m3.get (m1.next + 1) = zFault := by rw [l2.get _ (by omega)]; exact d2'
      have d6 : m3.get m1.next = .cells 26 [.int .i64 c1, .str c2, c3, c4] := by rw [l2.get _ (by omega)]; exact d1
      have n3 : m1.next + 2 ≤ m3.next := by have := l2.next; omega
      simp only [go_sem, reduceIte, Nat.reduceEqDiff, Nat.reduceAdd, q8r5, d2', d4', sB_agg, flt_eq, d1, d3, eqv_bool, sB_bool, bff, btf, btt]
      refine callW_ret l1 ?_
      cases T with
      | node k t ks l =>
      cases x1 with
      | @mk _ _ ka kb _ _ xs h1 h2 hxl hx2 =>
      by_cases hk : c1 = 5 ∨ c1 = 6 ∨ c1 = 4
      · have hS : TextR (.node c1 c2 ks l) = (textT (.node c1 c2 ks l), 0) := by
          simp only [TextR, hmay]
          rw [if_neg (by decide), if_neg (by omega)]
        obtain ⟨hpos, hbeg⟩ := begin_law hmay hk hlen
        obtain ⟨b', hb1, hb2, hb3, hb4⟩ := cut_of (c := cut) hpos
        obtain ⟨w, j, hpp, hww⟩ := hbeg b' hb2
        obtain ⟨v2, m4, t1, rfl, t2⟩ := pText_ok hfit (.mk h1 h2 hxl hx2) m3
        rw [hS] at t1
        have n4 : m1.next + 2 ≤ m4.next := by have := t2.next; omega
        obtain ⟨v3, m5, u1, a', rfl, z1, z2⟩ := pparse_ok ((textT (.node c1 c2 ks l)).take b') m4
        rw [hpp] at u1 z1
        obtain ⟨g1, g2, g3, g4, rfl, r1, r2⟩ := z1.ones
        generalize textT (.node c1 c2 ks l) = t at t1 u1 hb1 hb2 hb3 hb4 hpos hlen
        have hw : IntKind.i64.wrap (cut.tmod (t.length : Int) + (t.length : Int)) = cut.tmod (t.length : Int) + (t.length : Int) := wrap_i64 ⟨hb3, hb4 (by omega)⟩
        have hz : ((t.length : Int) = 0) = False := eq_false (by omega)
        have ht0 : (t == []) = false := by cases t with | nil => simp at hpos | cons c r => rfl
        have hsl := slice_to (kk := .i64) (s := t) (k := b') (by omega)
        have q65 : ((6 : Int) == 5) = false := rfl
        have q45 : ((4 : Int) == 5) = false := rfl
        have q46 : ((4 : Int) == 6) = false := rfl
        have q94 : ((9 : Int) == 4) = false := rfl
        have q34 : ((3 : Int) == 4) = false := rfl
        have q39 : ((3 : Int) == 9) = false := rfl
        rcases hk with rfl | rfl | rfl
        all_goals
          simp only [go_sem, reduceIte, Nat.reduceEqDiff, Nat.reduceAdd, q8r7, d5, d6, sB_agg, flt_eq, bff, btf, btt, q65, q45, q46, q8r8]
          refine callW_ret t1 ?_
          simp only [go_sem, reduceIte, Nat.reduceEqDiff, Nat.reduceAdd, q8r9, bne_self_eq_false, ht0, q8r11, hz, hw, hb1, q8r12, hsl]
          refine callW_ret u1 ?_
          simp only [go_sem, reduceIte, Nat.reduceEqDiff, Nat.reduceAdd, lay2_nx, lay2_z, r1, r2, lay2_f, lay2_eq]
          rcases hww with ⟨rfl, rfl⟩ | ⟨rfl, rfl⟩ | rfl
          · simp only [go_sem, reduceIte, Nat.reduceEqDiff, Nat.reduceAdd, q8r13, lay2_b, sB_agg, flt_of, bff, btf, btt]
            refine callW_ret (alive_ok _) ?_
            simp only [go_sem, reduceIte, Nat.reduceEqDiff, Nat.reduceAdd]
          · simp only [go_sem, reduceIte, Nat.reduceEqDiff, Nat.reduceAdd, q8r13, lay2_b, sB_agg, flt_of, bff, btf, btt, q94, Bool.false_and, Int.natCast_zero]
            refine callW_ret (alive_ok _) ?_
            simp only [go_sem, reduceIte, Nat.reduceEqDiff, Nat.reduceAdd]
          · simp only [go_sem, reduceIte, Nat.reduceEqDiff, Nat.reduceAdd, q8r13, lay2_b, sB_agg, flt_of, bff, btf, btt, q34, q39, Bool.false_and]
            refine callW_ret (alive_ok _) ?_
            simp only [go_sem, reduceIte, Nat.reduceEqDiff, Nat.reduceAdd]
      · have q5 : (c1 == 5) = false := iqF (fun h => hk (.inl h))
        have q6 : (c1 == 6) = false := iqF (fun h => hk (.inr (.inl h)))
        have q4 : (c1 == 4) = false := iqF (fun h => hk (.inr (.inr h)))
        simp only [go_sem, reduceIte, Nat.reduceEqDiff, Nat.reduceAdd, q8r7, d5, d6, sB_agg, flt_eq, bff, btf, btt, q5, q6, q4, q8r14]
        refine callW_ret (alive_ok _) ?_
        simp only [go_sem, reduceIte, Nat.reduceEqDiff, Nat.reduceAdd]
  obtain ⟨r, m', h, rfl⟩ := key
  exact ⟨m', h⟩
end Go.Proofs.YtinlfdkalijffaaDoor.Am.Q
