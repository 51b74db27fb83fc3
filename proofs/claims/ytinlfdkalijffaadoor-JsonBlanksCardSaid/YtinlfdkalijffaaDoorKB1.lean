/- Part KB1 of a claim's texts, joined: what the claim needs of them. -/
import Derived.Test.YtinlfdkalijffaaDoorKJ5
set_option linter.unusedSimpArgs false
set_option linter.unusedVariables false
namespace Go.Proofs.YtinlfdkalijffaaDoor.Am.Q
open Go Go.Proofs Go.Proofs.YtinlfdkalijffaaDoor.Am
theorem runN_nil {p : UInt8 → Bool} : runN p [] = 0 := rfl
theorem runN_cons {p : UInt8 → Bool} {c : UInt8} {r : List UInt8} : runN p (c :: r) = if p c = true then runN p r + 1 else 0 := by
  simp only [runN, List.takeWhile_cons]; split <;> simp
theorem runN_le {p : UInt8 → Bool} : ∀ {s : List UInt8}, runN p s ≤ s.length
  | [] => Nat.zero_le _
  | c :: r => by
    have := runN_le (p := p) (s := r)
    rw [runN_cons, List.length_cons]; split <;> omega
theorem bqT {n : Nat} {k : Int} (h : (n : Int) = k) : ((n : Int) == k) = true := by simp [h]
theorem bqF {n : Nat} {k : Int} (h : (n : Int) ≠ k) : ((n : Int) == k) = false := by simp [h]
theorem bnT {n : Nat} {k : Int} (h : (n : Int) ≠ k) : ((n : Int) != k) = true := by simp [h]
theorem bnF {n : Nat} {k : Int} (h : (n : Int) = k) : ((n : Int) != k) = false := by simp [h]
theorem dT {p : Prop} [Decidable p] (h : p) : decide p = true := decide_eq_true h
theorem dF {p : Prop} [Decidable p] (h : ¬ p) : decide p = false := decide_eq_false h
theorem wrap_i64 {n : Int} (h : -(2 ^ 63) ≤ n ∧ n < 2 ^ 63) : IntKind.i64.wrap n = n := Go.IntWalk.i64_in _ (by omega)
theorem wrap_succ {i : Nat} (h : i < 2 ^ 62) : IntKind.i64.wrap ((i : Int) + 1) = ((i + 1 : Nat) : Int) := by rw [wrap_i64 (by omega)]; omega
theorem wrap_add {i k : Nat} (h : i + k < 2 ^ 62) : IntKind.i64.wrap ((i : Int) + (k : Int)) = ((i + k : Nat) : Int) := by rw [wrap_i64 (by omega)]; omega
theorem idxS_at {s : List UInt8} {k : IntKind} {i : Nat} {c : UInt8} (h : s[i]? = some c) : idxSV (.str s) (.int k (i : Int)) = some (.int .u8 c.toNat) := by
  simp [idxSV, h, byteAV]
theorem set_self {m : Mem} {i : Nat} {o : AObj} (h : m.get i = o) : m.set i o = m := by
  cases m with
  | mk g n l k t =>
    simp only [Mem.set, Mem.mk.injEq, and_true]
    funext j; split
    · rename_i e; subst e; exact h.symm
    · rfl
theorem isBlk_iff {c : UInt8} : isBlk c = true ↔ c.toNat = 9 ∨ c.toNat = 10 ∨ c.toNat = 13 ∨ c.toNat = 32 := by
  simp [isBlk, isBlkN]
theorem drop_at {s : List UInt8} {i : Nat} {c : UInt8} (h : s[i]? = some c) : s.drop i = c :: s.drop (i + 1) := by
  obtain ⟨hi, rfl⟩ := List.getElem?_eq_some_iff.1 h
  exact List.drop_eq_getElem_cons hi
theorem nxt_some {s : List UInt8} {i : Nat} {c : UInt8} (h : s[skipN s i]? = some c) : nxt s i = .ok (skipN s i, c) := by simp [nxt, h]
theorem nxt_none {s : List UInt8} {i : Nat} (h : s[skipN s i]? = none) : nxt s i = .error (4, s.length) := by simp [nxt, h]
end Go.Proofs.YtinlfdkalijffaaDoor.Am.Q
namespace Go.Proofs.YtinlfdkalijffaaDoor.Am.Q
open Go Go.Proofs Go.Proofs.YtinlfdkalijffaaDoor.Am
theorem nib_le (c : UInt8) : nib c ≤ 16 := by
  unfold nib nibN
  by_cases h1 : isDigN c.toNat = true
  · rw [if_pos h1]; simp [isDigN] at h1; omega
  · rw [if_neg h1]
    by_cases h2 : 97 ≤ c.toNat ∧ c.toNat ≤ 102
    · rw [if_pos h2]; omega
    · rw [if_neg h2]
      by_cases h3 : 65 ≤ c.toNat ∧ c.toNat ≤ 70
      · rw [if_pos h3]; omega
      · rw [if_neg h3]; omega
def bad (c : UInt8) : Bool := decide (nib c = 16)
theorem bad_iff {c : UInt8} : bad c = true ↔ 15 < nib c := by
  have := nib_le c
  simp [bad]; omega
theorem bad_not {c : UInt8} (h : bad c = false) : nib c ≤ 15 := by
  have := nib_le c
  simp [bad] at h; omega
def hexA (n : Nat) (l : List UInt8) : Nat := l.foldl (fun n c => n * 16 + nib c) n
theorem wrap_i32 {n : Int} (h : -(2 ^ 31) ≤ n ∧ n < 2 ^ 31) : IntKind.i32.wrap n = n := by
  simp [IntKind.wrap, IntKind.signed, IntKind.bits]; omega
end Go.Proofs.YtinlfdkalijffaaDoor.Am.Q
namespace Go.Proofs.YtinlfdkalijffaaDoor.Am.Q
open Go Go.Proofs Go.Proofs.YtinlfdkalijffaaDoor.Am
theorem wrap_u8 {n : Int} : IntKind.u8.wrap n = n % 256 := by simp [IntKind.wrap, IntKind.signed, IntKind.bits]
def b8 (n : Nat) : UInt8 := UInt8.ofNat n
theorem put1 {n : Nat} (h : n < 0x80) : putN n = [b8 n] := by
  have hv : Utf8.valid (n : Int) = true := by simp [Utf8.valid]; omega
  simp [putN, Utf8.encode, hv, h, b8]
theorem put2 {n : Nat} (h1 : ¬ n < 0x80) (h2 : n < 0x800) : putN n = [b8 (0xC0 + n / 64), b8 (0x80 + n % 64)] := by
  have hv : Utf8.valid (n : Int) = true := by simp [Utf8.valid]; omega
  simp [putN, Utf8.encode, hv, h1, h2, b8]
theorem put3 {n : Nat} (hv : Utf8.valid (n : Int) = true) (h1 : ¬ n < 0x80) (h2 : ¬ n < 0x800) (h3 : n < 0x10000) : putN n = [b8 (0xE0 + n / 4096), b8 (0x80 + n / 64 % 64), b8 (0x80 + n % 64)] := by
  simp [putN, Utf8.encode, hv, h1, h2, h3, b8]
theorem put4 {n : Nat} (hv : Utf8.valid (n : Int) = true) (h1 : ¬ n < 0x80) (h2 : ¬ n < 0x800) (h3 : ¬ n < 0x10000) : putN n = [b8 (0xF0 + n / 262144), b8 (0x80 + n / 4096 % 64), b8 (0x80 + n / 64 % 64), b8 (0x80 + n % 64)] := by
  simp [putN, Utf8.encode, hv, h1, h2, h3, b8]
theorem put0 {n : Int} (hv : Utf8.valid n = false) : putN n = putN 65533 := by
  have h2 : Utf8.valid 65533 = true := by decide
  simp [putN, Utf8.encode, hv, h2, Utf8.runeError]
theorem putN_len (n : Int) : 0 < (putN n).length ∧ (putN n).length ≤ 4 := by
  have good : ∀ k : Nat, Utf8.valid (k : Int) = true → 0 < (putN k).length ∧ (putN k).length ≤ 4 := by
    intro k hv
    by_cases h1 : k < 0x80
    · rw [put1 h1]; simp
    · by_cases h2 : k < 0x800
      · rw [put2 h1 h2]; simp
      · by_cases h3 : k < 0x10000
        · rw [put3 hv h1 h2 h3]; simp
        · rw [put4 hv h1 h2 h3]; simp
  cases hv : Utf8.valid n with
  | true =>
    obtain ⟨k, rfl⟩ : ∃ k : Nat, n = k := ⟨n.toNat, by simp [Utf8.valid] at hv; omega⟩
    exact good k hv
  | false => rw [put0 hv]; exact good 65533 (by decide)
theorem bytes_good (l : List UInt8) : (bytesAV l).all (fun y => y.cells.length == 1 && y.cells.all scal) = true := by
  simp [bytesAV, byteAV, AV.cells, scal]
end Go.Proofs.YtinlfdkalijffaaDoor.Am.Q
namespace Go.Proofs.YtinlfdkalijffaaDoor.Am.Q
open Go Go.Proofs Go.Proofs.YtinlfdkalijffaaDoor.Am
def escL : List UInt8 := [98, 116, 110, 102, 114, 34, 92, 47]
def escT : List UInt8 := [8, 9, 10, 12, 13, 34, 92, 47]
theorem escIdx_eq {c : UInt8} : escIdx c = escL.findIdx? (· == c) := rfl
theorem hex4_bad {s : List UInt8} {a f : Nat} (h : ((s.drop a).take 4).any bad = true) : hex4 s a f = .error (3, f) := by
  unfold hex4; exact if_pos h
theorem hex4_end {s : List UInt8} {a f : Nat} (h : ((s.drop a).take 4).any bad = false) (h2 : ((s.drop a).take 4).length < 4) : hex4 s a f = .error (4, s.length) := by
  unfold hex4; rw [if_neg (by intro k; rw [show ((s.drop a).take 4).any bad = true from k] at h; cases h), if_pos h2]
theorem hex4_ok {s : List UInt8} {a f : Nat} (h : ((s.drop a).take 4).any bad = false) (h2 : ¬ ((s.drop a).take 4).length < 4) : hex4 s a f = .ok (hexN ((s.drop a).take 4)) := by
  unfold hex4; rw [if_neg (by intro k; rw [show ((s.drop a).take 4).any bad = true from k] at h; cases h), if_neg h2]
theorem hexA_lt : ∀ {l : List UInt8} {n k : Nat}, l.any bad = false → n < 16 ^ k → hexA n l < 16 ^ (k + l.length)
  | [], n, k, _, h => by simpa [hexA] using h
  | c :: l, n, k, hb, h => by
    rw [List.any_cons, Bool.or_eq_false_iff] at hb
    have := hexA_lt (l := l) (n := n * 16 + nib c) (k := k + 1) hb.2 (by have := bad_not hb.1; rw [Nat.pow_succ]; omega)
    rw [List.length_cons]
    have e : k + 1 + l.length = k + (l.length + 1) := by omega
    rwa [e] at this
theorem hexN_lt {s : List UInt8} {a : Nat} (h : ((s.drop a).take 4).any bad = false) : hexN ((s.drop a).take 4) < 65536 := by
  have := hexA_lt (n := 0) (k := 0) h (by simp)
  have h2 : ((s.drop a).take 4).length ≤ 4 := by simp; omega
  have h3 : (16 : Nat) ^ (0 + ((s.drop a).take 4).length) ≤ 16 ^ 4 := Nat.pow_le_pow_right (by omega) (by omega)
  exact Nat.lt_of_lt_of_le this h3
end Go.Proofs.YtinlfdkalijffaaDoor.Am.Q
namespace Go.Proofs.YtinlfdkalijffaaDoor.Am.Q
open Go Go.Proofs Go.Proofs.YtinlfdkalijffaaDoor.Am
theorem unbytes_bytes : ∀ l : List UInt8, unbytes (bytesAV l) = some l
  | [] => rfl
  | b :: l => by
    have := unbytes_bytes l
    simp only [bytesAV] at this
    simp [bytesAV, unbytes, byteAV, unbyte, this]
theorem str_of {a : AV} {l : List UInt8} (h : SlOf 1 a (bytesAV l)) : strOfV a = some (.str l) := by
  rcases h with ⟨rfl, h⟩ | ⟨o, rfl⟩
  · have : l = [] := by cases l <;> simp [bytesAV] at h; rfl
    subst this; rfl
  · simp [strOfV, unbytes_bytes]
theorem bytes_append {a b : List UInt8} : bytesAV a ++ bytesAV b = bytesAV (a ++ b) := by simp [bytesAV]
theorem bytes_len {l : List UInt8} : (bytesAV l).length = l.length := by simp [bytesAV]
theorem surS_ok {s : List UInt8} {i n : Nat} {b : List UInt8} {j : Nat} (h : surS s i n = .ok (b, j)) : i < j ∧ j ≤ s.length ∧ b.length ≤ 4 := by
  unfold surS at h
  split at h
  · cases h
  · split at h
    · cases h
    · split at h
      · cases h
      · split at h
        · cases h
        · split at h
          · cases h
          · rename_i k hk
            split at h
            · cases h
            · simp only [Except.ok.injEq, Prod.mk.injEq] at h
              obtain ⟨rfl, rfl⟩ := h
              have hl : ¬ ((s.drop (i + 8)).take 4).length < 4 := by
                intro hl
                unfold hex4 at hk
                split at hk
                · cases hk
                · cases hk
              simp at hl
              exact ⟨by omega, by omega, (putN_len _).2⟩
theorem escS_ok {s : List UInt8} {i : Nat} {b : List UInt8} {j : Nat} (h : escS s i = .ok (b, j)) : i < j ∧ j ≤ s.length ∧ b.length ≤ 4 := by
  unfold escS at h
  split at h
  · cases h
  · rename_i c hc
    have h1 := (List.getElem?_eq_some_iff.1 hc).1
    split at h
    · simp only [Except.ok.injEq, Prod.mk.injEq] at h
      obtain ⟨rfl, rfl⟩ := h
      exact ⟨by omega, by omega, by simp⟩
    · split at h
      · cases h
      · split at h
        · cases h
        · rename_i n hk
          have hl : ¬ ((s.drop (i + 2)).take 4).length < 4 := by
            intro hl
            unfold hex4 at hk
            split at hk
            · cases hk
            · cases hk
          simp at hl
          split at h
          · simp only [Except.ok.injEq, Prod.mk.injEq] at h
            obtain ⟨rfl, rfl⟩ := h
            exact ⟨by omega, by omega, (putN_len _).2⟩
          · split at h
            · cases h
            · exact surS_ok h
end Go.Proofs.YtinlfdkalijffaaDoor.Am.Q
namespace Go.Proofs.YtinlfdkalijffaaDoor.Am.Q
open Go Go.Proofs Go.Proofs.YtinlfdkalijffaaDoor.Am
theorem runN_drop {p : UInt8 → Bool} : ∀ {s : List UInt8} {i : Nat}, i ≤ runN p s → runN p s = i + runN p (s.drop i)
  | s, 0, _ => by simp
  | [], i + 1, h => by simp [runN_nil] at h
  | c :: r, i + 1, h => by
    rw [runN_cons] at h ⊢
    by_cases hc : p c = true
    · rw [if_pos hc] at h ⊢
      have := runN_drop (p := p) (s := r) (i := i) (by omega)
      rw [List.drop_succ_cons]; omega
    · rw [if_neg hc] at h; omega
theorem slice_from {s : List UInt8} {kk : IntKind} {k : Nat} (h : k ≤ s.length) : sliceStr (.str s) (some (.int kk (k : Int))) none = some (.str (s.drop k)) := by
  simp [sliceStr, boundV, h]
theorem slice_to {s : List UInt8} {kk : IntKind} {k : Nat} (h : k ≤ s.length) : sliceStr (.str s) none (some (.int kk (k : Int))) = some (.str (s.take k)) := by
  simp [sliceStr, boundV, h]
theorem slice_from_to {s : List UInt8} {k1 k2 : IntKind} {i j : Nat} (h : i ≤ j) (h2 : j ≤ s.length) : sliceStr (.str s) (some (.int k1 (i : Int))) (some (.int k2 (j : Int))) = some (.str ((s.take j).drop i)) := by
  simp [sliceStr, boundV, h, h2]
theorem slice_1 {c : UInt8} {r : List UInt8} {kk : IntKind} : sliceStr (.str (c :: r)) (some (.int kk 1)) none = some (.str r) := by
  have := slice_from (s := c :: r) (kk := kk) (k := 1) (by simp)
  simpa using this
theorem idx_0 {c : UInt8} {r : List UInt8} {kk : IntKind} : idxSV (.str (c :: r)) (.int kk 0) = some (.int .u8 c.toNat) := by
  have := idxS_at (s := c :: r) (k := kk) (i := 0) (c := c) rfl
  simpa using this
theorem neq_nil {c : UInt8} {r : List UInt8} : (!((c :: r) == ([] : List UInt8))) = true := rfl
theorem eq_nil {c : UInt8} {r : List UInt8} : ((c :: r) == ([] : List UInt8)) = false := rfl
theorem nil_eq : (([] : List UInt8) == []) = true := rfl
theorem wc_start {K : FuncId → List AV → Mem → Rs → Mem → Prop} {r : ARegion} {b : ACode} {Q : AExit → List AV → Mem → Prop} {fr : List AV} {m : Mem} : wc K (.seq (.region r) b) Q fr m = wo K ⟨r, seqQ K b Q, fr⟩ fr (!r.pairs.isEmpty) r.ops [] [] m := by rw [wc_seq, wc_region]
section
variable {m : Mem} {Q : AExit → List AV → Mem → Prop} {b : Bool}
end
end Go.Proofs.YtinlfdkalijffaaDoor.Am.Q
namespace Go.Proofs.YtinlfdkalijffaaDoor.Am.Q
open Go Go.Proofs Go.Proofs.YtinlfdkalijffaaDoor.Am
theorem take_runN {p : UInt8 → Bool} : ∀ {l : List UInt8}, l.take (runN p l) = l.takeWhile p
  | [] => rfl
  | c :: r => by
    rw [runN_cons, List.takeWhile_cons]
    split
    · rw [List.take_succ_cons, take_runN]
    · rfl
end Go.Proofs.YtinlfdkalijffaaDoor.Am.Q
namespace Go.Proofs.YtinlfdkalijffaaDoor.Am.Q
open Go Go.Proofs Go.Proofs.YtinlfdkalijffaaDoor.Am
theorem quoS_ok {s : List UInt8} : ∀ {f i : Nat} {out t : List UInt8} {j : Nat}, quoS s f i out = .ok (t, j) → i < j ∧ j ≤ s.length
  | 0, _, _, _, _, h => by cases h
  | f + 1, i, out, t, j, h => by
    simp only [quoS] at h
    split at h
    · cases h
    · rename_i c hc
      have h1 := (List.getElem?_eq_some_iff.1 hc).1
      split at h
      · cases h
      · split at h
        · simp only [Except.ok.injEq, Prod.mk.injEq] at h
          obtain ⟨_, rfl⟩ := h
          exact ⟨by omega, by omega⟩
        · split at h
          · split at h
            · cases h
            · rename_i b k hk
              have h2 := escS_ok hk
              have h3 := quoS_ok h
              exact ⟨by omega, h3.2⟩
          · have h3 := quoS_ok h
            exact ⟨by omega, h3.2⟩
theorem quote_ok {s : List UInt8} {i : Nat} {t : List UInt8} {j : Nat} (h : quote s i = .ok (t, j)) : i + 1 < j ∧ j ≤ s.length := quoS_ok h
theorem skip_ge {s : List UInt8} {i : Nat} : i ≤ skipN s i := Nat.le_add_right _ _
theorem nxt_ok {s : List UInt8} {i j : Nat} {c : UInt8} (h : nxt s i = .ok (j, c)) : i ≤ j ∧ j < s.length ∧ s[j]? = some c ∧ j = skipN s i := by
  unfold nxt at h
  split at h
  · rename_i c' hc
    simp only [Except.ok.injEq, Prod.mk.injEq] at h
    obtain ⟨rfl, rfl⟩ := h
    exact ⟨skip_ge, (List.getElem?_eq_some_iff.1 hc).1, hc, rfl⟩
  · cases h
theorem takeWhile_len {p : UInt8 → Bool} {l : List UInt8} : (l.takeWhile p).length = runN p l := rfl
theorem pGo_ok {s : List UInt8} : ∀ {f : Nat} {t : PT} {i many deep : Nat} {v : VT} {j many' : Nat}, pGo s f t i many deep = .ok (v, j, many') → many ≤ 4096 → i < j ∧ j ≤ s.length ∧ many' ≤ 4096
  | 0, _, _, _, _, _, _, _, h, _ => by cases h
  | f + 1, .val, i, many, deep, v, j, many', h, hm => by
    simp only [pGo] at h
    split at h
    · cases h
    · rename_i a c hn
      obtain ⟨n1, n2, n3, _⟩ := nxt_ok hn
      split at h
      · cases h
      · rename_i h4
        split at h
        · split at h
          · cases h
          · rename_i t k hq
            simp only [Except.ok.injEq, Prod.mk.injEq] at h
            obtain ⟨_, rfl, rfl⟩ := h
            have := quote_ok hq
            exact ⟨by omega, by omega, by omega⟩
        · split at h
          · split at h
            · cases h
            · split at h
              · have := pGo_ok h (by omega); exact ⟨by omega, this.2.1, this.2.2⟩
              · have := pGo_ok h (by omega); exact ⟨by omega, this.2.1, this.2.2⟩
          · have hdl : runN isNum (s.drop a) ≤ s.length - a := by have := runN_le (p := isNum) (s := s.drop a); simpa using this
            have hds : runN isSmall (s.drop a) ≤ s.length - a := by have := runN_le (p := isSmall) (s := s.drop a); simpa using this
            split at h
            · split at h
              · rename_i hc hnum
                simp only [Except.ok.injEq, Prod.mk.injEq] at h
                obtain ⟨_, rfl, rfl⟩ := h
                have : 0 < runN isNum (s.drop a) := by
                  cases hz : runN isNum (s.drop a) with
                  | zero =>
                    have : ((s.drop a).takeWhile isNum) = [] := List.eq_nil_of_length_eq_zero (by rw [takeWhile_len]; exact hz)
                    rw [this] at hnum; cases hnum
                  | succ _ => omega
                exact ⟨by omega, by omega, by omega⟩
              · cases h
            · split at h
              · rename_i hw
                simp only [Except.ok.injEq, Prod.mk.injEq] at h
                obtain ⟨_, rfl, rfl⟩ := h
                have : runN isSmall (s.drop a) = 4 := by rw [← takeWhile_len, hw]; rfl
                exact ⟨by omega, by omega, by omega⟩
              · split at h
                · rename_i hw
                  simp only [Except.ok.injEq, Prod.mk.injEq] at h
                  obtain ⟨_, rfl, rfl⟩ := h
                  have : 0 < runN isSmall (s.drop a) := by
                    rw [← takeWhile_len]
                    rcases hw with hw | hw <;> rw [hw] <;> decide
                  exact ⟨by omega, by omega, by omega⟩
                · cases h
  | f + 1, .list acc, i, many, deep, v, j, many', h, hm => by
    simp only [pGo] at h
    split at h
    · cases h
    · rename_i a c hn
      obtain ⟨n1, n2, n3, _⟩ := nxt_ok hn
      split at h
      · simp only [Except.ok.injEq, Prod.mk.injEq] at h
        obtain ⟨_, rfl, rfl⟩ := h
        exact ⟨by omega, by omega, by omega⟩
      · split at h
        · cases h
        · split at h
          · cases h
          · rename_i v1 k1 m1 hv
            have h1 := pGo_ok hv hm
            have h2 := pGo_ok h h1.2.2
            have : i < k1 := by have := h1.1; split at this <;> omega
            exact ⟨by omega, h2.2.1, h2.2.2⟩
  | f + 1, .tab ks acc, i, many, deep, v, j, many', h, hm => by
    simp only [pGo] at h
    split at h
    · cases h
    · rename_i a c hn
      obtain ⟨n1, n2, n3, _⟩ := nxt_ok hn
      split at h
      · simp only [Except.ok.injEq, Prod.mk.injEq] at h
        obtain ⟨_, rfl, rfl⟩ := h
        exact ⟨by omega, by omega, by omega⟩
      · split at h
        · cases h
        · split at h
          · cases h
          · rename_i b q hn2
            obtain ⟨o1, o2, _, _⟩ := nxt_ok hn2
            split at h
            · cases h
            · split at h
              · cases h
              · rename_i key d hq
                have hq' := quote_ok hq
                split at h
                · cases h
                · split at h
                  · cases h
                  · rename_i e o hn3
                    obtain ⟨p1, p2, _, _⟩ := nxt_ok hn3
                    split at h
                    · cases h
                    · split at h
                      · cases h
                      · rename_i v1 k1 m1 hv
                        have h1 := pGo_ok hv hm
                        have h2 := pGo_ok h h1.2.2
                        have : i ≤ b := by split at o1 <;> omega
                        exact ⟨by omega, h2.2.1, h2.2.2⟩
end Go.Proofs.YtinlfdkalijffaaDoor.Am.Q
namespace Go.Proofs.YtinlfdkalijffaaDoor.Am.Q
open Go Go.Proofs Go.Proofs.YtinlfdkalijffaaDoor.Am
abbrev z26 : AObj := .cells 26 [.int .i64 0, .str [], .nilSl, .nilSl]
structure VSt (p q : Nat) (m M : Mem) (o oq : AObj) : Prop where
  ext : ExtB p m M
  gp : M.get p = o
  gq : M.get q = oq
  ne : q ≠ p
  new : m.next ≤ q
  lt : q < M.next
theorem VSt.setp {p q : Nat} {m M : Mem} {o oq : AObj} (h : VSt p q m M o oq) (o' : AObj) : VSt p q m (M.set p o') o' oq :=
  ⟨h.ext.setp _, get_set_same, by rw [get_set_other h.ne]; exact h.gq, h.ne, h.new, h.lt⟩
theorem VSt.setq {p q : Nat} {m M : Mem} {o oq : AObj} (h : VSt p q m M o oq) (o' : AObj) : VSt p q m (M.set q o') o o' :=
  ⟨h.ext.set h.new _, by rw [get_set_other (Ne.symm h.ne)]; exact h.gp, get_set_same, h.ne, h.new, h.lt⟩
theorem VSt.call {p q : Nat} {m M M' : Mem} {o o' oq : AObj} (h : VSt p q m M o oq) (k : ExtB p M M') (g : M'.get p = o') : VSt p q m M' o' oq :=
  ⟨h.ext.trans k, g, by rw [k.get q h.lt h.ne]; exact h.gq, h.ne, h.new, Nat.lt_of_lt_of_le h.lt k.next⟩
theorem VSt.alloc {p q : Nat} {m M : Mem} {o oq : AObj} (h : VSt p q m M o oq) (hp : p < M.next) (o' : AObj) : VSt p q m (M.alloc o') o oq :=
  ⟨h.ext.alloc _, by rw [get_old (by omega)]; exact h.gp, by rw [get_old (by have := h.lt; omega)]; exact h.gq, h.ne, h.new, by have := h.lt; rw [next_alloc]; omega⟩
theorem VSt.begin {p : Nat} {m : Mem} {o oq : AObj} (hp : p < m.next) (g : m.get p = o) : VSt p m.next m (m.alloc oq) o oq :=
  ⟨(ExtB.refl p m).alloc _, by rw [get_old (by omega)]; exact g, get_new, by omega, Nat.le_refl _, by rw [next_alloc]; omega⟩
theorem leaf_val {k : Int} {t : List UInt8} : IsVal (.agg [.int .i64 k, .str t, .nilSl, .nilSl]) (.node k t [] []) := .mk (.inl ⟨rfl, rfl⟩) (.inl ⟨rfl, rfl⟩) rfl (fun i hi => absurd hi (Nat.not_lt_zero _))
theorem IsVal.ones {v : AV} {T : VT} (h : IsVal v T) : ∃ k t ka kb, v = .agg [.int .i64 k, .str t, ka, kb] ∧ one ka = true ∧ one kb = true := by
  cases h with
  | mk a1 a2 => exact ⟨_, _, _, _, rfl, a1.one, a2.one⟩
theorem str_beq {a b : List UInt8} (h : a = b) : (a == b) = true := by simp [h]
theorem str_bne {a b : List UInt8} (h : ¬ a = b) : (a == b) = false := by simp [h]
section
variable (s : List UInt8)
end
end Go.Proofs.YtinlfdkalijffaaDoor.Am.Q
namespace Go.Proofs.YtinlfdkalijffaaDoor.Am.Q
open Go Go.Proofs Go.Proofs.YtinlfdkalijffaaDoor.Am
def KidsOf (xs : List AV) (acc : List VT) : Prop := xs.length = acc.length ∧ ∀ i, i < acc.length → IsVal (xs.getD i .u) (acc.getD i VT.zero)
theorem KidsOf.nil : KidsOf [] [] := ⟨rfl, fun i hi => absurd hi (Nat.not_lt_zero _)⟩
theorem KidsOf.push {xs : List AV} {acc : List VT} {v : AV} {T : VT} (h : KidsOf xs acc) (hv : IsVal v T) : KidsOf (xs ++ [v]) (acc ++ [T]) := by
  refine ⟨by simp [h.1], fun i hi => ?_⟩
  by_cases e : i < acc.length
  · have := h.2 i e
    simpa [List.getD, List.getElem?_append_left e, List.getElem?_append_left (show i < xs.length by rw [h.1]; exact e)] using this
  · have : i = acc.length := by simp at hi; omega
    subst this
    simpa [List.getD, ← h.1] using hv
theorem KidsOf.first {xs : List AV} {acc : List VT} (h : KidsOf xs acc) : ((xs.length : Int) == 0) = decide (acc = []) := by
  rw [Bool.eq_iff_iff]
  simp only [beq_iff_eq, decide_eq_true_eq]
  have := h.1
  constructor
  · intro e; exact List.eq_nil_of_length_eq_zero (by omega)
  · intro e; rw [e] at this; simp only [List.length_nil] at this; omega
theorem val_good {k : Int} {t : List UInt8} {ka kb : AV} (h1 : one ka = true) (h2 : one kb = true) : [AV.agg [.int .i64 k, .str t, ka, kb]].all (fun y => y.cells.length == 4 && y.cells.all scal) = true := by
  rw [one_scal] at h1 h2
  simp [AV.cells, scal_int, scal_str, h1, h2]
theorem VSt.other {p q : Nat} {m M : Mem} {o oq : AObj} (h : VSt p q m M o oq) {i : Nat} (h1 : i ≠ p) (h2 : i ≠ q) (h3 : m.next ≤ i) (o' : AObj) : VSt p q m (M.set i o') o oq :=
  ⟨h.ext.set h3 _, by rw [get_set_other (Ne.symm h1)]; exact h.gp, by rw [get_set_other (Ne.symm h2)]; exact h.gq, h.ne, h.new, h.lt⟩
theorem VSt.same {p q : Nat} {m M M' : Mem} {o oq : AObj} (h : VSt p q m M o oq) (h1 : M'.get = M.get) (h2 : M'.next = M.next) (h3 : ExtB p m M') : VSt p q m M' o oq :=
  ⟨h3, by rw [h1]; exact h.gp, by rw [h1]; exact h.gq, h.ne, h.new, by rw [h2]; exact h.lt⟩
abbrev lObj (k : Int) (ka kb : AV) : AObj := .cells 26 [.int .i64 k, .str [], ka, kb]
theorem pGo_list {s : List UInt8} {f i many deep : Nat} {acc : List VT} : pGo s (f + 1) (.list acc) i many deep = (match nxt s i with
    | .error e => .error e
    | .ok (j, c) => if c.toNat = 93 then .ok (.node 5 [] [] acc, j + 1, many) else
      if acc ≠ [] ∧ c.toNat ≠ 44 then .error (3, j) else
        (match pGo s f .val (if acc = [] then j else j + 1) many (deep + 1) with
        | .error e => .error e
        | .ok (v, k, many') => pGo s f (.list (acc ++ [v])) k many' deep)) := rfl
end Go.Proofs.YtinlfdkalijffaaDoor.Am.Q
namespace Go.Proofs.YtinlfdkalijffaaDoor.Am.Q
open Go Go.Proofs Go.Proofs.YtinlfdkalijffaaDoor.Am
theorem mine_keep {m0 m m' : Mem} {e e' : TypeId} {sz sz' bytes : Nat} {a a' b : AV} {xs ys zs : List AV} (h : Mine m0 m e sz a xs) (ha : appendV m e sz bytes a ys = some (a', m')) (hb : Mine m0 m e' sz' b zs) (hne : e ≠ e') : Mine m0 m' e' sz' b zs := by
  rcases h with ⟨rfl, rfl⟩ | ⟨t, rfl, h2, h3, h4, h5⟩
  · simp only [appendV] at ha
    split at ha
    · simp only [Option.some.injEq, Prod.mk.injEq] at ha
      obtain ⟨_, rfl⟩ := ha; exact hb
    · split at ha
      · simp only [Option.some.injEq, Prod.mk.injEq] at ha
        obtain ⟨_, rfl⟩ := ha
        exact hb.ext (p := 0) ((ExtB.refl 0 m).newTok e)
      · cases ha
  · simp only [appendV] at ha
    rw [if_pos trivial] at ha
    split at ha
    · simp only [Option.some.injEq, Prod.mk.injEq] at ha
      obtain ⟨_, rfl⟩ := ha; exact hb
    · split at ha
      · rw [if_pos ⟨h2, h3⟩] at ha
        simp only [Option.some.injEq, Prod.mk.injEq] at ha
        obtain ⟨_, rfl⟩ := ha
        rcases hb with hb | ⟨u', rfl, k2, k3, k4, k5⟩
        · exact .inl hb
        · have hu : u' ≠ t := by rintro rfl; exact hne (h3.symm.trans k3)
          have hnn : u' ≠ m.ntok := by omega
          refine .inr ⟨u', rfl, ?_, ?_, k4, ?_⟩
          · simp [Mem.newTok, Mem.killTok, hnn, hu, k2]
          · simp [Mem.newTok, Mem.killTok, hnn, k3]
          · simp only [Mem.newTok, Mem.killTok]; omega
      · cases ha
theorem str_good {t : List UInt8} : [AV.str t].all (fun y => y.cells.length == 1 && y.cells.all scal) = true := by simp [AV.cells, scal_str]
theorem pGo_tab {s : List UInt8} {f i many deep : Nat} {ks : List (List UInt8)} {acc : List VT} : pGo s (f + 1) (.tab ks acc) i many deep = (match nxt s i with
    | .error e => .error e
    | .ok (j, c) => if c.toNat = 125 then .ok (.node 6 [] ks acc, j + 1, many) else
      if acc ≠ [] ∧ c.toNat ≠ 44 then .error (3, j) else
        (match nxt s (if acc = [] then j else j + 1) with
        | .error e => .error e
        | .ok (a, q) => if q.toNat ≠ 34 then .error (3, a) else
          (match quote s a with
          | .error e => .error e
          | .ok (key, b) => if key ∈ ks then .error (7, a) else
            (match nxt s b with
            | .error e => .error e
            | .ok (d, o) => if o.toNat ≠ 58 then .error (3, d) else
              (match pGo s f .val (d + 1) many (deep + 1) with
              | .error e => .error e
              | .ok (v, k, many') => pGo s f (.tab (ks ++ [key]) (acc ++ [v])) k many' deep))))) := rfl
end Go.Proofs.YtinlfdkalijffaaDoor.Am.Q
namespace Go.Proofs.YtinlfdkalijffaaDoor.Am.Q
open Go Go.Proofs Go.Proofs.YtinlfdkalijffaaDoor.Am
def uLo (f k : Nat) : Nat := if k = 1 ∧ f = 224 then 160 else if k = 1 ∧ f = 240 then 144 else 128
def uHi (f k : Nat) : Nat := if k = 1 ∧ f = 237 then 159 else if k = 1 ∧ f = 244 then 143 else 191
def uGood (f k c : Nat) : Bool := decide (uLo f k ≤ c) && decide (c ≤ uHi f k)
def uCnt (f n : Nat) : Nat → List UInt8 → Nat
  | k, [] => k
  | k, c :: r => if k < n ∧ uGood f k c.toNat = true then uCnt f n (k + 1) r else k
def uBase (n : Nat) : Nat := if n = 2 then 192 else if n = 3 then 224 else if n = 4 then 240 else 0
def uAcc (a : Nat) (l : List UInt8) : Nat := l.foldl (fun a b => a * 64 + (b.toNat - 128)) a
def uNext : List UInt8 → Bool × Nat × Nat
  | [] => (false, 0, 0)
  | c :: r => if uSize c.toNat = 0 then (false, 1, 65533) else if uCnt c.toNat (uSize c.toNat) 1 r < uSize c.toNat then (false, uCnt c.toNat (uSize c.toNat) 1 r, 65533) else
      (true, uSize c.toNat, uAcc (c.toNat - uBase (uSize c.toNat)) (r.take (uSize c.toNat - 1)))
def isTF : Nat → List UInt8 → Bool
  | _, [] => true
  | 0, _ :: _ => false
  | f + 1, c :: r => (uNext (c :: r)).1 && isTF f ((c :: r).drop (uNext (c :: r)).2.1)
def isT (s : List UInt8) : Bool := isTF s.length s
theorem uSize_le (c : Nat) : uSize c ≤ 4 := by unfold uSize; split <;> (try split) <;> (try split) <;> (try split) <;> omega
theorem uCnt_ge {f n : Nat} : ∀ {r : List UInt8} {k : Nat}, k ≤ uCnt f n k r
  | [], k => Nat.le_refl k
  | c :: r, k => by
    simp only [uCnt]
    split
    · exact Nat.le_trans (Nat.le_succ k) uCnt_ge
    · exact Nat.le_refl k
theorem uCnt_le {f n : Nat} : ∀ {r : List UInt8} {k : Nat}, k ≤ n → uCnt f n k r ≤ n ∧ uCnt f n k r ≤ k + r.length
  | [], k, h => ⟨h, by simp [uCnt]⟩
  | c :: r, k, h => by
    simp only [uCnt]
    split
    · rename_i hc
      have := uCnt_le (f := f) (n := n) (r := r) (k := k + 1) (by omega)
      simp only [List.length_cons]; omega
    · simp only [List.length_cons]; omega
end Go.Proofs.YtinlfdkalijffaaDoor.Am.Q
namespace Go.Proofs.YtinlfdkalijffaaDoor.Am.Q
open Go Go.Proofs Go.Proofs.YtinlfdkalijffaaDoor.Am
theorem uLo_ge (f k : Nat) : 128 ≤ uLo f k := by unfold uLo; split; omega; split <;> omega
theorem uHi_le (f k : Nat) : uHi f k ≤ 191 := by unfold uHi; split; omega; split <;> omega
theorem uGood_ge {f k c : Nat} (h : uGood f k c = true) : 128 ≤ c ∧ c ≤ 191 := by
  simp only [uGood, Bool.and_eq_true, decide_eq_true_eq] at h
  have := uLo_ge f k
  have := uHi_le f k
  omega
theorem uCnt_good {f n : Nat} : ∀ {r : List UInt8} {k : Nat}, k ≤ n → ¬ uCnt f n k r < n → n - k ≤ r.length ∧ ∀ b ∈ r.take (n - k), 128 ≤ b.toNat ∧ b.toNat ≤ 191
  | [], k, h, hk => by
    simp only [uCnt] at hk
    have : n - k = 0 := by omega
    rw [this]; simp
  | c :: r, k, h, hk => by
    simp only [uCnt] at hk
    by_cases hc : k < n ∧ uGood f k c.toNat = true
    · rw [if_pos hc] at hk
      obtain ⟨h1, h2⟩ := uCnt_good (by omega) hk
      have e : n - k = (n - (k + 1)) + 1 := by omega
      refine ⟨by simp only [List.length_cons]; omega, ?_⟩
      rw [e, List.take_succ_cons]
      intro b hb
      rcases List.mem_cons.1 hb with rfl | hb
      · exact uGood_ge hc.2
      · exact h2 b hb
    · rw [if_neg hc] at hk
      have : n - k = 0 := by omega
      rw [this]; simp
theorem uNext_pos {c : UInt8} {r : List UInt8} : 1 ≤ (uNext (c :: r)).2.1 ∧ (uNext (c :: r)).2.1 ≤ (c :: r).length := by
  have hU : uNext (c :: r) = if uSize c.toNat = 0 then (false, 1, 65533) else if uCnt c.toNat (uSize c.toNat) 1 r < uSize c.toNat then (false, uCnt c.toNat (uSize c.toNat) 1 r, 65533) else
      (true, uSize c.toNat, uAcc (c.toNat - uBase (uSize c.toNat)) (r.take (uSize c.toNat - 1))) := rfl
  rw [hU]
  split
  · simp
  · rename_i h0
    split
    · have h1 := uCnt_ge (f := c.toNat) (n := uSize c.toNat) (r := r) (k := 1)
      have h2 := (uCnt_le (f := c.toNat) (n := uSize c.toNat) (r := r) (k := 1) (by omega)).2
      simp only [List.length_cons]; omega
    · rename_i hlt
      have := (uCnt_good (by omega) hlt).1
      simp only [List.length_cons]; omega
end Go.Proofs.YtinlfdkalijffaaDoor.Am.Q
namespace Go.Proofs.YtinlfdkalijffaaDoor.Am.Q
open Go Go.Proofs Go.Proofs.YtinlfdkalijffaaDoor.Am
def parseT (s : List UInt8) : VT × Int × Nat :=
  if 65536 < s.length then (VT.zero, 5, 0) else if isT s = false then (VT.zero, 9, 0) else match parseS s with
    | .error (w, k) => (VT.zero, w, k)
    | .ok v => (v, 0, 0)
theorem extB_ext {p : Nat} {m m' : Mem} (h : ExtB p m m') (hp : m.next ≤ p) : Ext m m' :=
  ⟨fun i hi => h.get i hi (by omega), h.next, h.live, h.ntok, h.tty⟩
theorem ext_extB {p : Nat} {m m' : Mem} (h : Ext m m') : ExtB p m m' := ⟨fun i hi _ => h.get i hi, h.next, h.live, h.ntok, h.tty⟩
abbrev zFault : AObj := .cells 29 [.int .i64 0, .int .i64 0]
theorem pushH_true {m : Mem} {h : List Mem} : pushH true m h = m :: h := rfl
def ParR (s : List UInt8) (m : Mem) (v : AV) (m' : Mem) : Prop := ∃ a, v = .tup [a, .agg [.int .i64 (parseT s).2.1, .int .i64 (parseT s).2.2]] ∧ IsVal a (parseT s).1 ∧ Ext m m'
end Go.Proofs.YtinlfdkalijffaaDoor.Am.Q
