/- Part KM1 of a claim's texts, joined: what the claim needs of them. -/
import Derived.Test.YtkjokjogdehonaaGreatDoorKB1
import Derived.Test.YtkjokjogdehonaaGreatDoorKR3
set_option linter.unusedSimpArgs false
set_option linter.unusedVariables false
namespace Go.Proofs.YtkjokjogdehonaaGreatDoor.Am.Q
open Go Go.Proofs Go.Proofs.YtkjokjogdehonaaGreatDoor.Am
def dg (n : Nat) : UInt8 := UInt8.ofNat (48 + n % 10)
def padF : Nat → Nat → Nat → List UInt8
  | 0, _, _ => []
  | f + 1, left, need => if 0 < left ∨ 0 < need then dg left :: padF f (left / 10) (need - 1) else []
def padS (n : Int) (size : Int) : List UInt8 := (if n < 0 then [45] else []) ++ (padF 20 n.natAbs (max (min size 20) 1).toNat).reverse
theorem padF_end {f : Nat} : padF f 0 0 = [] := by cases f <;> simp [padF]
theorem padF_len : ∀ {f left need : Nat}, (padF f left need).length ≤ f
  | 0, _, _ => by simp [padF]
  | f + 1, left, need => by
    simp only [padF]
    split
    · have := padF_len (f := f) (left := left / 10) (need := need - 1)
      simp only [List.length_cons]; omega
    · simp
theorem padF_need : ∀ {f left need : Nat}, need ≤ f → need ≤ (padF f left need).length
  | 0, _, _, h => by simp [padF]; omega
  | f + 1, left, need, h => by
    simp only [padF]
    split
    · have := padF_need (f := f) (left := left / 10) (need := need - 1) (by omega)
      simp only [List.length_cons]; omega
    · simp; omega
theorem dg_digit (n : Nat) : isDig (dg n) = true := by
  have h : (dg n).toNat = 48 + n % 10 := by simp [dg]; omega
  simp [isDig, isDigN, h]; omega
theorem padF_digits : ∀ {f left need : Nat}, ∀ x ∈ padF f left need, isDig x = true
  | 0, _, _, x, h => by simp [padF] at h
  | f + 1, left, need, x, h => by
    simp only [padF] at h
    split at h
    · rcases List.mem_cons.1 h with rfl | h
      · exact dg_digit _
      · exact padF_digits x h
    · simp at h
end Go.Proofs.YtkjokjogdehonaaGreatDoor.Am.Q
namespace Go.Proofs.YtkjokjogdehonaaGreatDoor.Am.Q
open Go Go.Proofs Go.Proofs.YtkjokjogdehonaaGreatDoor.Am
theorem storeO_g1 {t : TypeId} {cs : List AV} {p x : Nat} {v : AV} (h : x < cs.length) (hv : one v = true) (m : Mem) : storeO (.grow t cs) m p 1 x v = some (m.set p (.grow t (cs.set x v))) := by
  have hc := one_cells hv
  simp only [storeO, hc]
  rw [if_pos ⟨rfl, by omega, by simp [← one_scal, hv]⟩]
  simp [setCells]
theorem bytes_set {L : List UInt8} {x : Nat} {b : UInt8} : (bytesAV L).set x (byteAV b) = bytesAV (L.set x b) := by simp [bytesAV, List.map_set]
theorem bytes_at {L : List UInt8} {x : Nat} {b : UInt8} (h : L[x]? = some b) : (bytesAV L)[x]? = some (byteAV b) := by simp [bytesAV, h]
theorem gsl_idx {p n x : Nat} {i : Int} (hi : i = x) (h : x < n) : idxAddrV 1 (.gsl p n 1) (.int .i64 i) = some (.ptr p x) := by
  subst hi; simp [idxAddrV, h]
theorem gsl_len {m : Mem} {p n z : Nat} : lenV m (.gsl p n z) = some (.int .i64 n) := rfl
theorem gsl_lk {p n z : Nat} : isLK .sli (.gsl p n z) = true := rfl
def Rv (l : List UInt8) (k : Nat) (L : List UInt8) : Prop := L.length = l.length ∧ ∀ x, x < l.length → L[x]? = if x < k ∨ l.length - k ≤ x then l[l.length - 1 - x]? else l[x]?
theorem rv_zero (l : List UInt8) : Rv l 0 l := ⟨rfl, fun x hx => by rw [if_neg (by omega)]⟩
theorem rv_end {l L : List UInt8} {k : Nat} (h : Rv l k L) (hk : l.length ≤ 2 * k + 1) : L = l.reverse := by
  refine List.ext_getElem? fun x => ?_
  by_cases hx : x < l.length
  · rw [h.2 x hx, List.getElem?_reverse hx]
    split
    · rfl
    · rw [show l.length - 1 - x = x by omega]
  · rw [List.getElem?_eq_none (by rw [h.1]; omega), List.getElem?_eq_none (by rw [List.length_reverse]; omega)]
theorem rv_step {l L : List UInt8} {k : Nat} (h : Rv l k L) (hk : 2 * k + 1 < l.length) {a b : UInt8} (ha : L[k]? = some a) (hb : L[l.length - 1 - k]? = some b) : Rv l (k + 1) ((L.set k b).set (l.length - 1 - k) a) := by
  refine ⟨by simp [h.1], fun x hx => ?_⟩
  have h1 := h.2 k (by omega)
  have h2 := h.2 (l.length - 1 - k) (by omega)
  rw [if_neg (by omega), ha] at h1
  rw [if_neg (by omega), hb] at h2
  have hL := h.1
  by_cases e1 : x = l.length - 1 - k
  · subst e1
    rw [List.getElem?_set_self (by simp; omega), if_pos (by omega), show l.length - 1 - (l.length - 1 - k) = k by omega]; exact h1
  · rw [List.getElem?_set_ne (Ne.symm e1)]
    by_cases e2 : x = k
    · subst e2
      rw [List.getElem?_set_self (by omega), if_pos (by omega)]; exact h2
    · rw [List.getElem?_set_ne (Ne.symm e2), h.2 x hx]
      by_cases c : x < k ∨ l.length - k ≤ x
      · rw [if_pos c, if_pos (by omega)]
      · rw [if_neg c, if_neg (by omega)]
theorem rev_loop {p : Nat} {l : List UInt8} (hn : l.length < 2 ^ 60) {Q : AExit → List AV → Mem → Prop} : ∀ (f k : Nat) (L : List UInt8) (m : Mem) (g3 : AV), l.length - 2 * k ≤ f → 2 * k ≤ l.length + 1 → m.get p = .grow 5 (bytesAV L) → Rv l k L →
    (∀ i j g, Q (.exit 0) [.gsl p l.length 1, i, j, g] (m.set p (.grow 5 (bytesAV l.reverse)))) → wl CS [3] q227l4 Q [.gsl p l.length 1, .int .i64 k, .int .i64 ((l.length : Int) - 1 - k), g3] m := by
  intro f
  induction f with
  | zero =>
    intro k L m g3 hf hk hp hR hq
    have e1 : decide ((k : Int) < (l.length : Int) - 1 - k) = false := dF (by omega)
    have := rv_end hR (by omega)
    subst this
    have hm := Mem.set_self hp
    refine wl_step ?_
    simp only [go_sem, reduceIte, Nat.reduceEqDiff, Nat.reduceAdd, q227l4, q227r1, e1]
    have := hq (.int .i64 k) (.int .i64 ((l.length : Int) - 1 - k)) (.bool false)
    rwa [hm] at this
  | succ f ih =>
    intro k L m g3 hf hk hp hR hq
    refine wl_step ?_
    by_cases hlt : 2 * k + 1 < l.length
    · have e1 : decide ((k : Int) < (l.length : Int) - 1 - k) = true := dT (by omega)
      obtain ⟨a, ha⟩ : ∃ a, L[k]? = some a := ⟨L[k]'(by rw [hR.1]; omega), List.getElem?_eq_getElem _⟩
      obtain ⟨b, hb⟩ : ∃ b, L[l.length - 1 - k]? = some b := ⟨L[l.length - 1 - k]'(by rw [hR.1]; omega), List.getElem?_eq_getElem _⟩
      have i1 : idxAddrV 1 (.gsl p l.length 1) (.int .i64 (k : Int)) = some (.ptr p k) := gsl_idx rfl (by omega)
      have i2 : idxAddrV 1 (.gsl p l.length 1) (.int .i64 ((l.length : Int) - 1 - k)) = some (.ptr p (l.length - 1 - k)) := gsl_idx (by omega) (by omega)
      have hbl : (bytesAV L).length = l.length := by simp [bytesAV, hR.1]
      have s1 := storeO_g1 (t := 5) (cs := bytesAV L) (p := p) (x := k) (v := byteAV b) (by omega) rfl
      have s2 := storeO_g1 (t := 5) (cs := bytesAV (L.set k b)) (p := p) (x := l.length - 1 - k) (v := byteAV a) (by simp [bytesAV, hR.1]; omega) rfl
      rw [bytes_set] at s1 s2
      have w1 : IntKind.i64.wrap ((k : Int) + 1) = ((k + 1 : Nat) : Int) := wrap_succ (by omega)
      have w2 : IntKind.i64.wrap ((l.length : Int) - 1 - k - 1) = (l.length : Int) - 1 - ((k + 1 : Nat) : Int) := by rw [wrap_i64 (by omega)]; omega
      simp only [go_sem, reduceIte, Nat.reduceEqDiff, Nat.reduceAdd, q227l4, q227r1, e1, q227r2, i1, i2, hp, bytes_at ha, bytes_at hb, s1, s2, q227r3, w1, w2]
      refine ih (k + 1) ((L.set k b).set (l.length - 1 - k) a) (m.set p (.grow 5 (bytesAV ((L.set k b).set (l.length - 1 - k) a)))) _ (by omega) (by omega) get_set_same (rv_step hR hlt ha hb) (fun i j g => ?_)
      rw [set_set]; exact hq i j g
    · have e1 : decide ((k : Int) < (l.length : Int) - 1 - k) = false := dF (by omega)
      have := rv_end hR (by omega)
      subst this
      have hm := Mem.set_self hp
      simp only [go_sem, reduceIte, Nat.reduceEqDiff, Nat.reduceAdd, q227l4, q227r1, e1]
      have := hq (.int .i64 k) (.int .i64 ((l.length : Int) - 1 - k)) (.bool false)
      rwa [hm] at this
theorem rev_ok {p : Nat} {l : List UInt8} {m : Mem} (hn : l.length < 2 ^ 60) (hp : m.get p = .grow 5 (bytesAV l)) : CS 227 [.gsl p l.length 1] m (.ret (.tup [])) (m.set p (.grow 5 (bytesAV l.reverse))) := by
  refine call_by xfok mixed q227at q227ok rfl ?_
  have w1 : IntKind.i64.wrap ((l.length : Int) - 1) = (l.length : Int) - 1 - ((0 : Nat) : Int) := by rw [wrap_i64 (by omega)]; omega
  simp only [go_sem, reduceIte, Nat.reduceEqDiff, Nat.reduceAdd, q227, q227r0, gsl_lk, gsl_len, w1]
  refine rev_loop hn l.length 0 l m _ (by omega) (by omega) hp (rv_zero l) (fun i j g => ?_)
  simp only [go_sem, reduceIte, Nat.reduceEqDiff, Nat.reduceAdd]
end Go.Proofs.YtkjokjogdehonaaGreatDoor.Am.Q
namespace Go.Proofs.YtkjokjogdehonaaGreatDoor.Am.Q
open Go Go.Proofs Go.Proofs.YtkjokjogdehonaaGreatDoor.Am
def GB (M : Mem) (b : AV) (acc : List UInt8) : Prop := (b = .nilSl ∧ acc = []) ∨ ∃ p, b = .gsl p acc.length 1 ∧ M.get p = .grow 5 (bytesAV acc)
theorem cellsOf_bytes (l : List UInt8) : cellsOf (bytesAV l) = bytesAV l := by
  induction l with
  | nil => rfl
  | cons b l ih =>
    have : bytesAV (b :: l) = byteAV b :: bytesAV l := rfl
    rw [this, cellsOf, ih]; rfl
theorem GB.lk {M : Mem} {b : AV} {acc : List UInt8} (h : GB M b acc) : isLK .sli b = true := by
  rcases h with ⟨rfl, _⟩ | ⟨p, rfl, _⟩ <;> rfl
theorem GB.len {M : Mem} {b : AV} {acc : List UInt8} (h : GB M b acc) (M' : Mem) : lenV M' b = some (.int .i64 acc.length) := by
  rcases h with ⟨rfl, rfl⟩ | ⟨p, rfl, _⟩ <;> rfl
theorem GB.append {M : Mem} {b : AV} {acc l : List UInt8} (h : GB M b acc) (hl : l ≠ []) (hb : acc.length + l.length < 2 ^ 40) : ∃ b' M', appendOV M 5 1 1 b (bytesAV l) = some (b', M') ∧ GB M' b' (acc ++ l) := by
  have hne : bytesAV l ≠ [] := by simpa [bytesAV] using hl
  have hlen : (bytesAV l).length = l.length := by simp [bytesAV]
  have hall := bytes_good l
  rcases h with ⟨rfl, rfl⟩ | ⟨p, rfl, hp⟩
  · refine ⟨.gsl M.next (bytesAV l).length 1, M.alloc (.grow 5 (cellsOf (bytesAV l))), ?_, .inr ⟨M.next, by simp [hlen], by rw [cellsOf_bytes]; exact Mem.get_alloc_new⟩⟩
    simp only [appendOV]
    rw [if_neg hne, if_pos ⟨by rw [hlen]; simp [roomMax]; simp at hb; omega, by omega, hall⟩]
  · refine ⟨.gsl M.next (acc.length + (bytesAV l).length) 1, (M.set p .dead).alloc (.grow 5 (bytesAV acc ++ cellsOf (bytesAV l))), ?_, .inr ⟨M.next, by simp [hlen], ?_⟩⟩
    · simp only [appendOV, hp]
      rw [if_pos ⟨trivial, trivial, by omega, hne, by simp [bytesAV], by rw [hlen]; simp [roomMax]; omega, hall⟩]
    · rw [cellsOf_bytes, ← bytes_append]; exact Mem.get_alloc_new (m := M.set p .dead)
theorem GB.str {M : Mem} {b : AV} {acc : List UInt8} (h : GB M b acc) : strOV M b = some (.str acc) := by
  rcases h with ⟨rfl, rfl⟩ | ⟨p, rfl, hp⟩
  · rfl
  · have h1 : (bytesAV acc).length = acc.length := by simp [bytesAV]
    simp only [strOV, hp]
    rw [if_pos ⟨trivial, h1⟩, unbytes_bytes]
theorem wrap_u64 {n : Nat} (h : n < 2 ^ 64) : IntKind.u64.wrap (n : Int) = (n : Int) := by
  simp [IntKind.wrap, IntKind.signed, IntKind.bits]; omega
theorem cells_byte {b : UInt8} : (byteAV b).cells = [byteAV b] := rfl
theorem one_byte {b : UInt8} : one (byteAV b) = true := rfl
theorem ten_ne : ((10 : Int) = 0) = False := by simp
theorem dg_av {n : Nat} : AV.int .u8 (IntKind.u8.wrap (IntKind.u64.wrap (48 + (n : Int).tmod 10))) = byteAV (dg n) := by
  have h1 : (n : Int).tmod 10 = ((n % 10 : Nat) : Int) := tmodN (k := 10)
  have h2 : IntKind.u64.wrap (48 + ((n % 10 : Nat) : Int)) = ((48 + n % 10 : Nat) : Int) := by
    have := wrap_u64 (n := 48 + n % 10) (by omega)
    rw [← this]; congr 1
  rw [h1, h2]
  refine byte_is (k := 48 + n % 10) ?_
  rw [wrap_u8]
theorem pad_loop {K : Nat} {size : Int} {g0 : AV} (hK1 : K ≤ 20) {a : Int} (hmin : minV (.int .i64 size) (.int .i64 20) = some (.int .i64 a)) (hmax : maxV (.int .i64 a) (.int .i64 1) = some (.int .i64 (K : Int))) {Q : AExit → List AV → Mem → Prop} :
    ∀ (f left : Nat) (acc : List UInt8) (M : Mem) (b g5 g6 : AV), left < 2 ^ 64 → left < 10 ^ f → K - acc.length ≤ f → acc.length + f ≤ 40 → GB M b acc →
    (∀ M' b' g3 g5 g6, GB M' b' (acc ++ padF f left (K - acc.length)) → Q (.exit 0) [g0, .int .i64 size, .u, g3, b', g5, g6, .u] M') → wl CS [2, 5, 6, 7] q156l8 Q [g0, .int .i64 size, .u, .int .u64 left, b, g5, g6, .u] M := by
  intro f
  induction f with
  | zero =>
    intro left acc M b g5 g6 h0 h1 h2 h3 hG hq
    obtain rfl : left = 0 := by simpa using h1
    have e1 : decide (((0 : Nat) : Int) > 0) = false := dF (by omega)
    have e2 : decide ((acc.length : Int) < (K : Int)) = false := dF (by omega)
    refine wl_step ?_
    simp only [go_sem, reduceIte, Nat.reduceEqDiff, Nat.reduceAdd, q156l8, q156r5, e1, hG.lk, hG.len, hmin, hmax, e2]
    refine hq _ _ _ _ _ ?_
    simpa [padF] using hG
  | succ f ih =>
    intro left acc M b g5 g6 h0 h1 h2 h3 hG hq
    refine wl_step ?_
    have wl10 := wrap_u64 (n := left / 10) (by omega)
    have q10 : (left : Int).tdiv 10 = ((left / 10 : Nat) : Int) := tdivN (k := 10)
    have step : (0 < left ∨ 0 < K - acc.length) → ∃ b' M', appendOV M 5 1 1 b [byteAV (dg left)] = some (b', M') ∧ ∀ g6, wl CS [2, 5, 6, 7] q156l8 Q [g0, .int .i64 size, .u, .int .u64 ((left / 10 : Nat) : Int), b', .u, g6, .u] M' := by
      intro hc
      obtain ⟨b', M', a1, a2⟩ := hG.append (l := [dg left]) (by simp) (by simp; omega)
      refine ⟨b', M', a1, fun g6 => ?_⟩
      refine ih (left / 10) (acc ++ [dg left]) M' b' .u g6 (by omega) (by rw [Nat.pow_succ] at h1; omega) (by simp; omega) (by simp; omega) a2 (fun M2 b2 g3 g5 g6 hG2 => ?_)
      refine hq _ _ _ _ _ ?_
      simp only [padF]
      rw [if_pos hc]
      have : K - (acc ++ [dg left]).length = K - acc.length - 1 := by simp; omega
      rw [this, List.append_assoc] at hG2
      exact hG2
    by_cases hl : 0 < left
    · have e1 : decide ((left : Int) > 0) = true := dT (by omega)
      obtain ⟨b', M', a1, a2⟩ := step (.inl hl)
      have := a2
      simp only [go_sem, reduceIte, Nat.reduceEqDiff, Nat.reduceAdd, q156l8, q156r5, e1, q156r6, ten_ne, dg_av, cells_byte, one_byte, elems, a1, q156r7, q10, wl10]
      exact this _
    · have e1 : decide ((left : Int) > 0) = false := dF (by omega)
      by_cases hk : acc.length < K
      · have e2 : decide ((acc.length : Int) < (K : Int)) = true := dT (by omega)
        obtain ⟨b', M', a1, a2⟩ := step (.inr (by omega))
        have := a2
        simp only [go_sem, reduceIte, Nat.reduceEqDiff, Nat.reduceAdd, q156l8, q156r5, e1, hG.lk, hG.len, hmin, hmax, e2, q156r6, ten_ne, dg_av, cells_byte, one_byte, elems, a1, q156r7, q10, wl10]
        exact this _
      · have e2 : decide ((acc.length : Int) < (K : Int)) = false := dF (by omega)
        simp only [go_sem, reduceIte, Nat.reduceEqDiff, Nat.reduceAdd, q156l8, q156r5, e1, hG.lk, hG.len, hmin, hmax, e2]
        refine hq _ _ _ _ _ ?_
        simp only [padF]
        rw [if_neg (by omega), List.append_nil]; exact hG
theorem min_val (a b : Int) : minV (.int .i64 a) (.int .i64 b) = some (.int .i64 (min a b)) := by
  simp only [minV]; congr 2; split <;> omega
theorem max_val (a b : Int) : maxV (.int .i64 a) (.int .i64 b) = some (.int .i64 (max a b)) := by
  simp only [maxV]; congr 2; split <;> omega
theorem u64_abs {n : Int} (h : -(2 ^ 63) ≤ n ∧ n < 2 ^ 63) : (¬ n < 0 → IntKind.u64.wrap n = (n.natAbs : Int)) ∧ (n < 0 → IntKind.u64.wrap (0 - IntKind.u64.wrap n) = (n.natAbs : Int)) := by
  constructor
  · intro hn; rw [← Int.toNat_of_nonneg (show 0 ≤ n by omega), wrap_u64 (by omega)]; omega
  · intro hn; simp [IntKind.wrap, IntKind.signed, IntKind.bits]; omega
theorem pad_alone {n : Int} (hn : -(2 ^ 63) ≤ n ∧ n < 2 ^ 63) (size : Int) : ∃ m', CS 156 [.int .i64 n, .int .i64 size] m0 (.ret (.str (padS n size))) m' := by
  have key : ∃ r m', CS 156 [.int .i64 n, .int .i64 size] m0 (.ret r) m' ∧ r = .str (padS n size) := by
    refine call_some (R := fun r _ => r = .str (padS n size)) xfok mixed q156at q156ok rfl ?_
    obtain ⟨K, hK⟩ : ∃ K : Nat, max (min size 20) 1 = (K : Int) := ⟨(max (min size 20) 1).toNat, by omega⟩
    have hKt : (max (min size 20) 1).toNat = K := by omega
    have hmin := min_val size 20
    have hmax := max_val (min size 20) 1
    rw [hK] at hmax
    obtain ⟨u1, u2⟩ := u64_abs hn
    have hp20 : n.natAbs < 10 ^ 20 := by omega
    by_cases hneg : n < 0
    · have e1 : decide (n < 0) = true := dT hneg
      simp only [go_sem, reduceIte, Nat.reduceEqDiff, Nat.reduceAdd, q156, q156r0, q156r1, q156r2, e1, q156r3, u2 hneg, q156r4]
      refine pad_loop (K := K) (by omega) hmin hmax 20 n.natAbs [] m0 _ _ _ (by omega) hp20 (by simp; omega) (by simp) (.inl ⟨rfl, rfl⟩) (fun M b g3 g5 g6 hG => ?_)
      have hl := padF_len (f := 20) (left := n.natAbs) (need := K)
      rw [List.nil_append, List.length_nil, Nat.sub_zero] at hG
      obtain ⟨b', M', a1, a2⟩ := hG.append (l := [45]) (by simp) (by simp; omega)
      have a1' : appendOV M 5 1 1 b [.int .u8 45] = some (b', M') := a1
      simp only [go_sem, reduceIte, Nat.reduceEqDiff, Nat.reduceAdd, q156r9, e1, q156r10, elems, a1', q156r11]
      rcases a2 with ⟨_, h⟩ | ⟨p, rfl, hp⟩
      · simp at h
      refine callW_ret (rev_ok (by simp; omega) hp) ?_
      have hs : strOV (M'.set p (.grow 5 (bytesAV (padF 20 n.natAbs K ++ [45]).reverse))) (.gsl p (padF 20 n.natAbs K ++ [45]).length 1) = some (.str (padF 20 n.natAbs K ++ [45]).reverse) :=
        GB.str (.inr ⟨p, by rw [List.length_reverse], get_set_same⟩)
      simp only [go_sem, reduceIte, Nat.reduceEqDiff, Nat.reduceAdd, q156r12, hs]
      simp [padS, hneg, hKt]
    · have e1 : decide (n < 0) = false := dF hneg
      simp only [go_sem, reduceIte, Nat.reduceEqDiff, Nat.reduceAdd, q156, q156r0, q156r1, q156r2, e1, u1 hneg, q156r4]
      refine pad_loop (K := K) (by omega) hmin hmax 20 n.natAbs [] m0 _ _ _ (by omega) hp20 (by simp; omega) (by simp) (.inl ⟨rfl, rfl⟩) (fun M b g3 g5 g6 hG => ?_)
      have hl := padF_len (f := 20) (left := n.natAbs) (need := K)
      have hl2 := padF_need (f := 20) (left := n.natAbs) (need := K) (by omega)
      rw [List.nil_append, List.length_nil, Nat.sub_zero] at hG
      simp only [go_sem, reduceIte, Nat.reduceEqDiff, Nat.reduceAdd, q156r9, e1, q156r11]
      rcases hG with ⟨_, h⟩ | ⟨p, rfl, hp⟩
      · rw [h] at hl2; simp at hl2; omega
      refine callW_ret (rev_ok (by omega) hp) ?_
      have hs : strOV (M.set p (.grow 5 (bytesAV (padF 20 n.natAbs K).reverse))) (.gsl p (padF 20 n.natAbs K).length 1) = some (.str (padF 20 n.natAbs K).reverse) :=
        GB.str (.inr ⟨p, by rw [List.length_reverse], get_set_same⟩)
      simp only [go_sem, reduceIte, Nat.reduceEqDiff, Nat.reduceAdd, q156r12, hs]
      simp [padS, hneg, hKt]
  obtain ⟨r, m', h, rfl⟩ := key
  exact ⟨m', h⟩
theorem closed_ints {n k : Int} : ∀ a ∈ [AV.int .i64 n, .int .i64 k], Closed a := by
  intro a ha
  simp only [List.mem_cons, List.not_mem_nil, or_false] at ha
  rcases ha with rfl | rfl <;> exact .int
theorem pad_ok {n : Int} (hn : -(2 ^ 63) ≤ n ∧ n < 2 ^ 63) (size : Int) (m : Mem) : CS 156 [.int .i64 n, .int .i64 size] m (.ret (.str (padS n size))) m := by
  obtain ⟨m', h⟩ := pad_alone hn size
  exact call_alone gflat h closed_ints rfl m
theorem atext_ok {n : Int} (hn : -(2 ^ 63) ≤ n ∧ n < 2 ^ 63) (m : Mem) : CS 74 [.int .i64 n] m (.ret (.str (padS n 1))) m := by
  refine call_by xfok mixed q74at q74ok rfl ?_
  simp only [go_sem, reduceIte, Nat.reduceEqDiff, Nat.reduceAdd, q74, q74r0, q74r1]
  refine callW_ret (pad_ok hn 1 m) ?_
  simp only [go_sem, reduceIte, Nat.reduceEqDiff, Nat.reduceAdd]
end Go.Proofs.YtkjokjogdehonaaGreatDoor.Am.Q
namespace Go.Proofs.YtkjokjogdehonaaGreatDoor.Am.Q
open Go Go.Proofs Go.Proofs.YtkjokjogdehonaaGreatDoor.Am
def bAnd (k : IntKind) (a b : Int) : Int := k.wrap (BitVec.ofInt k.bits a &&& BitVec.ofInt k.bits b).toNat
def bOr (k : IntKind) (a b : Int) : Int := k.wrap (BitVec.ofInt k.bits a ||| BitVec.ofInt k.bits b).toNat
def bNot (k : IntKind) (a b : Int) : Int := k.wrap (BitVec.ofInt k.bits a &&& ~~~(BitVec.ofInt k.bits b)).toNat
theorem and_byte {j : Nat} {f : Nat → Nat} (h : ((List.range 256).all fun n => bAnd .u8 n j == (f n : Int)) = true) (c : UInt8) : bAnd .u8 c.toNat j = (f c.toNat : Int) := by
  have := List.all_eq_true.1 h c.toNat (List.mem_range.2 c.toNat_lt)
  simpa using this
theorem bA7 (c : UInt8) : bAnd .u8 c.toNat 7 = ((c.toNat % 8 : Nat) : Int) := and_byte (j := 7) (f := fun n => n % 8) (by decide +kernel) c
theorem bA15 (c : UInt8) : bAnd .u8 c.toNat 15 = ((c.toNat % 16 : Nat) : Int) := and_byte (j := 15) (f := fun n => n % 16) (by decide +kernel) c
theorem bA31 (c : UInt8) : bAnd .u8 c.toNat 31 = ((c.toNat % 32 : Nat) : Int) := and_byte (j := 31) (f := fun n => n % 32) (by decide +kernel) c
theorem bA63 (c : UInt8) : bAnd .u8 c.toNat 63 = ((c.toNat % 64 : Nat) : Int) := and_byte (j := 63) (f := fun n => n % 64) (by decide +kernel) c
theorem x7 (c : UInt8) : IntKind.u8.wrap (((@HAnd.hAnd (BitVec 8) (BitVec 8) (BitVec 8) (@instHAndOfAndOp (BitVec IntKind.u8.bits) (@BitVec.instAndOp IntKind.u8.bits)) (BitVec.ofInt 8 (c.toNat : Int)) (BitVec.ofInt 8 7)).toNat : Nat) : Int) = ((c.toNat % 8 : Nat) : Int) := bA7 c
theorem x15 (c : UInt8) : IntKind.u8.wrap (((@HAnd.hAnd (BitVec 8) (BitVec 8) (BitVec 8) (@instHAndOfAndOp (BitVec IntKind.u8.bits) (@BitVec.instAndOp IntKind.u8.bits)) (BitVec.ofInt 8 (c.toNat : Int)) (BitVec.ofInt 8 15)).toNat : Nat) : Int) = ((c.toNat % 16 : Nat) : Int) := bA15 c
theorem x31 (c : UInt8) : IntKind.u8.wrap (((@HAnd.hAnd (BitVec 8) (BitVec 8) (BitVec 8) (@instHAndOfAndOp (BitVec IntKind.u8.bits) (@BitVec.instAndOp IntKind.u8.bits)) (BitVec.ofInt 8 (c.toNat : Int)) (BitVec.ofInt 8 31)).toNat : Nat) : Int) = ((c.toNat % 32 : Nat) : Int) := bA31 c
theorem x63 (c : UInt8) : IntKind.u8.wrap (((@HAnd.hAnd (BitVec 8) (BitVec 8) (BitVec 8) (@instHAndOfAndOp (BitVec IntKind.u8.bits) (@BitVec.instAndOp IntKind.u8.bits)) (BitVec.ofInt 8 (c.toNat : Int)) (BitVec.ofInt 8 63)).toNat : Nat) : Int) = ((c.toNat % 64 : Nat) : Int) := bA63 c
theorem sh6 {n : Nat} (h : n < 33554432) : IntKind.i32.wrap ((n : Int) * 2 ^ min (Int.toNat 6) 32) = ((n * 64 : Nat) : Int) := by
  have p : (2 : Int) ^ min (Int.toNat 6) 32 = 64 := rfl
  have e : ((n : Int) * 2 ^ min (Int.toNat 6) 32) = ((n * 64 : Nat) : Int) := by rw [p]; omega
  rw [e]; exact wrap_i32 (by omega)
theorem sh12 {n : Nat} (h : n < 524288) : IntKind.i32.wrap ((n : Int) * 2 ^ min (Int.toNat 12) 32) = ((n * 4096 : Nat) : Int) := by
  have p : (2 : Int) ^ min (Int.toNat 12) 32 = 4096 := rfl
  have e : ((n : Int) * 2 ^ min (Int.toNat 12) 32) = ((n * 4096 : Nat) : Int) := by rw [p]; omega
  rw [e]; exact wrap_i32 (by omega)
theorem sh18 {n : Nat} (h : n < 8192) : IntKind.i32.wrap ((n : Int) * 2 ^ min (Int.toNat 18) 32) = ((n * 262144 : Nat) : Int) := by
  have p : (2 : Int) ^ min (Int.toNat 18) 32 = 262144 := rfl
  have e : ((n : Int) * 2 ^ min (Int.toNat 18) 32) = ((n * 262144 : Nat) : Int) := by rw [p]; omega
  rw [e]; exact wrap_i32 (by omega)
theorem or_i32 {x y : Nat} (h : x ||| y = x + y) (hl : x + y < 2 ^ 31) : IntKind.i32.wrap (((@HOr.hOr (BitVec 32) (BitVec 32) (BitVec 32) (@instHOrOfOrOp (BitVec IntKind.i32.bits) (@BitVec.instOrOp IntKind.i32.bits)) (BitVec.ofInt 32 (x : Int)) (BitVec.ofInt 32 (y : Int))).toNat : Nat) : Int) = ((x + y : Nat) : Int) := by
  have h1 : (BitVec.ofInt 32 (x : Int)).toNat = x := by rw [BitVec.toNat_ofInt]; omega
  have h2 : (BitVec.ofInt 32 (y : Int)).toNat = y := by rw [BitVec.toNat_ofInt]; omega
  have e : (@HOr.hOr (BitVec 32) (BitVec 32) (BitVec 32) (@instHOrOfOrOp (BitVec IntKind.i32.bits) (@BitVec.instOrOp IntKind.i32.bits)) (BitVec.ofInt 32 (x : Int)) (BitVec.ofInt 32 (y : Int))).toNat = x + y := by
    show (BitVec.ofInt 32 (x : Int) ||| BitVec.ofInt 32 (y : Int)).toNat = _
    rw [BitVec.toNat_or, h1, h2, h]
  rw [e]; exact wrap_i32 (by omega)
theorem or_add {a b i : Nat} (hb : b < 2 ^ i) : (a * 2 ^ i) ||| b = a * 2 ^ i + b := by
  have := Nat.shiftLeft_add_eq_or_of_lt hb a
  rw [Nat.shiftLeft_eq] at this
  exact this.symm
theorem or6 {x b : Nat} (hx : x % 64 = 0) (hb : b < 64) : x ||| b = x + b := by
  have := or_add (a := x / 64) (b := b) (i := 6) hb
  rwa [show x / 64 * 2 ^ 6 = x by omega] at this
theorem or12 {x b : Nat} (hx : x % 4096 = 0) (hb : b < 4096) : x ||| b = x + b := by
  have := or_add (a := x / 4096) (b := b) (i := 12) hb
  rwa [show x / 4096 * 2 ^ 12 = x by omega] at this
theorem or18 {x b : Nat} (hx : x % 262144 = 0) (hb : b < 262144) : x ||| b = x + b := by
  have := or_add (a := x / 262144) (b := b) (i := 18) hb
  rwa [show x / 262144 * 2 ^ 18 = x by omega] at this
end Go.Proofs.YtkjokjogdehonaaGreatDoor.Am.Q
namespace Go.Proofs.YtkjokjogdehonaaGreatDoor.Am.Q
open Go Go.Proofs Go.Proofs.YtkjokjogdehonaaGreatDoor.Am
def fx (n : Nat) : Nat := if n < 128 then 240 else if 0xC2 ≤ n ∧ n ≤ 0xDF then 2 else if n = 0xE0 then 19 else if n = 0xED then 35 else if 0xE1 ≤ n ∧ n ≤ 0xEF then 3 else if n = 0xF0 then 52 else if 0xF1 ≤ n ∧ n ≤ 0xF3 then 4 else if n = 0xF4 then 68 else 241
def avB (o : Option AV) (n : Nat) : Bool := match o with | some (.int .u8 k) => k == (n : Int) | _ => false
theorem avB_eq {o : Option AV} {n : Nat} (h : avB o n = true) : o = some (.int .u8 n) := by
  unfold avB at h
  split at h
  · rename_i k
    have : k = (n : Int) := by simpa using h
    rw [this]
  · cases h
theorem fx_at (c : UInt8) : t_unicode_utf8_first[c.toNat]? = some (.int .u8 (fx c.toNat)) := by
  have : ((List.range 256).all fun n => avB t_unicode_utf8_first[n]? (fx n)) = true := by decide +kernel
  exact avB_eq (List.all_eq_true.1 this c.toNat (List.mem_range.2 c.toNat_lt))
theorem idx_tab {t : List AV} {n : Nat} {i : Int} (hi : i = n) {k : IntKind} {len sz : Nat} (h : n < len) : idxAddrAV len sz (.sptr t 0) (.int k i) = some (.sptr t (n * sz)) := by
  subst hi; simp [idxAddrAV, h]
theorem part_two {cs : List AV} {off : Nat} {a b : AV} (h1 : cs[off]? = some a) (h2 : cs[off + 1]? = some b) : part true 2 cs off = some (.agg [a, b]) := by
  have l2 := (List.getElem?_eq_some_iff.1 h2).1
  simp only [part]
  rw [if_pos (by omega)]
  have : (cs.drop off).take 2 = [a, b] := by
    refine List.ext_getElem? fun i => ?_
    match i with
    | 0 => rw [List.getElem?_take_of_lt (by omega), List.getElem?_drop]; simpa using h1
    | 1 => rw [List.getElem?_take_of_lt (by omega), List.getElem?_drop]; simpa using h2
    | i + 2 => rw [List.getElem?_take_eq_none (by omega)]; simp
  rw [this]
def dLen (s : List UInt8) : Nat := if (uNext s).1 = true then (uNext s).2.1 else 1
theorem idx_s {s : List UInt8} {b : UInt8} {n : Nat} {i : Int} (hi : i = n) (h : s[n]? = some b) {k : IntKind} : idxSV (.str s) (.int k i) = some (byteAV b) := by
  subst hi; simp [idxSV, h]
abbrev t278 : ACode := (.seq (.seq (.region q278r11) (.cond (.var 14) (.seq (.region q278r12) .ret) .skip)) (.seq (.region q278r13) (.seq (.seq (.region q278r14) (.cond (.var 15) (.seq (.region q278r15) .ret) .skip)) (.seq (.seq (.region q278r16) (.cond (.var 16) (.seq (.region q278r17) .ret) .skip)) (.seq (.region q278r18) (.seq (.seq (.region q278r19) (.cond (.var 17) (.seq (.region q278r20) .ret) .skip)) (.seq (.seq (.region q278r21) (.cond (.var 18) (.seq (.region q278r22) .ret) .skip)) (.seq (.region q278r23) (.seq (.seq (.region q278r24) (.cond (.var 19) (.seq (.region q278r25) .ret) .skip)) (.seq (.region q278r26) .ret))))))))))
def DR (s : List UInt8) (r : AV) (_ : Mem) : Prop := r = .tup [.int .i32 (uNext s).2.2, .int .i64 (dLen s)]
theorem bad_sign {s : List UInt8} {c : UInt8} {r : List UInt8} (hs : s = c :: r) (h : (uNext s).1 = false) : (uNext s).2.2 = 65533 ∧ dLen s = 1 := by
  subst hs
  refine ⟨?_, by unfold dLen; rw [if_neg (by rw [h]; decide)]⟩
  have e : uNext (c :: r) = if uSize c.toNat = 0 then (false, 1, 65533) else if uCnt c.toNat (uSize c.toNat) 1 r < uSize c.toNat then (false, uCnt c.toNat (uSize c.toNat) 1 r, 65533) else
      (true, uSize c.toNat, uAcc (c.toNat - uBase (uSize c.toNat)) (r.take (uSize c.toNat - 1))) := rfl
  rw [e] at h ⊢
  by_cases h1 : uSize c.toNat = 0
  · rw [if_pos h1]
  · rw [if_neg h1] at h ⊢
    by_cases h2 : uCnt c.toNat (uSize c.toNat) 1 r < uSize c.toNat
    · rw [if_pos h2]
    · rw [if_neg h2] at h; cases h
theorem good_sign {c : UInt8} {r : List UInt8} (h : (uNext (c :: r)).1 = true) : (uNext (c :: r)).2.2 = uAcc (c.toNat - uBase (uSize c.toNat)) (r.take (uSize c.toNat - 1)) ∧ dLen (c :: r) = uSize c.toNat := by
  have hu : ¬ uSize c.toNat = 0 := by
    intro e
    simp only [uNext, e, if_true] at h
    cases h
  have hn : ¬ uCnt c.toNat (uSize c.toNat) 1 r < uSize c.toNat := by
    intro e
    simp only [uNext, if_neg hu, if_pos e] at h
    cases h
  have e : uNext (c :: r) = (true, uSize c.toNat, uAcc (c.toNat - uBase (uSize c.toNat)) (r.take (uSize c.toNat - 1))) := by simp only [uNext, if_neg hu, if_neg hn]
  unfold dLen
  rw [e]; exact ⟨rfl, rfl⟩
end Go.Proofs.YtkjokjogdehonaaGreatDoor.Am.Q
