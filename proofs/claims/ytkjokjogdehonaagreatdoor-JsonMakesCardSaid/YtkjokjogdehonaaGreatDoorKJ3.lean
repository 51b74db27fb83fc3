/- Part KJ3 of a claim's texts, joined: what the claim needs of them. -/
import Derived.Test.YtkjokjogdehonaaGreatDoorKJ2
set_option linter.unusedSimpArgs false
set_option linter.unusedVariables false
namespace Go.Proofs.YtkjokjogdehonaaGreatDoor.Am.Q
open Go Go.Proofs Go.Proofs.YtkjokjogdehonaaGreatDoor.Am
theorem size_keys (m : Mem) {p : Nat} {k left : Int} {t : List UInt8} {ka kb : AV} {keys : List (List UInt8)} (ha : SlOf 1 ka (keys.map .str)) (hlen : keys.length < 2 ^ 47) (hgp : m.get p = .cells 27 [.int .i64 k, .str t, ka, kb])
    {g1 : AV} {Q : AExit → List AV → Mem → Prop} (hx : ∀ n g0 g4 g6 g7 g8 g9 g10, Q (.exit 0) [g0, g1, .int .i64 left, .ptr p 0, g4, .int .i64 n, g6, g7, g8, g9, g10] m) :
    ∀ (r i : Nat) (n : Int) (g0 g4 g7 g8 g9 g10 : AV), i + r = keys.length → wl CS [0, 4, 7, 8, 9, 10] q61l8 Q [g0, g1, .int .i64 left, .ptr p 0, g4, .int .i64 n, .int .i64 i, g7, g8, g9, g10] m := by
  intro r
  induction r with
  | zero =>
    intro i n g0 g4 g7 g8 g9 g10 hi
    refine wl_step ?_
    have h1 : decide ((i : Int) < (keys.length : Nat)) = false := by simp; omega
    simp only [go_sem, reduceIte, Nat.reduceEqDiff, Nat.reduceAdd, q61l8, q61r5, hgp, ha.isLK, ha.len, List.length_map, h1]
    exact hx _ _ _ _ _ _ _ _
  | succ r ih =>
    intro i n g0 g4 g7 g8 g9 g10 hi
    refine wl_step ?_
    have h1 : decide ((i : Int) < (keys.length : Nat)) = true := by simp; omega
    have hi1 : i < keys.length := by omega
    have ea := ha.idx (k := .i64) (i := (i : Int)) (y := .str keys[i]) (by omega) (by simp [hi1])
    have hw : IntKind.i64.wrap ((i : Int) + 1) = ((i + 1 : Nat) : Int) := by rw [Go.IntWalk.i64_in _ (by omega)]; omega
    simp only [go_sem, reduceIte, Nat.reduceEqDiff, Nat.reduceAdd, q61l8, q61r5, hgp, ha.isLK, ha.len, List.length_map, h1]
    refine boolW_intro (fun h => ?_) (fun h => ?_)
    · simp only [go_sem, reduceIte, Nat.reduceEqDiff, Nat.reduceAdd, q61r6, q61r7, hgp, ea, hw, isLK, lenV]
      exact ih (i + 1) _ _ _ _ _ _ _ (by omega)
    · simp only [go_sem, reduceIte, Nat.reduceEqDiff, Nat.reduceAdd]
      exact hx _ _ _ _ _ _ _ _
def Sizes (T : VT) : Prop := ∀ (m : Mem) (a : AV) (deep left : Int), IsVal a T → ∃ n, CS 61 [a, .int .i64 deep, .int .i64 left] m (.ret (.int .i64 n)) m
theorem size_kids (m : Mem) {p : Nat} {k deep left : Int} {t : List UInt8} {ka kb : AV} {xs : List AV} {kids : List VT} (hb : SlOf 4 kb xs) (hxl : xs.length = kids.length) (hx2 : ∀ i, i < kids.length → IsVal (xs.getD i .u) (kids.getD i VT.zero)) (hlen : kids.length < 2 ^ 47)
    (hgp : m.get p = .cells 27 [.int .i64 k, .str t, ka, kb]) (ih : ∀ i, i < kids.length → Sizes (kids.getD i VT.zero)) {Q : AExit → List AV → Mem → Prop} (hx : ∀ n g0 g4 g6 g7 g8 g9 g10, Q (.exit 2) [g0, .int .i64 deep, .int .i64 left, .ptr p 0, g4, .int .i64 n, g6, g7, g8, g9, g10] m) :
    ∀ (r i : Nat) (n : Int) (g0 g4 g6 g8 g9 g10 : AV), i + r = kids.length → wl CS [0, 4, 6, 8, 9, 10] q61l13 Q [g0, .int .i64 deep, .int .i64 left, .ptr p 0, g4, .int .i64 n, g6, .int .i64 i, g8, g9, g10] m := by
  intro r
  induction r with
  | zero =>
    intro i n g0 g4 g6 g8 g9 g10 hi
    refine wl_step ?_
    have h1 : decide ((i : Int) < (kids.length : Nat)) = false := by simp; omega
    simp only [go_sem, reduceIte, Nat.reduceEqDiff, Nat.reduceAdd, q61l13, q61r10, hgp, hb.isLK, hb.len, hxl, h1]
    exact hx _ _ _ _ _ _ _ _
  | succ r ihr =>
    intro i n g0 g4 g6 g8 g9 g10 hi
    refine wl_step ?_
    have h1 : decide ((i : Int) < (kids.length : Nat)) = true := by simp; omega
    have hi1 : i < kids.length := by omega
    have hxi := hx2 i hi1
    have ea := hb.idx (k := .i64) (i := (i : Int)) (y := xs.getD i .u) (by omega) (by simp [List.getD, show i < xs.length by omega])
    obtain ⟨k1, t1, a1, b1, e1, _⟩ := hxi.shape
    rw [e1] at ea hxi
    have hw : IntKind.i64.wrap ((i : Int) + 1) = ((i + 1 : Nat) : Int) := by rw [Go.IntWalk.i64_in _ (by omega)]; omega
    simp only [go_sem, reduceIte, Nat.reduceEqDiff, Nat.reduceAdd, q61l13, q61r10, hgp, hb.isLK, hb.len, hxl, h1]
    refine boolW_intro (fun h => ?_) (fun h => ?_)
    · simp only [go_sem, reduceIte, Nat.reduceEqDiff, Nat.reduceAdd, q61r11, hgp, ea]
      obtain ⟨z, hz⟩ := ih i hi1 m _ (IntKind.i64.wrap (deep + 1)) (IntKind.i64.wrap (left - n)) hxi
      refine callW_ret hz ?_
      simp only [go_sem, reduceIte, Nat.reduceEqDiff, Nat.reduceAdd, q61r12, hw]
      exact ihr (i + 1) _ _ _ _ _ _ _ (by omega)
    · simp only [go_sem, reduceIte, Nat.reduceEqDiff, Nat.reduceAdd]
      exact hx _ _ _ _ _ _ _ _
theorem lk_str {s : List UInt8} : isLK .str (.str s) = true := rfl
theorem len_str {m : Mem} {s : List UInt8} : lenV m (.str s) = some (.int .i64 s.length) := rfl
theorem sizes {T : VT} (hs : Small T) : Sizes T := by
  induction hs with
  | @mk k t keys kids s1 s2 _ ih =>
    intro m a deep left ha
    obtain ⟨a', wa1, wa2, _, wa3, _⟩ := ha.weak
    have key : ∃ r' m', CS 61 [a', .int .i64 deep, .int .i64 left] m0 (.ret r') m' ∧ ∃ n, r' = .int .i64 n := by
      refine call_some (R := fun r' _ => ∃ n, r' = .int .i64 n) xfok mixed q61at q61ok rfl ?_
      have wa := wa1
      cases wa1 with
      | @mk _ _ ka kb _ _ xs h1 h2 h3 h4 =>
      have sa : List.all [AV.int .i64 k, .str t, ka, kb] scal = true := wa.store
      have hg0 : (m0.alloc (.cells 27 [.int .i64 k, .str t, ka, kb])).get m0.next = .cells 27 [.int .i64 k, .str t, ka, kb] := get_new
      simp only [go_sem, reduceIte, Nat.reduceEqDiff, Nat.reduceAdd, q61, q61r0, sa]
      generalize (m0.alloc (.cells 27 [.int .i64 k, .str t, ka, kb])) = m1 at hg0
      simp only [go_sem, reduceIte, Nat.reduceEqDiff, Nat.reduceAdd, q61r1, q61r2, hg0, h1.isLK, h1.len, h2.isLK, h2.len, lk_str, len_str]
      rcases Bool.eq_false_or_eq_true (decide (deep > 80)) with e1 | e1
      · simp only [go_sem, reduceIte, Nat.reduceEqDiff, Nat.reduceAdd, e1, q61r3]
        exact ⟨_, rfl⟩
      · rcases Bool.eq_false_or_eq_true (decide (((xs.length : Nat) : Int) > 4000)) with e2 | e2
        · simp only [go_sem, reduceIte, Nat.reduceEqDiff, Nat.reduceAdd, e1, e2, hg0, h2.isLK, h2.len, q61r3]
          exact ⟨_, rfl⟩
        · rcases Bool.eq_false_or_eq_true (decide ((((keys.map AV.str).length : Nat) : Int) > 4000)) with e3 | e3
          · simp only [go_sem, reduceIte, Nat.reduceEqDiff, Nat.reduceAdd, e1, e2, e3, hg0, h1.isLK, h1.len, h2.isLK, h2.len, q61r3]
            exact ⟨_, rfl⟩
          · simp only [go_sem, reduceIte, Nat.reduceEqDiff, Nat.reduceAdd, e1, e2, e3, hg0, h1.isLK, h1.len, h2.isLK, h2.len]
            simp only [go_sem, reduceIte, Nat.reduceEqDiff, Nat.reduceAdd, q61r4]
            refine size_keys m1 h1 s1 hg0 (fun n g0 g4 g6 g7 g8 g9 g10 => ?_) keys.length 0 _ _ _ _ _ _ _ (by omega)
            simp only [go_sem, reduceIte, Nat.reduceEqDiff, Nat.reduceAdd, q61r9]
            refine size_kids m1 h2 h3 h4 s2 hg0 ih (fun n g0 g4 g6 g7 g8 g9 g10 => ?_) kids.length 0 _ _ _ _ _ _ _ (by omega)
            simp only [go_sem, reduceIte, Nat.reduceEqDiff, Nat.reduceAdd, q61r14]
            exact ⟨_, rfl⟩
    obtain ⟨r', m', h1, n, rfl⟩ := key
    refine ⟨n, call_weak gflat h1 (fun x hx => ?_) (fun C vs h => ?_) rfl m⟩
    · simp only [List.mem_cons, List.not_mem_nil, or_false] at hx
      rcases hx with rfl | rfl | rfl
      · exact wa2
      · exact .int
      · exact .int
    · match vs, h with
      | [v1, v2, v3], h => exact ⟨wa3 C _ h.1, h.2.1, h.2.2.1, trivial⟩
end Go.Proofs.YtkjokjogdehonaaGreatDoor.Am.Q
namespace Go.Proofs.YtkjokjogdehonaaGreatDoor.Am.Q
open Go Go.Proofs Go.Proofs.YtkjokjogdehonaaGreatDoor.Am
theorem far_ok {T : VT} (hs : Small T) (m : Mem) {a : AV} (ha : IsVal a T) : ∃ r, CS 13 [a] m (.ret (.bool r)) m := by
  obtain ⟨a', wa1, wa2, _, wa3, _⟩ := ha.weak
  have key : ∃ r' m', CS 13 [a'] m0 (.ret r') m' ∧ ∃ r, r' = .bool r := by
    refine call_some (R := fun r' _ => ∃ r, r' = .bool r) xfok mixed q13at q13ok rfl ?_
    obtain ⟨k, t, ka, kb, rfl, sa⟩ := wa1.shape
    have hg0 : (m0.alloc (.cells 27 [.int .i64 k, .str t, ka, kb])).get m0.next = .cells 27 [.int .i64 k, .str t, ka, kb] := get_new
    simp only [go_sem, reduceIte, Nat.reduceEqDiff, Nat.reduceAdd, q13, q13r0, q13r1, sa, hg0]
    obtain ⟨n, hn⟩ := sizes hs (m0.alloc (.cells 27 [.int .i64 k, .str t, ka, kb])) _ 0 3000 wa1
    refine callW_ret hn ?_
    simp only [go_sem, reduceIte, Nat.reduceEqDiff, Nat.reduceAdd]
    exact ⟨_, rfl⟩
  obtain ⟨r', m', h1, r, rfl⟩ := key
  refine ⟨r, call_weak gflat h1 (fun x hx => ?_) (fun C vs h => ?_) rfl m⟩
  · simp only [List.mem_cons, List.not_mem_nil, or_false] at hx
    subst hx; exact wa2
  · match vs, h with
    | [v1], h => exact ⟨wa3 C _ h.1, trivial⟩
end Go.Proofs.YtkjokjogdehonaaGreatDoor.Am.Q
namespace Go.Proofs.YtkjokjogdehonaaGreatDoor.Am.Q
open Go Go.Proofs Go.Proofs.YtkjokjogdehonaaGreatDoor.Am
end Go.Proofs.YtkjokjogdehonaaGreatDoor.Am.Q
