/-
  JSON, 6: ref07.Same.
-/
import Derived.Test.YtinlfdkalijffaaDoorJ5
set_option linter.unusedSimpArgs false
set_option linter.unusedVariables false
namespace Go.Proofs.YtinlfdkalijffaaDoor.Am.Q
open Go Go.Proofs Go.Proofs.YtinlfdkalijffaaDoor.Am

theorem VT.ext_kids {k k' : Int} {t t' : List UInt8} {ks ks' : List (List UInt8)} {l l' : List VT} : (VT.node k t ks l = VT.node k' t' ks' l') ↔ k = k' ∧ t = t' ∧ ks = ks' ∧ l = l' := by
  constructor
  · intro h; injection h with h1 h2 h3 h4; exact ⟨h1, h2, h3, h4⟩
  · rintro ⟨rfl, rfl, rfl, rfl⟩; rfl
theorem getD_ext {l l' : List VT} (h : l.length = l'.length) (hk : ∀ i, i < l.length → l.getD i VT.zero = l'.getD i VT.zero) : l = l' := by
  apply List.ext_getElem h
  intro i h1 h2
  have := hk i h1
  simpa [List.getD, h1, h2] using this

def Same12 (T U : VT) : Prop := ∀ (m : Mem) (a b : AV) (r : Bool), IsVal a T → IsVal b U → (r = true ↔ T = U) → CS 12 [a, b] m (.ret (.bool r)) m

theorem same12_loop (m : Mem) {p q : Nat} {k k' : Int} {t t' : List UInt8} {ka kb ka' kb' : AV} {xs ys : List AV} {kids kids' : List VT} (hb : SlOf 4 kb xs) (hb' : SlOf 4 kb' ys) (hxl : xs.length = kids.length) (hyl : ys.length = kids'.length)
    (hx2 : ∀ i, i < kids.length → IsVal (xs.getD i .u) (kids.getD i VT.zero)) (hy2 : ∀ i, i < kids'.length → IsVal (ys.getD i .u) (kids'.getD i VT.zero)) (hl : kids.length = kids'.length) (hlen : kids.length < 2 ^ 47)
    (hgp : m.get p = .cells 26 [.int .i64 k, .str t, ka, kb]) (hgq : m.get q = .cells 26 [.int .i64 k', .str t', ka', kb']) (ih : ∀ i, i < kids.length → ∀ U, Same12 (kids.getD i VT.zero) U) {Q : AExit → List AV → Mem → Prop}
    (hx : kids = kids' → ∀ g0 g1 g4 g5 g6 g7 g8, Q (.exit 0) [g0, g1, .ptr p 0, .ptr q 0, g4, g5, g6, g7, g8] m) (hr : kids ≠ kids' → ∀ g0 g1 g5 g6 g7 g8, Q .ret [g0, g1, .ptr p 0, .ptr q 0, .bool false, g5, g6, g7, g8] m) :
    ∀ (n i : Nat) (g0 g1 g4 g6 g7 g8 : AV), i + n = kids.length → (∀ j, j < i → kids.getD j VT.zero = kids'.getD j VT.zero) → wl CS [0, 1, 4, 6, 7, 8] q12l8 Q [g0, g1, .ptr p 0, .ptr q 0, g4, .int .i64 i, g6, g7, g8] m := by
  intro n
  induction n with
  | zero =>
    intro i g0 g1 g4 g6 g7 g8 hi hs
    refine wl_step ?_
    have h1 : decide ((i : Int) < (kids.length : Nat)) = false := by simp; omega
    simp only [go_sem, reduceIte, Nat.reduceEqDiff, Nat.reduceAdd, q12l8, q12r4, hgp, hb.isLK, hb.len, hxl, h1]
    exact hx (getD_ext hl fun j hj => hs j (by omega)) _ _ _ _ _ _ _
  | succ n ihn =>
    intro i g0 g1 g4 g6 g7 g8 hi hs
    refine wl_step ?_
    have h1 : decide ((i : Int) < (kids.length : Nat)) = true := by simp; omega
    have hi1 : i < kids.length := by omega
    have hw : IntKind.i64.wrap ((i : Int) + 1) = ((i + 1 : Nat) : Int) := by rw [Go.IntWalk.i64_in _ (by omega)]; omega
    have hxi := hx2 i hi1
    have hyi := hy2 i (by omega)
    have ea := hb.idx (k := .i64) (i := (i : Int)) (y := xs.getD i .u) (by omega) (by simp [List.getD, show i < xs.length by omega])
    have eb := hb'.idx (k := .i64) (i := (i : Int)) (y := ys.getD i .u) (by omega) (by simp [List.getD, show i < ys.length by omega])
    obtain ⟨k1, t1, a1, b1, e1, _⟩ := hxi.shape
    obtain ⟨k2, t2, a2, b2, e2, _⟩ := hyi.shape
    rw [e1] at ea hxi
    rw [e2] at eb hyi
    simp only [go_sem, reduceIte, Nat.reduceEqDiff, Nat.reduceAdd, q12l8, q12r4, q12r5, hgp, hgq, hb.isLK, hb.len, hxl, h1, ea, eb]
    by_cases he : kids.getD i VT.zero = kids'.getD i VT.zero
    · refine callW_ret (ih i hi1 _ m _ _ true hxi hyi ⟨fun _ => he, fun _ => rfl⟩) ?_
      simp only [go_sem, reduceIte, Nat.reduceEqDiff, Nat.reduceAdd, q12r7, hw]
      refine ihn (i + 1) _ _ _ _ _ _ (by omega) fun j hj => ?_
      by_cases hji : j = i
      · subst hji; exact he
      · exact hs j (by omega)
    · refine callW_ret (ih i hi1 _ m _ _ false hxi hyi ⟨(fun h => by cases h), fun h => absurd h he⟩) ?_
      simp only [go_sem, reduceIte, Nat.reduceEqDiff, Nat.reduceAdd, q12r6]
      exact hr (fun e => he (by rw [e])) _ _ _ _ _ _

theorem same12 {T : VT} (hs : Small T) : ∀ U, Same12 T U := by
  induction hs with
  | @mk k t keys kids s1 s2 _ ih =>
    intro U m a b r ha hb hr
    obtain ⟨a', wa1, wa2, _, wa3, _⟩ := ha.weak
    obtain ⟨b', wb1, wb2, _, wb3, _⟩ := hb.weak
    have key : ∃ r' m', CS 12 [a', b'] m0 (.ret r') m' ∧ r' = .bool r := by
      refine call_some (R := fun r' _ => r' = .bool r) xfok mixed q12at q12ok rfl ?_
      clear wa2 wa3 wb2 wb3
      have wa := wa1
      have wb := wb1
      cases wa1 with
      | @mk _ _ ka kb _ _ xs h1 h2 h3 h4 =>
      cases wb1 with
      | @mk k' t' ka' kb' keys' kids' ys g1 g2 g3 g4 =>
      have sa : List.all [AV.int .i64 k, .str t, ka, kb] scal = true := wa.store
      have sb : List.all [AV.int .i64 k', .str t', ka', kb'] scal = true := wb.store
      have hg0 : ((m0.alloc (.cells 26 [.int .i64 k, .str t, ka, kb])).alloc (.cells 26 [.int .i64 k', .str t', ka', kb'])).get m0.next = .cells 26 [.int .i64 k, .str t, ka, kb] := by
        rw [get_old (by simp [Mem.alloc])]; exact get_new
      have hg1 : ((m0.alloc (.cells 26 [.int .i64 k, .str t, ka, kb])).alloc (.cells 26 [.int .i64 k', .str t', ka', kb'])).get (m0.next + 1) = .cells 26 [.int .i64 k', .str t', ka', kb'] := get_new
      rw [VT.ext_kids] at hr
      simp only [go_sem, reduceIte, Nat.reduceEqDiff, Nat.reduceAdd, q12, q12r0, sa, sb, next_alloc]
      generalize ((m0.alloc (.cells 26 [.int .i64 k, .str t, ka, kb])).alloc (.cells 26 [.int .i64 k', .str t', ka', kb'])) = m1 at hg0 hg1
      by_cases hk : k = k'
      · have ek : (k != k') = false := by simp [hk]
        by_cases ht : t = t'
        · have et : (!(t == t')) = false := by simp [ht]
          simp only [go_sem, reduceIte, Nat.reduceEqDiff, Nat.reduceAdd, q12r1, hg0, hg1, ek, et]
          refine callW_ret (texts_ok m1 h1 g1 (by omega)) ?_
          by_cases hks : keys = keys'
          · by_cases hl : kids.length = kids'.length
            · have el : (((kids.length : Nat) : Int) != (kids'.length : Nat)) = false := by simp [hl]
              simp only [go_sem, reduceIte, Nat.reduceEqDiff, Nat.reduceAdd, hks, decide_true, hg0, hg1, h2.isLK, g2.isLK, h2.len, g2.len, h3, g3, el, q12r3]
              refine same12_loop m1 h2 g2 h3 g3 h4 g4 hl s2 hg0 hg1 ih (fun e g0 g1 g4 g5 g6 g7 g8 => ?_) (fun e g0 g1 g5 g6 g7 g8 => ?_) kids.length 0 _ _ _ _ _ _ (by omega) (fun j hj => absurd hj (by omega))
              · simp only [go_sem, reduceIte, Nat.reduceEqDiff, Nat.reduceAdd, q12r9]
                rw [hr.2 ⟨hk, ht, hks, e⟩]
              · simp only [go_sem, reduceIte, Nat.reduceEqDiff, Nat.reduceAdd]
                cases r
                · rfl
                · exact absurd (hr.1 rfl).2.2.2 e
            · have el : (((kids.length : Nat) : Int) != (kids'.length : Nat)) = true := by simp; omega
              simp only [go_sem, reduceIte, Nat.reduceEqDiff, Nat.reduceAdd, hks, decide_true, hg0, hg1, h2.isLK, g2.isLK, h2.len, g2.len, h3, g3, el, q12r2]
              cases r
              · rfl
              · exact absurd (congrArg List.length (hr.1 rfl).2.2.2) hl
          · have ed : decide (keys = keys') = false := by simp [hks]
            simp only [go_sem, reduceIte, Nat.reduceEqDiff, Nat.reduceAdd, ed, q12r2]
            cases r
            · rfl
            · exact absurd (hr.1 rfl).2.2.1 hks
        · have et : (!(t == t')) = true := by simp [ht]
          simp only [go_sem, reduceIte, Nat.reduceEqDiff, Nat.reduceAdd, q12r1, hg0, hg1, ek, et, q12r2]
          cases r
          · rfl
          · exact absurd (hr.1 rfl).2.1 ht
      · have ek : (k != k') = true := by simp [hk]
        simp only [go_sem, reduceIte, Nat.reduceEqDiff, Nat.reduceAdd, q12r1, hg0, hg1, ek, q12r2]
        cases r
        · rfl
        · exact absurd (hr.1 rfl).1 hk
    obtain ⟨r', m', h1, rfl⟩ := key
    refine call_weak gflat h1 (fun x hx => ?_) (fun C vs h => ?_) rfl m
    · simp only [List.mem_cons, List.not_mem_nil, or_false] at hx
      rcases hx with rfl | rfl
      · exact wa2
      · exact wb2
    · match vs, h with
      | [v1, v2], h => exact ⟨wa3 C _ h.1, wb3 C _ h.2.1, trivial⟩
end Go.Proofs.YtinlfdkalijffaaDoor.Am.Q
