/- Part KR5 of a claim's texts, joined: what the claim needs of them. -/
import Derived.Test.YtkjokjogdehonaaGreatDoorKR4
set_option linter.unusedSimpArgs false
set_option linter.unusedVariables false
namespace Go.Proofs.YtkjokjogdehonaaGreatDoor.Am.Q
open Go Go.Proofs Go.Proofs.YtkjokjogdehonaaGreatDoor.Am
def keyB : Bool → List (List UInt8) → List UInt8
  | true, k :: _ => quotS k ++ [58]
  | _, _ => []
mutual
def textT : VT → List UInt8
  | .node k t ks l => if k = 1 then tNull else if k = 4 then quotS t else if k = 5 then [91] ++ (itemsT false true ks l ++ [93]) else if k = 6 then [123] ++ (itemsT true true ks l ++ [125]) else t
def itemsT : Bool → Bool → List (List UInt8) → List VT → List UInt8
  | _, _, _, [] => []
  | tb, first, ks, v :: r => (if first = true then [] else [44]) ++ (keyB tb ks ++ (textT v ++ itemsT tb false ks.tail r))
end
theorem nodes_mem {x : VT} : ∀ {l : List VT}, x ∈ l → nodesT x ≤ nodesL l
  | v :: r, h => by
    simp only [nodesL]
    rcases List.mem_cons.1 h with rfl | h
    · omega
    · have := nodes_mem h; omega
end Go.Proofs.YtkjokjogdehonaaGreatDoor.Am.Q
namespace Go.Proofs.YtkjokjogdehonaaGreatDoor.Am.Q
open Go Go.Proofs Go.Proofs.YtkjokjogdehonaaGreatDoor.Am
theorem mayT_nodes {T : VT} (h : mayT T = true) : nodesT T ≤ 4096 := by simp only [mayT, Bool.and_eq_true, decide_eq_true_eq] at h; exact h.2
end Go.Proofs.YtkjokjogdehonaaGreatDoor.Am.Q
namespace Go.Proofs.YtkjokjogdehonaaGreatDoor.Am.Q
open Go Go.Proofs Go.Proofs.YtkjokjogdehonaaGreatDoor.Am
theorem BSt.lt {p : Nat} {mb M : Mem} {out : List UInt8} (h : BSt p mb M out) : p < M.next := by
  obtain ⟨_, _, _, _, _, _, h⟩ := h; exact h
theorem goodL_mem {d : Nat} : ∀ {l : List VT}, goodL d l = true → ∀ x ∈ l, goodT d x = true
  | v :: r, h, x, hx => by
    simp only [goodL, Bool.and_eq_true] at h
    rcases List.mem_cons.1 hx with rfl | hx
    · exact h.1
    · exact goodL_mem h.2 x hx
theorem oneS_kind {k : Int} {t : List UInt8} {ks : List (List UInt8)} {n : Nat} (h : oneS k t ks n = true) : k = 1 ∨ k = 2 ∨ k = 3 ∨ k = 4 ∨ k = 5 ∨ k = 6 := by
  by_cases j1 : k = 1
  · omega
  · by_cases j2 : k = 2
    · omega
    · by_cases j3 : k = 3
      · omega
      · by_cases j4 : k = 4
        · omega
        · by_cases j5 : k = 5
          · omega
          · by_cases j6 : k = 6
            · omega
            · unfold oneS at h
              rw [if_neg j1, if_neg j2, if_neg j3, if_neg j4, if_neg j5, if_neg j6] at h
              cases h
end Go.Proofs.YtkjokjogdehonaaGreatDoor.Am.Q
namespace Go.Proofs.YtkjokjogdehonaaGreatDoor.Am.Q
open Go Go.Proofs Go.Proofs.YtkjokjogdehonaaGreatDoor.Am
end Go.Proofs.YtkjokjogdehonaaGreatDoor.Am.Q
