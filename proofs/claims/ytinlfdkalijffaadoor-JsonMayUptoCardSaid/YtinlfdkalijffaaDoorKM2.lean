import Derived.Test.YtinlfdkalijffaaDoorKM1
set_option linter.unusedSimpArgs false
set_option linter.unusedVariables false
/-
  JSON, a part of 28 and 38.
-/
namespace Go.Proofs.YtinlfdkalijffaaDoor.Am.Q
open Go Go.Proofs Go.Proofs.YtinlfdkalijffaaDoor.Am

theorem extB_ext {p : Nat} {m m' : Mem} (h : ExtB p m m') (hp : m.next ≤ p) : Ext m m' :=
  ⟨fun i hi => h.get i hi (by omega), h.next, h.live, h.ntok, h.tty⟩
theorem ext_extB {p : Nat} {m m' : Mem} (h : Ext m m') : ExtB p m m' := ⟨fun i hi _ => h.get i hi, h.next, h.live, h.ntok, h.tty⟩
abbrev zFault : AObj := .cells 29 [.int .i64 0, .int .i64 0]
theorem pushH_true {m : Mem} {h : List Mem} : pushH true m h = m :: h := rfl
def metOf (ks : List (List UInt8)) : List (AV × AV) := ks.map fun k => (.str k, .bool true)
theorem keyEq_str {a b : List UInt8} : keyEq (.str a) (.str b) = some (a == b) := rfl
theorem find_met {key : List UInt8} : ∀ {ks : List (List UInt8)}, mapFind (.str key) (metOf ks) = some (if key ∈ ks then some (.bool true) else none)
  | [] => rfl
  | k :: ks => by
    have ih := find_met (key := key) (ks := ks)
    simp only [metOf, List.map_cons, mapFind, keyEq_str]
    by_cases h : key = k
    · simp [h]
    · have : (key == k) = false := by simp [h]
      rw [this]
      simp only [metOf] at ih
      simp [h, ih]
theorem put_met {key : List UInt8} : ∀ {ks : List (List UInt8)}, key ∉ ks → mapPut (.str key) (.bool true) (metOf ks) = metOf (ks ++ [key])
  | [], _ => rfl
  | k :: ks, hn => by
    have h : key ≠ k := fun e => hn (by simp [e])
    have ih := put_met (key := key) (ks := ks) (fun e => hn (by simp [e]))
    have hb : (key == k) = false := by simp [h]
    simp only [metOf, List.map_cons, mapPut, keyEq_str, hb, List.cons_append] at ih ⊢
    rw [if_neg (by simp), ih]
theorem look_met {M : Mem} {w : Nat} {ks : List (List UInt8)} {key : List UInt8} (h : M.get w = .map (metOf ks)) : lookupV M (.bool false) false (.map w) (.str key) = some (.bool (decide (key ∈ ks))) := by
  simp only [lookupV, h, find_met]
  by_cases hk : key ∈ ks <;> simp [hk]
theorem upd_met {M : Mem} {w : Nat} {ks : List (List UInt8)} {key : List UInt8} (h : M.get w = .map (metOf ks)) (hn : key ∉ ks) : mapUpdV M (.map w) (.str key) (.bool true) = some (M.set w (.map (metOf (ks ++ [key])))) := by
  simp only [mapUpdV, h]
  rw [if_pos ⟨rfl, by rw [find_met]; rfl, rfl⟩, put_met hn]
end Go.Proofs.YtinlfdkalijffaaDoor.Am.Q
