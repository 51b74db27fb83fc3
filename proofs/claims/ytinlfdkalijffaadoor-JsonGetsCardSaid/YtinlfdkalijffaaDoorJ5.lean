/-
  JSON, 5: a tree without tokens; calls of functions of trees with plain results, in every memory.
-/
import Derived.Test.YtinlfdkalijffaaDoorJ4
set_option linter.unusedSimpArgs false
set_option linter.unusedVariables false
namespace Go.Proofs.YtinlfdkalijffaaDoor.Am.Q
open Go Go.Proofs Go.Proofs.YtinlfdkalijffaaDoor.Am

theorem call_weak {P : Program} {G : Nat → Option (List AV)} (hG : GFlat G) {f : FuncId} {xs bs : List AV} {v : AV} {m1 : Mem} (h : CallSound P G f bs m0 (.ret v) m1) (hb : ∀ b ∈ bs, Closed b) (hw : ∀ C vs, listRep C xs vs → listRep C bs vs) (hv : flatV v = true) (m : Mem) : CallSound P G f xs m (.ret v) m := by
  intro w0 C w argsV hI hargs
  exact call_alone hG h hb hv m w0 C w argsV hI (hw _ _ hargs)

theorem slice_weak {sz : Nat} {x : AV} {xs ys : List AV} (h : SlOf sz x xs) (hl : ys.length = xs.length) (hc : ∀ i, i < xs.length → (ys.getD i .u).cells.length = (xs.getD i .u).cells.length)
    (hcl : ∀ i, i < ys.length → ∀ j, Closed ((ys.getD i .u).cells.getD j .u))
    (hr : ∀ C i j v, i < xs.length → Rep C ((xs.getD i .u).cells.getD j .u) v → Rep C ((ys.getD i .u).cells.getD j .u) v) :
    ∃ y, SlOf sz y ys ∧ Closed y ∧ ∀ C v, Rep C x v → Rep C y v := by
  rcases h with ⟨rfl, rfl⟩ | ⟨o, rfl⟩
  · refine ⟨.nilSl, .inl ⟨rfl, ?_⟩, .nilSl, fun _ _ h => h⟩
    cases ys with
    | nil => rfl
    | cons _ _ => simp at hl
  · refine ⟨.sl .no sz ys, .inr ⟨_, rfl⟩, .sl (fun t h => by cases h) hcl, fun C v h => ?_⟩
    cases h with
    | sl0 _ _ a h1 h2 =>
      obtain rfl : ys = [] := by cases ys with
        | nil => rfl
        | cons _ _ => simp at hl
      exact .sl0 .no sz a (fun t h => by cases h) h2
    | sl _ _ _ b off n cap val h1 h2 h3 h4 h5 h6 h7 h8 =>
      exact .sl .no sz ys b off n cap val (by omega) h2 h3 (fun h => by cases h) (fun t h => by cases h) (fun i hi => by rw [hc i (by omega)]; exact h6 i hi) h7
        (fun i j hi hj => hr C i j _ (by omega) (h8 i j hi hj))
theorem strs_weak {x : AV} {l : List (List UInt8)} (h : SlOf 1 x (l.map .str)) : ∃ y, SlOf 1 y (l.map .str) ∧ Closed y ∧ ∀ C v, Rep C x v → Rep C y v := by
  refine slice_weak h rfl (fun _ _ => rfl) (fun i hi j => ?_) (fun _ _ _ _ _ h => h)
  have hi' : i < l.length := by simpa using hi
  have e : (l.map AV.str).getD i .u = .str l[i] := by simp [List.getD, hi']
  rw [e]
  cases j with
  | zero => exact .str
  | succ j => exact .u

theorem IsVal.weak {a : AV} {T : VT} (h : IsVal a T) : ∃ b, IsVal b T ∧ Closed b ∧ (∀ j, Closed (b.cells.getD j .u)) ∧ (∀ C v, Rep C a v → Rep C b v) ∧ ∀ C j v, Rep C (a.cells.getD j .u) v → Rep C (b.cells.getD j .u) v := by
  induction h with
  | @mk k t ka kb keys kids xs ha hb hxl hx ih =>
    obtain ⟨ka', h1, h2, h3⟩ := strs_weak ha
    have hch : ∃ Y : Nat → AV, ∀ i, i < kids.length → IsVal (Y i) (kids.getD i VT.zero) ∧ (∀ j, Closed ((Y i).cells.getD j .u)) ∧ ∀ C j v, Rep C ((xs.getD i .u).cells.getD j .u) v → Rep C ((Y i).cells.getD j .u) v := by
      refine ⟨fun i => if hi : i < kids.length then Classical.choose (ih i hi) else .u, fun i hi => ?_⟩
      simp only [hi, dif_pos]
      have := Classical.choose_spec (ih i hi)
      exact ⟨this.1, this.2.2.1, this.2.2.2.2⟩
    obtain ⟨Y, hY⟩ := hch
    have eY : ∀ i, i < kids.length → ((List.range kids.length).map Y).getD i .u = Y i := fun i hi => by simp [List.getD, hi]
    obtain ⟨kb', g1, g2, g3⟩ := slice_weak (ys := (List.range kids.length).map Y) hb (by simp [hxl]) (fun i hi => by
        rw [eY i (by omega)]
        obtain ⟨_, _, _, _, e1, _⟩ := (hY i (by omega)).1.shape
        obtain ⟨_, _, _, _, e2, _⟩ := (hx i (by omega)).shape
        rw [e1, e2]; rfl) (fun i hi j => by
        have hi' : i < kids.length := by simpa using hi
        rw [eY i hi']; exact (hY i hi').2.1 j) (fun C i j v hi hr => by
        rw [eY i (by omega)]; exact (hY i (by omega)).2.2 C j v hr)
    refine ⟨.agg [.int .i64 k, .str t, ka', kb'], .mk h1 g1 (by simp) (fun i hi => by rw [eY i hi]; exact (hY i hi).1), ?_, ?_, ?_, ?_⟩
    · refine .agg fun i hi => ?_
      match i, hi with
      | 0, _ => exact .int
      | 1, _ => exact .str
      | 2, _ => exact h2
      | 3, _ => exact g2
    · intro j
      match j with
      | 0 => exact .int
      | 1 => exact .str
      | 2 => exact h2
      | 3 => exact g2
      | j + 4 => exact .u
    · intro C v hr
      cases hr with
      | agg _ vs e1 e2 =>
        refine .agg _ vs e1 fun i hi => ?_
        have := e2 i hi
        match i, hi with
        | 0, _ => exact this
        | 1, _ => exact this
        | 2, _ => exact h3 C _ this
        | 3, _ => exact g3 C _ this
    · intro C j v hr
      match j with
      | 0 => exact hr
      | 1 => exact hr
      | 2 => exact h3 C _ hr
      | 3 => exact g3 C _ hr
      | j + 4 => exact .u _
theorem gflat : GFlat gT := by
  intro g cs h
  simp only [gT] at h
  split at h
  · injection h with h; subst h; kernel_rfl
  · split at h
    · injection h with h; subst h; kernel_rfl
    · cases h
end Go.Proofs.YtinlfdkalijffaaDoor.Am.Q
