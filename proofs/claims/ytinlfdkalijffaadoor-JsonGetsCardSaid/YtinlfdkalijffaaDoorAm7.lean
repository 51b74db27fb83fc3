/-
  THE ABSTRACT MACHINE, 7: slices of strings and slices, lengths, bounds, interfaces, functions, tuples: against the model's own run.
-/
import Derived.Test.YtinlfdkalijffaaDoorAm6
set_option linter.unusedSimpArgs false
set_option linter.unusedVariables false
namespace Go.Proofs.YtinlfdkalijffaaDoor.Am
open Go Go.RowKit

def OptRep (C : Cx) : Option AV → Option Value → Prop
  | none, none => True
  | some a, some v => Rep C a v
  | _, _ => False

def BoundIs (P : Program) (w : World) (lv : Option Value) (d mx l : Nat) : Prop :=
  match lv with
  | some v => ∀ code, (Instr.sliceBound v mx code).run P w = .ok l w
  | none => l = d

section
variable {G : Nat → Option (List AV)} {w0 : World} {C : Cx} {m : Mem} {w : World} {P : Program}

theorem bound_run {lo : Option AV} {lv : Option Value} (h : OptRep C lo lv) {d mx l : Nat} (hb : boundV d mx lo = some l) :
    BoundIs P w lv d mx l ∧ (d ≤ mx → l ≤ mx) := by
  cases lo with
  | none =>
    cases lv with
    | none => simp only [boundV, Option.some.injEq] at hb; subst hb; exact ⟨rfl, id⟩
    | some v => exact h.elim
  | some a =>
    cases lv with
    | none => exact h.elim
    | some v =>
      have hr : Rep C a v := h
      cases hr with
      | int k n =>
        simp only [boundV] at hb
        split at hb
        · rename_i hc
          injection hb with hb; subst hb
          exact ⟨fun code => by simp only [Instr.sliceBound, asIntOf, Sem.run_bind, Sem.run_pure, Result.andThen, Sem.run_ite, if_pos hc], fun _ => by omega⟩
        · cases hb
      | _ => simp [boundV] at hb

theorem run_sliceBounds2 (isS : Bool) {len cap h l : Nat} {lv hv : Option Value} (hh : BoundIs P w hv len cap h) (hl : BoundIs P w lv 0 h l) :
    (Instr.sliceBounds isS len cap lv hv none).run P w = .ok (l, h, cap) w := by
  cases hv with
  | none =>
    obtain rfl : h = len := hh
    cases lv with
    | none => obtain rfl : l = 0 := hl; simp [Instr.sliceBounds]
    | some v =>
      have := hl .sliceB
      simp [Instr.sliceBounds, this]
  | some u =>
    have h1 := hh .sliceAcap
    have h2 := hh .sliceAlen
    cases lv with
    | none => obtain rfl : l = 0 := hl; cases isS <;> simp [Instr.sliceBounds, h1, h2]
    | some v =>
      have := hl .sliceB
      cases isS <;> simp [Instr.sliceBounds, this, h1, h2]
theorem run_sliceBounds3 (isS : Bool) {len cap mx h l : Nat} {lv : Option Value} {u mv : Value} (hm : BoundIs P w (some mv) 0 cap mx) (hh : BoundIs P w (some u) 0 mx h) (hl : BoundIs P w lv 0 h l) :
    (Instr.sliceBounds isS len cap lv (some u) (some mv)).run P w = .ok (l, h, mx) w := by
  have m1 := hm .slice3Acap
  have m2 := hm .slice3Alen
  have h1 := hh .slice3B
  cases lv with
  | none => obtain rfl : l = 0 := hl; cases isS <;> simp [Instr.sliceBounds, h1, m1, m2]
  | some v =>
    have := hl .slice3C
    cases isS <;> simp [Instr.sliceBounds, this, h1, m1, m2]

theorem sliceS_ok (hI : Inv G w0 C m w) {x v : AV} {a : Value} (hx : Rep C x a) {t : TypeId} (ht : P.underlying t = some .string) {lo hi : Option AV} {lv hv : Option Value} (hl : OptRep C lo lv) (hh : OptRep C hi hv)
    (h : sliceStr x lo hi = some v) : Res G w0 C m v ((do pure (.value (← Instr.sliceAt t a lv hv none)) : Sem Next).run P w) := by
  cases hx with
  | str s b e =>
    simp only [sliceStr] at h
    split at h
    · rename_i hb hhb
      split at h
      · rename_i lb hlb
        injection h with h; subst h
        have hsz : b.size = s.length := by subst e; simp
        obtain ⟨k1, k2⟩ := bound_run (P := P) (w := w) hh hhb
        obtain ⟨l1, l2⟩ := bound_run (P := P) (w := w) hl hlb
        have hr := run_sliceBounds2 (P := P) (w := w) false k1 l1
        have hrun : (Instr.sliceAt t (.string b) lv hv none).run P w = .ok (.string (b.extract lb hb)) w := by
          simp only [Instr.sliceAt, Instr.slice, Sem.run_bind, run_underlying ht, Result.andThen, Sem.run_pure, Option.isSome_none, Bool.false_eq_true, if_false, hsz, hr]
        refine Res.quiet hI hrun (.str _ _ ?_)
        subst e
        simp [ByteArray.data_extract, List.drop_take]
      · cases h
    · cases h
  | _ => simp [sliceStr] at h

theorem sl_cut {o o' : Own} {sz : Nat} {xs : List AV} {b off n cap l h c : Nat} {val : Nat → Nat → Value} (h1 : n = xs.length) (h2 : n ≤ cap) (h3 : 0 < sz) (h4 : o = .full → cap = n)
    (h5 : ∀ t, o = .tok t → (n = 0 ∧ cap = 0) ∨ C.R t b (off + n * sz) (off + cap * sz)) (h6 : ∀ i, i < n → (xs.getD i .u).cells.length = sz)
    (h7 : ∀ i j, i < n → j < sz → C.St b (off + i * sz + j) (val i j)) (h8 : ∀ i j, i < n → j < sz → Rep C ((xs.getD i .u).cells.getD j .u) (val i j))
    (hl : l ≤ h) (hn : h ≤ n) (hc : h ≤ c) (hc2 : c ≤ cap) (ho : (o' = .full ∧ c = h) ∨ o' = .no ∨ (o' = o ∧ h = n ∧ c = cap)) :
    Rep C (.sl o' sz ((xs.take h).drop l)) (.slice (if c = l then some ⟨b, off, none⟩ else some ⟨b, off + l * sz, none⟩) (h - l) (c - l)) := by
  have hlen : h - l = ((xs.take h).drop l).length := by simp; omega
  have hg : ∀ i, i < h - l → ((xs.take h).drop l).getD i .u = xs.getD (l + i) .u := by
    intro i hi
    simp only [List.getD, List.getElem?_drop, List.getElem?_take]
    rw [if_pos (by omega)]
  have ha : ∀ i, off + l * sz + i * sz = off + (l + i) * sz := fun i => by rw [Nat.add_mul]; omega
  by_cases e : c = l
  · subst e
    rw [if_pos rfl]
    refine .sl o' sz _ b off (h - c) (c - c) (fun i j => val (c + i) j) hlen (by omega) h3 (fun _ => by omega) (fun t _ => .inl ⟨by omega, by omega⟩) (fun i hi => by omega) (fun i j hi => by omega) (fun i j hi => by omega)
  · rw [if_neg e]
    refine .sl o' sz _ b (off + l * sz) (h - l) (c - l) (fun i j => val (l + i) j) hlen (by omega) h3 (fun hf => ?_) (fun t ht => ?_) (fun i hi => ?_) (fun i j hi hj => ?_) (fun i j hi hj => ?_)
    · rcases ho with ⟨_, rfl⟩ | h' | ⟨rfl, rfl, rfl⟩
      · rfl
      · rw [h'] at hf; cases hf
      · rw [h4 hf]
    · rcases ho with ⟨h', _⟩ | h' | ⟨rfl, rfl, rfl⟩
      · rw [h'] at ht; cases ht
      · rw [h'] at ht; cases ht
      · rcases h5 t ht with h' | h'
        · exact .inl ⟨by omega, by omega⟩
        · right
          rw [← Nat.add_sub_cancel' (show l ≤ h by omega), ← Nat.add_sub_cancel' (show l ≤ c by omega)] at h'
          rw [Nat.add_assoc off, ← Nat.add_mul, Nat.add_assoc off, ← Nat.add_mul]
          exact h'
    · rw [hg i hi]; exact h6 _ (by omega)
    · rw [ha]; exact h7 _ _ (by omega) hj
    · rw [hg i hi]; exact h8 _ _ (by omega) hj

theorem run_slice_sl {t e : TypeId} {sz : Nat} (ht : P.underlying t = some (.slice e)) (hs : cellsB P e = some sz) {a : Option Addr} {len cap l h c : Nat} {lv hv mv : Option Value}
    (hr : (Instr.sliceBounds true len cap lv hv mv).run P w = .ok (l, h, c) w) :
    (Instr.sliceAt t (.slice a len cap) lv hv mv).run P w = .ok (.slice (if c = l then a else a.map (·.add (l * sz))) (h - l) (c - l)) w := by
  simp only [Instr.sliceAt, Instr.slice, Sem.run_bind, run_underlying ht, Result.andThen, Sem.run_pure, hr, run_sizeOf hs]

theorem addr_if (b off l sz c : Nat) : (if c = l then some (⟨b, off, none⟩ : Addr) else (some (⟨b, off, none⟩ : Addr)).map (·.add (l * sz))) = if c = l then some ⟨b, off, none⟩ else some ⟨b, off + l * sz, none⟩ := by
  split <;> simp [Addr.add_lit]

theorem sliceL_ok (hI : Inv G w0 C m w) {x v : AV} {a : Value} (hx : Rep C x a) {t e : TypeId} {sz : Nat} (ht : P.underlying t = some (.slice e)) (hs : cellsB P e = some sz) {lo hi mx : Option AV} {lv hv mv : Option Value}
    (hl : OptRep C lo lv) (hh : OptRep C hi hv) (hm : OptRep C mx mv) (hszb : szOk sz x = true) (h : sliceSl x lo hi mx = some v) :
    Res G w0 C m v ((do pure (.value (← Instr.sliceAt t a lv hv mv)) : Sem Next).run P w) := by
  cases hx with
  | nilSl =>
    simp only [sliceSl] at h
    split at h
    · cases h
    rename_i hno
    split at h
    · rename_i c hb lb hc hhb hlb
      injection h with h; subst h
      obtain ⟨c1, c2⟩ := bound_run (P := P) (w := w) hm hc
      obtain ⟨k1, k2⟩ := bound_run (P := P) (w := w) hh hhb
      obtain ⟨l1, l2⟩ := bound_run (P := P) (w := w) hl hlb
      obtain rfl : c = 0 := by have := c2 (Nat.le_refl _); omega
      obtain rfl : hb = 0 := by have := k2 (Nat.le_refl _); omega
      obtain rfl : lb = 0 := by have := l2 (Nat.le_refl _); omega
      have hr : ∃ c, (Instr.sliceBounds true 0 0 lv hv mv).run P w = .ok (0, 0, c) w ∧ c = 0 := by
        cases mv with
        | none => exact ⟨0, run_sliceBounds2 true k1 l1, rfl⟩
        | some u =>
          cases hv with
          | none =>
            exfalso; apply hno
            cases mx with
            | none => exact hm.elim
            | some _ => cases hi with
              | none => exact ⟨rfl, rfl⟩
              | some _ => exact hh.elim
          | some u' => exact ⟨0, run_sliceBounds3 true c1 k1 l1, rfl⟩
      obtain ⟨c, hr, rfl⟩ := hr
      exact Res.quiet hI (by rw [run_slice_sl ht hs hr]; simp) .nilSl
    · cases h
  | sl o s xs b off n cap val h1 h2 h3 h4 h5 h6 h7 h8 =>
    obtain rfl : s = sz := by simpa [szOk] using hszb
    simp only [sliceSl] at h
    split at h
    · -- without a third bound
      cases mv with
      | some u => exact hm.elim
      | none =>
        split at h
        · rename_i hb hhb
          split at h
          · rename_i lb hlb
            injection h with h; subst h
            obtain ⟨k1, k2⟩ := bound_run (P := P) (w := w) hh hhb
            obtain ⟨l1, l2⟩ := bound_run (P := P) (w := w) hl hlb
            have k3 := k2 (Nat.le_refl _)
            have l3 := l2 (Nat.zero_le _)
            have k1' : BoundIs P w hv n cap hb := by
              cases hv with
              | none => rw [h1]; exact k1
              | some u =>
                intro code
                cases hi with
                | none => exact hh.elim
                | some x =>
                  have hr : Rep C x u := hh
                  cases hr with
                  | int k q =>
                    simp only [boundV] at hhb
                    split at hhb
                    · rename_i hc
                      injection hhb with hhb; subst hhb
                      simp only [Instr.sliceBound, asIntOf, Sem.run_bind, Sem.run_pure, Result.andThen, Sem.run_ite]
                      rw [if_pos (by omega)]
                    · cases hhb
                  | _ => simp [boundV] at hhb
            have hr := run_sliceBounds2 (P := P) (w := w) true k1' l1
            refine Res.quiet hI (by rw [run_slice_sl ht hs hr, addr_if]) ?_
            refine sl_cut h1 h2 h3 h4 h5 h6 h7 h8 l3 (by omega) (by omega) (Nat.le_refl _) ?_
            unfold ownOf
            split
            · right; right; exact ⟨rfl, by omega, rfl⟩
            · right; left; rfl
          · cases h
        · cases h
    · -- with one
      rename_i mval
      cases mv with
      | none => exact hm.elim
      | some mu =>
        split at h
        · rename_i k hk
          split at h
          · cases h
          · rename_i hval
            cases hv with
            | none => exact hh.elim
            | some hu =>
              split at h
              · rename_i hb hhb
                split at h
                · rename_i lb hlb
                  injection h with h; subst h
                  obtain ⟨c1, c2⟩ := bound_run (P := P) (w := w) hm hk
                  obtain ⟨k1, k2⟩ := bound_run (P := P) (w := w) hh hhb
                  obtain ⟨l1, l2⟩ := bound_run (P := P) (w := w) hl hlb
                  have c3 := c2 (Nat.zero_le _)
                  have k3 := k2 (Nat.zero_le _)
                  have l3 := l2 (Nat.zero_le _)
                  have c1' : BoundIs P w (some mu) 0 cap k := by
                    intro code
                    have hr : Rep C mval mu := hm
                    cases hr with
                    | int kk q =>
                      simp only [boundV] at hk
                      split at hk
                      · rename_i hc
                        injection hk with hk; subst hk
                        simp only [Instr.sliceBound, asIntOf, Sem.run_bind, Sem.run_pure, Result.andThen, Sem.run_ite]
                        rw [if_pos (by omega)]
                      · cases hk
                    | _ => simp [boundV] at hk
                  have hr := run_sliceBounds3 (P := P) (w := w) true (len := n) c1' k1 l1
                  refine Res.quiet hI (by rw [run_slice_sl ht hs hr, addr_if]) ?_
                  refine sl_cut h1 h2 h3 h4 h5 h6 h7 h8 l3 (by omega) (by omega) (by omega) ?_
                  split
                  · left; exact ⟨rfl, by omega⟩
                  · right; left; rfl
                · cases h
              · cases h
        · cases h
  | sl0 o s ad h1 h2 =>
    obtain rfl : s = sz := by simpa [szOk] using hszb
    simp only [sliceSl] at h
    have fin : ∀ (o' : Own) (l hh' : Nat), (∀ t, o' ≠ .tok t) → Rep C (.sl o' s (([] : List AV).take hh' |>.drop l)) (.slice (some ad) 0 0) := fun o' l hh' ho => by
      rw [List.take_nil, List.drop_nil]; exact .sl0 o' s ad ho h2
    split at h
    · cases mv with
      | some u => exact hm.elim
      | none =>
        split at h
        · rename_i hb hhb
          split at h
          · rename_i lb hlb
            injection h with h; subst h
            obtain ⟨k1, k2⟩ := bound_run (P := P) (w := w) hh hhb
            obtain ⟨l1, l2⟩ := bound_run (P := P) (w := w) hl hlb
            obtain rfl : hb = 0 := by have := k2 (Nat.le_refl _); simpa using this
            obtain rfl : lb = 0 := by have := l2 (Nat.le_refl _); simpa using this
            have hr := run_sliceBounds2 (P := P) (w := w) true (cap := 0) (len := 0) (by simpa using k1) l1
            refine Res.quiet hI (cv := .slice (some ad) 0 0) (by rw [run_slice_sl ht hs hr]; simp) (fin _ _ _ ?_)
            intro t; unfold ownOf; split
            · exact h1 t
            · intro h; cases h
          · cases h
        · cases h
    · rename_i mval
      cases mv with
      | none => exact hm.elim
      | some mu =>
        split at h
        · rename_i k hk
          split at h
          · cases h
          · rename_i hval
            cases hv with
            | none => exact hh.elim
            | some hu =>
              split at h
              · rename_i hb hhb
                split at h
                · rename_i lb hlb
                  injection h with h; subst h
                  obtain ⟨c1, c2⟩ := bound_run (P := P) (w := w) hm hk
                  obtain ⟨k1, k2⟩ := bound_run (P := P) (w := w) hh hhb
                  obtain ⟨l1, l2⟩ := bound_run (P := P) (w := w) hl hlb
                  obtain rfl : k = 0 := by have := c2 (Nat.zero_le _); simpa using this
                  obtain rfl : hb = 0 := by have := k2 (Nat.zero_le _); simpa using this
                  obtain rfl : lb = 0 := by have := l2 (Nat.zero_le _); simpa using this
                  have hr := run_sliceBounds3 (P := P) (w := w) true (len := 0) (cap := 0) (by simpa using c1) k1 l1
                  refine Res.quiet hI (cv := .slice (some ad) 0 0) (by rw [run_slice_sl ht hs hr]; simp) (fin _ _ _ ?_)
                  intro t; split <;> (intro h; cases h)
                · cases h
              · cases h
        · cases h
  | osl id off len cap s b hb hc =>
    obtain rfl : s = sz := by simpa [szOk] using hszb
    simp only [sliceSl] at h
    split at h
    · cases mv with
      | some u => exact hm.elim
      | none =>
        split at h
        · rename_i hb' hhb
          split at h
          · rename_i lb hlb
            injection h with h; subst h
            obtain ⟨k1, k2⟩ := bound_run (P := P) (w := w) hh hhb
            obtain ⟨l1, l2⟩ := bound_run (P := P) (w := w) hl hlb
            have k3 := k2 hc
            have l3 := l2 (Nat.zero_le _)
            have hr := run_sliceBounds2 (P := P) (w := w) true k1 l1
            refine Res.quiet hI (by rw [run_slice_sl ht hs hr, addr_if]) ?_
            by_cases e : cap = lb
            · rw [if_pos e, if_pos e]; exact .osl _ _ _ _ _ _ hb (by omega)
            · rw [if_neg e, if_neg e]; exact .osl _ _ _ _ _ _ hb (by omega)
          · cases h
        · cases h
    · cases h
  | _ => simp [sliceSl] at h

/-! ### lengths, bounds, interfaces, functions, tuples -/
theorem len_ok (hI : Inv G w0 C m w) {x v : AV} {a : Value} (hx : Rep C x a) {t : TypeId} {ts : List TypeId} {ty : TypeId} {k : LK} (hk : isLK k x = true)
    (hu : match k with | .str => P.underlying t = some .string | .sli => ∃ e, P.underlying t = some (.slice e) | .map => ∃ e e', P.underlying t = some (.map e e')) (h : lenV m x = some v) :
    Res G w0 C m v ((do pure (.value (← Builtin.len_ (t :: ts).toArray ty #[a])) : Sem Next).run P w) := by
  cases k with
  | str =>
    cases hx with
    | str s b e =>
      simp only [lenV, Option.some.injEq] at h; subst h
      have hsz : b.size = s.length := by subst e; simp
      exact Res.quiet hI (cv := .int .i64 s.length) (by simp [Builtin.len_, run_underlying hu, goInt, hsz]) (.int _ _)
    | _ => simp [isLK] at hk
  | sli =>
    obtain ⟨e, hu⟩ := hu
    cases hx with
    | nilSl =>
      simp only [lenV, Option.some.injEq] at h; subst h
      exact Res.quiet hI (cv := .int .i64 0) (by simp [Builtin.len_, run_underlying hu, goInt]) (.int _ _)
    | sl o s l b off n cap val h1 =>
      simp only [lenV, Option.some.injEq] at h; subst h
      exact Res.quiet hI (cv := .int .i64 l.length) (by simp [Builtin.len_, run_underlying hu, goInt, h1]) (.int _ _)
    | sl0 o s ad h1 h2 =>
      simp only [lenV, Option.some.injEq] at h; subst h
      exact Res.quiet hI (cv := .int .i64 0) (by simp [Builtin.len_, run_underlying hu, goInt]) (.int _ _)
    | osl i o l c s b hb hc =>
      simp only [lenV, Option.some.injEq] at h; subst h
      exact Res.quiet hI (cv := .int .i64 l) (by simp [Builtin.len_, run_underlying hu, goInt]) (.int _ _)
    | _ => simp [isLK] at hk
  | map =>
    obtain ⟨e, e', hu⟩ := hu
    cases hx with
    | nilMap =>
      simp only [lenV, Option.some.injEq] at h; subst h
      exact Res.quiet hI (cv := .int .i64 0) (by simp [Builtin.len_, run_underlying hu, goInt]) (.int _ _)
    | map i b hb =>
      simp only [lenV] at h
      split at h
      · rename_i es hes
        injection h with h; subst h
        obtain ⟨_, _, _, ho⟩ := hI.obj i b hb
        rw [hes] at ho
        obtain ⟨ents, clk, h1, h2, h3⟩ := ho
        have hg : (getObj b).run P w = .ok (.map ents clk) w := by simp [getObj, Sem.run, h1]
        exact Res.quiet hI (cv := .int .i64 es.length) (by simp [Builtin.len_, run_underlying hu, goInt, hg, h2]) (.int _ _)
      · cases h
    | _ => simp [isLK] at hk

theorem min_ok (hI : Inv G w0 C m w) {x y v : AV} {a b : Value} (hx : Rep C x a) (hy : Rep C y b) {ts : Array TypeId} {ty : TypeId} (h : minV x y = some v) :
    Res G w0 C m v ((do pure (.value (← Builtin.min_ ts ty #[a, b])) : Sem Next).run P w) := by
  cases hx with
  | int k n => cases hy with
    | int k' n' =>
      simp only [minV, Option.some.injEq] at h; subst h
      exact Res.quiet hI (cv := .int k (if n' < n then n' else n)) (by simp [Builtin.min_, Builtin.min2]) (.int _ _)
    | _ => simp [minV] at h
  | _ => cases y <;> simp [minV] at h
theorem max_ok (hI : Inv G w0 C m w) {x y v : AV} {a b : Value} (hx : Rep C x a) (hy : Rep C y b) {ts : Array TypeId} {ty : TypeId} (h : maxV x y = some v) :
    Res G w0 C m v ((do pure (.value (← Builtin.max_ ts ty #[a, b])) : Sem Next).run P w) := by
  cases hx with
  | int k n => cases hy with
    | int k' n' =>
      simp only [maxV, Option.some.injEq] at h; subst h
      exact Res.quiet hI (cv := .int k (if n' > n then n' else n)) (by simp [Builtin.max_, Builtin.max2]) (.int _ _)
    | _ => simp [maxV] at h
  | _ => cases y <;> simp [maxV] at h

theorem mkIface_ok (hI : Inv G w0 C m w) {x : AV} {a : Value} (hx : Rep C x a) {t : TypeId} (ht : P.concrete t = true) :
    Res G w0 C m (.iface t x) ((do pure (.value (← Instr.makeInterface t a)) : Sem Next).run P w) :=
  Res.quiet hI (run_makeInterface _ t a ht) (.iface _ _ _ hx)

theorem extract_ok (hI : Inv G w0 C m w) {x v : AV} {a : Value} (hx : Rep C x a) {i : Nat} {vs : List AV} (h : x = .tup vs) (hv : vs[i]? = some v) :
    Res G w0 C m v ((do pure (.value (← Instr.extract a i)) : Sem Next).run P w) := by
  subst h
  cases hx with
  | tup _ as h1 h2 =>
    have hlt : i < vs.length := (List.getElem?_eq_some_iff.1 hv).1
    have hr := h2 i hlt
    rw [getD_eq hv] at hr
    refine Res.quiet hI (cv := as.getD i undef) ?_ hr
    simp only [Instr.extract]
    rw [agetD_lt (l := as) (by omega)]; rfl

def listRep (C : Cx) : List AV → List Value → Prop
  | [], [] => True
  | a :: as, v :: vs => Rep C a v ∧ listRep C as vs
  | _, _ => False
theorem listRep_iff {as : List AV} {vs : List Value} (h : listRep C as vs) : vs.length = as.length ∧ ∀ i, i < as.length → Rep C (as.getD i .u) (vs.getD i undef) := by
  induction as generalizing vs with
  | nil => cases vs with
    | nil => exact ⟨rfl, fun _ h => absurd h (by simp)⟩
    | cons _ _ => exact h.elim
  | cons a as ih => cases vs with
    | nil => exact h.elim
    | cons v vs =>
      obtain ⟨h1, h2⟩ := h
      obtain ⟨k1, k2⟩ := ih h2
      refine ⟨by simp [k1], fun i hi => ?_⟩
      cases i with
      | zero => exact h1
      | succ i => simpa [List.getD] using k2 i (by simpa using hi)
theorem listRep_arr {as : List AV} {vs : Array Value} (h : listRep C as vs.toList) : vs.size = as.length ∧ ∀ i, i < as.length → Rep C (as.getD i .u) (vs.getD i undef) := by
  obtain ⟨h1, h2⟩ := listRep_iff h
  refine ⟨by simpa using h1, fun i hi => ?_⟩
  have := h2 i hi
  rwa [Array.getD_eq_getD_getElem?, ← Array.getElem?_toList]

theorem mkFn_ok (hI : Inv G w0 C m w) {f : Fn} {first cap : List AV} {xs ys : Array Value} (h1 : listRep C first xs.toList) (h2 : listRep C cap ys.toList) :
    Res G w0 C m (.fn f first cap) ((do pure (.value (← Instr.makeFunc f xs ys)) : Sem Next).run P w) := by
  obtain ⟨a1, a2⟩ := listRep_arr h1
  obtain ⟨b1, b2⟩ := listRep_arr h2
  exact Res.quiet hI (cv := .func f xs ys) rfl (.fn _ _ _ _ _ a1 a2 b1 b2)

def ifaceB (P : Program) (t : TypeId) : Bool := match P.underlying t with
  | some (.interface _) => true
  | _ => false
theorem tassert_ok (hI : Inv G w0 C m w) {x v z : AV} {a : Value} (hx : Rep C x a) {xt t : TypeId} {ok : Bool} (ht : ∃ d, P.underlying t = some d ∧ ∀ ms, d ≠ .interface ms) (hz : zeroOk P t z = true)
    (h : tassertV t z ok x = some v) : Res G w0 C m v ((do pure (.value (← Instr.typeAssert a xt t ok)) : Sem Next).run P w) := by
  obtain ⟨d, hu, hd⟩ := ht
  obtain ⟨zv, z1, z2⟩ := zeroOk_run (w := w) hz
  have hzr := cstOk_rep C z2
  have pair : ∀ (p q : AV) (c e : Value), Rep C p c → Rep C q e → Rep C (.tup [p, q]) (.tuple #[c, e]) := by
    intro p q c e hp hq
    refine .tup _ _ rfl fun i hi => ?_
    match i, hi with
    | 0, _ => exact hp
    | 1, _ => exact hq
  cases hx with
  | nilIface =>
    simp only [tassertV] at h
    split at h
    · rename_i hok; injection h with h; subst h
      refine Res.quiet hI (cv := .tuple #[zv, .bool false]) ?_ (pair _ _ _ _ hzr (.bool _))
      cases d <;> first | (exact absurd rfl (hd _)) | (simp [Instr.typeAssert, run_underlying hu, hok, z1])
    · cases h
  | iface t' y c hr =>
    simp only [tassertV] at h
    split at h
    · rename_i ht
      injection h with h; subst h; subst ht
      refine Res.quiet hI (cv := if ok then .tuple #[c, .bool true] else c) ?_ ?_
      · cases d <;> first | (exact absurd rfl (hd _)) | (simp [Instr.typeAssert, run_underlying hu])
      · cases ok
        · exact hr
        · exact pair _ _ _ _ hr (.bool _)
    · rename_i ht
      split at h
      · rename_i hok; injection h with h; subst h
        refine Res.quiet hI (cv := .tuple #[zv, .bool false]) ?_ (pair _ _ _ _ hzr (.bool _))
        cases d <;> first | (exact absurd rfl (hd _)) | (simp [Instr.typeAssert, run_underlying hu, hok, z1, ht])
      · cases h
  | _ => simp [tassertV] at h
end
end Go.Proofs.YtinlfdkalijffaaDoor.Am
