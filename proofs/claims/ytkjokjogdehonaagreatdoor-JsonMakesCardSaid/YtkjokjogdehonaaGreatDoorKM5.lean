/- Part KM5 of a claim's texts, joined: what the claim needs of them. -/
import Derived.Test.YtkjokjogdehonaaGreatDoorKM4
import Derived.Test.YtkjokjogdehonaaGreatDoorKJ4
import Derived.Test.YtkjokjogdehonaaGreatDoorKA4
set_option linter.unusedSimpArgs false
set_option linter.unusedVariables false
namespace Go.Proofs.YtkjokjogdehonaaGreatDoor.Am.Q
open Go Go.Proofs Go.Proofs.YtkjokjogdehonaaGreatDoor.Am Go.ChangeShapes Go.WideShapes Go.ChangeAt Go.RowKit
noncomputable def laidWorld3 (os : Os) : World :=
  { World.holding Tryz.prog os ⟨#[], #[], []⟩ with heap := layRow 2 (flatD (Rows.laid_unicode_utf8_acceptRanges : DataW Unit)) (layRow 1 (flatD (Go.Pinned.utf8First : DataW Unit)) (World.holding Tryz.prog os ⟨#[], #[], []⟩).heap) }
def argStr3 : Value := .string .empty
def argInt3 : Value := .int .i64 0
def argSl3 : Value := .slice none 0 0
theorem makes_laid (os : Os) : laidMet Tryz.prog Rows.jsonMakesRow.laid ((laidWorld3 os).forCall (fun _ _ => 0) ⟨#[], #[argStr3, argInt3, argSl3], []⟩).memory :=
  laidMet_of_run' 8 (by kernel_rfl) (by kernel_rfl)
theorem makes_reads (os : Os) {H : Type} (enc : TypeId × Value → H) : ∃ places, DataW.whole enc Tryz.prog ((laidWorld3 os).forCall (fun _ _ => 0) ⟨#[], #[argStr3, argInt3, argSl3], []⟩).memory Tryz.f3.params.toList Rows.jsonMakesSpec.vars false #[argStr3, argInt3, argSl3].toList 8 = some ([.lit (.string []), .lit (.int .i64 0), .nil], [], places) :=
  ⟨[], by kernel_rfl⟩
theorem aStr3 : aggT Tryz.prog 9 = false := by kernel_rfl
theorem aI643 : aggT Tryz.prog 2 = false := by kernel_rfl
theorem aPs3 : aggT Tryz.prog 22 = false := by kernel_rfl
theorem wStr3 : Tryz.prog.wantsStandIn 9 = false := by kernel_rfl
theorem wI643 : Tryz.prog.wantsStandIn 2 = false := by kernel_rfl
theorem wPs3 : Tryz.prog.wantsStandIn 22 = false := by kernel_rfl
theorem uI64 : Tryz.prog.underlying 2 = some (.int .i64) := by kernel_rfl
theorem uPair : structB Tryz.prog 29 [(9, 0), (27, 1)] = true := by kernel_rfl
theorem uPairs : Tryz.prog.underlying 22 = some (.slice 29) := by kernel_rfl
theorem cPair : Tryz.prog.cellsOf 29 = 5 := by kernel_rfl
instance : Inhabited KV := ⟨([], VT.zero)⟩
theorem wf_i64 {n : Int} (h : (Lit.int .i64 n).wf = true) : -(2 ^ 63) ≤ n ∧ n < 2 ^ 63 := by
  simp [Lit.wf, IntKind.min, IntKind.max, IntKind.signed, IntKind.bits] at h
  omega
section
variable {H : Type} {enc : TypeId × Value → H} {W : World}
theorem read_pair {fuel : Nat} {cs : List Value} {x : DataW H × List MemPlace} (hw : Fits Tryz.prog 29 x.1) (h : DataW.trod enc Tryz.prog W 0 (fun _ => true) true fuel 29 cs = some x) :
    ∃ (p : KV) (us : List AV), (IsKV (.agg us) p ∧ Small p.2) ∧ CellsOf W us cs := by
  obtain ⟨hl, hf⟩ := read_fields uPair hw h
  rw [cPair] at hl
  obtain ⟨n0, y0, z0, w0, t0⟩ := hf 0 _ rfl
  obtain ⟨n1, y1, z1, w1, t1⟩ := hf 1 _ rfl
  rw [cStr] at t0; rw [cVal] at t1
  have hcs := tile cs [(0, 1), (1, 4)] 0 rfl (by simpa [sizes'] using hl)
  obtain ⟨k, a0, _, _⟩ := read_str uStr t0
  obtain ⟨T, us, ⟨b1, b2⟩, a1⟩ := read_val _ (Nat.le_refl _) w1 t1
  obtain ⟨c1, c2, c3, c4, e, _, _⟩ := b1.ones
  injection e with e
  subst e
  refine ⟨(k, T), .str k :: [.int .i64 c1, .str c2, c3, c4], ⟨⟨c1, c2, c3, c4, rfl, b1⟩, b2⟩, ?_⟩
  rw [List.drop_zero] at hcs
  rw [hcs]
  exact (a0.append (a1.append .nil))
theorem read_pairs {fuel : Nat} {cs : List Value} {x : DataW H × List MemPlace} (hw : Fits Tryz.prog 22 x.1) (h : DataW.trod enc Tryz.prog W 0 (fun _ => true) true fuel 22 cs = some x) :
    ∃ (v : AV) (l : List KV) (ys : List AV), CellsOf W [v] cs ∧ SlOf 5 v ys ∧ KVs ys l ∧ ∀ p ∈ l, Small p.2 := by
  obtain ⟨v, l, ys, h1, h2, h3, _, h5⟩ := read_slice (α := KV) (R := fun p us => IsKV (.agg us) p ∧ Small p.2) uPairs (by rw [cPair]; omega) (fun us => .agg us) (fun _ _ _ => rfl) hw h
    (fun n cs y _ hfy ht => read_pair hfy ht)
  rw [cPair] at h2
  refine ⟨v, l, ys, h1, h2, ⟨h3, fun i hi => ?_⟩, fun p hp => ?_⟩
  · obtain ⟨us, ⟨k1, _⟩, k2⟩ := h5 i hi
    rw [k2, show l[i] = l.getD i default by simp [List.getD, hi]]; exact k1
  · obtain ⟨i, hi, rfl⟩ := List.mem_iff_getElem.1 hp
    obtain ⟨us, ⟨_, k1⟩, _⟩ := h5 i hi
    rw [show l[i] = l.getD i default by simp [List.getD, hi]]; exact k1
end
set_option maxRecDepth 100000 in
theorem makes_at (H : Type) (enc : TypeId × Value → H) : LawAt H enc Tryz.prog gT 3 Tryz.f3 Rows.jsonMakesSpec := by
  intro W base args ds p hval hA hw
  rw [Tryz.params3] at hA hval hw
  obtain ⟨v0, vs0, d0, ds0, p0, q0, rfl, rfl, rfl, h0, r0⟩ := trodAll_cons hA
  obtain ⟨v1, vs1, d1, ds1, p1, q1, rfl, rfl, rfl, h1, r1⟩ := trodAll_cons r0
  obtain ⟨v2, vs2, d2, ds2, p2, q2, rfl, rfl, rfl, h2, r2⟩ := trodAll_cons r1
  obtain ⟨rfl, rfl, rfl⟩ := trodAll_nil r2
  refine ⟨rfl, ?_⟩
  have hna := not_agg_of_ok aStr3 (hval 0 9 v0 rfl rfl)
  have hnb := not_agg_of_ok aI643 (hval 1 2 v1 rfl rfl)
  have hnc := not_agg_of_ok aPs3 (hval 2 22 v2 rfl rfl)
  obtain ⟨f0, h0⟩ := h0
  obtain ⟨f1, h1⟩ := h1
  obtain ⟨f2, h2⟩ := h2
  obtain ⟨s, j0, _, _⟩ := read_str uStr h0
  obtain ⟨n, j1, _, jn⟩ := read_int uI64 h1
  obtain ⟨v, l, ys, j2, i2, i3, i4⟩ := read_pairs (fun n hn => hw n (weightsEach_mem hn (i := 2) rfl rfl)) h2
  obtain ⟨m', hm⟩ := makes_law (s := s) (wf_i64 jn) i2 i3 i4
  exact ⟨_, m', hm, open_one j0 rfl hna, open_one j1 rfl hnb, open_one j2 rfl hnc, trivial⟩
set_option maxRecDepth 100000 in
theorem makes_lift (os : Os) (started : os.Started) (H : Type) (enc : TypeId × Value → H) (F : Stop.Interp) :
    ReturnsInHanded {} Tryz.checked os 3 .any ((OpenSpec.ofChange Rows.jsonMakesSpec).preRow enc Tryz.prog Tryz.f3 Rows.jsonMakesRow.domain false Rows.jsonMakesRow.laid) (((OpenSpec.ofChange Rows.jsonMakesSpec).at F).post enc Tryz.prog Tryz.f3 false true false false) := by
  obtain ⟨places, hx⟩ := makes_reads os enc
  exact law_lift (C := Tryz.checked) own started (by kernel_rfl) Tryz.func3 laidOut rfl uBool (by kernel_rfl) rfl
    (witness_row_at (enc := enc) (C := Tryz.checked) false (laidWorld3 os) #[argStr3, argInt3, argSl3] rfl (by kernel_rfl) (by kernel_rfl) (by kernel_rfl)
      (OpenSpec.preRow_of_cond 8 hx (by kernel_rfl) (fun k hk => by cases hk) (by kernel_rfl) (makes_laid os))) (fun _ h => globs h) (makes_at H enc)
end Go.Proofs.YtkjokjogdehonaaGreatDoor.Am.Q
