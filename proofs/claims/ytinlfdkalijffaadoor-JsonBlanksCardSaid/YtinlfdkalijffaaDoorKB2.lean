/- Part KB2 of a claim's texts, joined: what the claim needs of them. -/
import Derived.Test.YtinlfdkalijffaaDoorKB1
set_option linter.unusedSimpArgs false
set_option linter.unusedVariables false
namespace Go.Proofs.YtinlfdkalijffaaDoor.Am.Q
open Go Go.Proofs Go.Proofs.YtinlfdkalijffaaDoor.Am
theorem call_either {P : Program} {xf : FuncId → Nat} {G : Nat → Option (List AV)} (hX : XfOk P xf) (hm : P.follows .mixedOrders = true) {f : FuncId} {fn : Func} {q : AFn} (hfn : P.funcs[f]? = some fn) (hok : fnOk P xf G fn q = true)
    {args : List AV} {m : Mem} {R : Rs → Mem → Prop} (hl : args.length = q.nparams) (h : wc (CallSound P G) q.body (endsIn q.results (fun v m' => R (.ret v) m') (fun v m' => R (.raise v) m')) (args ++ List.replicate (q.nslots - q.nparams) .u) m) :
    ∃ r m', CallSound P G f args m r m' ∧ R r m' := by
  obtain ⟨e, fr', m1, k1, k2⟩ := wc_sound h
  cases e with
  | normal => obtain ⟨vs, l1, k⟩ := k2; exact ⟨_, _, call_ret hX hm (fun _ _ _ _ _ h => h) hfn hok hl k1 (.inl rfl) l1, k⟩
  | ret => obtain ⟨vs, l1, k⟩ := k2; exact ⟨_, _, call_ret hX hm (fun _ _ _ _ _ h => h) hfn hok hl k1 (.inr rfl) l1, k⟩
  | pan v => exact ⟨_, _, call_pan hX hm (fun _ _ _ _ _ h => h) hfn hok hl k1, k2⟩
  | exit id => exact k2.elim
abbrev PP (s : List UInt8) (i : Nat) (left : Int) : AObj := .cells 48 [.str s, .int .i64 i, .int .i64 left]
abbrev STOP (w : Int) (k : Nat) : AV := .iface 74 (.agg [.int .i64 w, .int .i64 k])
theorem indexB_find {c : UInt8} : ∀ {l : List UInt8}, indexB c l = match l.findIdx? (· == c) with | some k => (k : Int) | none => -1
  | [] => rfl
  | b :: l => by
    have := indexB_find (c := c) (l := l)
    simp only [indexB, List.findIdx?_cons]
    by_cases h : b = c
    · rw [if_pos h]; simp [h]
    · rw [if_neg h, show (b == c) = false by simp [h]]
      cases hf : l.findIdx? (· == c) with
      | none => rw [hf] at this; rw [this]; simp
      | some k =>
        rw [hf] at this
        dsimp only at this
        rw [this, if_neg (Int.not_lt.2 (Int.natCast_nonneg k))]
        simp only [Bool.false_eq_true, if_false, Option.map_some]
        exact (Int.natCast_succ k).symm
theorem index_byte_ok (l : List UInt8) (c : UInt8) (m : Mem) : CS 67 [.str l, .int .u8 c.toNat] m (.ret (.int .i64 (indexB c l))) m := by
  have h85 : CS 85 [.str l, .int .u8 c.toNat] m (.ret (.int .i64 (indexB c l))) m := by
    refine call_by xfok mixed q85at q85ok rfl ?_
    have e : idxByteV (.str l) (.int .u8 c.toNat) = some (.int .i64 (indexB c l)) := by simp [idxByteV]
    simp only [go_sem, reduceIte, Nat.reduceEqDiff, Nat.reduceAdd, q85, q85r0, q85r1, e]
  refine call_by xfok mixed q67at q67ok rfl ?_
  simp only [go_sem, reduceIte, Nat.reduceEqDiff, Nat.reduceAdd, q67, q67r0, q67r1]
  refine callW_ret h85 ?_
  simp only [go_sem, reduceIte, Nat.reduceEqDiff, Nat.reduceAdd]
theorem idx_mem {c : UInt8} {l : List UInt8} : decide (indexB c l ≥ 0) = decide (c ∈ l) := by
  rw [indexB_find]
  cases hf : l.findIdx? (· == c) with
  | none =>
    have := List.findIdx?_eq_none_iff.1 hf
    rw [show decide ((-1 : Int) ≥ 0) = false from rfl, dF]
    intro hc; have := this c hc; simp at this
  | some k =>
    rw [show decide ((k : Int) ≥ 0) = true from dT (by omega), dT]
    have := List.findIdx?_eq_some_iff_getElem.1 hf
    obtain ⟨h, h1, _⟩ := this
    have e : l[k] = c := by simpa using h1
    rw [← e]; exact List.getElem_mem h
theorem blk_mem {c : UInt8} : decide (c ∈ ([9, 10, 13, 32] : List UInt8)) = isBlk c := by
  rw [Bool.eq_iff_iff, decide_eq_true_eq, isBlk_iff]
  simp only [List.mem_cons, List.not_mem_nil, or_false]
  have e : ∀ k : UInt8, c = k ↔ c.toNat = k.toNat := fun k => ⟨fun h => by rw [h], fun h => UInt8.toNat_inj.1 h⟩
  rw [e, e, e, e]; rfl
theorem pfail_ok (p : Nat) (e : Int) (j : Nat) (m : Mem) : CS 42 [.ptr p 0, .int .i64 e, .int .i64 j] m (.raise (STOP e j)) m := by
  refine call_by_pan xfok mixed q42at q42ok rfl ?_
  simp only [go_sem, reduceIte, Nat.reduceEqDiff, Nat.reduceAdd, q42, q42r0]
theorem pblank {p : Nat} {s : List UInt8} {left : Int} {Q : AExit → List AV → Mem → Prop} (hs : s.length < 2 ^ 61) :
    ∀ (n i : Nat) (M : Mem) (g1 : AV), M.get p = PP s i left → runN isBlk (s.drop i) = n → (∀ g1, Q (.exit 0) [.ptr p 0, g1] (M.set p (PP s (i + n) left))) → wl CS [1] q41l2 Q [.ptr p 0, g1] M := by
  intro n
  induction n with
  | zero =>
    intro i M g1 hp hn hq
    refine wl_step ?_
    rw [set_self (by simpa using hp)] at hq
    cases hc : s[i]? with
    | none =>
      have h1 := List.getElem?_eq_none_iff.1 hc
      have e1 : decide ((i : Int) < (s.length : Nat)) = false := dF (by omega)
      simp only [go_sem, reduceIte, Nat.reduceEqDiff, Nat.reduceAdd, q41l2, q41r0, hp, e1]
      exact hq _
    | some c =>
      have h1 := (List.getElem?_eq_some_iff.1 hc).1
      have e1 : decide ((i : Int) < (s.length : Nat)) = true := dT (by omega)
      rw [drop_at hc, runN_cons] at hn
      have hb : isBlk c = false := by
        cases h : isBlk c with
        | true => rw [h, if_pos rfl] at hn; omega
        | false => rfl
      simp only [go_sem, reduceIte, Nat.reduceEqDiff, Nat.reduceAdd, q41l2, q41r0, hp, e1, idxS_at hc]
      refine callW_ret (index_byte_ok _ c M) ?_
      simp only [go_sem, reduceIte, Nat.reduceEqDiff, Nat.reduceAdd, idx_mem, blk_mem, hb]
      exact hq _
  | succ n ih =>
    intro i M g1 hp hn hq
    refine wl_step ?_
    have hi : i < s.length := by
      have := runN_le (p := isBlk) (s := s.drop i)
      simp at this; omega
    have hc : s[i]? = some s[i] := List.getElem?_eq_getElem hi
    have e1 : decide ((i : Int) < (s.length : Nat)) = true := dT (by omega)
    rw [drop_at hc, runN_cons] at hn
    have hb : isBlk s[i] = true := by
      cases h : isBlk s[i] with
      | true => rfl
      | false => rw [h] at hn; simp at hn
    rw [if_pos hb] at hn
    have hw := wrap_succ (i := i) (by omega)
    simp only [go_sem, reduceIte, Nat.reduceEqDiff, Nat.reduceAdd, q41l2, q41r0, hp, e1, idxS_at hc]
    refine callW_ret (index_byte_ok _ _ M) ?_
    simp only [go_sem, reduceIte, Nat.reduceEqDiff, Nat.reduceAdd, idx_mem, blk_mem, hb, q41r1, hp, hw]
    refine ih (i + 1) _ _ get_set_same (by omega) (fun g1 => ?_)
    rw [set_set, show i + 1 + n = i + (n + 1) by omega]
    exact hq _
theorem pskip_ok {m : Mem} {p : Nat} {s : List UInt8} {i : Nat} {left : Int} (hs : s.length < 2 ^ 61) (hp : m.get p = PP s i left) : CS 41 [.ptr p 0] m (.ret (.tup [])) (m.set p (PP s (skipN s i) left)) := by
  refine call_by xfok mixed q41at q41ok rfl ?_
  simp only [go_sem, reduceIte, Nat.reduceEqDiff, Nat.reduceAdd, q41]
  refine pblank hs (runN isBlk (s.drop i)) i m _ hp rfl (fun g1 => ?_)
  simp only [go_sem, reduceIte, Nat.reduceEqDiff, Nat.reduceAdd]
  rfl
theorem ppeek_ok {m : Mem} {p : Nat} {s : List UInt8} {i : Nat} {left : Int} {c : UInt8} (hp : m.get p = PP s i left) (hc : s[i]? = some c) : CS 77 [.ptr p 0] m (.ret (.int .u8 c.toNat)) m := by
  refine call_by xfok mixed q77at q77ok rfl ?_
  have h1 := (List.getElem?_eq_some_iff.1 hc).1
  have e1 : decide ((i : Int) ≥ (s.length : Nat)) = false := dF (by omega)
  simp only [go_sem, reduceIte, Nat.reduceEqDiff, Nat.reduceAdd, q77, q77r0, q77r1, hp, e1, q77r3, idxS_at hc]
theorem ppeek_no {m : Mem} {p : Nat} {s : List UInt8} {i : Nat} {left : Int} (hp : m.get p = PP s i left) (hc : s[i]? = none) : CS 77 [.ptr p 0] m (.raise (STOP 4 s.length)) m := by
  refine call_by_pan xfok mixed q77at q77ok rfl ?_
  have h1 := List.getElem?_eq_none_iff.1 hc
  have e1 : decide ((i : Int) ≥ (s.length : Nat)) = true := dT (by omega)
  simp only [go_sem, reduceIte, Nat.reduceEqDiff, Nat.reduceAdd, q77, q77r0, q77r1, hp, e1, q77r2]
  refine callW_raise (pfail_ok p 4 s.length m) ?_
  simp only [go_sem, reduceIte, Nat.reduceEqDiff, Nat.reduceAdd]
def pnextR (s : List UInt8) (i : Nat) : Rs :=
  match nxt s i with
  | .ok (_, c) => .ret (.int .u8 c.toNat)
  | .error (w, k) => .raise (STOP w k)
theorem pnext_ok {m : Mem} {p : Nat} {s : List UInt8} {i : Nat} {left : Int} (hs : s.length < 2 ^ 61) (hp : m.get p = PP s i left) : CS 60 [.ptr p 0] m (pnextR s i) (m.set p (PP s (skipN s i) left)) := by
  cases hc : s[skipN s i]? with
  | some c =>
    simp only [pnextR, nxt_some hc]
    refine call_by xfok mixed q60at q60ok rfl ?_
    simp only [go_sem, reduceIte, Nat.reduceEqDiff, Nat.reduceAdd, q60, q60r0, q60r1]
    refine callW_ret (pskip_ok hs hp) ?_
    simp only [go_sem, reduceIte, Nat.reduceEqDiff, Nat.reduceAdd, q60r2]
    refine callW_ret (ppeek_ok get_set_same hc) ?_
    simp only [go_sem, reduceIte, Nat.reduceEqDiff, Nat.reduceAdd]
  | none =>
    simp only [pnextR, nxt_none hc]
    refine call_by_pan xfok mixed q60at q60ok rfl ?_
    simp only [go_sem, reduceIte, Nat.reduceEqDiff, Nat.reduceAdd, q60, q60r0, q60r1]
    refine callW_ret (pskip_ok hs hp) ?_
    simp only [go_sem, reduceIte, Nat.reduceEqDiff, Nat.reduceAdd, q60r2]
    refine callW_raise (ppeek_no get_set_same hc) ?_
    simp only [go_sem, reduceIte, Nat.reduceEqDiff, Nat.reduceAdd]
end Go.Proofs.YtinlfdkalijffaaDoor.Am.Q
namespace Go.Proofs.YtinlfdkalijffaaDoor.Am.Q
open Go Go.Proofs Go.Proofs.YtinlfdkalijffaaDoor.Am
def flatLL : List AV → Bool
  | [] => true
  | a :: l => flatV a && flatLL l
def flat2 : AV → Bool
  | .tup cs => flatLL cs
  | a => flatV a
theorem flatLL_at : ∀ {cs : List AV}, flatLL cs = true → ∀ i, i < cs.length → flatV (cs.getD i .u) = true
  | a :: l, h, 0, _ => by simp only [flatLL, Bool.and_eq_true] at h; exact h.1
  | a :: l, h, i + 1, hi => by
    simp only [flatLL, Bool.and_eq_true] at h
    exact flatLL_at h.2 i (by simpa using hi)
  | [], _, i, hi => absurd hi (by simp)
theorem flat2_rep {C C' : Cx} {a : AV} {v : Value} (h : flat2 a = true) (hr : Rep C a v) : Rep C' a v := by
  cases hr with
  | tup cs vs h1 h2 => exact .tup cs vs h1 fun i hi => flatV_rep (flatLL_at h i hi) (h2 i hi)
  | u v => simp [flat2, flatV, flat1] at h
  | agg cs vs h1 h2 => exact flatV_rep (a := .agg cs) h (.agg cs vs h1 h2)
  | bool b => exact .bool _
  | int k n => exact .int _ _
  | str l s e => exact .str _ _ e
  | nilSl => exact .nilSl
  | nilPtr => exact .nilPtr
  | nilMap => exact .nilMap
  | nilFn => exact .nilFn
  | nilIface => exact .nilIface
  | _ => simp [flat2, flatV, flat1] at h
theorem call_alone2 {f : FuncId} {args : List AV} {v : AV} {m1 : Mem} (h : CS f args m0 (.ret v) m1) (ha : ∀ a ∈ args, Closed a) (hv : flat2 v = true) (m : Mem) : CS f args m (.ret v) m := by
  intro w0 C w argsV hI hargs
  obtain ⟨k1, k2⟩ := h w C.still w argsV (hI.still gflat) (listRep_still hargs ha)
  refine ⟨k1, k2.mono fun e w' hp => ?_⟩
  obtain ⟨C', _, p2, p3⟩ := hp
  refine ⟨C, .refl C, hI.later p2.below, ?_⟩
  cases e with
  | returned cv => exact flat2_rep hv p3
  | panicked _ => exact p3
  | outgrown => exact p3
def setOf (p : Nat → Bool) : List AV := (List.range 256).map fun n => .bool (p n)
def digP (n : Nat) : Bool := isDigN n
def sgnP (n : Nat) : Bool := decide (n = 43) || decide (n = 45)
theorem make_dig (m : Mem) : CS 96 [.str [48, 49, 50, 51, 52, 53, 54, 55, 56, 57]] m (.ret (.tup [.agg (setOf digP), .bool true])) m := by
  have hr : retsV (run fT 20000 (.call 96 [.str [48, 49, 50, 51, 52, 53, 54, 55, 56, 57]]) m0) (.tup [.agg (setOf digP), .bool true]) = true := by kernel_rfl
  obtain ⟨m', h⟩ := retsV_iff hr
  exact call_alone2 (run_sound xfok mixed fTok h) (fun a ha => by simp only [List.mem_singleton] at ha; subst ha; exact .str) (by kernel_rfl) m
theorem make_sgn (m : Mem) : CS 96 [.str [43, 45]] m (.ret (.tup [.agg (setOf sgnP), .bool true])) m := by
  have hr : retsV (run fT 20000 (.call 96 [.str [43, 45]]) m0) (.tup [.agg (setOf sgnP), .bool true]) = true := by kernel_rfl
  obtain ⟨m', h⟩ := retsV_iff hr
  exact call_alone2 (run_sound xfok mixed fTok h) (fun a ha => by simp only [List.mem_singleton] at ha; subst ha; exact .str) (by kernel_rfl) m
theorem setOf_at {p : Nat → Bool} (c : UInt8) : (setOf p)[c.toNat]? = some (.bool (p c.toNat)) := by
  have := c.toNat_lt
  simp [setOf, this]
theorem setOf_len {p : Nat → Bool} : (setOf p).length = 256 := by simp [setOf]
theorem setOf_scal {p : Nat → Bool} : (setOf p).all scal = true := by
  rw [List.all_eq_true]; intro x hx
  obtain ⟨n, _, rfl⟩ := List.mem_map.1 hx
  rfl
theorem has_byte {m : Mem} {q : Nat} {t : TypeId} {p : Nat → Bool} (h : m.get q = .cells t (setOf p)) (c : UInt8) : CS 104 [.ptr q 0, .int .u8 c.toNat] m (.ret (.bool (p c.toNat))) m := by
  refine call_by xfok mixed q104at q104ok rfl ?_
  have e : idxAddrAV 256 1 (.ptr q 0) (.int .u8 c.toNat) = some (.ptr q c.toNat) := by
    have := c.toNat_lt
    simp only [idxAddrAV]; rw [if_pos (by omega)]; simp
  simp only [go_sem, reduceIte, Nat.reduceEqDiff, Nat.reduceAdd, q104, q104r0, q104r1, e, h, setOf_at]
theorem trim_loop {m : Mem} {q : Nat} {t : TypeId} {p : Nat → Bool} (h : m.get q = .cells t (setOf p)) {s0 : List UInt8} {Q : AExit → List AV → Mem → Prop} (hx : ∀ g2 g3 g4, Q (.exit 0) [.str (s0.dropWhile fun c => p c.toNat), .ptr q 0, g2, g3, g4] m) :
    ∀ (s : List UInt8) (g2 g3 g4 : AV), s0.dropWhile (fun c => p c.toNat) = s.dropWhile (fun c => p c.toNat) → s.length < 2 ^ 61 → wl CS [2, 3, 4] q97l4 Q [.str s, .ptr q 0, g2, g3, g4] m := by
  intro s
  induction s with
  | nil =>
    intro g2 g3 g4 he hs
    refine wl_step ?_
    have e1 : decide ((([] : List UInt8).length : Int) > 0) = false := by decide
    rw [he] at hx
    simp only [go_sem, reduceIte, Nat.reduceEqDiff, Nat.reduceAdd, q97l4, q97r1, e1]
    exact hx _ _ _
  | cons c r ih =>
    intro g2 g3 g4 he hs
    refine wl_step ?_
    have e1 : decide (((c :: r).length : Int) > 0) = true := dT (by simp only [List.length_cons]; omega)
    simp only [go_sem, reduceIte, Nat.reduceEqDiff, Nat.reduceAdd, q97l4, q97r1, e1, q97r2, idx_0]
    refine callW_ret (has_byte h c) ?_
    rw [List.dropWhile_cons] at he
    cases hp : p c.toNat with
    | true =>
      rw [hp, if_pos rfl] at he
      simp only [go_sem, reduceIte, Nat.reduceEqDiff, Nat.reduceAdd, q97r3, slice_1]
      exact ih _ _ _ he (by simp at hs; omega)
    | false =>
      rw [hp] at he
      simp only [Bool.false_eq_true, if_false] at he
      rw [he] at hx
      simp only [go_sem, reduceIte, Nat.reduceEqDiff, Nat.reduceAdd]
      exact hx _ _ _
theorem trim_ascii {m : Mem} {q : Nat} {t : TypeId} {p : Nat → Bool} (h : m.get q = .cells t (setOf p)) {s : List UInt8} (hs : s.length < 2 ^ 61) : CS 97 [.str s, .ptr q 0] m (.ret (.str (s.dropWhile fun c => p c.toNat))) m := by
  refine call_by xfok mixed q97at q97ok rfl ?_
  simp only [go_sem, reduceIte, Nat.reduceEqDiff, Nat.reduceAdd, q97, q97r0]
  refine trim_loop h (s0 := s) (fun g2 g3 g4 => ?_) s _ _ _ rfl hs
  simp only [go_sem, reduceIte, Nat.reduceEqDiff, Nat.reduceAdd, q97r5]
def zset : List AV := List.replicate 256 (.bool false)
theorem q84r5_eq : q84r5 = { ops := [(.move (.var 1), none), (.call 96 [(.loc 0)], none), (.move (.loc 0), none), (.extract 0 (.loc 0), none), (.extract 1 (.loc 1), none), (.alloc 116 zset, none), (.store 256 (.loc 0) (.loc 2), none), (.move (.loc 2), none)], exp := [(3, (.loc 2)), (4, (.loc 0))] } := by kernel_rfl
theorem setL_full : ∀ {cs ys : List AV}, cs.length = ys.length → setL cs 0 ys = ys
  | [], [], _ => rfl
  | c :: cs, y :: ys, h => by rw [setL_0, setL_full (by simpa using h)]
  | [], _ :: _, h => by simp at h
  | _ :: _, [], h => by simp at h
theorem store_set {m : Mem} {p : Nat → Bool} : storeO ((m.alloc (.cells 116 zset)).get m.next) (m.alloc (.cells 116 zset)) m.next 256 0 (.agg (setOf p)) = some ((m.alloc (.cells 116 zset)).set m.next (.cells 116 (setOf p))) := by
  have hz : zset.length = 256 := List.length_replicate
  rw [get_new, storeO_cells, cells_agg, fitsB_of (by rw [hz]; omega), lenB_iff.2 setOf_len, ← all_scal, setOf_scal]
  show storeG true _ _ _ _ _ _ = _
  rw [storeG_true, setL_full (by rw [setOf_len, hz])]
theorem trim_by {cut : List UInt8} {p : Nat → Bool} (hc : 2 ≤ cut.length ∧ cut.length < 2 ^ 61) (hmk : ∀ m, CS 96 [.str cut] m (.ret (.tup [.agg (setOf p), .bool true])) m) {s : List UInt8} (hs : s.length < 2 ^ 61) (m : Mem) :
    CS 84 [.str s, .str cut] m (.ret (.str (s.dropWhile fun c => p c.toNat))) m := by
  have key : ∃ v m', CS 84 [.str s, .str cut] m0 (.ret v) m' ∧ v = .str (s.dropWhile fun c => p c.toNat) := by
    refine call_some (R := fun v _ => v = .str (s.dropWhile fun c => p c.toNat)) xfok mixed q84at q84ok rfl ?_
    cases s with
    | nil =>
      simp only [go_sem, reduceIte, Nat.reduceEqDiff, Nat.reduceAdd, q84, q84r0, q84r1, nil_eq, q84r2]
      rfl
    | cons c r =>
      have e1 : (cut == ([] : List UInt8)) = false := by cases cut <;> simp at hc ⊢
      have e2 : ((cut.length : Int) == 1) = false := bqF (by omega)
      simp only [go_sem, reduceIte, Nat.reduceEqDiff, Nat.reduceAdd, q84, q84r0, q84r1, eq_nil, e1, q84r3, e2]
      rw [q84r5_eq]
      simp only [go_sem, reduceIte, Nat.reduceEqDiff, Nat.reduceAdd]
      refine callW_ret (hmk _) ?_
      simp only [go_sem, reduceIte, Nat.reduceEqDiff, Nat.reduceAdd, store_set, q84r6, q84r7]
      refine callW_ret (trim_ascii (p := p) get_set_same hs) ?_
      simp only [go_sem, reduceIte, Nat.reduceEqDiff, Nat.reduceAdd]
  obtain ⟨v, m', h, rfl⟩ := key
  exact call_alone gflat h (fun a ha => by
    simp only [List.mem_cons, List.not_mem_nil, or_false] at ha
    rcases ha with rfl | rfl <;> exact .str) rfl m
theorem drop_runN {p : UInt8 → Bool} : ∀ {l : List UInt8}, (l.dropWhile p).length = l.length - runN p l ∧ runN p l ≤ l.length
  | [] => by simp [runN_nil]
  | c :: r => by
    have := drop_runN (p := p) (l := r)
    rw [runN_cons, List.dropWhile_cons]
    split
    · simp only [List.length_cons]; omega
    · simp
theorem prun_ok {s : List UInt8} (hs : s.length < 2 ^ 61) (m : Mem) : CS 82 [.str s] m (.ret (.int .i64 (runN isDig s))) m := by
  refine call_by xfok mixed q82at q82ok rfl ?_
  have h1 := drop_runN (p := isDig) (l := s)
  have e : (s.dropWhile fun c => digP c.toNat) = s.dropWhile isDig := rfl
  have hw : IntKind.i64.wrap ((s.length : Int) - ((s.dropWhile isDig).length : Nat)) = ((runN isDig s : Nat) : Int) := by rw [wrap_i64 (by omega)]; omega
  simp only [go_sem, reduceIte, Nat.reduceEqDiff, Nat.reduceAdd, q82, q82r0, q82r1]
  refine callW_ret (trim_by (p := digP) (by simp) make_dig hs m) ?_
  simp only [go_sem, reduceIte, Nat.reduceEqDiff, Nat.reduceAdd, e, hw]
theorem has_prefix {s t : List UInt8} (m : Mem) : CS 59 [.str s, .str t] m (.ret (.bool (decide (t.length ≤ s.length) && (s.take t.length == t)))) m := by
  refine call_by xfok mixed q59at q59ok rfl ?_
  by_cases h : t.length ≤ s.length
  · have e1 : decide ((s.length : Int) ≥ (t.length : Nat)) = true := dT (by omega)
    simp only [go_sem, reduceIte, Nat.reduceEqDiff, Nat.reduceAdd, q59, q59r0, q59r1, e1, slice_to h, dT h]
  · have e1 : decide ((s.length : Int) ≥ (t.length : Nat)) = false := dF (by omega)
    simp only [go_sem, reduceIte, Nat.reduceEqDiff, Nat.reduceAdd, q59, q59r0, q59r1, e1, dF h]
    rfl
theorem prefix1 {s : List UInt8} {b : UInt8} : (decide (([b] : List UInt8).length ≤ s.length) && (s.take ([b] : List UInt8).length == [b])) = decide (s.head? = some b) := by
  cases s with
  | nil => rfl
  | cons c r =>
    simp only [List.length_singleton, List.length_cons, List.take_succ_cons, List.take_zero, List.head?_cons]
    rw [dT (by simp), Bool.true_and, Bool.eq_iff_iff]
    simp
theorem trim_prefix1 {s : List UInt8} {b : UInt8} (m : Mem) : CS 81 [.str s, .str [b]] m (.ret (.str (if s.head? = some b then s.tail else s))) m := by
  have h93 : CS 93 [.str s, .str [b]] m (.ret (.str (if s.head? = some b then s.tail else s))) m := by
    refine call_by xfok mixed q93at q93ok rfl ?_
    simp only [go_sem, reduceIte, Nat.reduceEqDiff, Nat.reduceAdd, q93, q93r0, q93r1]
    refine callW_ret (has_prefix m) ?_
    rw [prefix1]
    by_cases h : s.head? = some b
    · cases s with
      | nil => simp at h
      | cons c r =>
        have hsl : sliceStr (.str (c :: r)) (some (.int .i64 (([b] : List UInt8).length : Nat))) none = some (.str r) := by
          have := slice_from (s := c :: r) (kk := .i64) (k := 1) (by simp)
          simpa using this
        simp only [go_sem, reduceIte, Nat.reduceEqDiff, Nat.reduceAdd, dT h, q93r2, hsl]
        rw [if_pos h]; rfl
    · simp only [go_sem, reduceIte, Nat.reduceEqDiff, Nat.reduceAdd, dF h, q93r3]
      rw [if_neg h]
  refine call_by xfok mixed q81at q81ok rfl ?_
  simp only [go_sem, reduceIte, Nat.reduceEqDiff, Nat.reduceAdd, q81, q81r0, q81r1]
  refine callW_ret h93 ?_
  simp only [go_sem, reduceIte, Nat.reduceEqDiff, Nat.reduceAdd]
theorem cut_prefix1 {s : List UInt8} {b : UInt8} (m : Mem) : CS 83 [.str s, .str [b]] m (.ret (.tup [.str (if s.head? = some b then s.tail else s), .bool (decide (s.head? = some b))])) m := by
  have h94 : CS 94 [.str s, .str [b]] m (.ret (.tup [.str (if s.head? = some b then s.tail else s), .bool (decide (s.head? = some b))])) m := by
    refine call_by xfok mixed q94at q94ok rfl ?_
    simp only [go_sem, reduceIte, Nat.reduceEqDiff, Nat.reduceAdd, q94, q94r0, q94r1]
    refine callW_ret (has_prefix m) ?_
    rw [prefix1]
    by_cases h : s.head? = some b
    · cases s with
      | nil => simp at h
      | cons c r =>
        have hsl : sliceStr (.str (c :: r)) (some (.int .i64 (([b] : List UInt8).length : Nat))) none = some (.str r) := by
          have := slice_from (s := c :: r) (kk := .i64) (k := 1) (by simp)
          simpa using this
        simp only [go_sem, reduceIte, Nat.reduceEqDiff, Nat.reduceAdd, dT h, q94r3, hsl]
        rw [if_pos h]; rfl
    · simp only [go_sem, reduceIte, Nat.reduceEqDiff, Nat.reduceAdd, dF h, q94r2]
      rw [if_neg h]
  refine call_by xfok mixed q83at q83ok rfl ?_
  simp only [go_sem, reduceIte, Nat.reduceEqDiff, Nat.reduceAdd, q83, q83r0, q83r1]
  refine callW_ret h94 ?_
  simp only [go_sem, reduceIte, Nat.reduceEqDiff, Nat.reduceAdd]
end Go.Proofs.YtinlfdkalijffaaDoor.Am.Q
namespace Go.Proofs.YtinlfdkalijffaaDoor.Am.Q
open Go Go.Proofs Go.Proofs.YtinlfdkalijffaaDoor.Am
def t66c : ACode := (.seq (.seq (.region q66r12) (.cond (.var 11) (.seq (.region q66r13) .ret) .skip)) (.seq (.region q66r14) (.seq (.region q66r15) (.seq (.region q66r16) .ret))))
def t66b : ACode := (.seq (.seq (.region q66r6) (.seq (.region q66r7) (.cond (.var 9) (.seq (.region q66r8) (.seq (.seq (.region q66r9) (.cond (.var 10) (.seq (.region q66r10) .ret) .skip)) (.region q66r11))) .skip))) t66c)
theorem q66_body : q66.body = (.seq (.region q66r0) (.seq (.region q66r1) (.seq (.region q66r2) (.seq (.seq (.region q66r3) (.cond (.var 8) (.seq (.region q66r4) .ret) .skip)) (.seq (.region q66r5) t66b))))) := rfl
theorem minV_of {k : IntKind} {x y : Int} : minV (.int k x) (.int k y) = some (.int k (if y < x then y else x)) := rfl
section
variable {m : Mem} {Q : AExit → List AV → Mem → Prop} {b : Bool}
theorem pnum_c {s : List UInt8} (hs : s.length < 2 ^ 60) (hb : b = expS s) {g1 g2 g3 g4 g5 g6 g7 g8 g9 g10 g11 : AV} (hq : ∀ g0 g2 g3 g4 g5 g6 g7 g8 g9 g10 g11, Q .ret [g0, .bool b, g2, g3, g4, g5, g6, g7, g8, g9, g10, g11] m) :
    wc CS t66c Q [.str s, g1, g2, g3, g4, g5, g6, g7, g8, g9, g10, g11] m := by
  cases s with
  | nil =>
    obtain rfl : b = true := hb
    simp only [go_sem, reduceIte, Nat.reduceEqDiff, Nat.reduceAdd, t66c, q66r12, nil_eq, q66r13]
    exact hq _ _ _ _ _ _ _ _ _ _ _
  | cons c r =>
    -- behind the rest
    have last : ∀ (R : List UInt8), R.length < 2 ^ 61 → b = ((decide (c.toNat = 101) || decide (c.toNat = 69)) && (decide (R ≠ []) && decide (runN isDig R = R.length))) → ∀ (g1 g2 g3 g4 g5 g6 g8 g9 g10 g11 : AV), wc CS (.seq (.region q66r16) .ret) Q [.str (c :: r), g1, g2, g3, g4, g5, g6, .str R, g8, g9, g10, g11] m := by
      intro R hR hbR g1 g2 g3 g4 g5 g6 g8 g9 g10 g11
      by_cases he : c.toNat = 101 ∨ c.toNat = 69
      · have hh : (decide (c.toNat = 101) || decide (c.toNat = 69)) = true := by simpa using he
        rw [hh, Bool.true_and] at hbR
        have tail : ∀ x, x = true → ((x = true) → True) := fun _ _ _ => trivial
        cases R with
        | nil =>
          obtain rfl : b = false := hbR
          by_cases h1 : c.toNat = 101
          · have a1 : ((c.toNat : Int) == 101) = true := bqT (by omega)
            simp only [go_sem, reduceIte, Nat.reduceEqDiff, Nat.reduceAdd, q66r16, idx_0, a1, nil_eq]
            exact hq _ _ _ _ _ _ _ _ _ _ _
          · have a1 : ((c.toNat : Int) == 101) = false := bqF (by omega)
            have a2 : ((c.toNat : Int) == 69) = true := bqT (by omega)
            simp only [go_sem, reduceIte, Nat.reduceEqDiff, Nat.reduceAdd, q66r16, idx_0, a1, a2, nil_eq]
            exact hq _ _ _ _ _ _ _ _ _ _ _
        | cons d q =>
          have e2 : decide (d :: q ≠ []) = true := dT (by simp)
          rw [e2, Bool.true_and] at hbR
          have e : (((runN isDig (d :: q) : Nat) : Int) == ((d :: q).length : Nat)) = b := by
            rw [hbR, Bool.eq_iff_iff]; simp only [beq_iff_eq, decide_eq_true_eq]; omega
          by_cases h1 : c.toNat = 101
          · have a1 : ((c.toNat : Int) == 101) = true := bqT (by omega)
            simp only [go_sem, reduceIte, Nat.reduceEqDiff, Nat.reduceAdd, q66r16, idx_0, a1, neq_nil]
            refine callW_ret (prun_ok hR m) ?_
            simp only [go_sem, reduceIte, Nat.reduceEqDiff, Nat.reduceAdd, e]
            exact hq _ _ _ _ _ _ _ _ _ _ _
          · have a1 : ((c.toNat : Int) == 101) = false := bqF (by omega)
            have a2 : ((c.toNat : Int) == 69) = true := bqT (by omega)
            simp only [go_sem, reduceIte, Nat.reduceEqDiff, Nat.reduceAdd, q66r16, idx_0, a1, a2, neq_nil]
            refine callW_ret (prun_ok hR m) ?_
            simp only [go_sem, reduceIte, Nat.reduceEqDiff, Nat.reduceAdd, e]
            exact hq _ _ _ _ _ _ _ _ _ _ _
      · have hh : (decide (c.toNat = 101) || decide (c.toNat = 69)) = false := by
          rw [Bool.or_eq_false_iff]; exact ⟨dF (by omega), dF (by omega)⟩
        rw [hh, Bool.false_and] at hbR
        subst hbR
        have a1 : ((c.toNat : Int) == 101) = false := bqF (by omega)
        have a2 : ((c.toNat : Int) == 69) = false := bqF (by omega)
        simp only [go_sem, reduceIte, Nat.reduceEqDiff, Nat.reduceAdd, q66r16, idx_0, a1, a2]
        exact hq _ _ _ _ _ _ _ _ _ _ _
    cases r with
    | nil =>
      have hm : (if (2 : Int) < (([c] : List UInt8).length : Nat) then (2 : Int) else (([c] : List UInt8).length : Nat)) = 1 := rfl
      have hsl : sliceStr (.str [c]) (some (.int .i64 1)) (some (.int .i64 1)) = some (.str []) := by
        have := slice_from_to (s := [c]) (k1 := .i64) (k2 := .i64) (i := 1) (j := 1) (by omega) (by simp)
        simpa using this
      have hl0 : ([] : List UInt8).length + ([] : List UInt8).length ≤ 2 ^ 62 := by simp
      simp only [go_sem, reduceIte, Nat.reduceEqDiff, Nat.reduceAdd, t66c, q66r12, eq_nil, q66r14, minV_of, hm, hsl]
      refine callW_ret (trim_by (p := sgnP) (cut := [43, 45]) (by simp) make_sgn (s := []) (by simp) m) ?_
      simp only [go_sem, reduceIte, Nat.reduceEqDiff, Nat.reduceAdd, q66r15, minV_of, hm, slice_1, List.dropWhile_nil, hl0]
      rw [← wc_start]
      exact last [] (by simp) (by rw [hb]; simp [expS]) _ _ _ _ _ _ _ _ _ _
    | cons d q =>
      have hm : (if (2 : Int) < ((c :: d :: q).length : Nat) then (2 : Int) else ((c :: d :: q).length : Nat)) = 2 := by
        simp only [List.length_cons]
        by_cases h : (2 : Int) < ((q.length + 1 + 1 : Nat) : Int)
        · rw [if_pos h]
        · rw [if_neg h]; omega
      have hsl : sliceStr (.str (c :: d :: q)) (some (.int .i64 1)) (some (.int .i64 2)) = some (.str [d]) := by
        have := slice_from_to (s := c :: d :: q) (k1 := .i64) (k2 := .i64) (i := 1) (j := 2) (by omega) (by simp)
        simpa using this
      have hs2 : sliceStr (.str (c :: d :: q)) (some (.int .i64 2)) none = some (.str q) := by
        have := slice_from (s := c :: d :: q) (kk := .i64) (k := 2) (by simp)
        simpa using this
      have hql : q.length + 2 < 2 ^ 60 := by simp at hs; omega
      simp only [go_sem, reduceIte, Nat.reduceEqDiff, Nat.reduceAdd, t66c, q66r12, eq_nil, q66r14, minV_of, hm, hsl]
      refine callW_ret (trim_by (p := sgnP) (cut := [43, 45]) (by simp) make_sgn (s := [d]) (by simp) m) ?_
      by_cases hd : d.toNat = 43 ∨ d.toNat = 45
      · have hdw : ([d] : List UInt8).dropWhile (fun c => sgnP c.toNat) = [] := by simp [List.dropWhile_cons, sgnP, hd]
        have hl0 : ([] : List UInt8).length + q.length ≤ 2 ^ 62 := by simp; omega
        rw [hdw]
        simp only [go_sem, reduceIte, Nat.reduceEqDiff, Nat.reduceAdd, q66r15, minV_of, hm, hs2, hl0]
        rw [← wc_start]
        exact last q (by omega) (by rw [hb]; simp [expS, hd]) _ _ _ _ _ _ _ _ _ _
      · have hdw : ([d] : List UInt8).dropWhile (fun c => sgnP c.toNat) = [d] := by
          have : sgnP d.toNat = false := by simp only [sgnP, Bool.or_eq_false_iff]; exact ⟨dF (by omega), dF (by omega)⟩
          simp [List.dropWhile_cons, this]
        have hl0 : ([d] : List UInt8).length + q.length ≤ 2 ^ 62 := by simp; omega
        rw [hdw]
        simp only [go_sem, reduceIte, Nat.reduceEqDiff, Nat.reduceAdd, q66r15, minV_of, hm, hs2, hl0]
        rw [← wc_start]
        exact last (d :: q) (by simp; omega) (by rw [hb]; simp [expS, hd]) _ _ _ _ _ _ _ _ _ _
theorem head_46 {c : UInt8} {r : List UInt8} : ((c :: r).head? = some (46 : UInt8)) ↔ c.toNat = 46 := by
  simp only [List.head?_cons, Option.some.injEq]
  exact ⟨fun h => by rw [h]; rfl, fun h => UInt8.toNat_inj.1 h⟩
theorem head_45 {c : UInt8} {r : List UInt8} : ((c :: r).head? = some (45 : UInt8)) ↔ c.toNat = 45 := by
  simp only [List.head?_cons, Option.some.injEq]
  exact ⟨fun h => by rw [h]; rfl, fun h => UInt8.toNat_inj.1 h⟩
theorem pnum_b {s : List UInt8} (hs : s.length < 2 ^ 60) (hb : b = fracS s) {g1 g2 g3 g4 g5 g6 g7 g8 g9 g10 g11 : AV} (hq : ∀ g0 g2 g3 g4 g5 g6 g7 g8 g9 g10 g11, Q .ret [g0, .bool b, g2, g3, g4, g5, g6, g7, g8, g9, g10, g11] m) :
    wc CS t66b Q [.str s, g1, g2, g3, g4, g5, g6, g7, g8, g9, g10, g11] m := by
  simp only [go_sem, reduceIte, Nat.reduceEqDiff, Nat.reduceAdd, t66b, q66r6]
  refine callW_ret (cut_prefix1 m) ?_
  cases s with
  | nil =>
    have e : decide (([] : List UInt8).head? = some 46) = false := rfl
    simp only [go_sem, reduceIte, Nat.reduceEqDiff, Nat.reduceAdd, e, q66r7]
    exact pnum_c (by simp) hb hq
  | cons c r =>
    by_cases h46 : c.toNat = 46
    · have hh := (head_46 (r := r)).2 h46
      simp only [fracS, if_pos h46] at hb
      rw [dT hh, if_pos hh]
      simp only [go_sem, reduceIte, Nat.reduceEqDiff, Nat.reduceAdd, q66r7, q66r8]
      refine callW_ret (prun_ok (by simp at hs ⊢; omega) m) ?_
      rw [List.tail_cons]
      have hle := runN_le (p := isDig) (s := r)
      by_cases h0 : runN isDig r = 0
      · have a2 : (((runN isDig r : Nat) : Int) == 0) = true := bqT (by omega)
        rw [if_pos h0] at hb
        subst hb
        simp only [go_sem, reduceIte, Nat.reduceEqDiff, Nat.reduceAdd, q66r9, a2, q66r10]
        exact hq _ _ _ _ _ _ _ _ _ _ _
      · have a2 : (((runN isDig r : Nat) : Int) == 0) = false := bqF (by omega)
        rw [if_neg h0] at hb
        have hsl := slice_from (s := r) (kk := .i64) (k := runN isDig r) hle
        simp only [go_sem, reduceIte, Nat.reduceEqDiff, Nat.reduceAdd, q66r9, a2, q66r11, hsl]
        exact pnum_c (by simp at hs ⊢; omega) hb hq
    · have hh : ¬ ((c :: r).head? = some (46 : UInt8)) := fun h => h46 (head_46.1 h)
      simp only [fracS, if_neg h46] at hb
      rw [dF hh, if_neg hh]
      simp only [go_sem, reduceIte, Nat.reduceEqDiff, Nat.reduceAdd, q66r7]
      exact pnum_c hs hb hq
end
theorem pnumber_ok {s : List UInt8} (hs : s.length < 2 ^ 60) (m : Mem) : CS 66 [.str s] m (.ret (.bool (numS s))) m := by
  refine call_by xfok mixed q66at q66ok rfl ?_
  have hq : ∀ g0 g2 g3 g4 g5 g6 g7 g8 g9 g10 g11, endsIn q66.results (fun v' m1 => v' = AV.bool (numS s) ∧ m1 = m) noPan .ret [g0, .bool (numS s), g2, g3, g4, g5, g6, g7, g8, g9, g10, g11] m := by
    intro g0 g2 g3 g4 g5 g6 g7 g8 g9 g10 g11
    simp only [go_sem, reduceIte, Nat.reduceEqDiff, Nat.reduceAdd, q66]
  rw [q66_body]
  show wc CS _ _ [AV.str s, .u, .u, .u, .u, .u, .u, .u, .u, .u, .u, .u] m
  generalize hQ : endsIn q66.results (fun v' m1 => v' = AV.bool (numS s) ∧ m1 = m) noPan = Q at hq
  simp only [go_sem, reduceIte, Nat.reduceEqDiff, Nat.reduceAdd, q66r0, q66r1]
  refine callW_ret (trim_prefix1 m) ?_
  have ht : ∃ t, (if s.head? = some 45 then s.tail else s) = t ∧ t.length < 2 ^ 60 ∧ numS s = absS t := by
    cases s with
    | nil => exact ⟨[], rfl, by simp, rfl⟩
    | cons c r =>
      by_cases h45 : c.toNat = 45
      · exact ⟨r, by rw [if_pos (head_45.2 h45)]; rfl, by simp at hs; omega, by simp [numS, h45]⟩
      · exact ⟨c :: r, by rw [if_neg (fun h => h45 (head_45.1 h))], hs, by simp [numS, h45]⟩
  obtain ⟨t, e, htl, hnum⟩ := ht
  rw [e]
  have hle := runN_le (p := isDig) (s := t)
  simp only [go_sem, reduceIte, Nat.reduceEqDiff, Nat.reduceAdd, q66r2]
  refine callW_ret (prun_ok (by omega) m) ?_
  unfold absS at hnum
  by_cases h0 : runN isDig t = 0
  · have a2 : (((runN isDig t : Nat) : Int) == 0) = true := bqT (by omega)
    rw [if_pos (.inl h0)] at hnum
    rw [hnum] at hq
    simp only [go_sem, reduceIte, Nat.reduceEqDiff, Nat.reduceAdd, q66r3, a2, q66r4]
    exact hq _ _ _ _ _ _ _ _ _ _ _
  · have a2 : (((runN isDig t : Nat) : Int) == 0) = false := bqF (by omega)
    have hsl := slice_from (s := t) (kk := .i64) (k := runN isDig t) hle
    by_cases h1 : 1 < runN isDig t
    · have a3 : decide (((runN isDig t : Nat) : Int) > 1) = true := dT (by omega)
      cases t with
      | nil => simp [runN_nil] at h0
      | cons c r =>
        by_cases h48 : c.toNat = 48
        · have a4 : ((c.toNat : Int) == 48) = true := bqT (by omega)
          have hc : c = 48 := UInt8.toNat_inj.1 h48
          rw [if_pos (.inr ⟨h1, by rw [hc]; rfl⟩)] at hnum
          rw [hnum] at hq
          simp only [go_sem, reduceIte, Nat.reduceEqDiff, Nat.reduceAdd, q66r3, a2, a3, idx_0, a4, q66r4]
          exact hq _ _ _ _ _ _ _ _ _ _ _
        · have a4 : ((c.toNat : Int) == 48) = false := bqF (by omega)
          rw [if_neg (by
            rintro (h | ⟨_, h⟩)
            · exact h0 h
            · simp at h; exact h48 (by rw [h]; rfl))] at hnum
          simp only [go_sem, reduceIte, Nat.reduceEqDiff, Nat.reduceAdd, q66r3, a2, a3, idx_0, a4, q66r5, hsl]
          exact pnum_b (by rw [List.length_drop]; omega) hnum hq
    · have a3 : decide (((runN isDig t : Nat) : Int) > 1) = false := dF (by omega)
      rw [if_neg (by
        rintro (h | ⟨h, _⟩)
        · exact h0 h
        · exact h1 h)] at hnum
      simp only [go_sem, reduceIte, Nat.reduceEqDiff, Nat.reduceAdd, q66r3, a2, a3, q66r5, hsl]
      exact pnum_b (by rw [List.length_drop]; omega) hnum hq
theorem pword_loop {p : Nat} {s of : List UInt8} {P : UInt8 → Bool} (hP : ∀ c, decide (c ∈ of) = P c) {left : Int} {from' : Nat} {Q : AExit → List AV → Mem → Prop} (hs : s.length < 2 ^ 61) :
    ∀ (n i : Nat) (M : Mem) (g2 g4 : AV), M.get p = PP s i left → runN P (s.drop i) = n → (∀ g2 g4, Q (.exit 0) [.ptr p 0, .str of, g2, .int .i64 from', g4] (M.set p (PP s (i + n) left))) → wl CS [2, 4] q65l4 Q [.ptr p 0, .str of, g2, .int .i64 from', g4] M := by
  intro n
  induction n with
  | zero =>
    intro i M g2 g4 hp hn hq
    refine wl_step ?_
    rw [set_self (by simpa using hp)] at hq
    cases hc : s[i]? with
    | none =>
      have h1 := List.getElem?_eq_none_iff.1 hc
      have e1 : decide ((i : Int) < (s.length : Nat)) = false := dF (by omega)
      simp only [go_sem, reduceIte, Nat.reduceEqDiff, Nat.reduceAdd, q65l4, q65r2, hp, e1]
      exact hq _ _
    | some c =>
      have h1 := (List.getElem?_eq_some_iff.1 hc).1
      have e1 : decide ((i : Int) < (s.length : Nat)) = true := dT (by omega)
      rw [drop_at hc, runN_cons] at hn
      have hd : P c = false := by
        cases h : P c with
        | true => rw [h, if_pos rfl] at hn; omega
        | false => rfl
      simp only [go_sem, reduceIte, Nat.reduceEqDiff, Nat.reduceAdd, q65l4, q65r2, hp, e1, idxS_at hc]
      refine callW_ret (index_byte_ok _ c M) ?_
      simp only [go_sem, reduceIte, Nat.reduceEqDiff, Nat.reduceAdd, idx_mem, hP, hd]
      exact hq _ _
  | succ n ih =>
    intro i M g2 g4 hp hn hq
    refine wl_step ?_
    have hlt : i < s.length := by
      have := runN_le (p := P) (s := s.drop i)
      simp at this; omega
    have hc : s[i]? = some s[i] := List.getElem?_eq_getElem hlt
    have e1 : decide ((i : Int) < (s.length : Nat)) = true := dT (by omega)
    rw [drop_at hc, runN_cons] at hn
    have hd : P s[i] = true := by
      cases h : P s[i] with
      | true => rfl
      | false => rw [h] at hn; simp at hn
    rw [if_pos hd] at hn
    have hw := wrap_succ (i := i) (by omega)
    simp only [go_sem, reduceIte, Nat.reduceEqDiff, Nat.reduceAdd, q65l4, q65r2, hp, e1, idxS_at hc]
    refine callW_ret (index_byte_ok _ _ M) ?_
    simp only [go_sem, reduceIte, Nat.reduceEqDiff, Nat.reduceAdd, idx_mem, hP, hd, q65r3, hp, hw]
    refine ih (i + 1) _ _ _ get_set_same (by omega) (fun g2 g4 => ?_)
    rw [set_set, show i + 1 + n = i + (n + 1) by omega]
    exact hq _ _
theorem pword_ok {m : Mem} {p : Nat} {s of : List UInt8} {P : UInt8 → Bool} (hP : ∀ c, decide (c ∈ of) = P c) {i : Nat} {left : Int} (hs : s.length < 2 ^ 61) (hi : i ≤ s.length) (hp : m.get p = PP s i left) :
    CS 65 [.ptr p 0, .str of] m (.ret (.str ((s.drop i).takeWhile P))) (m.set p (PP s (i + runN P (s.drop i)) left)) := by
  refine call_by xfok mixed q65at q65ok rfl ?_
  simp only [go_sem, reduceIte, Nat.reduceEqDiff, Nat.reduceAdd, q65, q65r0, q65r1, hp]
  refine pword_loop hP hs (runN P (s.drop i)) i m _ _ hp rfl (fun g2 g4 => ?_)
  have hle := runN_le (p := P) (s := s.drop i)
  simp only [List.length_drop] at hle
  have hsl := slice_from_to (s := s) (k1 := .i64) (k2 := .i64) (i := i) (j := i + runN P (s.drop i)) (by omega) (by omega)
  rw [List.drop_take, Nat.add_sub_cancel_left, take_runN] at hsl
  simp only [go_sem, reduceIte, Nat.reduceEqDiff, Nat.reduceAdd, q65r5, hsl]
theorem mem_small : ∀ c : UInt8, decide (c ∈ ([97, 98, 99, 100, 101, 102, 103, 104, 105, 106, 107, 108, 109, 110, 111, 112, 113, 114, 115, 116, 117, 118, 119, 120, 121, 122] : List UInt8)) = isSmall c := by
  have : ∀ n : Fin 256, decide (UInt8.ofNat n.val ∈ ([97, 98, 99, 100, 101, 102, 103, 104, 105, 106, 107, 108, 109, 110, 111, 112, 113, 114, 115, 116, 117, 118, 119, 120, 121, 122] : List UInt8)) = isSmall (UInt8.ofNat n.val) := by decide +kernel
  intro c
  have := this ⟨c.toNat, c.toNat_lt⟩
  simpa using this
theorem mem_num : ∀ c : UInt8, decide (c ∈ ([48, 49, 50, 51, 52, 53, 54, 55, 56, 57, 43, 45, 46, 101, 69] : List UInt8)) = isNum c := by
  have : ∀ n : Fin 256, decide (UInt8.ofNat n.val ∈ ([48, 49, 50, 51, 52, 53, 54, 55, 56, 57, 43, 45, 46, 101, 69] : List UInt8)) = isNum (UInt8.ofNat n.val) := by decide +kernel
  intro c
  have := this ⟨c.toNat, c.toNat_lt⟩
  simpa using this
end Go.Proofs.YtinlfdkalijffaaDoor.Am.Q
namespace Go.Proofs.YtinlfdkalijffaaDoor.Am.Q
open Go Go.Proofs Go.Proofs.YtinlfdkalijffaaDoor.Am
theorem shr28 {n : Nat} (h : n < 2 ^ 28) : (n : Int).fdiv (2 ^ min (Int.toNat 28) 32) = 0 := by
  have e : (2 : Int) ^ min (Int.toNat 28) 32 = ((2 ^ 28 : Nat) : Int) := by rfl
  rw [e, Int.fdiv_eq_ediv_of_nonneg _ (by omega)]
  omega
theorem shl4 {n : Nat} (h : n < 2 ^ 28) : IntKind.u32.wrap ((n : Int) * 2 ^ min (Int.toNat 4) 32) = ((n * 16 : Nat) : Int) := by
  have e : (2 : Int) ^ min (Int.toNat 4) 32 = 16 := by rfl
  rw [e]
  simp [IntKind.wrap, IntKind.signed, IntKind.bits]; omega
theorem or4 {n d : Nat} (h : n < 2 ^ 20) (hd : d < 16) : IntKind.u32.wrap ((BitVec.ofInt 32 ((n * 16 : Nat) : Int) ||| BitVec.ofInt 32 (d : Int)).toNat : Int) = ((n * 16 + d : Nat) : Int) := by
  have e : (BitVec.ofInt 32 ((n * 16 : Nat) : Int) ||| BitVec.ofInt 32 (d : Int)).toNat = n * 16 + d := by
    rw [BitVec.toNat_or, BitVec.ofInt_natCast, BitVec.ofInt_natCast, BitVec.toNat_ofNat, BitVec.toNat_ofNat, Nat.mod_eq_of_lt (by omega), Nat.mod_eq_of_lt (by omega)]
    have := Nat.shiftLeft_add_eq_or_of_lt (b := d) (i := 4) (by omega) n
    rw [Nat.shiftLeft_eq] at this
    exact this.symm
  rw [e]
  simp [IntKind.wrap, IntKind.signed, IntKind.bits]; omega
theorem phex_loop {m : Mem} {l : List UInt8} (hl : l.length ≤ 4) {Q : AExit → List AV → Mem → Prop}
    (hx : l.any bad = false → ∀ g1 g2 g5 g6 g7 g8 g10 g11 g12 g13, Q (.exit 0) [.str l, g1, g2, .int .u32 (hexN l), .bool false, g5, g6, g7, g8, .int .i64 l.length, g10, g11, g12, g13] m)
    (hr : l.any bad = true → ∀ g0 g3 g4 g5 g6 g7 g8 g9 g10 g11 g12 g13, Q .ret [g0, .int .u32 0, .int .i64 3, g3, g4, g5, g6, g7, g8, g9, g10, g11, g12, g13] m) :
    ∀ (r k n : Nat) (g1 g2 g5 g6 g7 g8 g11 g12 g13 : AV), r + k = l.length → n < 16 ^ k → l.any bad = (l.drop k).any bad → hexN l = hexA n (l.drop k) →
      wl CS [1, 2, 5, 6, 7, 8, 11, 12, 13] q110l13 Q [.str l, g1, g2, .int .u32 n, .bool false, g5, g6, g7, g8, .int .i64 l.length, .int .i64 k, g11, g12, g13] m := by
  intro r
  induction r with
  | zero =>
    intro k n g1 g2 g5 g6 g7 g8 g11 g12 g13 hk hn hb ht
    refine wl_step ?_
    have e1 : decide ((k : Int) < (l.length : Nat)) = false := dF (by omega)
    rw [List.drop_of_length_le (by omega)] at hb ht
    have hx' := hx (by rw [hb]; rfl)
    rw [ht] at hx'
    simp only [go_sem, reduceIte, Nat.reduceEqDiff, Nat.reduceAdd, q110l13, q110r5, e1]
    exact hx' _ _ _ _ _ _ _ _ _ _
  | succ r ih =>
    intro k n g1 g2 g5 g6 g7 g8 g11 g12 g13 hk hn hb ht
    refine wl_step ?_
    have hkl : k < l.length := by omega
    have e1 : decide ((k : Int) < (l.length : Nat)) = true := dT (by omega)
    have hc : l[k]? = some l[k] := List.getElem?_eq_getElem hkl
    have hw := wrap_succ (i := k) (by omega)
    rw [drop_at hc] at hb ht
    rw [List.any_cons] at hb
    have hp4 : (16 : Nat) ^ k ≤ 16 ^ 3 := Nat.pow_le_pow_right (by omega) (by omega)
    have h28 : ((0 : Int) ≤ 28) = True := by simp
    have h4 : ((0 : Int) ≤ 4) = True := by simp
    have z0 : ((0 : Int) != 0) = false := rfl
    simp only [go_sem, reduceIte, Nat.reduceEqDiff, Nat.reduceAdd, q110l13, q110r5, e1, q110r6, q110r7, idxS_at hc]
    refine callW_ret (pnib_ok _ m) ?_
    cases hbc : bad l[k] with
    | true =>
      have h16 : ¬ nib l[k] < 16 := by have := bad_iff.1 hbc; omega
      rw [hbc, Bool.true_or] at hb
      simp only [go_sem, reduceIte, Nat.reduceEqDiff, Nat.reduceAdd, dF h16, q110r8, q110r9]
      exact hr hb _ _ _ _ _ _ _ _ _ _ _ _
    | false =>
      have h16 : nib l[k] < 16 := by have := bad_not hbc; omega
      rw [hbc, Bool.false_or] at hb
      have s28 := shr28 (n := n) (by omega)
      have s4 := shl4 (n := n) (by omega)
      have o4 := or4 (n := n) (d := nib l[k]) (by omega) h16
      rw [if_pos h16]
      simp only [go_sem, reduceIte, Nat.reduceEqDiff, Nat.reduceAdd, dT h16, q110r8, q110r10, h28, s28, z0, q110r11, h4, s4]
      erw [o4]
      simp only [go_sem, reduceIte, Nat.reduceEqDiff, Nat.reduceAdd, q110r12, hw]
      refine ih (k + 1) (n * 16 + nib l[k]) _ _ _ _ _ _ _ _ _ (by omega) ?_ hb ht
      rw [Nat.pow_succ]; omega
theorem phexs_ok {l : List UInt8} (hl : l.length ≤ 4) (m : Mem) : CS 110 [.str l] m (.ret (.tup [.int .u32 (if l = [] ∨ l.any bad = true then 0 else hexN l : Nat), .int .i64 (if l = [] ∨ l.any bad = true then 3 else 0)])) m := by
  refine call_by xfok mixed q110at q110ok rfl ?_
  cases l with
  | nil =>
    simp only [go_sem, reduceIte, Nat.reduceEqDiff, Nat.reduceAdd, q110, q110r0, q110r1, nil_eq, q110r2]
    rfl
  | cons c r =>
    simp only [go_sem, reduceIte, Nat.reduceEqDiff, Nat.reduceAdd, q110, q110r0, q110r1, eq_nil, q110r3, q110r4]
    refine phex_loop hl (fun h g1 g2 g5 g6 g7 g8 g10 g11 g12 g13 => ?_) (fun h g0 g3 g4 g5 g6 g7 g8 g9 g10 g11 g12 g13 => ?_) (c :: r).length 0 0 _ _ _ _ _ _ _ _ _ (by omega) (by simp) rfl rfl
    · have hn : ¬ (c :: r = [] ∨ (c :: r).any bad = true) := by rw [h]; simp
      rw [if_neg hn, if_neg hn]
      simp only [go_sem, reduceIte, Nat.reduceEqDiff, Nat.reduceAdd, q110r14, q110r16]
    · have hn : (c :: r = [] ∨ (c :: r).any bad = true) := .inr h
      rw [if_pos hn, if_pos hn]
      simp only [go_sem, reduceIte, Nat.reduceEqDiff, Nat.reduceAdd]
      rfl
def phexR (s : List UInt8) (i of : Nat) : Rs :=
  match hex4 s i of with
  | .ok n => .ret (.int .i32 n)
  | .error (w, k) => .raise (STOP w k)
theorem phex_ok {m : Mem} {p : Nat} {s : List UInt8} {i of : Nat} {left : Int} (hs : s.length < 2 ^ 60) (hi : i ≤ s.length) (hp : m.get p = PP s i left) :
    ∃ m', CS 103 [.ptr p 0, .int .i64 of] m (phexR s i of) m' ∧ (m' = m ∨ ∃ n, hex4 s i of = .ok n ∧ m' = m.set p (PP s (i + 4) left)) ∧ (∀ n, hex4 s i of = .ok n → m' = m.set p (PP s (i + 4) left)) := by
  have w4 : IntKind.i64.wrap ((i : Int) + 4) = ((i + 4 : Nat) : Int) := wrap_add (k := 4) (by omega)
  generalize hl : (s.drop i).take 4 = l
  have hll : l.length = min 4 (s.length - i) := by rw [← hl]; simp
  have hj : (if ((s.length : Nat) : Int) < ((i + 4 : Nat) : Int) then ((s.length : Nat) : Int) else ((i + 4 : Nat) : Int)) = ((i + l.length : Nat) : Int) := by
    split <;> omega
  have hsl := slice_from_to (s := s) (k1 := .i64) (k2 := .i64) (i := i) (j := i + l.length) (by omega) (by omega)
  have hsl2 : (s.take (i + l.length)).drop i = l := by
    rw [List.drop_take, Nat.add_sub_cancel_left, hll, ← hl]
    by_cases h : 4 ≤ s.length - i
    · rw [Nat.min_eq_left h]
    · rw [Nat.min_eq_right (by omega), List.take_of_length_le (by simp), List.take_of_length_le (by simp; omega)]
  rw [hsl2] at hsl
  have hx := phexs_ok (l := l) (by omega) m
  by_cases hb : l.any bad = true
  · have h4 : hex4 s i of = .error (3, of) := hex4_bad (by rw [hl]; exact hb)
    have hne : l ≠ [] := by rintro rfl; simp at hb
    rw [if_pos (.inr hb), if_pos (.inr hb)] at hx
    refine ⟨m, ?_, .inl rfl, fun n hn => by rw [h4] at hn; cases hn⟩
    simp only [phexR, h4]
    refine call_by_pan xfok mixed q103at q103ok rfl ?_
    have ne : (!(l == ([] : List UInt8))) = true := by cases l <;> simp at hne ⊢
    simp only [go_sem, reduceIte, Nat.reduceEqDiff, Nat.reduceAdd, q103, q103r0, q103r1, hp, w4, minV_of, hj, hsl, q103r2]
    refine callW_ret hx ?_
    simp only [go_sem, reduceIte, Nat.reduceEqDiff, Nat.reduceAdd, q103r3, show ((3 : Int) == 0) = false from rfl, q103r6, show ((3 : Int) != 0) = true from rfl, ne, q103r7]
    refine callW_raise (pfail_ok p 3 of m) ?_
    simp only [go_sem, reduceIte, Nat.reduceEqDiff, Nat.reduceAdd]
  · by_cases h0 : l = []
    · have h4 : hex4 s i of = .error (4, s.length) := hex4_end (by rw [hl, h0]; rfl) (by rw [hl, h0]; simp)
      rw [if_pos (.inl h0), if_pos (.inl h0)] at hx
      refine ⟨m, ?_, .inl rfl, fun n hn => by rw [h4] at hn; cases hn⟩
      simp only [phexR, h4]
      refine call_by_pan xfok mixed q103at q103ok rfl ?_
      have ne : (!(l == ([] : List UInt8))) = false := by rw [h0]; rfl
      simp only [go_sem, reduceIte, Nat.reduceEqDiff, Nat.reduceAdd, q103, q103r0, q103r1, hp, w4, minV_of, hj, hsl, q103r2]
      refine callW_ret hx ?_
      simp only [go_sem, reduceIte, Nat.reduceEqDiff, Nat.reduceAdd, q103r3, show ((3 : Int) == 0) = false from rfl, q103r6, show ((3 : Int) != 0) = true from rfl, ne, q103r8, hp]
      refine callW_raise (pfail_ok p 4 s.length m) ?_
      simp only [go_sem, reduceIte, Nat.reduceEqDiff, Nat.reduceAdd]
      simp
    · have hg : ¬ (l = [] ∨ l.any bad = true) := fun h => h.elim h0 hb
      rw [if_neg hg, if_neg hg] at hx
      have hb' : l.any bad = false := by simpa using hb
      by_cases hlt : l.length < 4
      · have h4 : hex4 s i of = .error (4, s.length) := hex4_end (by rw [hl]; exact hb') (by rw [hl]; exact hlt)
        refine ⟨m, ?_, .inl rfl, fun n hn => by rw [h4] at hn; cases hn⟩
        simp only [phexR, h4]
        refine call_by_pan xfok mixed q103at q103ok rfl ?_
        have e4 : ((l.length : Int) == 4) = false := bqF (by omega)
        simp only [go_sem, reduceIte, Nat.reduceEqDiff, Nat.reduceAdd, q103, q103r0, q103r1, hp, w4, minV_of, hj, hsl, q103r2]
        refine callW_ret hx ?_
        simp only [go_sem, reduceIte, Nat.reduceEqDiff, Nat.reduceAdd, q103r3, show ((0 : Int) == 0) = true from rfl, e4, q103r6, show ((0 : Int) != 0) = false from rfl, q103r8, hp]
        refine callW_raise (pfail_ok p 4 s.length m) ?_
        simp only [go_sem, reduceIte, Nat.reduceEqDiff, Nat.reduceAdd]
        simp
      · have h4 : hex4 s i of = .ok (hexN l) := by rw [← hl]; exact hex4_ok (by rw [hl]; exact hb') (by rw [hl]; exact hlt)
        have hN : hexN l < 65536 := by rw [← hl]; exact hexN_lt (by rw [hl]; exact hb')
        refine ⟨m.set p (PP s (i + 4) left), ?_, .inr ⟨_, h4, rfl⟩, fun n hn => rfl⟩
        simp only [phexR, h4]
        refine call_by xfok mixed q103at q103ok rfl ?_
        have e4 : ((l.length : Int) == 4) = true := bqT (by omega)
        have wn : IntKind.i32.wrap ((hexN l : Nat) : Int) = ((hexN l : Nat) : Int) := wrap_i32 (by omega)
        simp only [go_sem, reduceIte, Nat.reduceEqDiff, Nat.reduceAdd, q103, q103r0, q103r1, hp, w4, minV_of, hj, hsl, q103r2]
        refine callW_ret hx ?_
        simp only [go_sem, reduceIte, Nat.reduceEqDiff, Nat.reduceAdd, q103r3, show ((0 : Int) == 0) = true from rfl, e4, q103r4, hp, w4, q103r5, wn]
end Go.Proofs.YtinlfdkalijffaaDoor.Am.Q
namespace Go.Proofs.YtinlfdkalijffaaDoor.Am.Q
open Go Go.Proofs Go.Proofs.YtinlfdkalijffaaDoor.Am
theorem wrapU8 {n : Nat} : IntKind.u8.wrap (n : Int) = ((n % 256 : Nat) : Int) := by rw [wrap_u8]; omega
theorem and63 {x : Nat} : IntKind.u8.wrap (((@HAnd.hAnd (BitVec 8) (BitVec 8) (BitVec 8) (@instHAndOfAndOp (BitVec IntKind.u8.bits) (@BitVec.instAndOp IntKind.u8.bits)) (BitVec.ofInt 8 ((x % 256 : Nat) : Int)) (BitVec.ofInt 8 63)).toNat : Nat) : Int) = ((x % 64 : Nat) : Int) := by
  have h : ∀ y : Fin 256, IntKind.u8.wrap (((@HAnd.hAnd (BitVec 8) (BitVec 8) (BitVec 8) (@instHAndOfAndOp (BitVec IntKind.u8.bits) (@BitVec.instAndOp IntKind.u8.bits)) (BitVec.ofInt 8 ((y.val : Nat) : Int)) (BitVec.ofInt 8 63)).toNat : Nat) : Int) = ((y.val % 64 : Nat) : Int) := by decide +kernel
  have := h ⟨x % 256, Nat.mod_lt _ (by omega)⟩
  rw [this]
  show ((x % 256 % 64 : Nat) : Int) = ((x % 64 : Nat) : Int)
  omega
theorem or128 {x : Nat} : IntKind.u8.wrap (((@HOr.hOr (BitVec 8) (BitVec 8) (BitVec 8) (@instHOrOfOrOp (BitVec IntKind.u8.bits) (@BitVec.instOrOp IntKind.u8.bits)) (BitVec.ofInt 8 128) (BitVec.ofInt 8 ((x % 64 : Nat) : Int))).toNat : Nat) : Int) = (((b8 (0x80 + x % 64)).toNat : Nat) : Int) := by
  have h : ∀ y : Fin 64, IntKind.u8.wrap (((@HOr.hOr (BitVec 8) (BitVec 8) (BitVec 8) (@instHOrOfOrOp (BitVec IntKind.u8.bits) (@BitVec.instOrOp IntKind.u8.bits)) (BitVec.ofInt 8 128) (BitVec.ofInt 8 ((y.val : Nat) : Int))).toNat : Nat) : Int) = (((b8 (0x80 + y.val)).toNat : Nat) : Int) := by decide +kernel
  exact h ⟨x % 64, Nat.mod_lt _ (by omega)⟩
theorem or192 {x : Nat} (hx : x < 32) : IntKind.u8.wrap (((@HOr.hOr (BitVec 8) (BitVec 8) (BitVec 8) (@instHOrOfOrOp (BitVec IntKind.u8.bits) (@BitVec.instOrOp IntKind.u8.bits)) (BitVec.ofInt 8 192) (BitVec.ofInt 8 ((x % 256 : Nat) : Int))).toNat : Nat) : Int) = (((b8 (0xC0 + x)).toNat : Nat) : Int) := by
  have h : ∀ y : Fin 32, IntKind.u8.wrap (((@HOr.hOr (BitVec 8) (BitVec 8) (BitVec 8) (@instHOrOfOrOp (BitVec IntKind.u8.bits) (@BitVec.instOrOp IntKind.u8.bits)) (BitVec.ofInt 8 192) (BitVec.ofInt 8 ((y.val % 256 : Nat) : Int))).toNat : Nat) : Int) = (((b8 (0xC0 + y.val)).toNat : Nat) : Int) := by decide +kernel
  exact h ⟨x, hx⟩
theorem or224 {x : Nat} (hx : x < 16) : IntKind.u8.wrap (((@HOr.hOr (BitVec 8) (BitVec 8) (BitVec 8) (@instHOrOfOrOp (BitVec IntKind.u8.bits) (@BitVec.instOrOp IntKind.u8.bits)) (BitVec.ofInt 8 224) (BitVec.ofInt 8 ((x % 256 : Nat) : Int))).toNat : Nat) : Int) = (((b8 (0xE0 + x)).toNat : Nat) : Int) := by
  have h : ∀ y : Fin 16, IntKind.u8.wrap (((@HOr.hOr (BitVec 8) (BitVec 8) (BitVec 8) (@instHOrOfOrOp (BitVec IntKind.u8.bits) (@BitVec.instOrOp IntKind.u8.bits)) (BitVec.ofInt 8 224) (BitVec.ofInt 8 ((y.val % 256 : Nat) : Int))).toNat : Nat) : Int) = (((b8 (0xE0 + y.val)).toNat : Nat) : Int) := by decide +kernel
  exact h ⟨x, hx⟩
theorem or240 {x : Nat} (hx : x < 8) : IntKind.u8.wrap (((@HOr.hOr (BitVec 8) (BitVec 8) (BitVec 8) (@instHOrOfOrOp (BitVec IntKind.u8.bits) (@BitVec.instOrOp IntKind.u8.bits)) (BitVec.ofInt 8 240) (BitVec.ofInt 8 ((x % 256 : Nat) : Int))).toNat : Nat) : Int) = (((b8 (0xF0 + x)).toNat : Nat) : Int) := by
  have h : ∀ y : Fin 8, IntKind.u8.wrap (((@HOr.hOr (BitVec 8) (BitVec 8) (BitVec 8) (@instHOrOfOrOp (BitVec IntKind.u8.bits) (@BitVec.instOrOp IntKind.u8.bits)) (BitVec.ofInt 8 240) (BitVec.ofInt 8 ((y.val % 256 : Nat) : Int))).toNat : Nat) : Int) = (((b8 (0xF0 + y.val)).toNat : Nat) : Int) := by decide +kernel
  exact h ⟨x, hx⟩
theorem shr6 {n : Nat} : (n : Int).fdiv (2 ^ min (Int.toNat 6) 32) = ((n / 64 : Nat) : Int) := by
  show (n : Int).fdiv ((64 : Nat) : Int) = _
  rw [Int.fdiv_eq_ediv_of_nonneg _ (by omega)]; rfl
theorem le0_6 : ((0 : Int) ≤ 6) = True := by simp
theorem shr12 {n : Nat} : (n : Int).fdiv (2 ^ min (Int.toNat 12) 32) = ((n / 4096 : Nat) : Int) := by
  show (n : Int).fdiv ((4096 : Nat) : Int) = _
  rw [Int.fdiv_eq_ediv_of_nonneg _ (by omega)]; rfl
theorem le0_12 : ((0 : Int) ≤ 12) = True := by simp
theorem shr18 {n : Nat} : (n : Int).fdiv (2 ^ min (Int.toNat 18) 32) = ((n / 262144 : Nat) : Int) := by
  show (n : Int).fdiv ((262144 : Nat) : Int) = _
  rw [Int.fdiv_eq_ediv_of_nonneg _ (by omega)]; rfl
theorem le0_18 : ((0 : Int) ≤ 18) = True := by simp
theorem wrap_u32 {n : Nat} (h : n < 2 ^ 32) : IntKind.u32.wrap (n : Int) = (n : Int) := by
  simp [IntKind.wrap, IntKind.signed, IntKind.bits]; omega
structure App (mb m : Mem) (xs l : List UInt8) (v : AV) (m' : Mem) : Prop where
  mine : Mine mb m' 5 1 v (bytesAV (xs ++ l))
  get : m'.get = m.get
  ext : ∀ p, ExtB p mb m → ExtB p mb m'
  ntok : m.ntok ≤ m'.ntok
theorem mine_app {mb m : Mem} {a : AV} {xs : List UInt8} (h : Mine mb m 5 1 a (bytesAV xs)) (hm : mb.ntok ≤ m.ntok) (hx : xs.length < 2 ^ 43) {l : List UInt8} (hl : l.length < 2 ^ 43) : ∃ v m', appendV m 5 1 1 a (bytesAV l) = some (v, m') ∧ App mb m xs l v m' := by
  obtain ⟨a', M2, n1, n2, n3, n4, n5, n6⟩ := h.append (bytes := 1) (ys := bytesAV l) hm (by rw [bytes_len, bytes_len]; simp [roomMax]; omega) (bytes_good l)
  rw [bytes_append] at n2
  exact ⟨a', M2, n1, n2, n3, n5, n6⟩
theorem rune_far {mb m : Mem} {a : AV} {xs : List UInt8} {n : Nat} (h : Mine mb m 5 1 a (bytesAV xs)) (hm : mb.ntok ≤ m.ntok) (hx : xs.length < 2 ^ 42) (hv : Utf8.valid (n : Int) = true) (h1 : ¬ n < 0x80) :
    ∃ v m', CS 109 [a, .int .i32 n] m (.ret v) m' ∧ App mb m xs (putN n) v m' := by
  obtain ⟨v, m', ha, hA⟩ := mine_app h hm (by omega) (l := putN n) (by have := (putN_len n).2; omega)
  refine ⟨v, m', ?_, hA⟩
  refine call_by xfok mixed q109at q109ok rfl ?_
  have hb : n ≤ 0x10FFFF := by simp [Utf8.valid] at hv; omega
  have hs : ¬ (55296 ≤ n ∧ n ≤ 57343) := by simp [Utf8.valid] at hv; omega
  have wn : IntKind.u32.wrap (n : Int) = (n : Int) := wrap_u32 (by omega)
  have sl := h.sl
  by_cases h2 : n < 0x800
  · rw [put2 h1 h2] at ha
    have e2 : decide ((n : Int) ≤ 2047) = true := dT (by omega)
    have ha' : appendV m 5 1 1 a [.int .u8 (b8 (0xC0 + n / 64)).toNat, .int .u8 (b8 (0x80 + n % 64)).toNat] = some (v, m') := ha
    simp only [go_sem, reduceIte, Nat.reduceEqDiff, Nat.reduceAdd, q109, q109r0, q109r1, wn, q109r2, e2, q109r3, shr6, le0_6, wrapU8 (n := n), wrapU8 (n := n / 64), or192 (x := n / 64) (by omega), and63, or128, elems, ha']
  · have e2 : decide ((n : Int) ≤ 2047) = false := dF (by omega)
    by_cases h3 : n < 0x10000
    · rw [put3 hv h1 h2 h3] at ha
      have ha' : appendV m 5 1 1 a [.int .u8 (b8 (0xE0 + n / 4096)).toNat, .int .u8 (b8 (0x80 + n / 64 % 64)).toNat, .int .u8 (b8 (0x80 + n % 64)).toNat] = some (v, m') := ha
      by_cases h4 : n < 55296
      · have e3 : decide ((n : Int) < 55296) = true := dT (by omega)
        simp only [go_sem, reduceIte, Nat.reduceEqDiff, Nat.reduceAdd, q109, q109r0, q109r1, wn, q109r2, e2, q109r4, e3, q109r6, shr6, le0_6, shr12, le0_12, wrapU8 (n := n), wrapU8 (n := n / 64), wrapU8 (n := n / 4096), or224 (x := n / 4096) (by omega), and63, or128, elems, ha']
      · have e3 : decide ((n : Int) < 55296) = false := dF (by omega)
        have e4 : decide ((57343 : Int) < (n : Int)) = true := dT (by omega)
        have e5 : decide ((n : Int) ≤ 65535) = true := dT (by omega)
        simp only [go_sem, reduceIte, Nat.reduceEqDiff, Nat.reduceAdd, q109, q109r0, q109r1, wn, q109r2, e2, q109r4, e3, q109r5, e4, e5, q109r6, shr6, le0_6, shr12, le0_12, wrapU8 (n := n), wrapU8 (n := n / 64), wrapU8 (n := n / 4096), or224 (x := n / 4096) (by omega), and63, or128, elems, ha']
    · rw [put4 hv h1 h2 h3] at ha
      have ha' : appendV m 5 1 1 a [.int .u8 (b8 (0xF0 + n / 262144)).toNat, .int .u8 (b8 (0x80 + n / 4096 % 64)).toNat, .int .u8 (b8 (0x80 + n / 64 % 64)).toNat, .int .u8 (b8 (0x80 + n % 64)).toNat] = some (v, m') := ha
      have e3 : decide ((n : Int) < 55296) = false := dF (by omega)
      have e4 : decide ((57343 : Int) < (n : Int)) = true := dT (by omega)
      have e5 : decide ((n : Int) ≤ 65535) = false := dF (by omega)
      have e6 : decide ((n : Int) > 65535) = true := dT (by omega)
      have e7 : decide ((n : Int) ≤ 1114111) = true := dT (by omega)
      simp only [go_sem, reduceIte, Nat.reduceEqDiff, Nat.reduceAdd, q109, q109r0, q109r1, wn, q109r2, e2, q109r4, e3, q109r5, e4, e5, q109r7, e6, e7, q109r8, shr6, le0_6, shr12, le0_12, shr18, le0_18, wrapU8 (n := n), wrapU8 (n := n / 64), wrapU8 (n := n / 4096), wrapU8 (n := n / 262144), or240 (x := n / 262144) (by omega), and63, or128, elems, ha']
theorem rune_ok {mb m : Mem} {a : AV} {xs : List UInt8} {n : Nat} (h : Mine mb m 5 1 a (bytesAV xs)) (hm : mb.ntok ≤ m.ntok) (hx : xs.length < 2 ^ 42) (hv : Utf8.valid (n : Int) = true) :
    ∃ v m', CS 102 [a, .int .i32 n] m (.ret v) m' ∧ App mb m xs (putN n) v m' := by
  have hb : n ≤ 0x10FFFF := by simp [Utf8.valid] at hv; omega
  have wn : IntKind.u32.wrap (n : Int) = (n : Int) := wrap_u32 (by omega)
  by_cases h1 : n < 0x80
  · obtain ⟨v, m', ha, hA⟩ := mine_app h hm (by omega) (l := putN n) (by have := (putN_len n).2; omega)
    refine ⟨v, m', ?_, hA⟩
    refine call_by xfok mixed q102at q102ok rfl ?_
    rw [put1 h1] at ha
    have e2 : decide ((n : Int) ≤ 127) = true := dT (by omega)
    have ha' : appendV m 5 1 1 a [.int .u8 ((n % 256 : Nat) : Int)] = some (v, m') := by
      rw [← ha]; simp [bytesAV, byteAV, b8]
    simp only [go_sem, reduceIte, Nat.reduceEqDiff, Nat.reduceAdd, q102, q102r0, q102r1, wn, e2, q102r2, wrapU8, elems, ha']
  · obtain ⟨v, m', hc, hA⟩ := rune_far h hm hx hv h1
    refine ⟨v, m', ?_, hA⟩
    refine call_by xfok mixed q102at q102ok rfl ?_
    have e2 : decide ((n : Int) ≤ 127) = false := dF (by omega)
    simp only [go_sem, reduceIte, Nat.reduceEqDiff, Nat.reduceAdd, q102, q102r0, q102r1, wn, e2, q102r3]
    refine callW_ret hc ?_
    simp only [go_sem, reduceIte, Nat.reduceEqDiff, Nat.reduceAdd]
theorem put_ok {mb m : Mem} {a : AV} {xs : List UInt8} {n : Nat} (h : Mine mb m 5 1 a (bytesAV xs)) (hm : mb.ntok ≤ m.ntok) (hx : xs.length < 2 ^ 42) (hv : Utf8.valid (n : Int) = true) :
    ∃ v m', CS 91 [a, .sl .full 1 [.int .i32 n]] m (.ret v) m' ∧ App mb m xs (putN n) v m' := by
  obtain ⟨v1, m1, a1, A1⟩ := mine_app (Mine.nil (m0 := mb) (m := m) (e := 5) (sz := 1)) (xs := []) hm (by simp) (l := xs) (by omega)
  obtain ⟨v2, m2, a2, A2⟩ := rune_ok A1.mine (by have := A1.ntok; omega) (by simpa using hx) hv
  refine ⟨v2, m2, ?_, by simpa using A2.mine, A2.get.trans A1.get, fun p hp => A2.ext p (A1.ext p hp), Nat.le_trans A1.ntok A2.ntok⟩
  refine call_by xfok mixed q91at q91ok rfl ?_
  have e1 : decide ((0 : Int) < 1) = true := by decide
  have e2 : decide ((1 : Int) < 1) = false := by decide
  have w1 : IntKind.i64.wrap (0 + 1) = 1 := by decide
  have i0 : idxAddrV 1 (.sl .full 1 [.int .i32 n]) (.int .i64 0) = some (.sptr [.int .i32 n] 0) := rfl
  have l0 : ∀ m, lenV m (.sl .full 1 [.int .i32 n]) = some (.int .i64 1) := fun _ => rfl
  have k0 : isLK .sli (.sl .full 1 [.int .i32 n]) = true := rfl
  simp only [go_sem, reduceIte, Nat.reduceEqDiff, Nat.reduceAdd, q91, q91r0, q91r1, h.sl.elems, a1, q91r2, k0, l0]
  refine wl_step ?_
  simp only [go_sem, reduceIte, Nat.reduceEqDiff, Nat.reduceAdd, q91l7, q91r3, e1, q91r4, i0, q91r5]
  refine callW_ret a2 ?_
  simp only [go_sem, reduceIte, Nat.reduceEqDiff, Nat.reduceAdd, q91r6, w1]
  refine wl_step ?_
  simp only [go_sem, reduceIte, Nat.reduceEqDiff, Nat.reduceAdd, q91l7, q91r3, e2, q91r8]
end Go.Proofs.YtinlfdkalijffaaDoor.Am.Q
namespace Go.Proofs.YtinlfdkalijffaaDoor.Am.Q
open Go Go.Proofs Go.Proofs.YtinlfdkalijffaaDoor.Am
def surN (s : List UInt8) (i of n : Nat) : Except Flt (Nat × Nat) :=
  match s[i]? with
  | none => .error (4, s.length)
  | some a => if a.toNat ≠ 92 then .error (3, of) else match s[i + 1]? with
    | none => .error (4, s.length)
    | some b => if b.toNat ≠ 117 then .error (3, of) else match hex4 s (i + 2) of with
      | .error e => .error e
      | .ok k => if k < 0xDC00 ∨ 0xDFFF < k then .error (3, of) else .ok (0x10000 + (n - 0xD800) * 1024 + (k - 0xDC00), i + 6)
def signS (s : List UInt8) (i of : Nat) : Except Flt (Nat × Nat) :=
  match hex4 s i of with
  | .error e => .error e
  | .ok n => if n < 0xD800 ∨ 0xDFFF < n then .ok (n, i + 4) else if 0xDC00 ≤ n then .error (3, of) else surN s (i + 4) of n
def SgnR (p : Nat) (m : Mem) (s : List UInt8) (left : Int) (x : Except Flt (Nat × Nat)) (r : Rs) (m' : Mem) : Prop :=
  match x with
  | .ok (n, j) => r = .ret (.int .i32 n) ∧ ExtB p m m' ∧ m'.get p = PP s j left
  | .error (w, k) => r = .raise (STOP w k) ∧ ExtB p m m'
theorem psur {m M : Mem} {p : Nat} {s : List UInt8} {i of n : Nat} {left : Int} (hs : s.length < 2 ^ 59) (hi : i ≤ s.length) (hE : ExtB p m M) (hp : M.get p = PP s i left) (hn1 : 0xD800 ≤ n) (hn2 : n < 0xDC00) {g2 g4 g5 g6 g7 g11 g12 g13 : AV} :
    wl CS [2, 4, 5, 6, 7, 11, 12, 13] q92l13 (blockQ 0 (seqQ CS (.seq (.region q92r14) (.seq (.seq (.region q92r15) (.cond (.var 13) (.region q92r16) .skip)) (.seq (.region q92r17) .ret))) (endsIn [ARes.var 2] (fun v m' => SgnR p m s left (surN s i of n) (.ret v) m') (fun v m' => SgnR p m s left (surN s i of n) (.raise v) m'))))
      [.ptr p 0, .int .i64 of, g2, .int .i32 n, g4, g5, g6, g7, .sl .no 1 [.int .u8 92, .int .u8 117], .int .i64 2, .int .i64 0, g11, g12, g13] M := by
  have l0 : decide ((0 : Int) < 2) = true := by decide
  have l1 : decide ((1 : Int) < 2) = true := by decide
  have l2 : decide ((2 : Int) < 2) = false := by decide
  have z1 : IntKind.i64.wrap (0 + 1) = 1 := by decide
  have z2 : IntKind.i64.wrap (1 + 1) = 2 := by decide
  have w1 := wrap_succ (i := i) (by omega)
  have w2 : IntKind.i64.wrap (((i + 1 : Nat) : Int) + 1) = ((i + 2 : Nat) : Int) := wrap_succ (i := i + 1) (by omega)
  have i0 : idxAddrV 1 (.sl .no 1 [.int .u8 92, .int .u8 117]) (.int .i64 0) = some (.sptr [.int .u8 92] 0) := rfl
  have i1 : idxAddrV 1 (.sl .no 1 [.int .u8 92, .int .u8 117]) (.int .i64 1) = some (.sptr [.int .u8 117] 0) := rfl
  refine wl_step ?_
  simp only [go_sem, reduceIte, Nat.reduceEqDiff, Nat.reduceAdd, q92l13, q92r7, l0, q92r8, i0, q92r9]
  cases hc : s[i]? with
  | none =>
    have hS : surN s i of n = .error (4, s.length) := by simp [surN, hc]
    refine callW_raise (ppeek_no hp hc) ?_
    simp only [go_sem, reduceIte, Nat.reduceEqDiff, Nat.reduceAdd, hS, SgnR]
    exact hE
  | some a =>
    have h1 := (List.getElem?_eq_some_iff.1 hc).1
    refine callW_ret (ppeek_ok hp hc) ?_
    by_cases ha : a.toNat = 92
    · have ea : ((a.toNat : Int) != 92) = false := bnF (by omega)
      simp only [go_sem, reduceIte, Nat.reduceEqDiff, Nat.reduceAdd, ea, q92r11, hp, w1, q92r12, z1]
      refine wl_step ?_
      simp only [go_sem, reduceIte, Nat.reduceEqDiff, Nat.reduceAdd, q92l13, q92r7, l1, q92r8, i1, q92r9]
      cases hc2 : s[i + 1]? with
      | none =>
        have hS : surN s i of n = .error (4, s.length) := by simp [surN, hc, hc2, ha]
        refine callW_raise (ppeek_no get_set_same hc2) ?_
        simp only [go_sem, reduceIte, Nat.reduceEqDiff, Nat.reduceAdd, hS, SgnR]
        exact hE.setp _
      | some b =>
        have h2 := (List.getElem?_eq_some_iff.1 hc2).1
        refine callW_ret (ppeek_ok get_set_same hc2) ?_
        by_cases hb : b.toNat = 117
        · have eb : ((b.toNat : Int) != 117) = false := bnF (by omega)
          simp only [go_sem, reduceIte, Nat.reduceEqDiff, Nat.reduceAdd, eb, q92r11, w2, q92r12, z2]
          refine wl_step ?_
          simp only [go_sem, reduceIte, Nat.reduceEqDiff, Nat.reduceAdd, q92l13, q92r7, l2, q92r14]
          obtain ⟨M2, x1, x2, x3⟩ := phex_ok (m := M.set p (PP s (i + 2) left)) (p := p) (s := s) (i := i + 2) (of := of) (left := left) (by omega) (by omega) get_set_same
          have hS0 : surN s i of n = match hex4 s (i + 2) of with
            | .error e => .error e
            | .ok k => if k < 0xDC00 ∨ 0xDFFF < k then .error (3, of) else .ok (0x10000 + (n - 0xD800) * 1024 + (k - 0xDC00), i + 6) := by simp [surN, hc, hc2, ha, hb]
          cases hh : hex4 s (i + 2) of with
          | error e =>
            obtain ⟨w, k⟩ := e
            simp only [phexR, hh] at x1
            refine callW_raise x1 ?_
            simp only [go_sem, reduceIte, Nat.reduceEqDiff, Nat.reduceAdd, hS0, hh, SgnR]
            rcases x2 with rfl | ⟨n1, y1, _⟩
            · exact hE.setp _
            · rw [hh] at y1; cases y1
          | ok k =>
            have hM2 := x3 k hh
            subst hM2
            simp only [phexR, hh] at x1
            refine callW_ret x1 ?_
            rw [hS0, hh]
            dsimp only
            by_cases hlo : k < 0xDC00
            · have a1 : decide ((k : Int) < 56320) = true := dT (by omega)
              simp only [go_sem, reduceIte, Nat.reduceEqDiff, Nat.reduceAdd, q92r15, a1, q92r16]
              refine callW_raise (pfail_ok p 3 of _) ?_
              simp only [go_sem, reduceIte, Nat.reduceEqDiff, Nat.reduceAdd]
              rw [if_pos (.inl hlo)]
              exact ⟨rfl, hE.setp _⟩
            · have a1 : decide ((k : Int) < 56320) = false := dF (by omega)
              by_cases hhi : 0xDFFF < k
              · have a2 : decide ((k : Int) > 57343) = true := dT (by omega)
                simp only [go_sem, reduceIte, Nat.reduceEqDiff, Nat.reduceAdd, q92r15, a1, a2, q92r16]
                refine callW_raise (pfail_ok p 3 of _) ?_
                simp only [go_sem, reduceIte, Nat.reduceEqDiff, Nat.reduceAdd]
                rw [if_pos (.inr hhi)]
                exact ⟨rfl, hE.setp _⟩
              · have a2 : decide ((k : Int) > 57343) = false := dF (by omega)
                obtain ⟨k', rfl⟩ := Nat.exists_eq_add_of_le (Nat.not_lt.1 hlo)
                obtain ⟨n', rfl⟩ := Nat.exists_eq_add_of_le hn1
                have hk' : k' < 1024 := by omega
                have hn' : n' < 1024 := by omega
                have r1 : IntKind.i32.wrap (((0xD800 + n' : Nat) : Int) - 55296) = (n' : Int) := by rw [wrap_i32 (by omega)]; omega
                have h10 : ((0 : Int) ≤ 10) = True := by simp
                have r2 : IntKind.i32.wrap ((n' : Int) * 2 ^ min (Int.toNat 10) 32) = ((n' * 1024 : Nat) : Int) := by
                  have e : (2 : Int) ^ min (Int.toNat 10) 32 = 1024 := by rfl
                  rw [e, wrap_i32 (by omega)]; omega
                have r3 : IntKind.i32.wrap (65536 + ((n' * 1024 : Nat) : Int)) = ((65536 + n' * 1024 : Nat) : Int) := by rw [wrap_i32 (by omega)]; omega
                have r4 : IntKind.i32.wrap (((0xDC00 + k' : Nat) : Int) - 56320) = (k' : Int) := by rw [wrap_i32 (by omega)]; omega
                have r5 : IntKind.i32.wrap (((65536 + n' * 1024 : Nat) : Int) + (k' : Int)) = ((65536 + n' * 1024 + k' : Nat) : Int) := by rw [wrap_i32 (by omega)]; omega
                simp only [go_sem, reduceIte, Nat.reduceEqDiff, Nat.reduceAdd, q92r15, a1, a2, q92r17, r1, h10, r2, r3, r4, r5]
                rw [if_neg (fun h => h.elim hlo hhi), Nat.add_sub_cancel_left, Nat.add_sub_cancel_left]
                refine ⟨rfl, ?_, get_set_same⟩
                exact hE.setp _
        · have eb : ((b.toNat : Int) != 117) = true := bnT (by omega)
          have hS : surN s i of n = .error (3, of) := by simp [surN, hc, hc2, ha, hb]
          simp only [go_sem, reduceIte, Nat.reduceEqDiff, Nat.reduceAdd, eb, q92r10]
          refine callW_raise (pfail_ok p 3 of _) ?_
          simp only [go_sem, reduceIte, Nat.reduceEqDiff, Nat.reduceAdd, hS, SgnR]
          exact hE.setp _
    · have ea : ((a.toNat : Int) != 92) = true := bnT (by omega)
      have hS : surN s i of n = .error (3, of) := by simp [surN, hc, ha]
      simp only [go_sem, reduceIte, Nat.reduceEqDiff, Nat.reduceAdd, ea, q92r10]
      refine callW_raise (pfail_ok p 3 of _) ?_
      simp only [go_sem, reduceIte, Nat.reduceEqDiff, Nat.reduceAdd, hS, SgnR]
      exact hE
theorem psign_ok {m : Mem} {p : Nat} {s : List UInt8} {i of : Nat} {left : Int} (hs : s.length < 2 ^ 59) (hi : i ≤ s.length) (hp : m.get p = PP s i left) : ∃ r m', CS 92 [.ptr p 0, .int .i64 of] m r m' ∧ SgnR p m s left (signS s i of) r m' := by
  refine call_either (R := SgnR p m s left (signS s i of)) xfok mixed q92at q92ok rfl ?_
  obtain ⟨M2, x1, x2, x3⟩ := phex_ok (m := m) (p := p) (s := s) (i := i) (of := of) (left := left) (by omega) hi hp
  simp only [go_sem, reduceIte, Nat.reduceEqDiff, Nat.reduceAdd, q92, q92r0, q92r1]
  cases hh : hex4 s i of with
  | error e =>
    obtain ⟨w, k⟩ := e
    simp only [phexR, hh] at x1
    refine callW_raise x1 ?_
    have hS : signS s i of = .error (w, k) := by simp only [signS, hh]
    simp only [go_sem, reduceIte, Nat.reduceEqDiff, Nat.reduceAdd, hS, SgnR]
    rcases x2 with rfl | ⟨n1, y1, _⟩
    · exact ExtB.refl p _
    · rw [hh] at y1; cases y1
  | ok n =>
    have hM2 := x3 n hh
    subst hM2
    simp only [phexR, hh] at x1
    refine callW_ret x1 ?_
    have hS : signS s i of = if n < 0xD800 ∨ 0xDFFF < n then .ok (n, i + 4) else if 0xDC00 ≤ n then .error (3, of) else surN s (i + 4) of n := by simp only [signS, hh]
    have hi4 : i + 4 ≤ s.length := by
      unfold hex4 at hh
      split at hh
      · cases hh
      · split at hh
        · cases hh
        · rename_i h1 h2
          simp only [List.length_take, List.length_drop] at h2
          omega
    by_cases hlo : n < 0xD800
    · have a1 : decide ((n : Int) < 55296) = true := dT (by omega)
      rw [if_pos (.inl hlo)] at hS
      rw [hS]
      simp only [go_sem, reduceIte, Nat.reduceEqDiff, Nat.reduceAdd, q92r2, a1, q92r3]
      exact ⟨rfl, (ExtB.refl p m).setp _, get_set_same⟩
    · have a1 : decide ((n : Int) < 55296) = false := dF (by omega)
      by_cases hhi : 0xDFFF < n
      · have a2 : decide ((n : Int) > 57343) = true := dT (by omega)
        rw [if_pos (.inr hhi)] at hS
        rw [hS]
        simp only [go_sem, reduceIte, Nat.reduceEqDiff, Nat.reduceAdd, q92r2, a1, a2, q92r3]
        exact ⟨rfl, (ExtB.refl p m).setp _, get_set_same⟩
      · have a2 : decide ((n : Int) > 57343) = false := dF (by omega)
        rw [if_neg (by omega)] at hS
        by_cases hmid : 0xDC00 ≤ n
        · have a3 : decide ((n : Int) ≥ 56320) = true := dT (by omega)
          rw [if_pos hmid] at hS
          rw [hS]
          simp only [go_sem, reduceIte, Nat.reduceEqDiff, Nat.reduceAdd, q92r2, a1, a2, q92r4, a3, q92r5]
          refine callW_raise (pfail_ok p 3 of _) ?_
          simp only [go_sem, reduceIte, Nat.reduceEqDiff, Nat.reduceAdd]
          exact ⟨rfl, (ExtB.refl p m).setp _⟩
        · have a3 : decide ((n : Int) ≥ 56320) = false := dF (by omega)
          rw [if_neg hmid] at hS
          rw [hS]
          have hl : ((m.set p (PP s (i + 4) left)).newTok 5).live (m.set p (PP s (i + 4) left)).ntok = true := by simp [Mem.newTok]
          have ln : ∀ m, lenV m (.sl .no 1 [.int .u8 92, .int .u8 117]) = some (.int .i64 2) := fun _ => rfl
          have lk : isLK .sli (.sl .no 1 [.int .u8 92, .int .u8 117]) = true := rfl
          simp only [go_sem, reduceIte, Nat.reduceEqDiff, Nat.reduceAdd, q92r2, a1, a2, q92r4, a3, q92r6, hl, ln, lk]
          have hn2 : n < 0xDC00 := by omega
          have hn1 : 0xD800 ≤ n := by omega
          refine psur hs hi4 ?_ ?_ hn1 hn2
          · exact (((ExtB.refl p m).setp _).newTok 5).killTok (Nat.le_refl _)
          · exact get_set_same
end Go.Proofs.YtinlfdkalijffaaDoor.Am.Q
namespace Go.Proofs.YtinlfdkalijffaaDoor.Am.Q
open Go Go.Proofs Go.Proofs.YtinlfdkalijffaaDoor.Am
theorem esc_sign {s : List UInt8} {i : Nat} {c : UInt8} (hc : s[i + 1]? = some c) (hn : escIdx c = none) (h117 : c.toNat = 117) :
    escS s i = match signS s (i + 2) i with
      | .error e => .error e
      | .ok (n, j) => .ok (putN n, j) := by
  simp only [escS, hc, hn, signS]
  rw [if_neg (by omega)]
  cases hh : hex4 s (i + 2) i with
  | error e => rfl
  | ok n =>
    dsimp only
    by_cases h1 : n < 0xD800 ∨ 0xDFFF < n
    · rw [if_pos h1, if_pos h1]
    · rw [if_neg h1, if_neg h1]
      by_cases h2 : 0xDC00 ≤ n
      · rw [if_pos h2, if_pos h2]
      · rw [if_neg h2, if_neg h2]
        simp only [surS, surN, show i + 2 + 4 = i + 6 by omega, show i + 6 + 1 = i + 7 by omega, show i + 6 + 2 = i + 8 by omega, show i + 6 + 6 = i + 12 by omega]
        cases s[i + 6]? with
        | none => rfl
        | some a =>
          dsimp only
          split
          · rfl
          · cases s[i + 7]? with
            | none => rfl
            | some b =>
              dsimp only
              split
              · rfl
              · cases hex4 s (i + 8) i with
                | error e => rfl
                | ok k =>
                  dsimp only
                  split <;> rfl
theorem hex4_lt {s : List UInt8} {i of n : Nat} (h : hex4 s i of = .ok n) : n < 65536 := by
  cases hb : ((s.drop i).take 4).any bad with
  | true => rw [hex4_bad hb] at h; cases h
  | false =>
    by_cases hl : ((s.drop i).take 4).length < 4
    · rw [hex4_end hb hl] at h; cases h
    · rw [hex4_ok hb hl] at h; cases h; exact hexN_lt hb
theorem signS_valid {s : List UInt8} {i of n j : Nat} (h : signS s i of = .ok (n, j)) : Utf8.valid (n : Int) = true := by
  unfold signS at h
  cases hh : hex4 s i of with
  | error e => rw [hh] at h; cases h
  | ok k =>
    rw [hh] at h
    have hk := hex4_lt hh
    dsimp only at h
    by_cases h1 : k < 0xD800 ∨ 0xDFFF < k
    · rw [if_pos h1] at h; cases h; simp [Utf8.valid]; omega
    · rw [if_neg h1] at h
      by_cases h2 : 0xDC00 ≤ k
      · rw [if_pos h2] at h; cases h
      · rw [if_neg h2] at h
        unfold surN at h
        split at h
        · cases h
        · split at h
          · cases h
          · split at h
            · cases h
            · split at h
              · cases h
              · split at h
                · cases h
                · split at h
                  · cases h
                  · rename_i h3
                    simp only [Except.ok.injEq, Prod.mk.injEq] at h
                    have h4 := h.1
                    have h5 : 65536 ≤ n ∧ n ≤ 1114111 := by omega
                    clear h h4 h3
                    simp [Utf8.valid]; omega
def PesR (p : Nat) (mb : Mem) (s : List UInt8) (left : Int) (out : List UInt8) (x : Except Flt (List UInt8 × Nat)) (r : Rs) (m' : Mem) : Prop :=
  match x with
  | .ok (b, j) => ∃ v, r = .ret v ∧ Mine mb m' 5 1 v (bytesAV (out ++ b)) ∧ ExtB p mb m' ∧ m'.get p = PP s j left
  | .error (w, k) => r = .raise (STOP w k) ∧ ExtB p mb m'
theorem pesc_ok {mb m : Mem} {p : Nat} {s : List UInt8} {i : Nat} {left : Int} {a : AV} {out : List UInt8} (hs : s.length < 2 ^ 40) (hi : i < s.length) (hol : out.length ≤ 4 * i) (ha : Mine mb m 5 1 a (bytesAV out)) (hE : ExtB p mb m) (hp : m.get p = PP s i left) :
    ∃ r m', CS 78 [.ptr p 0, a] m r m' ∧ PesR p mb s left out (escS s i) r m' := by
  refine call_either (R := PesR p mb s left out (escS s i)) xfok mixed q78at q78ok rfl ?_
  have w1 := wrap_succ (i := i) (by omega)
  have w2 : IntKind.i64.wrap (((i + 1 : Nat) : Int) + 1) = ((i + 2 : Nat) : Int) := wrap_succ (i := i + 1) (by omega)
  simp only [go_sem, reduceIte, Nat.reduceEqDiff, Nat.reduceAdd, q78, q78r0, q78r1, hp, q78r2, w1, q78r3]
  cases hc : s[i + 1]? with
  | none =>
    have hS : escS s i = .error (4, s.length) := by simp [escS, hc]
    refine callW_raise (ppeek_no get_set_same hc) ?_
    simp only [go_sem, reduceIte, Nat.reduceEqDiff, Nat.reduceAdd, hS, PesR]
    exact hE.setp _
  | some c =>
    refine callW_ret (ppeek_ok get_set_same hc) ?_
    simp only [go_sem, reduceIte, Nat.reduceEqDiff, Nat.reduceAdd, q78r4]
    refine callW_ret (index_byte_ok escL c _) ?_
    have hf := indexB_find (c := c) (l := escL)
    cases hk : escIdx c with
    | some k =>
      rw [← escIdx_eq, hk] at hf
      have hS : escS s i = .ok ([escT.getD k 0], i + 2) := by simp [escS, hc, hk, escT]
      have hk8 : k < escT.length := by
        have := (List.findIdx?_eq_some_iff_getElem.1 hk).1
        simpa [escT] using this
      have hbt : escT[k]? = some escT[k] := List.getElem?_eq_getElem hk8
      have e0 : decide ((k : Int) ≥ 0) = true := dT (by omega)
      rw [hf]
      have hE1 : ExtB p mb (m.set p (PP s (i + 2) left)) := hE.setp _
      have hM1 : Mine mb (m.set p (PP s (i + 2) left)) 5 1 a (bytesAV out) := ha.ext ((ExtB.refl p m).setp _)
      obtain ⟨v, M2, n1, n2⟩ := mine_app hM1 hE1.ntok (by omega) (l := [escT[k]]) (by simp)
      have n1' : appendV (m.set p (PP s (i + 2) left)) 5 1 1 a [.int .u8 (escT[k]).toNat] = some (v, M2) := n1
      have ix : idxSV (.str [8, 9, 10, 12, 13, 34, 92, 47]) (.int .i64 (k : Int)) = some (.int .u8 (escT[k]).toNat) := idxS_at (s := escT) hbt
      simp only [go_sem, reduceIte, Nat.reduceEqDiff, Nat.reduceAdd, q78r5, e0, q78r6, w2, q78r7, ix, elems, n1']
      rw [hS, show escT.getD k 0 = escT[k] by simp [List.getD, hk8]]
      exact ⟨v, rfl, n2.mine, n2.ext p hE1, by rw [n2.get]; exact get_set_same⟩
    | none =>
      rw [← escIdx_eq, hk] at hf
      have e0 : decide ((-1 : Int) ≥ 0) = false := by decide
      rw [hf]
      simp only [go_sem, reduceIte, Nat.reduceEqDiff, Nat.reduceAdd, q78r5, e0, q78r8]
      by_cases h117 : c.toNat = 117
      · have a1 : ((c.toNat : Int) != 117) = false := bnF (by omega)
        have hS := esc_sign hc hk h117
        have hi1 := (List.getElem?_eq_some_iff.1 hc).1
        simp only [go_sem, reduceIte, Nat.reduceEqDiff, Nat.reduceAdd, a1, q78r10, w2, q78r11]
        obtain ⟨r, M1, x1, x2⟩ := psign_ok (m := m.set p (PP s (i + 2) left)) (p := p) (s := s) (i := i + 2) (of := i) (left := left) (by omega) (by omega) get_set_same
        cases hg : signS s (i + 2) i with
        | error e =>
          obtain ⟨w, k⟩ := e
          rw [hg] at x2 hS
          obtain ⟨rfl, x3⟩ := x2
          refine callW_raise x1 ?_
          simp only [go_sem, reduceIte, Nat.reduceEqDiff, Nat.reduceAdd, hS, PesR]
          exact (hE.setp _).trans x3
        | ok y =>
          obtain ⟨n, j⟩ := y
          rw [hg] at x2 hS
          obtain ⟨rfl, x3, x4⟩ := x2
          refine callW_ret x1 ?_
          have hE2 : ExtB p m M1 := ((ExtB.refl p m).setp _).trans x3
          obtain ⟨v, M2, n1, n2⟩ := put_ok (ha.ext hE2) (hE.trans hE2).ntok (by omega) (signS_valid hg)
          simp only [go_sem, reduceIte, Nat.reduceEqDiff, Nat.reduceAdd]
          refine callW_ret n1 ?_
          simp only [go_sem, reduceIte, Nat.reduceEqDiff, Nat.reduceAdd]
          rw [hS]
          exact ⟨v, rfl, n2.mine, n2.ext p (hE.trans hE2), by rw [n2.get]; exact x4⟩
      · have a1 : ((c.toNat : Int) != 117) = true := bnT (by omega)
        have hS : escS s i = .error (3, i) := by simp [escS, hc, hk, h117]
        simp only [go_sem, reduceIte, Nat.reduceEqDiff, Nat.reduceAdd, a1, q78r9]
        refine callW_raise (pfail_ok p 3 i _) ?_
        simp only [go_sem, reduceIte, Nat.reduceEqDiff, Nat.reduceAdd, hS, PesR]
        exact hE.setp _
def PquR (p : Nat) (m : Mem) (s : List UInt8) (left : Int) (x : Except Flt (List UInt8 × Nat)) (r : Rs) (m' : Mem) : Prop :=
  match x with
  | .ok (t, j) => r = .ret (.str t) ∧ ExtB p m m' ∧ m'.get p = PP s j left
  | .error (w, k) => r = .raise (STOP w k) ∧ ExtB p m m'
theorem pquo_loop {p : Nat} {s : List UInt8} {left : Int} {mb : Mem} (hs : s.length < 2 ^ 40) {R : Except Flt (List UInt8 × Nat)} {Q : AExit → List AV → Mem → Prop}
    (hx : ∀ M w k, R = .error (w, k) → ExtB p mb M → ∀ g, Q (.pan (STOP w k)) g M)
    (hr : ∀ M t j, R = .ok (t, j) → ExtB p mb M → M.get p = PP s j left → ∀ g0 g2 g3 g4 g5 g6, Q .ret [g0, .str t, g2, g3, g4, g5, g6] M) :
    ∀ (f i : Nat) (M : Mem) (a : AV) (out : List UInt8) (g1 g3 g4 g5 g6 : AV), s.length - i + 1 ≤ f → i ≤ s.length + 1 → out.length ≤ 4 * i → Mine mb M 5 1 a (bytesAV out) → ExtB p mb M → M.get p = PP s i left → R = quoS s f i out →
      wl CS [1, 3, 4, 5, 6] q61l13 Q [.ptr p 0, g1, a, g3, g4, g5, g6] M := by
  intro f
  induction f with
  | zero => intro i M a out g1 g3 g4 g5 g6 hf; omega
  | succ f ih =>
    intro i M a out g1 g3 g4 g5 g6 hf hi hol hm hE hp hR
    have w1 := wrap_succ (i := i) (by omega)
    have sl := hm.sl
    refine wl_step ?_
    cases hc : s[i]? with
    | none =>
      have hS : R = .error (4, s.length) := by rw [hR]; simp [quoS, hc]
      simp only [go_sem, reduceIte, Nat.reduceEqDiff, Nat.reduceAdd, q61l13, q61r3]
      refine callW_raise (ppeek_no hp hc) ?_
      simp only [go_sem, reduceIte, Nat.reduceEqDiff, Nat.reduceAdd]
      exact hx _ _ _ hS hE _
    | some c =>
      have h1 := (List.getElem?_eq_some_iff.1 hc).1
      have hRc : R = if c.toNat < 32 then .error (3, i) else if c.toNat = 34 then .ok (out, i + 1) else if c.toNat = 92 then
          (match escS s i with
          | .error e => .error e
          | .ok (b, j) => quoS s f j (out ++ b))
        else quoS s f (i + 1) (out ++ [c]) := by rw [hR]; simp only [quoS, hc]; rfl
      simp only [go_sem, reduceIte, Nat.reduceEqDiff, Nat.reduceAdd, q61l13, q61r3]
      refine callW_ret (ppeek_ok hp hc) ?_
      by_cases c1 : c.toNat < 32
      · have a1 : decide ((c.toNat : Int) < 32) = true := dT (by omega)
        rw [if_pos c1] at hRc
        simp only [go_sem, reduceIte, Nat.reduceEqDiff, Nat.reduceAdd, q61r4, a1, q61r5, hp]
        refine callW_raise (pfail_ok p 3 i _) ?_
        simp only [go_sem, reduceIte, Nat.reduceEqDiff, Nat.reduceAdd]
        exact ⟨by simp, hx _ _ _ hRc hE _⟩
      · have a1 : decide ((c.toNat : Int) < 32) = false := dF (by omega)
        rw [if_neg c1] at hRc
        by_cases c2 : c.toNat = 34
        · have a2 : ((c.toNat : Int) == 34) = true := bqT (by omega)
          rw [if_pos c2] at hRc
          simp only [go_sem, reduceIte, Nat.reduceEqDiff, Nat.reduceAdd, q61r4, a1, q61r6, a2, q61r7, hp, w1, q61r8, str_of sl]
          exact hr _ _ (i + 1) hRc (hE.setp _) get_set_same _ _ _ _ _ _
        · have a2 : ((c.toNat : Int) == 34) = false := bqF (by omega)
          rw [if_neg c2] at hRc
          by_cases c3 : c.toNat = 92
          · have a3 : ((c.toNat : Int) == 92) = true := bqT (by omega)
            rw [if_pos c3] at hRc
            simp only [go_sem, reduceIte, Nat.reduceEqDiff, Nat.reduceAdd, q61r4, a1, q61r6, a2, q61r9, a3, q61r10]
            obtain ⟨r, M1, hv1, hv2⟩ := pesc_ok hs h1 hol hm hE hp
            cases hes : escS s i with
            | error e =>
              obtain ⟨w, k⟩ := e
              rw [hes] at hv2 hRc
              obtain ⟨rfl, hv3⟩ := hv2
              refine callW_raise hv1 ?_
              simp only [go_sem, reduceIte, Nat.reduceEqDiff, Nat.reduceAdd]
              exact hx _ _ _ hRc hv3 _
            | ok x =>
              obtain ⟨b, j⟩ := x
              rw [hes] at hv2 hRc
              obtain ⟨v, rfl, k1, k3, k4⟩ := hv2
              obtain ⟨l1, l2, l3⟩ := escS_ok hes
              refine callW_ret hv1 ?_
              simp only [go_sem, reduceIte, Nat.reduceEqDiff, Nat.reduceAdd]
              exact ih j M1 v (out ++ b) _ _ _ _ _ (by omega) (by omega) (by rw [List.length_append]; omega) k1 k3 k4 hRc
          · have a3 : ((c.toNat : Int) == 92) = false := bqF (by omega)
            rw [if_neg c3] at hRc
            obtain ⟨a', M2, n1, n2⟩ := mine_app hm hE.ntok (by omega) (l := [c]) (by simp)
            have hp2 : M2.get p = PP s i left := by rw [n2.get]; exact hp
            have n1' : appendV M 5 1 1 a [AV.int .u8 c.toNat] = some (a', M2) := n1
            simp only [go_sem, reduceIte, Nat.reduceEqDiff, Nat.reduceAdd, q61r4, a1, q61r6, a2, q61r9, a3, q61r11, elems, n1', q61r12, hp2, w1]
            exact ih (i + 1) _ a' (out ++ [c]) _ _ _ _ _ (by omega) (by omega) (by rw [List.length_append, List.length_singleton]; omega) (n2.mine.ext ((ExtB.refl p M2).setp _)) ((n2.ext p hE).setp _) get_set_same hRc
theorem pquo_ok {m : Mem} {p : Nat} {s : List UInt8} {i : Nat} {left : Int} (hs : s.length < 2 ^ 40) (hi : i < s.length) (hp : m.get p = PP s i left) : ∃ r m', CS 61 [.ptr p 0] m r m' ∧ PquR p m s left (quote s i) r m' := by
  refine call_either (R := PquR p m s left (quote s i)) xfok mixed q61at q61ok rfl ?_
  have w1 := wrap_succ (i := i) (by omega)
  simp only [go_sem, reduceIte, Nat.reduceEqDiff, Nat.reduceAdd, q61, q61r0, q61r1, q61r2, hp, w1]
  refine pquo_loop (mb := m) (R := quote s i) hs (fun M w k h1 h2 g => ?_) (fun M t j h1 h2 h3 g0 g2 g3 g4 g5 g6 => ?_) (s.length - i + 1) (i + 1) _ _ [] _ _ _ _ _ (by omega) (by omega) (by simp) .nil ((ExtB.refl p m).setp _) get_set_same rfl
  · simp only [go_sem, reduceIte, Nat.reduceEqDiff, Nat.reduceAdd]
    rw [h1]
    exact ⟨rfl, h2⟩
  · simp only [go_sem, reduceIte, Nat.reduceEqDiff, Nat.reduceAdd]
    rw [h1]
    exact ⟨rfl, h2, h3⟩
end Go.Proofs.YtinlfdkalijffaaDoor.Am.Q
namespace Go.Proofs.YtinlfdkalijffaaDoor.Am.Q
open Go Go.Proofs Go.Proofs.YtinlfdkalijffaaDoor.Am
theorem skip_skip {s : List UInt8} {i : Nat} : skipN s (skipN s i) = skipN s i := by
  have h := runN_drop (p := isBlk) (s := s.drop i) (i := runN isBlk (s.drop i)) (Nat.le_refl _)
  rw [List.drop_drop] at h
  unfold skipN
  omega
theorem nxt_nxt {s : List UInt8} {i j : Nat} {c : UInt8} (h : nxt s i = .ok (j, c)) : nxt s j = .ok (j, c) := by
  obtain ⟨h1, h2, h3, h4⟩ := nxt_ok h
  have h5 : skipN s j = j := by rw [h4, skip_skip]
  have := nxt_some (s := s) (i := j) (c := c) (by rw [h5]; exact h3)
  rw [this, h5]
def StopR {α : Type} (p : Nat) (m : Mem) (s : List UInt8) (left : Int) (x : Except Flt (α × Nat)) (v : α → AV) (r : Rs) (m' : Mem) : Prop :=
  match x with
  | .ok (a, j) => r = .ret (v a) ∧ m' = m.set p (PP s j left)
  | .error (w, k) => r = .raise (STOP w k) ∧ ExtB p m m'
def mustS (s : List UInt8) (i e : Nat) : Except Flt (Unit × Nat) :=
  match nxt s i with
  | .error x => .error x
  | .ok (j, c) => if c.toNat ≠ e then .error (3, j) else .ok ((), j + 1)
theorem pmust_ok {m : Mem} {p : Nat} {s : List UInt8} {i : Nat} {left : Int} (hs : s.length < 2 ^ 60) (hp : m.get p = PP s i left) (e : Nat) :
    ∃ r m', CS 80 [.ptr p 0, .int .u8 e] m r m' ∧ StopR p m s left (mustS s i e) (fun _ => .tup []) r m' := by
  refine call_either (R := StopR p m s left (mustS s i e) (fun _ => .tup [])) xfok mixed q80at q80ok rfl ?_
  have hn := pnext_ok (by omega) hp
  simp only [go_sem, reduceIte, Nat.reduceEqDiff, Nat.reduceAdd, q80, q80r0]
  cases hx : nxt s i with
  | error x =>
    obtain ⟨w, k⟩ := x
    simp only [pnextR, hx] at hn
    refine callW_raise hn ?_
    simp only [go_sem, reduceIte, Nat.reduceEqDiff, Nat.reduceAdd, mustS, hx, StopR]
    exact (ExtB.refl p m).setp _
  | ok x =>
    obtain ⟨j, c⟩ := x
    obtain ⟨h1, h2, h3, h4⟩ := nxt_ok hx
    simp only [pnextR, hx] at hn
    rw [← h4] at hn
    refine callW_ret hn ?_
    have hw := wrap_succ (i := j) (by omega)
    by_cases he : c.toNat = e
    · have a1 : ((c.toNat : Int) != (e : Int)) = false := bnF (by omega)
      have hS : mustS s i e = .ok ((), j + 1) := by simp [mustS, hx, he]
      simp only [go_sem, reduceIte, Nat.reduceEqDiff, Nat.reduceAdd, a1, q80r2, hw]
      rw [hS]
      exact ⟨rfl, rfl⟩
    · have a1 : ((c.toNat : Int) != (e : Int)) = true := bnT (by omega)
      have hS : mustS s i e = .error (3, j) := by simp [mustS, hx, he]
      simp only [go_sem, reduceIte, Nat.reduceEqDiff, Nat.reduceAdd, a1, q80r1]
      refine callW_raise (pfail_ok p 3 j _) ?_
      simp only [go_sem, reduceIte, Nat.reduceEqDiff, Nat.reduceAdd, hS, StopR]
      exact (ExtB.refl p m).setp _
def moreS (s : List UInt8) (i : Nat) (first : Bool) (e : Nat) : Except Flt (Bool × Nat) :=
  match nxt s i with
  | .error x => .error x
  | .ok (j, c) => if c.toNat = e then .ok (false, j + 1) else if first = true then .ok (true, j) else if c.toNat ≠ 44 then .error (3, j) else .ok (true, j + 1)
theorem pmore_ok {m : Mem} {p : Nat} {s : List UInt8} {i : Nat} {left : Int} (hs : s.length < 2 ^ 60) (hp : m.get p = PP s i left) (first : Bool) (e : Nat) :
    ∃ r m', CS 79 [.ptr p 0, .bool first, .int .u8 e] m r m' ∧ StopR p m s left (moreS s i first e) (fun b => .bool b) r m' := by
  refine call_either (R := StopR p m s left (moreS s i first e) (fun b => .bool b)) xfok mixed q79at q79ok rfl ?_
  have hn := pnext_ok (by omega) hp
  simp only [go_sem, reduceIte, Nat.reduceEqDiff, Nat.reduceAdd, q79, q79r0, q79r1]
  cases hx : nxt s i with
  | error x =>
    obtain ⟨w, k⟩ := x
    simp only [pnextR, hx] at hn
    refine callW_raise hn ?_
    simp only [go_sem, reduceIte, Nat.reduceEqDiff, Nat.reduceAdd, moreS, hx, StopR]
    exact (ExtB.refl p m).setp _
  | ok x =>
    obtain ⟨j, c⟩ := x
    obtain ⟨h1, h2, h3, h4⟩ := nxt_ok hx
    simp only [pnextR, hx] at hn
    rw [← h4] at hn
    refine callW_ret hn ?_
    have hw := wrap_succ (i := j) (by omega)
    by_cases he : c.toNat = e
    · have a1 : ((c.toNat : Int) == (e : Int)) = true := bqT (by omega)
      have hS : moreS s i first e = .ok (false, j + 1) := by simp [moreS, hx, he]
      simp only [go_sem, reduceIte, Nat.reduceEqDiff, Nat.reduceAdd, q79r2, a1, q79r3, hw, q79r4]
      rw [hS]
      exact ⟨rfl, rfl⟩
    · have a1 : ((c.toNat : Int) == (e : Int)) = false := bqF (by omega)
      cases first with
      | true =>
        have hS : moreS s i true e = .ok (true, j) := by simp [moreS, hx, he]
        simp only [go_sem, reduceIte, Nat.reduceEqDiff, Nat.reduceAdd, q79r2, a1, q79r5, q79r7]
        rw [hS]
        exact ⟨rfl, rfl⟩
      | false =>
        have hS : moreS s i false e = if c.toNat ≠ 44 then .error (3, j) else .ok (true, j + 1) := by simp [moreS, hx, he]
        obtain ⟨r, m', k1, k2⟩ := pmust_ok (m := m.set p (PP s j left)) (p := p) (s := s) (i := j) (left := left) hs get_set_same 44
        simp only [mustS, nxt_nxt hx] at k2
        simp only [go_sem, reduceIte, Nat.reduceEqDiff, Nat.reduceAdd, q79r2, a1, q79r5, q79r6]
        by_cases h44 : c.toNat = 44
        · rw [if_neg (by omega)] at k2 hS
          obtain ⟨rfl, rfl⟩ := k2
          refine callW_ret k1 ?_
          simp only [go_sem, reduceIte, Nat.reduceEqDiff, Nat.reduceAdd, q79r7]
          rw [hS]
          exact ⟨rfl, rfl⟩
        · rw [if_pos h44] at k2 hS
          obtain ⟨rfl, k3⟩ := k2
          refine callW_raise k1 ?_
          simp only [go_sem, reduceIte, Nat.reduceEqDiff, Nat.reduceAdd, hS, StopR]
          exact ((ExtB.refl p m).setp _).trans k3
def PvR (p : Nat) (m : Mem) (s : List UInt8) (x : Except Flt (VT × Nat × Nat)) (r : Rs) (m' : Mem) : Prop :=
  match x with
  | .ok (T, j, k) => ∃ v, r = .ret v ∧ IsVal v T ∧ ExtB p m m' ∧ m'.get p = PP s j (4096 - (k : Int))
  | .error (w, k) => r = .raise (STOP w k) ∧ ExtB p m m'
section
variable (s : List UInt8)
def QVal (f : Nat) : Prop := ∀ (m : Mem) (p i many deep : Nat), 2 * (s.length - i) + 1 ≤ f → many ≤ 4096 → deep ≤ 64 → p < m.next → m.get p = PP s i (4096 - (many : Int)) →
  ∃ r m', CS 40 [.ptr p 0, .int .i64 deep] m r m' ∧ PvR p m s (pGo s f .val i many deep) r m'
def QList (f : Nat) : Prop := ∀ (m : Mem) (p i many deep : Nat), 2 * (s.length - (i + 1)) + 2 ≤ f → i < s.length → many ≤ 4096 → deep < 64 → p < m.next → m.get p = PP s i (4096 - (many : Int)) →
  ∃ r m', CS 62 [.ptr p 0, .int .i64 (deep + 1 : Nat)] m r m' ∧ PvR p m s (pGo s f (.list []) (i + 1) many deep) r m'
def QTab (f : Nat) : Prop := ∀ (m : Mem) (p i many deep : Nat), 2 * (s.length - (i + 1)) + 2 ≤ f → i < s.length → many ≤ 4096 → deep < 64 → p < m.next → m.get p = PP s i (4096 - (many : Int)) →
  ∃ r m', CS 63 [.ptr p 0, .int .i64 (deep + 1 : Nat)] m r m' ∧ PvR p m s (pGo s f (.tab [] []) (i + 1) many deep) r m'
end
theorem qval_step {s : List UInt8} (hs : s.length < 2 ^ 40) {f : Nat} (HL : QList s f) (HT : QTab s f) : QVal s (f + 1) := by
  intro m p i many deep hf hmany hdeep hpn hp
  refine call_either (R := PvR p m s (pGo s (f + 1) .val i many deep)) xfok mixed q40at q40ok rfl ?_
  have hV0 := VSt.begin (oq := z26) hpn hp
  have hp0 := hV0.gp
  generalize hM0 : m.alloc z26 = M0 at hV0 hp0
  have hn := pnext_ok (m := M0) (by omega) hp0
  simp only [go_sem, reduceIte, Nat.reduceEqDiff, Nat.reduceAdd, q40, q40r0, hM0, q40r1]
  cases hx : nxt s i with
  | error x =>
    obtain ⟨w, k⟩ := x
    simp only [pnextR, hx] at hn
    refine callW_raise hn ?_
    have hS : pGo s (f + 1) .val i many deep = .error (w, k) := by simp only [pGo, hx]
    simp only [go_sem, reduceIte, Nat.reduceEqDiff, Nat.reduceAdd, hS, PvR]
    exact hV0.ext.setp _
  | ok x =>
    obtain ⟨j, c⟩ := x
    obtain ⟨g1, h1, hc, h4⟩ := nxt_ok hx
    simp only [pnextR, hx] at hn
    rw [← h4] at hn
    have hS : pGo s (f + 1) .val i many deep = if 4096 < many + 1 then .error (5, j) else
      if c.toNat = 34 then (match quote s j with
        | .error e => .error e
        | .ok (t, k) => .ok (.node 4 t [] [], k, many + 1))
      else if c.toNat = 91 ∨ c.toNat = 123 then
        (if 64 ≤ deep then .error (8, j) else if c.toNat = 91 then pGo s f (.list []) (j + 1) (many + 1) deep else pGo s f (.tab [] []) (j + 1) (many + 1) deep)
      else if c.toNat = 45 ∨ isDig c = true then
        (if numS ((s.drop j).takeWhile isNum) then .ok (.node 3 ((s.drop j).takeWhile isNum) [] [], j + runN isNum (s.drop j), many + 1) else .error (3, j))
      else if (s.drop j).takeWhile isSmall = tNull then .ok (.node 1 [] [] [], j + runN isSmall (s.drop j), many + 1)
      else if (s.drop j).takeWhile isSmall = tTrue ∨ (s.drop j).takeWhile isSmall = tFalse then .ok (.node 2 ((s.drop j).takeWhile isSmall) [] [], j + runN isSmall (s.drop j), many + 1)
      else .error (3, j) := by
      simp only [pGo, hx]; rfl
    refine callW_ret hn ?_
    have hV1 := hV0.setp (PP s j (4096 - (many : Int)))
    have hp1 := hV1.gp
    generalize hM1 : M0.set p (PP s j (4096 - (many : Int))) = M1 at hV1 hp1
    have hw : IntKind.i64.wrap ((4096 : Int) - (many : Int) - 1) = 4096 - ((many + 1 : Nat) : Int) := by rw [wrap_i64 (by omega)]; omega
    have hV2 := hV1.setp (PP s j (4096 - ((many + 1 : Nat) : Int)))
    have hp2 := hV2.gp
    have hq2 := hV2.gq
    simp only [go_sem, reduceIte, Nat.reduceEqDiff, Nat.reduceAdd, q40r2, hp1, q40r3, hw]
    generalize hM2 : M1.set p (PP s j (4096 - ((many + 1 : Nat) : Int))) = M2 at hV2 hp2 hq2
    rw [hS]
    by_cases h4 : 4096 < many + 1
    · rw [if_pos h4]
      have e4 : decide (4096 - ((many + 1 : Nat) : Int) < 0) = true := dT (by omega)
      simp only [go_sem, reduceIte, Nat.reduceEqDiff, Nat.reduceAdd, q40r4, hp2, e4, q40r5]
      refine callW_raise (pfail_ok p 5 j _) ?_
      simp only [go_sem, reduceIte, Nat.reduceEqDiff, Nat.reduceAdd, PvR]
      exact hV2.ext
    · rw [if_neg h4]
      have e4 : decide (4096 - ((many + 1 : Nat) : Int) < 0) = false := dF (by omega)
      by_cases h34 : c.toNat = 34
      · -- quotes
        rw [if_pos h34]
        have a34 : ((c.toNat : Int) == 34) = true := bqT (by omega)
        obtain ⟨r, M3, k1, k2⟩ := pquo_ok hs h1 hp2
        simp only [go_sem, reduceIte, Nat.reduceEqDiff, Nat.reduceAdd, q40r4, hp2, e4, q40r6, a34, q40r7]
        cases hqu : quote s j with
        | ok x =>
          obtain ⟨t, k⟩ := x
          rw [hqu] at k2
          obtain ⟨rfl, k3, k4⟩ := k2
          refine callW_ret k1 ?_
          have hV3 := hV2.call k3 k4
          have hq3 := hV3.gq
          simp only [go_sem, reduceIte, Nat.reduceEqDiff, Nat.reduceAdd, hq3]
          exact ⟨_, rfl, leaf_val, (hV3.setq _).ext, (hV3.setq _).gp⟩
        | error x =>
          obtain ⟨w, k⟩ := x
          rw [hqu] at k2
          obtain ⟨rfl, k3⟩ := k2
          refine callW_raise k1 ?_
          simp only [go_sem, reduceIte, Nat.reduceEqDiff, Nat.reduceAdd, PvR]
          exact hV2.ext.trans k3
      · rw [if_neg h34]
        have a34 : ((c.toNat : Int) == 34) = false := bqF (by omega)
        by_cases hbr : c.toNat = 91 ∨ c.toNat = 123
        · rw [if_pos hbr]
          have wd : IntKind.i64.wrap ((deep : Int) + 1) = ((deep + 1 : Nat) : Int) := wrap_succ (by omega)
          by_cases hdp : 64 ≤ deep
          · rw [if_pos hdp]
            have e64 : ((deep : Int) == 64) = true := bqT (by omega)
            rcases hbr with h91 | h123
            · have b91 : ((c.toNat : Int) == 91) = true := bqT (by omega)
              simp only [go_sem, reduceIte, Nat.reduceEqDiff, Nat.reduceAdd, q40r4, hp2, e4, q40r6, a34, q40r8, b91, e64, q40r9]
              refine callW_raise (pfail_ok p 8 j _) ?_
              simp only [go_sem, reduceIte, Nat.reduceEqDiff, Nat.reduceAdd, PvR]
              exact hV2.ext
            · have b91 : ((c.toNat : Int) == 91) = false := bqF (by omega)
              have b123 : ((c.toNat : Int) == 123) = true := bqT (by omega)
              simp only [go_sem, reduceIte, Nat.reduceEqDiff, Nat.reduceAdd, q40r4, hp2, e4, q40r6, a34, q40r8, b91, b123, e64, q40r9]
              refine callW_raise (pfail_ok p 8 j _) ?_
              simp only [go_sem, reduceIte, Nat.reduceEqDiff, Nat.reduceAdd, PvR]
              exact hV2.ext
          · rw [if_neg hdp]
            have e64 : ((deep : Int) == 64) = false := bqF (by omega)
            have hpn2 : p < M2.next := by have := hV2.ext.next; omega
            have fin : ∀ (x : Except Flt (VT × Nat × Nat)) (r : Rs) (M4 : Mem), PvR p M2 s x r M4 → (∃ w k, x = .error (w, k) ∧ r = .raise (STOP w k) ∧ ExtB p M2 M4) ∨ ∃ k t ka kb, r = .ret (.agg [.int .i64 k, .str t, ka, kb]) ∧ one ka = true ∧ one kb = true ∧ M4.get m.next = z26 ∧ PvR p m s x r (M4.set m.next (.cells 26 [.int .i64 k, .str t, ka, kb])) := by
              intro x r M4 h
              cases x with
              | ok y =>
                obtain ⟨T, a, b⟩ := y
                obtain ⟨v, rfl, v1, v2, v3⟩ := h
                have hV4 := hV2.call v2 v3
                obtain ⟨k, t, ka, kb, rfl, o1, o2⟩ := v1.ones
                exact .inr ⟨k, t, ka, kb, rfl, o1, o2, hV4.gq, _, rfl, v1, (hV4.setq _).ext, (hV4.setq _).gp⟩
              | error y =>
                obtain ⟨w, a⟩ := y
                exact .inl ⟨w, a, rfl, h.1, h.2⟩
            rcases hbr with h91 | h123
            · rw [if_pos h91]
              have b91 : ((c.toNat : Int) == 91) = true := bqT (by omega)
              obtain ⟨r, M4, k1, k2⟩ := HL M2 p j (many + 1) deep (by omega) h1 (by omega) (by omega) hpn2 hp2
              simp only [go_sem, reduceIte, Nat.reduceEqDiff, Nat.reduceAdd, q40r4, hp2, e4, q40r6, a34, q40r8, b91, e64, q40r10, q40r11, wd]
              rcases fin _ _ _ k2 with ⟨w, k, hx2, rfl, hx3⟩ | ⟨k, t, ka, kb, rfl, o1, o2, g4, k3⟩
              · refine callW_raise k1 ?_
                rw [hx2]
                simp only [go_sem, reduceIte, Nat.reduceEqDiff, Nat.reduceAdd, PvR]
                exact hV2.ext.trans hx3
              · refine callW_ret k1 ?_
                simp only [go_sem, reduceIte, Nat.reduceEqDiff, Nat.reduceAdd, g4, o1, o2]
                exact k3
            · rw [if_neg (by omega)]
              have b91 : ((c.toNat : Int) == 91) = false := bqF (by omega)
              have b123 : ((c.toNat : Int) == 123) = true := bqT (by omega)
              obtain ⟨r, M4, k1, k2⟩ := HT M2 p j (many + 1) deep (by omega) h1 (by omega) (by omega) hpn2 hp2
              simp only [go_sem, reduceIte, Nat.reduceEqDiff, Nat.reduceAdd, q40r4, hp2, e4, q40r6, a34, q40r8, b91, b123, e64, q40r10, q40r12, q40r13, wd]
              rcases fin _ _ _ k2 with ⟨w, k, hx2, rfl, hx3⟩ | ⟨k, t, ka, kb, rfl, o1, o2, g4, k3⟩
              · refine callW_raise k1 ?_
                rw [hx2]
                simp only [go_sem, reduceIte, Nat.reduceEqDiff, Nat.reduceAdd, PvR]
                exact hV2.ext.trans hx3
              · refine callW_ret k1 ?_
                simp only [go_sem, reduceIte, Nat.reduceEqDiff, Nat.reduceAdd, g4, o1, o2]
                exact k3
        · rw [if_neg hbr]
          have b91 : ((c.toNat : Int) == 91) = false := bqF (by omega)
          have b123 : ((c.toNat : Int) == 123) = false := bqF (by omega)
          by_cases hnu : c.toNat = 45 ∨ isDig c = true
          · -- numbers
            rw [if_pos hnu]
            have hrun := pword_ok (m := M2) (p := p) (s := s) (i := j) mem_num (by omega) (Nat.le_of_lt h1) hp2
            have hV3 := hV2.setp (PP s (j + runN isNum (s.drop j)) (4096 - ((many + 1 : Nat) : Int)))
            have hp3 := hV3.gp
            have hq3 := hV3.gq
            have hlt : ((s.drop j).takeWhile isNum).length < 2 ^ 60 := by
              rw [takeWhile_len]
              have := runN_le (p := isNum) (s := s.drop j)
              simp at this; omega
            generalize hM3 : M2.set p (PP s (j + runN isNum (s.drop j)) (4096 - ((many + 1 : Nat) : Int))) = M3 at hV3 hp3 hq3 hrun
            by_cases h45 : c.toNat = 45
            · have a45 : ((c.toNat : Int) == 45) = true := bqT (by omega)
              simp only [go_sem, reduceIte, Nat.reduceEqDiff, Nat.reduceAdd, q40r4, hp2, e4, q40r6, a34, q40r8, b91, b123, q40r10, q40r12, q40r14, a45, q40r15]
              refine callW_ret hrun ?_
              simp only [go_sem, reduceIte, Nat.reduceEqDiff, Nat.reduceAdd, q40r16]
              refine callW_ret (pnumber_ok hlt _) ?_
              cases hnum : numS ((s.drop j).takeWhile isNum) with
              | true =>
                simp only [go_sem, reduceIte, Nat.reduceEqDiff, Nat.reduceAdd, q40r18, hq3]
                exact ⟨_, rfl, leaf_val, (hV3.setq _).ext, (hV3.setq _).gp⟩
              | false =>
                simp only [go_sem, reduceIte, Nat.reduceEqDiff, Nat.reduceAdd, q40r17]
                refine callW_raise (pfail_ok p 3 j _) ?_
                simp only [go_sem, reduceIte, Nat.reduceEqDiff, Nat.reduceAdd, PvR]
                exact hV3.ext
            · have a45 : ((c.toNat : Int) == 45) = false := bqF (by omega)
              have hd : isDig c = true := hnu.resolve_left h45
              simp only [go_sem, reduceIte, Nat.reduceEqDiff, Nat.reduceAdd, q40r4, hp2, e4, q40r6, a34, q40r8, b91, b123, q40r10, q40r12, q40r14, a45]
              refine callW_ret (pdig_ok c M2) ?_
              simp only [go_sem, reduceIte, Nat.reduceEqDiff, Nat.reduceAdd, hd, q40r15]
              refine callW_ret hrun ?_
              simp only [go_sem, reduceIte, Nat.reduceEqDiff, Nat.reduceAdd, q40r16]
              refine callW_ret (pnumber_ok hlt _) ?_
              cases hnum : numS ((s.drop j).takeWhile isNum) with
              | true =>
                simp only [go_sem, reduceIte, Nat.reduceEqDiff, Nat.reduceAdd, q40r18, hq3]
                exact ⟨_, rfl, leaf_val, (hV3.setq _).ext, (hV3.setq _).gp⟩
              | false =>
                simp only [go_sem, reduceIte, Nat.reduceEqDiff, Nat.reduceAdd, q40r17]
                refine callW_raise (pfail_ok p 3 j _) ?_
                simp only [go_sem, reduceIte, Nat.reduceEqDiff, Nat.reduceAdd, PvR]
                exact hV3.ext
          · rw [if_neg hnu]
            have a45 : ((c.toNat : Int) == 45) = false := bqF (by omega)
            have hd : isDig c = false := by
              cases h : isDig c with
              | true => exact absurd (.inr h) hnu
              | false => rfl
            have hrun := pword_ok (m := M2) (p := p) (s := s) (i := j) mem_small (by omega) (Nat.le_of_lt h1) hp2
            have hV3 := hV2.setp (PP s (j + runN isSmall (s.drop j)) (4096 - ((many + 1 : Nat) : Int)))
            have hp3 := hV3.gp
            have hq3 := hV3.gq
            generalize hM3 : M2.set p (PP s (j + runN isSmall (s.drop j)) (4096 - ((many + 1 : Nat) : Int))) = M3 at hV3 hp3 hq3 hrun
            simp only [go_sem, reduceIte, Nat.reduceEqDiff, Nat.reduceAdd, q40r4, hp2, e4, q40r6, a34, q40r8, b91, b123, q40r10, q40r12, q40r14, a45]
            refine callW_ret (pdig_ok c M2) ?_
            simp only [go_sem, reduceIte, Nat.reduceEqDiff, Nat.reduceAdd, hd, q40r19]
            refine callW_ret hrun ?_
            by_cases hnull : (s.drop j).takeWhile isSmall = tNull
            · rw [if_pos hnull]
              have x1 : ((s.drop j).takeWhile isSmall == [110, 117, 108, 108]) = true := str_beq hnull
              simp only [go_sem, reduceIte, Nat.reduceEqDiff, Nat.reduceAdd, q40r20, q40r21, x1, q40r22, hq3]
              exact ⟨_, rfl, leaf_val, (hV3.setq _).ext, (hV3.setq _).gp⟩
            · rw [if_neg hnull]
              have x1 : ((s.drop j).takeWhile isSmall == [110, 117, 108, 108]) = false := str_bne hnull
              by_cases htr : (s.drop j).takeWhile isSmall = tTrue
              · rw [if_pos (.inl htr)]
                have x2 : ((s.drop j).takeWhile isSmall == [116, 114, 117, 101]) = true := str_beq htr
                simp only [go_sem, reduceIte, Nat.reduceEqDiff, Nat.reduceAdd, q40r20, q40r21, x1, q40r23, x2, q40r25, hq3]
                exact ⟨_, rfl, leaf_val, (hV3.setq _).ext, (hV3.setq _).gp⟩
              · have x2 : ((s.drop j).takeWhile isSmall == [116, 114, 117, 101]) = false := str_bne htr
                by_cases hfa : (s.drop j).takeWhile isSmall = tFalse
                · rw [if_pos (.inr hfa)]
                  have x3 : ((s.drop j).takeWhile isSmall == [102, 97, 108, 115, 101]) = true := str_beq hfa
                  simp only [go_sem, reduceIte, Nat.reduceEqDiff, Nat.reduceAdd, q40r20, q40r21, x1, q40r23, x2, q40r24, x3, q40r25, hq3]
                  exact ⟨_, rfl, leaf_val, (hV3.setq _).ext, (hV3.setq _).gp⟩
                · rw [if_neg (fun h => h.elim htr hfa)]
                  have x3 : ((s.drop j).takeWhile isSmall == [102, 97, 108, 115, 101]) = false := str_bne hfa
                  simp only [go_sem, reduceIte, Nat.reduceEqDiff, Nat.reduceAdd, q40r20, q40r21, x1, q40r23, x2, q40r24, x3, q40r26]
                  refine callW_raise (pfail_ok p 3 j _) ?_
                  simp only [go_sem, reduceIte, Nat.reduceEqDiff, Nat.reduceAdd, PvR]
                  exact hV3.ext
end Go.Proofs.YtinlfdkalijffaaDoor.Am.Q
