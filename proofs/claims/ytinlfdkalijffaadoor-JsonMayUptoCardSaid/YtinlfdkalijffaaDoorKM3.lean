import Derived.Test.YtinlfdkalijffaaDoorKM2
set_option linter.unusedSimpArgs false
set_option linter.unusedVariables false
/-
  JSON, 29: the program's cursor: faults, blanks, the next byte.
-/
namespace Go.Proofs.YtinlfdkalijffaaDoor.Am.Q
open Go Go.Proofs Go.Proofs.YtinlfdkalijffaaDoor.Am

/-- A call, by its function's text: it returns, or raises, with R. -/
theorem call_either {P : Program} {xf : FuncId → Nat} {G : Nat → Option (List AV)} (hX : XfOk P xf) (hm : P.follows .mixedOrders = true) {f : FuncId} {fn : Func} {q : AFn} (hfn : P.funcs[f]? = some fn) (hok : fnOk P xf G fn q = true)
    {args : List AV} {m : Mem} {R : Rs → Mem → Prop} (hl : args.length = q.nparams) (h : wc (CallSound P G) q.body (endsIn q.results (fun v m' => R (.ret v) m') (fun v m' => R (.raise v) m')) (args ++ List.replicate (q.nslots - q.nparams) .u) m) :
    ∃ r m', CallSound P G f args m r m' ∧ R r m' := by
  obtain ⟨e, fr', m1, k1, k2⟩ := wc_sound h
  cases e with
  | normal => obtain ⟨vs, l1, k⟩ := k2; exact ⟨_, _, call_ret hX hm (fun _ _ _ _ _ h => h) hfn hok hl k1 (.inl rfl) l1, k⟩
  | ret => obtain ⟨vs, l1, k⟩ := k2; exact ⟨_, _, call_ret hX hm (fun _ _ _ _ _ h => h) hfn hok hl k1 (.inr rfl) l1, k⟩
  | pan v => exact ⟨_, _, call_pan hX hm (fun _ _ _ _ _ h => h) hfn hok hl k1, k2⟩
  | exit id => exact k2.elim

/-- The program's parser: text, place, how many are left. -/
abbrev PP (s : List UInt8) (i : Nat) (left : Int) : AObj := .cells 48 [.str s, .int .i64 i, .int .i64 left]
abbrev STOP (w : Int) (k : Nat) : AV := .iface 74 (.agg [.int .i64 w, .int .i64 k])

theorem indexB_lt {c : UInt8} : ∀ {l : List UInt8}, indexB c l < l.length
  | [] => by simp [indexB]
  | b :: l => by
    have := indexB_lt (c := c) (l := l)
    simp only [indexB, List.length_cons]
    split
    · omega
    · split <;> omega
theorem indexB_find {c : UInt8} : ∀ {l : List UInt8}, indexB c l = match l.findIdx? (· == c) with | some k => (k : Int) | none => -1
  | [] => rfl
  | b :: l => by
    have := indexB_find (c := c) (l := l)
    simp only [indexB, List.findIdx?_cons]
    by_cases h : b = c
    · rw [if_pos h]; simp [h]
    · rw [if_neg h, show (b == c) = false by simp [h]]
      cases hf : l.findIdx? (· == c) with
      | none => rw [hf] at this; rw [this]; simp
      | some k =>
        rw [hf] at this
        dsimp only at this
        rw [this, if_neg (Int.not_lt.2 (Int.natCast_nonneg k))]
        simp only [Bool.false_eq_true, if_false, Option.map_some]
        exact (Int.natCast_succ k).symm
theorem index_byte_ok (l : List UInt8) (c : UInt8) (m : Mem) : CS 67 [.str l, .int .u8 c.toNat] m (.ret (.int .i64 (indexB c l))) m := by
  have h85 : CS 85 [.str l, .int .u8 c.toNat] m (.ret (.int .i64 (indexB c l))) m := by
    refine call_by xfok mixed q85at q85ok rfl ?_
    have e : idxByteV (.str l) (.int .u8 c.toNat) = some (.int .i64 (indexB c l)) := by simp [idxByteV]
    simp only [go_sem, reduceIte, Nat.reduceEqDiff, Nat.reduceAdd, q85, q85r0, q85r1, e]
  refine call_by xfok mixed q67at q67ok rfl ?_
  simp only [go_sem, reduceIte, Nat.reduceEqDiff, Nat.reduceAdd, q67, q67r0, q67r1]
  refine callW_ret h85 ?_
  simp only [go_sem, reduceIte, Nat.reduceEqDiff, Nat.reduceAdd]
theorem idx_mem {c : UInt8} {l : List UInt8} : decide (indexB c l ≥ 0) = decide (c ∈ l) := by
  rw [indexB_find]
  cases hf : l.findIdx? (· == c) with
  | none =>
    have := List.findIdx?_eq_none_iff.1 hf
    rw [show decide ((-1 : Int) ≥ 0) = false from rfl, dF]
    intro hc; have := this c hc; simp at this
  | some k =>
    rw [show decide ((k : Int) ≥ 0) = true from dT (by omega), dT]
    have := List.findIdx?_eq_some_iff_getElem.1 hf
    obtain ⟨h, h1, _⟩ := this
    have e : l[k] = c := by simpa using h1
    rw [← e]; exact List.getElem_mem h
theorem blk_mem {c : UInt8} : decide (c ∈ ([9, 10, 13, 32] : List UInt8)) = isBlk c := by
  rw [Bool.eq_iff_iff, decide_eq_true_eq, isBlk_iff]
  simp only [List.mem_cons, List.not_mem_nil, or_false]
  have e : ∀ k : UInt8, c = k ↔ c.toNat = k.toNat := fun k => ⟨fun h => by rw [h], fun h => UInt8.toNat_inj.1 h⟩
  rw [e, e, e, e]; rfl

theorem pfail_ok (p : Nat) (e : Int) (j : Nat) (m : Mem) : CS 42 [.ptr p 0, .int .i64 e, .int .i64 j] m (.raise (STOP e j)) m := by
  refine call_by_pan xfok mixed q42at q42ok rfl ?_
  simp only [go_sem, reduceIte, Nat.reduceEqDiff, Nat.reduceAdd, q42, q42r0]

theorem pblank {p : Nat} {s : List UInt8} {left : Int} {Q : AExit → List AV → Mem → Prop} (hs : s.length < 2 ^ 61) :
    ∀ (n i : Nat) (M : Mem) (g1 : AV), M.get p = PP s i left → runN isBlk (s.drop i) = n → (∀ g1, Q (.exit 0) [.ptr p 0, g1] (M.set p (PP s (i + n) left))) → wl CS [1] q41l2 Q [.ptr p 0, g1] M := by
  intro n
  induction n with
  | zero =>
    intro i M g1 hp hn hq
    refine wl_step ?_
    rw [set_self (by simpa using hp)] at hq
    cases hc : s[i]? with
    | none =>
      have h1 := List.getElem?_eq_none_iff.1 hc
      have e1 : decide ((i : Int) < (s.length : Nat)) = false := dF (by omega)
      simp only [go_sem, reduceIte, Nat.reduceEqDiff, Nat.reduceAdd, q41l2, q41r0, hp, e1]
      exact hq _
    | some c =>
      have h1 := (List.getElem?_eq_some_iff.1 hc).1
      have e1 : decide ((i : Int) < (s.length : Nat)) = true := dT (by omega)
      rw [drop_at hc, runN_cons] at hn
      have hb : isBlk c = false := by
        cases h : isBlk c with
        | true => rw [h, if_pos rfl] at hn; omega
        | false => rfl
      simp only [go_sem, reduceIte, Nat.reduceEqDiff, Nat.reduceAdd, q41l2, q41r0, hp, e1, idxS_at hc]
      refine callW_ret (index_byte_ok _ c M) ?_
      simp only [go_sem, reduceIte, Nat.reduceEqDiff, Nat.reduceAdd, idx_mem, blk_mem, hb]
      exact hq _
  | succ n ih =>
    intro i M g1 hp hn hq
    refine wl_step ?_
    have hi : i < s.length := by
      have := runN_le (p := isBlk) (s := s.drop i)
      simp at this; omega
    have hc : s[i]? = some s[i] := List.getElem?_eq_getElem hi
    have e1 : decide ((i : Int) < (s.length : Nat)) = true := dT (by omega)
    rw [drop_at hc, runN_cons] at hn
    have hb : isBlk s[i] = true := by
      cases h : isBlk s[i] with
      | true => rfl
      | false => rw [h] at hn; simp at hn
    rw [if_pos hb] at hn
    have hw := wrap_succ (i := i) (by omega)
    simp only [go_sem, reduceIte, Nat.reduceEqDiff, Nat.reduceAdd, q41l2, q41r0, hp, e1, idxS_at hc]
    refine callW_ret (index_byte_ok _ _ M) ?_
    simp only [go_sem, reduceIte, Nat.reduceEqDiff, Nat.reduceAdd, idx_mem, blk_mem, hb, q41r1, hp, hw]
    refine ih (i + 1) _ _ get_set_same (by omega) (fun g1 => ?_)
    rw [set_set, show i + 1 + n = i + (n + 1) by omega]
    exact hq _
theorem pskip_ok {m : Mem} {p : Nat} {s : List UInt8} {i : Nat} {left : Int} (hs : s.length < 2 ^ 61) (hp : m.get p = PP s i left) : CS 41 [.ptr p 0] m (.ret (.tup [])) (m.set p (PP s (skipN s i) left)) := by
  refine call_by xfok mixed q41at q41ok rfl ?_
  simp only [go_sem, reduceIte, Nat.reduceEqDiff, Nat.reduceAdd, q41]
  refine pblank hs (runN isBlk (s.drop i)) i m _ hp rfl (fun g1 => ?_)
  simp only [go_sem, reduceIte, Nat.reduceEqDiff, Nat.reduceAdd]
  rfl
theorem ppeek_ok {m : Mem} {p : Nat} {s : List UInt8} {i : Nat} {left : Int} {c : UInt8} (hp : m.get p = PP s i left) (hc : s[i]? = some c) : CS 77 [.ptr p 0] m (.ret (.int .u8 c.toNat)) m := by
  refine call_by xfok mixed q77at q77ok rfl ?_
  have h1 := (List.getElem?_eq_some_iff.1 hc).1
  have e1 : decide ((i : Int) ≥ (s.length : Nat)) = false := dF (by omega)
  simp only [go_sem, reduceIte, Nat.reduceEqDiff, Nat.reduceAdd, q77, q77r0, q77r1, hp, e1, q77r3, idxS_at hc]
theorem ppeek_no {m : Mem} {p : Nat} {s : List UInt8} {i : Nat} {left : Int} (hp : m.get p = PP s i left) (hc : s[i]? = none) : CS 77 [.ptr p 0] m (.raise (STOP 4 s.length)) m := by
  refine call_by_pan xfok mixed q77at q77ok rfl ?_
  have h1 := List.getElem?_eq_none_iff.1 hc
  have e1 : decide ((i : Int) ≥ (s.length : Nat)) = true := dT (by omega)
  simp only [go_sem, reduceIte, Nat.reduceEqDiff, Nat.reduceAdd, q77, q77r0, q77r1, hp, e1, q77r2]
  refine callW_raise (pfail_ok p 4 s.length m) ?_
  simp only [go_sem, reduceIte, Nat.reduceEqDiff, Nat.reduceAdd]
/-- What 'next' comes to. -/
def pnextR (s : List UInt8) (i : Nat) : Rs :=
  match nxt s i with
  | .ok (_, c) => .ret (.int .u8 c.toNat)
  | .error (w, k) => .raise (STOP w k)
theorem pnext_ok {m : Mem} {p : Nat} {s : List UInt8} {i : Nat} {left : Int} (hs : s.length < 2 ^ 61) (hp : m.get p = PP s i left) : CS 60 [.ptr p 0] m (pnextR s i) (m.set p (PP s (skipN s i) left)) := by
  cases hc : s[skipN s i]? with
  | some c =>
    simp only [pnextR, nxt_some hc]
    refine call_by xfok mixed q60at q60ok rfl ?_
    simp only [go_sem, reduceIte, Nat.reduceEqDiff, Nat.reduceAdd, q60, q60r0, q60r1]
    refine callW_ret (pskip_ok hs hp) ?_
    simp only [go_sem, reduceIte, Nat.reduceEqDiff, Nat.reduceAdd, q60r2]
    refine callW_ret (ppeek_ok get_set_same hc) ?_
    simp only [go_sem, reduceIte, Nat.reduceEqDiff, Nat.reduceAdd]
  | none =>
    simp only [pnextR, nxt_none hc]
    refine call_by_pan xfok mixed q60at q60ok rfl ?_
    simp only [go_sem, reduceIte, Nat.reduceEqDiff, Nat.reduceAdd, q60, q60r0, q60r1]
    refine callW_ret (pskip_ok hs hp) ?_
    simp only [go_sem, reduceIte, Nat.reduceEqDiff, Nat.reduceAdd, q60r2]
    refine callW_raise (ppeek_no get_set_same hc) ?_
    simp only [go_sem, reduceIte, Nat.reduceEqDiff, Nat.reduceAdd]
end Go.Proofs.YtinlfdkalijffaaDoor.Am.Q

/-
  JSON, 30: strings.TrimLeft at a set of ASCII bytes, prefixes; the program's numbers.
-/
namespace Go.Proofs.YtinlfdkalijffaaDoor.Am.Q
open Go Go.Proofs Go.Proofs.YtinlfdkalijffaaDoor.Am

/-! ### plain results of two depths -/
def flatLL : List AV → Bool
  | [] => true
  | a :: l => flatV a && flatLL l
def flat2 : AV → Bool
  | .tup cs => flatLL cs
  | a => flatV a
theorem flatLL_at : ∀ {cs : List AV}, flatLL cs = true → ∀ i, i < cs.length → flatV (cs.getD i .u) = true
  | a :: l, h, 0, _ => by simp only [flatLL, Bool.and_eq_true] at h; exact h.1
  | a :: l, h, i + 1, hi => by
    simp only [flatLL, Bool.and_eq_true] at h
    exact flatLL_at h.2 i (by simpa using hi)
  | [], _, i, hi => absurd hi (by simp)
theorem flat2_rep {C C' : Cx} {a : AV} {v : Value} (h : flat2 a = true) (hr : Rep C a v) : Rep C' a v := by
  cases hr with
  | tup cs vs h1 h2 => exact .tup cs vs h1 fun i hi => flatV_rep (flatLL_at h i hi) (h2 i hi)
  | u v => simp [flat2, flatV, flat1] at h
  | agg cs vs h1 h2 => exact flatV_rep (a := .agg cs) h (.agg cs vs h1 h2)
  | bool b => exact .bool _
  | int k n => exact .int _ _
  | str l s e => exact .str _ _ e
  | nilSl => exact .nilSl
  | nilPtr => exact .nilPtr
  | nilMap => exact .nilMap
  | nilFn => exact .nilFn
  | nilIface => exact .nilIface
  | _ => simp [flat2, flatV, flat1] at h
theorem call_alone2 {f : FuncId} {args : List AV} {v : AV} {m1 : Mem} (h : CS f args m0 (.ret v) m1) (ha : ∀ a ∈ args, Closed a) (hv : flat2 v = true) (m : Mem) : CS f args m (.ret v) m := by
  intro w0 C w argsV hI hargs
  obtain ⟨k1, k2⟩ := h w C.still w argsV (hI.still gflat) (listRep_still hargs ha)
  refine ⟨k1, k2.mono fun e w' hp => ?_⟩
  obtain ⟨C', _, p2, p3⟩ := hp
  refine ⟨C, .refl C, hI.later p2.below, ?_⟩
  cases e with
  | returned cv => exact flat2_rep hv p3
  | panicked _ => exact p3
  | outgrown => exact p3

/-! ### sets of bytes -/
def setOf (p : Nat → Bool) : List AV := (List.range 256).map fun n => .bool (p n)
def digP (n : Nat) : Bool := isDigN n
def sgnP (n : Nat) : Bool := decide (n = 43) || decide (n = 45)
theorem make_dig (m : Mem) : CS 96 [.str [48, 49, 50, 51, 52, 53, 54, 55, 56, 57]] m (.ret (.tup [.agg (setOf digP), .bool true])) m := by
  have hr : retsV (run fT 20000 (.call 96 [.str [48, 49, 50, 51, 52, 53, 54, 55, 56, 57]]) m0) (.tup [.agg (setOf digP), .bool true]) = true := by kernel_rfl
  obtain ⟨m', h⟩ := retsV_iff hr
  exact call_alone2 (run_sound xfok mixed fTok h) (fun a ha => by simp only [List.mem_singleton] at ha; subst ha; exact .str) (by kernel_rfl) m
theorem make_sgn (m : Mem) : CS 96 [.str [43, 45]] m (.ret (.tup [.agg (setOf sgnP), .bool true])) m := by
  have hr : retsV (run fT 20000 (.call 96 [.str [43, 45]]) m0) (.tup [.agg (setOf sgnP), .bool true]) = true := by kernel_rfl
  obtain ⟨m', h⟩ := retsV_iff hr
  exact call_alone2 (run_sound xfok mixed fTok h) (fun a ha => by simp only [List.mem_singleton] at ha; subst ha; exact .str) (by kernel_rfl) m
theorem setOf_at {p : Nat → Bool} (c : UInt8) : (setOf p)[c.toNat]? = some (.bool (p c.toNat)) := by
  have := c.toNat_lt
  simp [setOf, this]
theorem setOf_len {p : Nat → Bool} : (setOf p).length = 256 := by simp [setOf]
theorem setOf_scal {p : Nat → Bool} : (setOf p).all scal = true := by
  rw [List.all_eq_true]; intro x hx
  obtain ⟨n, _, rfl⟩ := List.mem_map.1 hx
  rfl
theorem has_byte {m : Mem} {q : Nat} {t : TypeId} {p : Nat → Bool} (h : m.get q = .cells t (setOf p)) (c : UInt8) : CS 104 [.ptr q 0, .int .u8 c.toNat] m (.ret (.bool (p c.toNat))) m := by
  refine call_by xfok mixed q104at q104ok rfl ?_
  have e : idxAddrAV 256 1 (.ptr q 0) (.int .u8 c.toNat) = some (.ptr q c.toNat) := by
    have := c.toNat_lt
    simp only [idxAddrAV]; rw [if_pos (by omega)]; simp
  simp only [go_sem, reduceIte, Nat.reduceEqDiff, Nat.reduceAdd, q104, q104r0, q104r1, e, h, setOf_at]

theorem trim_loop {m : Mem} {q : Nat} {t : TypeId} {p : Nat → Bool} (h : m.get q = .cells t (setOf p)) {s0 : List UInt8} {Q : AExit → List AV → Mem → Prop} (hx : ∀ g2 g3 g4, Q (.exit 0) [.str (s0.dropWhile fun c => p c.toNat), .ptr q 0, g2, g3, g4] m) :
    ∀ (s : List UInt8) (g2 g3 g4 : AV), s0.dropWhile (fun c => p c.toNat) = s.dropWhile (fun c => p c.toNat) → s.length < 2 ^ 61 → wl CS [2, 3, 4] q97l4 Q [.str s, .ptr q 0, g2, g3, g4] m := by
  intro s
  induction s with
  | nil =>
    intro g2 g3 g4 he hs
    refine wl_step ?_
    have e1 : decide ((([] : List UInt8).length : Int) > 0) = false := by decide
    rw [he] at hx
    simp only [go_sem, reduceIte, Nat.reduceEqDiff, Nat.reduceAdd, q97l4, q97r1, e1]
    exact hx _ _ _
  | cons c r ih =>
    intro g2 g3 g4 he hs
    refine wl_step ?_
    have e1 : decide (((c :: r).length : Int) > 0) = true := dT (by simp only [List.length_cons]; omega)
    simp only [go_sem, reduceIte, Nat.reduceEqDiff, Nat.reduceAdd, q97l4, q97r1, e1, q97r2, idx_0]
    refine callW_ret (has_byte h c) ?_
    rw [List.dropWhile_cons] at he
    cases hp : p c.toNat with
    | true =>
      rw [hp, if_pos rfl] at he
      simp only [go_sem, reduceIte, Nat.reduceEqDiff, Nat.reduceAdd, q97r3, slice_1]
      exact ih _ _ _ he (by simp at hs; omega)
    | false =>
      rw [hp] at he
      simp only [Bool.false_eq_true, if_false] at he
      rw [he] at hx
      simp only [go_sem, reduceIte, Nat.reduceEqDiff, Nat.reduceAdd]
      exact hx _ _ _
theorem trim_ascii {m : Mem} {q : Nat} {t : TypeId} {p : Nat → Bool} (h : m.get q = .cells t (setOf p)) {s : List UInt8} (hs : s.length < 2 ^ 61) : CS 97 [.str s, .ptr q 0] m (.ret (.str (s.dropWhile fun c => p c.toNat))) m := by
  refine call_by xfok mixed q97at q97ok rfl ?_
  simp only [go_sem, reduceIte, Nat.reduceEqDiff, Nat.reduceAdd, q97, q97r0]
  refine trim_loop h (s0 := s) (fun g2 g3 g4 => ?_) s _ _ _ rfl hs
  simp only [go_sem, reduceIte, Nat.reduceEqDiff, Nat.reduceAdd, q97r5]

def zset : List AV := List.replicate 256 (.bool false)
theorem q84r5_eq : q84r5 = { ops := [(.move (.var 1), none), (.call 96 [(.loc 0)], none), (.move (.loc 0), none), (.extract 0 (.loc 0), none), (.extract 1 (.loc 1), none), (.alloc 116 zset, none), (.store 256 (.loc 0) (.loc 2), none), (.move (.loc 2), none)], exp := [(3, (.loc 2)), (4, (.loc 0))] } := by kernel_rfl
theorem setL_full : ∀ {cs ys : List AV}, cs.length = ys.length → setL cs 0 ys = ys
  | [], [], _ => rfl
  | c :: cs, y :: ys, h => by rw [setL_0, setL_full (by simpa using h)]
  | [], _ :: _, h => by simp at h
  | _ :: _, [], h => by simp at h
theorem store_set {m : Mem} {p : Nat → Bool} : storeO ((m.alloc (.cells 116 zset)).get m.next) (m.alloc (.cells 116 zset)) m.next 256 0 (.agg (setOf p)) = some ((m.alloc (.cells 116 zset)).set m.next (.cells 116 (setOf p))) := by
  have hz : zset.length = 256 := List.length_replicate
  rw [get_new, storeO_cells, cells_agg, fitsB_of (by rw [hz]; omega), lenB_iff.2 setOf_len, ← all_scal, setOf_scal]
  show storeG true _ _ _ _ _ _ = _
  rw [storeG_true, setL_full (by rw [setOf_len, hz])]
/-- TrimLeft by a set of more than one byte. -/
theorem trim_by {cut : List UInt8} {p : Nat → Bool} (hc : 2 ≤ cut.length ∧ cut.length < 2 ^ 61) (hmk : ∀ m, CS 96 [.str cut] m (.ret (.tup [.agg (setOf p), .bool true])) m) {s : List UInt8} (hs : s.length < 2 ^ 61) (m : Mem) :
    CS 84 [.str s, .str cut] m (.ret (.str (s.dropWhile fun c => p c.toNat))) m := by
  have key : ∃ v m', CS 84 [.str s, .str cut] m0 (.ret v) m' ∧ v = .str (s.dropWhile fun c => p c.toNat) := by
    refine call_some (R := fun v _ => v = .str (s.dropWhile fun c => p c.toNat)) xfok mixed q84at q84ok rfl ?_
    cases s with
    | nil =>
      simp only [go_sem, reduceIte, Nat.reduceEqDiff, Nat.reduceAdd, q84, q84r0, q84r1, nil_eq, q84r2]
      rfl
    | cons c r =>
      have e1 : (cut == ([] : List UInt8)) = false := by cases cut <;> simp at hc ⊢
      have e2 : ((cut.length : Int) == 1) = false := bqF (by omega)
      simp only [go_sem, reduceIte, Nat.reduceEqDiff, Nat.reduceAdd, q84, q84r0, q84r1, eq_nil, e1, q84r3, e2]
      rw [q84r5_eq]
      simp only [go_sem, reduceIte, Nat.reduceEqDiff, Nat.reduceAdd]
      refine callW_ret (hmk _) ?_
      simp only [go_sem, reduceIte, Nat.reduceEqDiff, Nat.reduceAdd, store_set, q84r6, q84r7]
      refine callW_ret (trim_ascii (p := p) get_set_same hs) ?_
      simp only [go_sem, reduceIte, Nat.reduceEqDiff, Nat.reduceAdd]
  obtain ⟨v, m', h, rfl⟩ := key
  exact call_alone gflat h (fun a ha => by
    simp only [List.mem_cons, List.not_mem_nil, or_false] at ha
    rcases ha with rfl | rfl <;> exact .str) rfl m
theorem drop_runN {p : UInt8 → Bool} : ∀ {l : List UInt8}, (l.dropWhile p).length = l.length - runN p l ∧ runN p l ≤ l.length
  | [] => by simp [runN_nil]
  | c :: r => by
    have := drop_runN (p := p) (l := r)
    rw [runN_cons, List.dropWhile_cons]
    split
    · simp only [List.length_cons]; omega
    · simp
theorem prun_ok {s : List UInt8} (hs : s.length < 2 ^ 61) (m : Mem) : CS 82 [.str s] m (.ret (.int .i64 (runN isDig s))) m := by
  refine call_by xfok mixed q82at q82ok rfl ?_
  have h1 := drop_runN (p := isDig) (l := s)
  have e : (s.dropWhile fun c => digP c.toNat) = s.dropWhile isDig := rfl
  have hw : IntKind.i64.wrap ((s.length : Int) - ((s.dropWhile isDig).length : Nat)) = ((runN isDig s : Nat) : Int) := by rw [wrap_i64 (by omega)]; omega
  simp only [go_sem, reduceIte, Nat.reduceEqDiff, Nat.reduceAdd, q82, q82r0, q82r1]
  refine callW_ret (trim_by (p := digP) (by simp) make_dig hs m) ?_
  simp only [go_sem, reduceIte, Nat.reduceEqDiff, Nat.reduceAdd, e, hw]

/-! ### prefixes -/
theorem has_prefix {s t : List UInt8} (m : Mem) : CS 59 [.str s, .str t] m (.ret (.bool (decide (t.length ≤ s.length) && (s.take t.length == t)))) m := by
  refine call_by xfok mixed q59at q59ok rfl ?_
  by_cases h : t.length ≤ s.length
  · have e1 : decide ((s.length : Int) ≥ (t.length : Nat)) = true := dT (by omega)
    simp only [go_sem, reduceIte, Nat.reduceEqDiff, Nat.reduceAdd, q59, q59r0, q59r1, e1, slice_to h, dT h]
  · have e1 : decide ((s.length : Int) ≥ (t.length : Nat)) = false := dF (by omega)
    simp only [go_sem, reduceIte, Nat.reduceEqDiff, Nat.reduceAdd, q59, q59r0, q59r1, e1, dF h]
    rfl
theorem prefix1 {s : List UInt8} {b : UInt8} : (decide (([b] : List UInt8).length ≤ s.length) && (s.take ([b] : List UInt8).length == [b])) = decide (s.head? = some b) := by
  cases s with
  | nil => rfl
  | cons c r =>
    simp only [List.length_singleton, List.length_cons, List.take_succ_cons, List.take_zero, List.head?_cons]
    rw [dT (by simp), Bool.true_and, Bool.eq_iff_iff]
    simp
theorem trim_prefix1 {s : List UInt8} {b : UInt8} (m : Mem) : CS 81 [.str s, .str [b]] m (.ret (.str (if s.head? = some b then s.tail else s))) m := by
  have h93 : CS 93 [.str s, .str [b]] m (.ret (.str (if s.head? = some b then s.tail else s))) m := by
    refine call_by xfok mixed q93at q93ok rfl ?_
    simp only [go_sem, reduceIte, Nat.reduceEqDiff, Nat.reduceAdd, q93, q93r0, q93r1]
    refine callW_ret (has_prefix m) ?_
    rw [prefix1]
    by_cases h : s.head? = some b
    · cases s with
      | nil => simp at h
      | cons c r =>
        have hsl : sliceStr (.str (c :: r)) (some (.int .i64 (([b] : List UInt8).length : Nat))) none = some (.str r) := by
          have := slice_from (s := c :: r) (kk := .i64) (k := 1) (by simp)
          simpa using this
        simp only [go_sem, reduceIte, Nat.reduceEqDiff, Nat.reduceAdd, dT h, q93r2, hsl]
        rw [if_pos h]; rfl
    · simp only [go_sem, reduceIte, Nat.reduceEqDiff, Nat.reduceAdd, dF h, q93r3]
      rw [if_neg h]
  refine call_by xfok mixed q81at q81ok rfl ?_
  simp only [go_sem, reduceIte, Nat.reduceEqDiff, Nat.reduceAdd, q81, q81r0, q81r1]
  refine callW_ret h93 ?_
  simp only [go_sem, reduceIte, Nat.reduceEqDiff, Nat.reduceAdd]
theorem cut_prefix1 {s : List UInt8} {b : UInt8} (m : Mem) : CS 83 [.str s, .str [b]] m (.ret (.tup [.str (if s.head? = some b then s.tail else s), .bool (decide (s.head? = some b))])) m := by
  have h94 : CS 94 [.str s, .str [b]] m (.ret (.tup [.str (if s.head? = some b then s.tail else s), .bool (decide (s.head? = some b))])) m := by
    refine call_by xfok mixed q94at q94ok rfl ?_
    simp only [go_sem, reduceIte, Nat.reduceEqDiff, Nat.reduceAdd, q94, q94r0, q94r1]
    refine callW_ret (has_prefix m) ?_
    rw [prefix1]
    by_cases h : s.head? = some b
    · cases s with
      | nil => simp at h
      | cons c r =>
        have hsl : sliceStr (.str (c :: r)) (some (.int .i64 (([b] : List UInt8).length : Nat))) none = some (.str r) := by
          have := slice_from (s := c :: r) (kk := .i64) (k := 1) (by simp)
          simpa using this
        simp only [go_sem, reduceIte, Nat.reduceEqDiff, Nat.reduceAdd, dT h, q94r3, hsl]
        rw [if_pos h]; rfl
    · simp only [go_sem, reduceIte, Nat.reduceEqDiff, Nat.reduceAdd, dF h, q94r2]
      rw [if_neg h]
  refine call_by xfok mixed q83at q83ok rfl ?_
  simp only [go_sem, reduceIte, Nat.reduceEqDiff, Nat.reduceAdd, q83, q83r0, q83r1]
  refine callW_ret h94 ?_
  simp only [go_sem, reduceIte, Nat.reduceEqDiff, Nat.reduceAdd]
end Go.Proofs.YtinlfdkalijffaaDoor.Am.Q

/-
  JSON, 31: the program's numbers and words.
-/
namespace Go.Proofs.YtinlfdkalijffaaDoor.Am.Q
open Go Go.Proofs Go.Proofs.YtinlfdkalijffaaDoor.Am

def t66c : ACode := (.seq (.seq (.region q66r12) (.cond (.var 11) (.seq (.region q66r13) .ret) .skip)) (.seq (.region q66r14) (.seq (.region q66r15) (.seq (.region q66r16) .ret))))
def t66b : ACode := (.seq (.seq (.region q66r6) (.seq (.region q66r7) (.cond (.var 9) (.seq (.region q66r8) (.seq (.seq (.region q66r9) (.cond (.var 10) (.seq (.region q66r10) .ret) .skip)) (.region q66r11))) .skip))) t66c)
theorem q66_body : q66.body = (.seq (.region q66r0) (.seq (.region q66r1) (.seq (.region q66r2) (.seq (.seq (.region q66r3) (.cond (.var 8) (.seq (.region q66r4) .ret) .skip)) (.seq (.region q66r5) t66b))))) := rfl
theorem minV_of {k : IntKind} {x y : Int} : minV (.int k x) (.int k y) = some (.int k (if y < x then y else x)) := rfl

section
variable {m : Mem} {Q : AExit → List AV → Mem → Prop} {b : Bool}
theorem pnum_c {s : List UInt8} (hs : s.length < 2 ^ 60) (hb : b = expS s) {g1 g2 g3 g4 g5 g6 g7 g8 g9 g10 g11 : AV} (hq : ∀ g0 g2 g3 g4 g5 g6 g7 g8 g9 g10 g11, Q .ret [g0, .bool b, g2, g3, g4, g5, g6, g7, g8, g9, g10, g11] m) :
    wc CS t66c Q [.str s, g1, g2, g3, g4, g5, g6, g7, g8, g9, g10, g11] m := by
  cases s with
  | nil =>
    obtain rfl : b = true := hb
    simp only [go_sem, reduceIte, Nat.reduceEqDiff, Nat.reduceAdd, t66c, q66r12, nil_eq, q66r13]
    exact hq _ _ _ _ _ _ _ _ _ _ _
  | cons c r =>
    -- behind the rest
    have last : ∀ (R : List UInt8), R.length < 2 ^ 61 → b = ((decide (c.toNat = 101) || decide (c.toNat = 69)) && (decide (R ≠ []) && decide (runN isDig R = R.length))) → ∀ (g1 g2 g3 g4 g5 g6 g8 g9 g10 g11 : AV), wc CS (.seq (.region q66r16) .ret) Q [.str (c :: r), g1, g2, g3, g4, g5, g6, .str R, g8, g9, g10, g11] m := by
      intro R hR hbR g1 g2 g3 g4 g5 g6 g8 g9 g10 g11
      by_cases he : c.toNat = 101 ∨ c.toNat = 69
      · have hh : (decide (c.toNat = 101) || decide (c.toNat = 69)) = true := by simpa using he
        rw [hh, Bool.true_and] at hbR
        have tail : ∀ x, x = true → ((x = true) → True) := fun _ _ _ => trivial
        cases R with
        | nil =>
          obtain rfl : b = false := hbR
          by_cases h1 : c.toNat = 101
          · have a1 : ((c.toNat : Int) == 101) = true := bqT (by omega)
            simp only [go_sem, reduceIte, Nat.reduceEqDiff, Nat.reduceAdd, q66r16, idx_0, a1, nil_eq]
            exact hq _ _ _ _ _ _ _ _ _ _ _
          · have a1 : ((c.toNat : Int) == 101) = false := bqF (by omega)
            have a2 : ((c.toNat : Int) == 69) = true := bqT (by omega)
            simp only [go_sem, reduceIte, Nat.reduceEqDiff, Nat.reduceAdd, q66r16, idx_0, a1, a2, nil_eq]
            exact hq _ _ _ _ _ _ _ _ _ _ _
        | cons d q =>
          have e2 : decide (d :: q ≠ []) = true := dT (by simp)
          rw [e2, Bool.true_and] at hbR
          have e : (((runN isDig (d :: q) : Nat) : Int) == ((d :: q).length : Nat)) = b := by
            rw [hbR, Bool.eq_iff_iff]; simp only [beq_iff_eq, decide_eq_true_eq]; omega
          by_cases h1 : c.toNat = 101
          · have a1 : ((c.toNat : Int) == 101) = true := bqT (by omega)
            simp only [go_sem, reduceIte, Nat.reduceEqDiff, Nat.reduceAdd, q66r16, idx_0, a1, neq_nil]
            refine callW_ret (prun_ok hR m) ?_
            simp only [go_sem, reduceIte, Nat.reduceEqDiff, Nat.reduceAdd, e]
            exact hq _ _ _ _ _ _ _ _ _ _ _
          · have a1 : ((c.toNat : Int) == 101) = false := bqF (by omega)
            have a2 : ((c.toNat : Int) == 69) = true := bqT (by omega)
            simp only [go_sem, reduceIte, Nat.reduceEqDiff, Nat.reduceAdd, q66r16, idx_0, a1, a2, neq_nil]
            refine callW_ret (prun_ok hR m) ?_
            simp only [go_sem, reduceIte, Nat.reduceEqDiff, Nat.reduceAdd, e]
            exact hq _ _ _ _ _ _ _ _ _ _ _
      · have hh : (decide (c.toNat = 101) || decide (c.toNat = 69)) = false := by
          rw [Bool.or_eq_false_iff]; exact ⟨dF (by omega), dF (by omega)⟩
        rw [hh, Bool.false_and] at hbR
        subst hbR
        have a1 : ((c.toNat : Int) == 101) = false := bqF (by omega)
        have a2 : ((c.toNat : Int) == 69) = false := bqF (by omega)
        simp only [go_sem, reduceIte, Nat.reduceEqDiff, Nat.reduceAdd, q66r16, idx_0, a1, a2]
        exact hq _ _ _ _ _ _ _ _ _ _ _
    cases r with
    | nil =>
      have hm : (if (2 : Int) < (([c] : List UInt8).length : Nat) then (2 : Int) else (([c] : List UInt8).length : Nat)) = 1 := rfl
      have hsl : sliceStr (.str [c]) (some (.int .i64 1)) (some (.int .i64 1)) = some (.str []) := by
        have := slice_from_to (s := [c]) (k1 := .i64) (k2 := .i64) (i := 1) (j := 1) (by omega) (by simp)
        simpa using this
      have hl0 : ([] : List UInt8).length + ([] : List UInt8).length ≤ 2 ^ 62 := by simp
      simp only [go_sem, reduceIte, Nat.reduceEqDiff, Nat.reduceAdd, t66c, q66r12, eq_nil, q66r14, minV_of, hm, hsl]
      refine callW_ret (trim_by (p := sgnP) (cut := [43, 45]) (by simp) make_sgn (s := []) (by simp) m) ?_
      simp only [go_sem, reduceIte, Nat.reduceEqDiff, Nat.reduceAdd, q66r15, minV_of, hm, slice_1, List.dropWhile_nil, hl0]
      rw [← wc_start]
      exact last [] (by simp) (by rw [hb]; simp [expS]) _ _ _ _ _ _ _ _ _ _
    | cons d q =>
      have hm : (if (2 : Int) < ((c :: d :: q).length : Nat) then (2 : Int) else ((c :: d :: q).length : Nat)) = 2 := by
        simp only [List.length_cons]
        by_cases h : (2 : Int) < ((q.length + 1 + 1 : Nat) : Int)
        · rw [if_pos h]
        · rw [if_neg h]; omega
      have hsl : sliceStr (.str (c :: d :: q)) (some (.int .i64 1)) (some (.int .i64 2)) = some (.str [d]) := by
        have := slice_from_to (s := c :: d :: q) (k1 := .i64) (k2 := .i64) (i := 1) (j := 2) (by omega) (by simp)
        simpa using this
      have hs2 : sliceStr (.str (c :: d :: q)) (some (.int .i64 2)) none = some (.str q) := by
        have := slice_from (s := c :: d :: q) (kk := .i64) (k := 2) (by simp)
        simpa using this
      have hql : q.length + 2 < 2 ^ 60 := by simp at hs; omega
      simp only [go_sem, reduceIte, Nat.reduceEqDiff, Nat.reduceAdd, t66c, q66r12, eq_nil, q66r14, minV_of, hm, hsl]
      refine callW_ret (trim_by (p := sgnP) (cut := [43, 45]) (by simp) make_sgn (s := [d]) (by simp) m) ?_
      by_cases hd : d.toNat = 43 ∨ d.toNat = 45
      · have hdw : ([d] : List UInt8).dropWhile (fun c => sgnP c.toNat) = [] := by simp [List.dropWhile_cons, sgnP, hd]
        have hl0 : ([] : List UInt8).length + q.length ≤ 2 ^ 62 := by simp; omega
        rw [hdw]
        simp only [go_sem, reduceIte, Nat.reduceEqDiff, Nat.reduceAdd, q66r15, minV_of, hm, hs2, hl0]
        rw [← wc_start]
        exact last q (by omega) (by rw [hb]; simp [expS, hd]) _ _ _ _ _ _ _ _ _ _
      · have hdw : ([d] : List UInt8).dropWhile (fun c => sgnP c.toNat) = [d] := by
          have : sgnP d.toNat = false := by simp only [sgnP, Bool.or_eq_false_iff]; exact ⟨dF (by omega), dF (by omega)⟩
          simp [List.dropWhile_cons, this]
        have hl0 : ([d] : List UInt8).length + q.length ≤ 2 ^ 62 := by simp; omega
        rw [hdw]
        simp only [go_sem, reduceIte, Nat.reduceEqDiff, Nat.reduceAdd, q66r15, minV_of, hm, hs2, hl0]
        rw [← wc_start]
        exact last (d :: q) (by simp; omega) (by rw [hb]; simp [expS, hd]) _ _ _ _ _ _ _ _ _ _
theorem head_46 {c : UInt8} {r : List UInt8} : ((c :: r).head? = some (46 : UInt8)) ↔ c.toNat = 46 := by
  simp only [List.head?_cons, Option.some.injEq]
  exact ⟨fun h => by rw [h]; rfl, fun h => UInt8.toNat_inj.1 h⟩
theorem head_45 {c : UInt8} {r : List UInt8} : ((c :: r).head? = some (45 : UInt8)) ↔ c.toNat = 45 := by
  simp only [List.head?_cons, Option.some.injEq]
  exact ⟨fun h => by rw [h]; rfl, fun h => UInt8.toNat_inj.1 h⟩
theorem pnum_b {s : List UInt8} (hs : s.length < 2 ^ 60) (hb : b = fracS s) {g1 g2 g3 g4 g5 g6 g7 g8 g9 g10 g11 : AV} (hq : ∀ g0 g2 g3 g4 g5 g6 g7 g8 g9 g10 g11, Q .ret [g0, .bool b, g2, g3, g4, g5, g6, g7, g8, g9, g10, g11] m) :
    wc CS t66b Q [.str s, g1, g2, g3, g4, g5, g6, g7, g8, g9, g10, g11] m := by
  simp only [go_sem, reduceIte, Nat.reduceEqDiff, Nat.reduceAdd, t66b, q66r6]
  refine callW_ret (cut_prefix1 m) ?_
  cases s with
  | nil =>
    have e : decide (([] : List UInt8).head? = some 46) = false := rfl
    simp only [go_sem, reduceIte, Nat.reduceEqDiff, Nat.reduceAdd, e, q66r7]
    exact pnum_c (by simp) hb hq
  | cons c r =>
    by_cases h46 : c.toNat = 46
    · have hh := (head_46 (r := r)).2 h46
      simp only [fracS, if_pos h46] at hb
      rw [dT hh, if_pos hh]
      simp only [go_sem, reduceIte, Nat.reduceEqDiff, Nat.reduceAdd, q66r7, q66r8]
      refine callW_ret (prun_ok (by simp at hs ⊢; omega) m) ?_
      rw [List.tail_cons]
      have hle := runN_le (p := isDig) (s := r)
      by_cases h0 : runN isDig r = 0
      · have a2 : (((runN isDig r : Nat) : Int) == 0) = true := bqT (by omega)
        rw [if_pos h0] at hb
        subst hb
        simp only [go_sem, reduceIte, Nat.reduceEqDiff, Nat.reduceAdd, q66r9, a2, q66r10]
        exact hq _ _ _ _ _ _ _ _ _ _ _
      · have a2 : (((runN isDig r : Nat) : Int) == 0) = false := bqF (by omega)
        rw [if_neg h0] at hb
        have hsl := slice_from (s := r) (kk := .i64) (k := runN isDig r) hle
        simp only [go_sem, reduceIte, Nat.reduceEqDiff, Nat.reduceAdd, q66r9, a2, q66r11, hsl]
        exact pnum_c (by simp at hs ⊢; omega) hb hq
    · have hh : ¬ ((c :: r).head? = some (46 : UInt8)) := fun h => h46 (head_46.1 h)
      simp only [fracS, if_neg h46] at hb
      rw [dF hh, if_neg hh]
      simp only [go_sem, reduceIte, Nat.reduceEqDiff, Nat.reduceAdd, q66r7]
      exact pnum_c hs hb hq
end
theorem pnumber_ok {s : List UInt8} (hs : s.length < 2 ^ 60) (m : Mem) : CS 66 [.str s] m (.ret (.bool (numS s))) m := by
  refine call_by xfok mixed q66at q66ok rfl ?_
  have hq : ∀ g0 g2 g3 g4 g5 g6 g7 g8 g9 g10 g11, endsIn q66.results (fun v' m1 => v' = AV.bool (numS s) ∧ m1 = m) noPan .ret [g0, .bool (numS s), g2, g3, g4, g5, g6, g7, g8, g9, g10, g11] m := by
    intro g0 g2 g3 g4 g5 g6 g7 g8 g9 g10 g11
    simp only [go_sem, reduceIte, Nat.reduceEqDiff, Nat.reduceAdd, q66]
  rw [q66_body]
  show wc CS _ _ [AV.str s, .u, .u, .u, .u, .u, .u, .u, .u, .u, .u, .u] m
  generalize hQ : endsIn q66.results (fun v' m1 => v' = AV.bool (numS s) ∧ m1 = m) noPan = Q at hq
  simp only [go_sem, reduceIte, Nat.reduceEqDiff, Nat.reduceAdd, q66r0, q66r1]
  refine callW_ret (trim_prefix1 m) ?_
  have ht : ∃ t, (if s.head? = some 45 then s.tail else s) = t ∧ t.length < 2 ^ 60 ∧ numS s = absS t := by
    cases s with
    | nil => exact ⟨[], rfl, by simp, rfl⟩
    | cons c r =>
      by_cases h45 : c.toNat = 45
      · exact ⟨r, by rw [if_pos (head_45.2 h45)]; rfl, by simp at hs; omega, by simp [numS, h45]⟩
      · exact ⟨c :: r, by rw [if_neg (fun h => h45 (head_45.1 h))], hs, by simp [numS, h45]⟩
  obtain ⟨t, e, htl, hnum⟩ := ht
  rw [e]
  have hle := runN_le (p := isDig) (s := t)
  simp only [go_sem, reduceIte, Nat.reduceEqDiff, Nat.reduceAdd, q66r2]
  refine callW_ret (prun_ok (by omega) m) ?_
  unfold absS at hnum
  by_cases h0 : runN isDig t = 0
  · have a2 : (((runN isDig t : Nat) : Int) == 0) = true := bqT (by omega)
    rw [if_pos (.inl h0)] at hnum
    rw [hnum] at hq
    simp only [go_sem, reduceIte, Nat.reduceEqDiff, Nat.reduceAdd, q66r3, a2, q66r4]
    exact hq _ _ _ _ _ _ _ _ _ _ _
  · have a2 : (((runN isDig t : Nat) : Int) == 0) = false := bqF (by omega)
    have hsl := slice_from (s := t) (kk := .i64) (k := runN isDig t) hle
    by_cases h1 : 1 < runN isDig t
    · have a3 : decide (((runN isDig t : Nat) : Int) > 1) = true := dT (by omega)
      cases t with
      | nil => simp [runN_nil] at h0
      | cons c r =>
        by_cases h48 : c.toNat = 48
        · have a4 : ((c.toNat : Int) == 48) = true := bqT (by omega)
          have hc : c = 48 := UInt8.toNat_inj.1 h48
          rw [if_pos (.inr ⟨h1, by rw [hc]; rfl⟩)] at hnum
          rw [hnum] at hq
          simp only [go_sem, reduceIte, Nat.reduceEqDiff, Nat.reduceAdd, q66r3, a2, a3, idx_0, a4, q66r4]
          exact hq _ _ _ _ _ _ _ _ _ _ _
        · have a4 : ((c.toNat : Int) == 48) = false := bqF (by omega)
          rw [if_neg (by
            rintro (h | ⟨_, h⟩)
            · exact h0 h
            · simp at h; exact h48 (by rw [h]; rfl))] at hnum
          simp only [go_sem, reduceIte, Nat.reduceEqDiff, Nat.reduceAdd, q66r3, a2, a3, idx_0, a4, q66r5, hsl]
          exact pnum_b (by rw [List.length_drop]; omega) hnum hq
    · have a3 : decide (((runN isDig t : Nat) : Int) > 1) = false := dF (by omega)
      rw [if_neg (by
        rintro (h | ⟨h, _⟩)
        · exact h0 h
        · exact h1 h)] at hnum
      simp only [go_sem, reduceIte, Nat.reduceEqDiff, Nat.reduceAdd, q66r3, a2, a3, q66r5, hsl]
      exact pnum_b (by rw [List.length_drop]; omega) hnum hq

/-! ### words -/
theorem pword_loop {p : Nat} {s of : List UInt8} {P : UInt8 → Bool} (hP : ∀ c, decide (c ∈ of) = P c) {left : Int} {from' : Nat} {Q : AExit → List AV → Mem → Prop} (hs : s.length < 2 ^ 61) :
    ∀ (n i : Nat) (M : Mem) (g2 g4 : AV), M.get p = PP s i left → runN P (s.drop i) = n → (∀ g2 g4, Q (.exit 0) [.ptr p 0, .str of, g2, .int .i64 from', g4] (M.set p (PP s (i + n) left))) → wl CS [2, 4] q65l4 Q [.ptr p 0, .str of, g2, .int .i64 from', g4] M := by
  intro n
  induction n with
  | zero =>
    intro i M g2 g4 hp hn hq
    refine wl_step ?_
    rw [set_self (by simpa using hp)] at hq
    cases hc : s[i]? with
    | none =>
      have h1 := List.getElem?_eq_none_iff.1 hc
      have e1 : decide ((i : Int) < (s.length : Nat)) = false := dF (by omega)
      simp only [go_sem, reduceIte, Nat.reduceEqDiff, Nat.reduceAdd, q65l4, q65r2, hp, e1]
      exact hq _ _
    | some c =>
      have h1 := (List.getElem?_eq_some_iff.1 hc).1
      have e1 : decide ((i : Int) < (s.length : Nat)) = true := dT (by omega)
      rw [drop_at hc, runN_cons] at hn
      have hd : P c = false := by
        cases h : P c with
        | true => rw [h, if_pos rfl] at hn; omega
        | false => rfl
      simp only [go_sem, reduceIte, Nat.reduceEqDiff, Nat.reduceAdd, q65l4, q65r2, hp, e1, idxS_at hc]
      refine callW_ret (index_byte_ok _ c M) ?_
      simp only [go_sem, reduceIte, Nat.reduceEqDiff, Nat.reduceAdd, idx_mem, hP, hd]
      exact hq _ _
  | succ n ih =>
    intro i M g2 g4 hp hn hq
    refine wl_step ?_
    have hlt : i < s.length := by
      have := runN_le (p := P) (s := s.drop i)
      simp at this; omega
    have hc : s[i]? = some s[i] := List.getElem?_eq_getElem hlt
    have e1 : decide ((i : Int) < (s.length : Nat)) = true := dT (by omega)
    rw [drop_at hc, runN_cons] at hn
    have hd : P s[i] = true := by
      cases h : P s[i] with
      | true => rfl
      | false => rw [h] at hn; simp at hn
    rw [if_pos hd] at hn
    have hw := wrap_succ (i := i) (by omega)
    simp only [go_sem, reduceIte, Nat.reduceEqDiff, Nat.reduceAdd, q65l4, q65r2, hp, e1, idxS_at hc]
    refine callW_ret (index_byte_ok _ _ M) ?_
    simp only [go_sem, reduceIte, Nat.reduceEqDiff, Nat.reduceAdd, idx_mem, hP, hd, q65r3, hp, hw]
    refine ih (i + 1) _ _ _ get_set_same (by omega) (fun g2 g4 => ?_)
    rw [set_set, show i + 1 + n = i + (n + 1) by omega]
    exact hq _ _
theorem pword_ok {m : Mem} {p : Nat} {s of : List UInt8} {P : UInt8 → Bool} (hP : ∀ c, decide (c ∈ of) = P c) {i : Nat} {left : Int} (hs : s.length < 2 ^ 61) (hi : i ≤ s.length) (hp : m.get p = PP s i left) :
    CS 65 [.ptr p 0, .str of] m (.ret (.str ((s.drop i).takeWhile P))) (m.set p (PP s (i + runN P (s.drop i)) left)) := by
  refine call_by xfok mixed q65at q65ok rfl ?_
  simp only [go_sem, reduceIte, Nat.reduceEqDiff, Nat.reduceAdd, q65, q65r0, q65r1, hp]
  refine pword_loop hP hs (runN P (s.drop i)) i m _ _ hp rfl (fun g2 g4 => ?_)
  have hle := runN_le (p := P) (s := s.drop i)
  simp only [List.length_drop] at hle
  have hsl := slice_from_to (s := s) (k1 := .i64) (k2 := .i64) (i := i) (j := i + runN P (s.drop i)) (by omega) (by omega)
  rw [List.drop_take, Nat.add_sub_cancel_left, take_runN] at hsl
  simp only [go_sem, reduceIte, Nat.reduceEqDiff, Nat.reduceAdd, q65r5, hsl]
theorem mem_small : ∀ c : UInt8, decide (c ∈ ([97, 98, 99, 100, 101, 102, 103, 104, 105, 106, 107, 108, 109, 110, 111, 112, 113, 114, 115, 116, 117, 118, 119, 120, 121, 122] : List UInt8)) = isSmall c := by
  have : ∀ n : Fin 256, decide (UInt8.ofNat n.val ∈ ([97, 98, 99, 100, 101, 102, 103, 104, 105, 106, 107, 108, 109, 110, 111, 112, 113, 114, 115, 116, 117, 118, 119, 120, 121, 122] : List UInt8)) = isSmall (UInt8.ofNat n.val) := by decide +kernel
  intro c
  have := this ⟨c.toNat, c.toNat_lt⟩
  simpa using this
theorem mem_num : ∀ c : UInt8, decide (c ∈ ([48, 49, 50, 51, 52, 53, 54, 55, 56, 57, 43, 45, 46, 101, 69] : List UInt8)) = isNum c := by
  have : ∀ n : Fin 256, decide (UInt8.ofNat n.val ∈ ([48, 49, 50, 51, 52, 53, 54, 55, 56, 57, 43, 45, 46, 101, 69] : List UInt8)) = isNum (UInt8.ofNat n.val) := by decide +kernel
  intro c
  have := this ⟨c.toNat, c.toNat_lt⟩
  simpa using this
end Go.Proofs.YtinlfdkalijffaaDoor.Am.Q

/-
  JSON, 33: the program's signs as bytes.
-/
namespace Go.Proofs.YtinlfdkalijffaaDoor.Am.Q
open Go Go.Proofs Go.Proofs.YtinlfdkalijffaaDoor.Am

/-! ### bits -/
theorem wrapU8 {n : Nat} : IntKind.u8.wrap (n : Int) = ((n % 256 : Nat) : Int) := by rw [wrap_u8]; omega
theorem and63 {x : Nat} : IntKind.u8.wrap (((@HAnd.hAnd (BitVec 8) (BitVec 8) (BitVec 8) (@instHAndOfAndOp (BitVec IntKind.u8.bits) (@BitVec.instAndOp IntKind.u8.bits)) (BitVec.ofInt 8 ((x % 256 : Nat) : Int)) (BitVec.ofInt 8 63)).toNat : Nat) : Int) = ((x % 64 : Nat) : Int) := by
  have h : ∀ y : Fin 256, IntKind.u8.wrap (((@HAnd.hAnd (BitVec 8) (BitVec 8) (BitVec 8) (@instHAndOfAndOp (BitVec IntKind.u8.bits) (@BitVec.instAndOp IntKind.u8.bits)) (BitVec.ofInt 8 ((y.val : Nat) : Int)) (BitVec.ofInt 8 63)).toNat : Nat) : Int) = ((y.val % 64 : Nat) : Int) := by decide +kernel
  have := h ⟨x % 256, Nat.mod_lt _ (by omega)⟩
  rw [this]
  show ((x % 256 % 64 : Nat) : Int) = ((x % 64 : Nat) : Int)
  omega
theorem or128 {x : Nat} : IntKind.u8.wrap (((@HOr.hOr (BitVec 8) (BitVec 8) (BitVec 8) (@instHOrOfOrOp (BitVec IntKind.u8.bits) (@BitVec.instOrOp IntKind.u8.bits)) (BitVec.ofInt 8 128) (BitVec.ofInt 8 ((x % 64 : Nat) : Int))).toNat : Nat) : Int) = (((b8 (0x80 + x % 64)).toNat : Nat) : Int) := by
  have h : ∀ y : Fin 64, IntKind.u8.wrap (((@HOr.hOr (BitVec 8) (BitVec 8) (BitVec 8) (@instHOrOfOrOp (BitVec IntKind.u8.bits) (@BitVec.instOrOp IntKind.u8.bits)) (BitVec.ofInt 8 128) (BitVec.ofInt 8 ((y.val : Nat) : Int))).toNat : Nat) : Int) = (((b8 (0x80 + y.val)).toNat : Nat) : Int) := by decide +kernel
  exact h ⟨x % 64, Nat.mod_lt _ (by omega)⟩
theorem or192 {x : Nat} (hx : x < 32) : IntKind.u8.wrap (((@HOr.hOr (BitVec 8) (BitVec 8) (BitVec 8) (@instHOrOfOrOp (BitVec IntKind.u8.bits) (@BitVec.instOrOp IntKind.u8.bits)) (BitVec.ofInt 8 192) (BitVec.ofInt 8 ((x % 256 : Nat) : Int))).toNat : Nat) : Int) = (((b8 (0xC0 + x)).toNat : Nat) : Int) := by
  have h : ∀ y : Fin 32, IntKind.u8.wrap (((@HOr.hOr (BitVec 8) (BitVec 8) (BitVec 8) (@instHOrOfOrOp (BitVec IntKind.u8.bits) (@BitVec.instOrOp IntKind.u8.bits)) (BitVec.ofInt 8 192) (BitVec.ofInt 8 ((y.val % 256 : Nat) : Int))).toNat : Nat) : Int) = (((b8 (0xC0 + y.val)).toNat : Nat) : Int) := by decide +kernel
  exact h ⟨x, hx⟩
theorem or224 {x : Nat} (hx : x < 16) : IntKind.u8.wrap (((@HOr.hOr (BitVec 8) (BitVec 8) (BitVec 8) (@instHOrOfOrOp (BitVec IntKind.u8.bits) (@BitVec.instOrOp IntKind.u8.bits)) (BitVec.ofInt 8 224) (BitVec.ofInt 8 ((x % 256 : Nat) : Int))).toNat : Nat) : Int) = (((b8 (0xE0 + x)).toNat : Nat) : Int) := by
  have h : ∀ y : Fin 16, IntKind.u8.wrap (((@HOr.hOr (BitVec 8) (BitVec 8) (BitVec 8) (@instHOrOfOrOp (BitVec IntKind.u8.bits) (@BitVec.instOrOp IntKind.u8.bits)) (BitVec.ofInt 8 224) (BitVec.ofInt 8 ((y.val % 256 : Nat) : Int))).toNat : Nat) : Int) = (((b8 (0xE0 + y.val)).toNat : Nat) : Int) := by decide +kernel
  exact h ⟨x, hx⟩
theorem or240 {x : Nat} (hx : x < 8) : IntKind.u8.wrap (((@HOr.hOr (BitVec 8) (BitVec 8) (BitVec 8) (@instHOrOfOrOp (BitVec IntKind.u8.bits) (@BitVec.instOrOp IntKind.u8.bits)) (BitVec.ofInt 8 240) (BitVec.ofInt 8 ((x % 256 : Nat) : Int))).toNat : Nat) : Int) = (((b8 (0xF0 + x)).toNat : Nat) : Int) := by
  have h : ∀ y : Fin 8, IntKind.u8.wrap (((@HOr.hOr (BitVec 8) (BitVec 8) (BitVec 8) (@instHOrOfOrOp (BitVec IntKind.u8.bits) (@BitVec.instOrOp IntKind.u8.bits)) (BitVec.ofInt 8 240) (BitVec.ofInt 8 ((y.val % 256 : Nat) : Int))).toNat : Nat) : Int) = (((b8 (0xF0 + y.val)).toNat : Nat) : Int) := by decide +kernel
  exact h ⟨x, hx⟩
theorem shr6 {n : Nat} : (n : Int).fdiv (2 ^ min (Int.toNat 6) 32) = ((n / 64 : Nat) : Int) := by
  show (n : Int).fdiv ((64 : Nat) : Int) = _
  rw [Int.fdiv_eq_ediv_of_nonneg _ (by omega)]; rfl
theorem le0_6 : ((0 : Int) ≤ 6) = True := by simp
theorem shr12 {n : Nat} : (n : Int).fdiv (2 ^ min (Int.toNat 12) 32) = ((n / 4096 : Nat) : Int) := by
  show (n : Int).fdiv ((4096 : Nat) : Int) = _
  rw [Int.fdiv_eq_ediv_of_nonneg _ (by omega)]; rfl
theorem le0_12 : ((0 : Int) ≤ 12) = True := by simp
theorem shr18 {n : Nat} : (n : Int).fdiv (2 ^ min (Int.toNat 18) 32) = ((n / 262144 : Nat) : Int) := by
  show (n : Int).fdiv ((262144 : Nat) : Int) = _
  rw [Int.fdiv_eq_ediv_of_nonneg _ (by omega)]; rfl
theorem le0_18 : ((0 : Int) ≤ 18) = True := by simp
theorem wrap_u32 {n : Nat} (h : n < 2 ^ 32) : IntKind.u32.wrap (n : Int) = (n : Int) := by
  simp [IntKind.wrap, IntKind.signed, IntKind.bits]; omega

/-- What an append to an own slice leaves. -/
structure App (mb m : Mem) (xs l : List UInt8) (v : AV) (m' : Mem) : Prop where
  mine : Mine mb m' 5 1 v (bytesAV (xs ++ l))
  get : m'.get = m.get
  ext : ∀ p, ExtB p mb m → ExtB p mb m'
  ntok : m.ntok ≤ m'.ntok
theorem mine_app {mb m : Mem} {a : AV} {xs : List UInt8} (h : Mine mb m 5 1 a (bytesAV xs)) (hm : mb.ntok ≤ m.ntok) (hx : xs.length < 2 ^ 43) {l : List UInt8} (hl : l.length < 2 ^ 43) : ∃ v m', appendV m 5 1 1 a (bytesAV l) = some (v, m') ∧ App mb m xs l v m' := by
  obtain ⟨a', M2, n1, n2, n3, n4, n5, n6⟩ := h.append (bytes := 1) (ys := bytesAV l) hm (by rw [bytes_len, bytes_len]; simp [roomMax]; omega) (bytes_good l)
  rw [bytes_append] at n2
  exact ⟨a', M2, n1, n2, n3, n5, n6⟩

theorem rune_far {mb m : Mem} {a : AV} {xs : List UInt8} {n : Nat} (h : Mine mb m 5 1 a (bytesAV xs)) (hm : mb.ntok ≤ m.ntok) (hx : xs.length < 2 ^ 42) (hv : Utf8.valid (n : Int) = true) (h1 : ¬ n < 0x80) :
    ∃ v m', CS 109 [a, .int .i32 n] m (.ret v) m' ∧ App mb m xs (putN n) v m' := by
  obtain ⟨v, m', ha, hA⟩ := mine_app h hm (by omega) (l := putN n) (by have := (putN_len n).2; omega)
  refine ⟨v, m', ?_, hA⟩
  refine call_by xfok mixed q109at q109ok rfl ?_
  have hb : n ≤ 0x10FFFF := by simp [Utf8.valid] at hv; omega
  have hs : ¬ (55296 ≤ n ∧ n ≤ 57343) := by simp [Utf8.valid] at hv; omega
  have wn : IntKind.u32.wrap (n : Int) = (n : Int) := wrap_u32 (by omega)
  have sl := h.sl
  by_cases h2 : n < 0x800
  · rw [put2 h1 h2] at ha
    have e2 : decide ((n : Int) ≤ 2047) = true := dT (by omega)
    have ha' : appendV m 5 1 1 a [.int .u8 (b8 (0xC0 + n / 64)).toNat, .int .u8 (b8 (0x80 + n % 64)).toNat] = some (v, m') := ha
    simp only [go_sem, reduceIte, Nat.reduceEqDiff, Nat.reduceAdd, q109, q109r0, q109r1, wn, q109r2, e2, q109r3, shr6, le0_6, wrapU8 (n := n), wrapU8 (n := n / 64), or192 (x := n / 64) (by omega), and63, or128, elems, ha']
  · have e2 : decide ((n : Int) ≤ 2047) = false := dF (by omega)
    by_cases h3 : n < 0x10000
    · rw [put3 hv h1 h2 h3] at ha
      have ha' : appendV m 5 1 1 a [.int .u8 (b8 (0xE0 + n / 4096)).toNat, .int .u8 (b8 (0x80 + n / 64 % 64)).toNat, .int .u8 (b8 (0x80 + n % 64)).toNat] = some (v, m') := ha
      by_cases h4 : n < 55296
      · have e3 : decide ((n : Int) < 55296) = true := dT (by omega)
        simp only [go_sem, reduceIte, Nat.reduceEqDiff, Nat.reduceAdd, q109, q109r0, q109r1, wn, q109r2, e2, q109r4, e3, q109r6, shr6, le0_6, shr12, le0_12, wrapU8 (n := n), wrapU8 (n := n / 64), wrapU8 (n := n / 4096), or224 (x := n / 4096) (by omega), and63, or128, elems, ha']
      · have e3 : decide ((n : Int) < 55296) = false := dF (by omega)
        have e4 : decide ((57343 : Int) < (n : Int)) = true := dT (by omega)
        have e5 : decide ((n : Int) ≤ 65535) = true := dT (by omega)
        simp only [go_sem, reduceIte, Nat.reduceEqDiff, Nat.reduceAdd, q109, q109r0, q109r1, wn, q109r2, e2, q109r4, e3, q109r5, e4, e5, q109r6, shr6, le0_6, shr12, le0_12, wrapU8 (n := n), wrapU8 (n := n / 64), wrapU8 (n := n / 4096), or224 (x := n / 4096) (by omega), and63, or128, elems, ha']
    · rw [put4 hv h1 h2 h3] at ha
      have ha' : appendV m 5 1 1 a [.int .u8 (b8 (0xF0 + n / 262144)).toNat, .int .u8 (b8 (0x80 + n / 4096 % 64)).toNat, .int .u8 (b8 (0x80 + n / 64 % 64)).toNat, .int .u8 (b8 (0x80 + n % 64)).toNat] = some (v, m') := ha
      have e3 : decide ((n : Int) < 55296) = false := dF (by omega)
      have e4 : decide ((57343 : Int) < (n : Int)) = true := dT (by omega)
      have e5 : decide ((n : Int) ≤ 65535) = false := dF (by omega)
      have e6 : decide ((n : Int) > 65535) = true := dT (by omega)
      have e7 : decide ((n : Int) ≤ 1114111) = true := dT (by omega)
      simp only [go_sem, reduceIte, Nat.reduceEqDiff, Nat.reduceAdd, q109, q109r0, q109r1, wn, q109r2, e2, q109r4, e3, q109r5, e4, e5, q109r7, e6, e7, q109r8, shr6, le0_6, shr12, le0_12, shr18, le0_18, wrapU8 (n := n), wrapU8 (n := n / 64), wrapU8 (n := n / 4096), wrapU8 (n := n / 262144), or240 (x := n / 262144) (by omega), and63, or128, elems, ha']
theorem rune_ok {mb m : Mem} {a : AV} {xs : List UInt8} {n : Nat} (h : Mine mb m 5 1 a (bytesAV xs)) (hm : mb.ntok ≤ m.ntok) (hx : xs.length < 2 ^ 42) (hv : Utf8.valid (n : Int) = true) :
    ∃ v m', CS 102 [a, .int .i32 n] m (.ret v) m' ∧ App mb m xs (putN n) v m' := by
  have hb : n ≤ 0x10FFFF := by simp [Utf8.valid] at hv; omega
  have wn : IntKind.u32.wrap (n : Int) = (n : Int) := wrap_u32 (by omega)
  by_cases h1 : n < 0x80
  · obtain ⟨v, m', ha, hA⟩ := mine_app h hm (by omega) (l := putN n) (by have := (putN_len n).2; omega)
    refine ⟨v, m', ?_, hA⟩
    refine call_by xfok mixed q102at q102ok rfl ?_
    rw [put1 h1] at ha
    have e2 : decide ((n : Int) ≤ 127) = true := dT (by omega)
    have ha' : appendV m 5 1 1 a [.int .u8 ((n % 256 : Nat) : Int)] = some (v, m') := by
      rw [← ha]; simp [bytesAV, byteAV, b8]
    simp only [go_sem, reduceIte, Nat.reduceEqDiff, Nat.reduceAdd, q102, q102r0, q102r1, wn, e2, q102r2, wrapU8, elems, ha']
  · obtain ⟨v, m', hc, hA⟩ := rune_far h hm hx hv h1
    refine ⟨v, m', ?_, hA⟩
    refine call_by xfok mixed q102at q102ok rfl ?_
    have e2 : decide ((n : Int) ≤ 127) = false := dF (by omega)
    simp only [go_sem, reduceIte, Nat.reduceEqDiff, Nat.reduceAdd, q102, q102r0, q102r1, wn, e2, q102r3]
    refine callW_ret hc ?_
    simp only [go_sem, reduceIte, Nat.reduceEqDiff, Nat.reduceAdd]
/-- U.Put of bytes and one sign. -/
theorem put_ok {mb m : Mem} {a : AV} {xs : List UInt8} {n : Nat} (h : Mine mb m 5 1 a (bytesAV xs)) (hm : mb.ntok ≤ m.ntok) (hx : xs.length < 2 ^ 42) (hv : Utf8.valid (n : Int) = true) :
    ∃ v m', CS 91 [a, .sl .full 1 [.int .i32 n]] m (.ret v) m' ∧ App mb m xs (putN n) v m' := by
  obtain ⟨v1, m1, a1, A1⟩ := mine_app (Mine.nil (m0 := mb) (m := m) (e := 5) (sz := 1)) (xs := []) hm (by simp) (l := xs) (by omega)
  obtain ⟨v2, m2, a2, A2⟩ := rune_ok A1.mine (by have := A1.ntok; omega) (by simpa using hx) hv
  refine ⟨v2, m2, ?_, by simpa using A2.mine, A2.get.trans A1.get, fun p hp => A2.ext p (A1.ext p hp), Nat.le_trans A1.ntok A2.ntok⟩
  refine call_by xfok mixed q91at q91ok rfl ?_
  have e1 : decide ((0 : Int) < 1) = true := by decide
  have e2 : decide ((1 : Int) < 1) = false := by decide
  have w1 : IntKind.i64.wrap (0 + 1) = 1 := by decide
  have i0 : idxAddrV 1 (.sl .full 1 [.int .i32 n]) (.int .i64 0) = some (.sptr [.int .i32 n] 0) := rfl
  have l0 : ∀ m, lenV m (.sl .full 1 [.int .i32 n]) = some (.int .i64 1) := fun _ => rfl
  have k0 : isLK .sli (.sl .full 1 [.int .i32 n]) = true := rfl
  simp only [go_sem, reduceIte, Nat.reduceEqDiff, Nat.reduceAdd, q91, q91r0, q91r1, h.sl.elems, a1, q91r2, k0, l0]
  refine wl_step ?_
  simp only [go_sem, reduceIte, Nat.reduceEqDiff, Nat.reduceAdd, q91l7, q91r3, e1, q91r4, i0, q91r5]
  refine callW_ret a2 ?_
  simp only [go_sem, reduceIte, Nat.reduceEqDiff, Nat.reduceAdd, q91r6, w1]
  refine wl_step ?_
  simp only [go_sem, reduceIte, Nat.reduceEqDiff, Nat.reduceAdd, q91l7, q91r3, e2, q91r8]
end Go.Proofs.YtinlfdkalijffaaDoor.Am.Q
