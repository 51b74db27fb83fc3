/- Part KR3 of a claim's texts, joined: what the claim needs of them. -/
import Derived.Test.YtinlfdkalijffaaDoorKB2
set_option linter.unusedSimpArgs false
set_option linter.unusedVariables false
namespace Go.Proofs.YtinlfdkalijffaaDoor.Am.Q
open Go Go.Proofs Go.Proofs.YtinlfdkalijffaaDoor.Am
theorem pGo_list2 {s : List UInt8} {f i many deep : Nat} {acc : List VT} : pGo s (f + 1) (.list acc) i many deep = (match moreS s i (decide (acc = [])) 93 with
    | .error e => .error e
    | .ok (b, a) => if b = false then .ok (.node 5 [] [] acc, a, many) else
      (match pGo s f .val a many (deep + 1) with
        | .error e => .error e
        | .ok (v, k, many') => pGo s f (.list (acc ++ [v])) k many' deep)) := by
  rw [pGo_list]
  unfold moreS
  cases nxt s i with
  | error e => rfl
  | ok x =>
    obtain ⟨j, c⟩ := x
    dsimp only
    by_cases h93 : c.toNat = 93
    · rw [if_pos h93, if_pos h93]; rfl
    · rw [if_neg h93, if_neg h93]
      by_cases ha : acc = []
      · simp only [ha, decide_true, if_true, ne_eq, not_true_eq_false, false_and, if_false, Bool.true_eq_false]
        cases pGo s f .val j many (deep + 1) <;> rfl
      · by_cases h44 : c.toNat = 44
        · simp only [ha, h44, decide_false, if_true, ne_eq, not_true_eq_false, not_false_eq_true, and_false, if_false, Bool.true_eq_false, Bool.false_eq_true]
          cases pGo s f .val (j + 1) many (deep + 1) <;> rfl
        · simp [ha, h44]
theorem moreS_ok {s : List UInt8} {i e : Nat} {first b : Bool} {a : Nat} (h : moreS s i first e = .ok (b, a)) : i ≤ a ∧ a ≤ s.length ∧ (b = true → first = false → i < a) ∧ (b = false → i < a) := by
  unfold moreS at h
  cases hx : nxt s i with
  | error x => rw [hx] at h; cases h
  | ok x =>
    obtain ⟨j, c⟩ := x
    obtain ⟨h1, h2, h3, h4⟩ := nxt_ok hx
    rw [hx] at h
    dsimp only at h
    split at h
    · cases h; exact ⟨by omega, by omega, by simp, by omega⟩
    · split at h
      · rename_i hf
        cases h; exact ⟨by omega, by omega, by simp [hf], by simp⟩
      · split at h
        · cases h
        · cases h; exact ⟨by omega, by omega, by omega, by simp⟩
theorem qlist_loop {s : List UInt8} (hs : s.length < 2 ^ 30) {m : Mem} {p r q deep : Nat} (hdeep : deep < 64) (hpn : p < m.next) (hr : m.next ≤ r) (hrq : r < q) {F : Nat} (HV : ∀ f, f < F → QVal s f) {R : Except Flt (VT × Nat × Nat)} {Q : AExit → List AV → Mem → Prop}
    (hx : ∀ M c T j k, M.get q = .cells 26 c → M.get r = z26 → R = .ok (T, j, k) → IsVal (.agg c) T → ExtB p m M → M.get p = PP s j (4096 - (k : Int)) → ∀ g0 g1 g4, Q (.exit 0) [g0, g1, .ptr r 0, .ptr q 0, g4] M)
    (hw : ∀ M w k g, R = .error (w, k) → ExtB p m M → Q (.pan (STOP w k)) g M) :
    ∀ (f i many : Nat) (acc : List VT) (M : Mem) (kb : AV) (xs : List AV) (g4 : AV), f ≤ F → 2 * (s.length - i) + 2 ≤ f → many ≤ 4096 → acc.length ≤ i → i ≤ s.length → VSt p q m M (PP s i (4096 - (many : Int))) (lObj 5 .nilSl kb) → M.get r = z26 → Mine m M 26 4 kb xs → KidsOf xs acc →
      R = pGo s f (.list acc) i many deep → wl CS [4] q62l5 Q [.ptr p 0, .int .i64 (deep + 1 : Nat), .ptr r 0, .ptr q 0, g4] M := by
  intro f
  induction f with
  | zero => intro i many acc M kb xs g4 _ hf; omega
  | succ f ih =>
    intro i many acc M kb xs g4 hfF hf hmany hai hil hV hgr hm hk hR
    have hne := hV.ne
    have hgp := hV.gp
    have hgq := hV.gq
    have hsl := hm.sl
    have hkids : IsVal (.agg [.int .i64 5, .str [], .nilSl, kb]) (.node 5 [] [] acc) := .mk (.inl ⟨rfl, rfl⟩) hsl hk.1 hk.2
    have hrp : r ≠ p := by omega
    rw [pGo_list2] at hR
    refine wl_step ?_
    obtain ⟨rr, M1, k1, k2⟩ := pmore_ok (m := M) (by omega) hgp (decide (acc = [])) 93
    simp only [go_sem, reduceIte, Nat.reduceEqDiff, Nat.reduceAdd, q62l5, q62r3, hgq, hsl.isLK, hsl.len, hk.first]
    cases hmo : moreS s i (decide (acc = [])) 93 with
    | error e =>
      obtain ⟨w, k⟩ := e
      rw [hmo] at k2 hR
      obtain ⟨rfl, k3⟩ := k2
      refine callW_raise k1 ?_
      simp only [go_sem, reduceIte, Nat.reduceEqDiff, Nat.reduceAdd]
      exact hw _ _ _ _ hR (hV.ext.trans k3)
    | ok x =>
      obtain ⟨b, a⟩ := x
      rw [hmo] at k2 hR
      obtain ⟨rfl, rfl⟩ := k2
      obtain ⟨m1, m2, m3, m4⟩ := moreS_ok hmo
      refine callW_ret k1 ?_
      have hV1 := hV.setp (PP s a (4096 - (many : Int)))
      have hgr1 : (M.set p (PP s a (4096 - (many : Int)))).get r = z26 := by rw [get_set_other hrp]; exact hgr
      have hm1 := hm.ext ((ExtB.refl p M).setp (PP s a (4096 - (many : Int))))
      dsimp only at hR
      cases b with
      | false =>
        rw [if_pos rfl] at hR
        simp only [go_sem, reduceIte, Nat.reduceEqDiff, Nat.reduceAdd]
        exact hx _ _ _ _ _ hV1.gq hgr1 hR hkids hV1.ext hV1.gp _ _ _
      | true =>
        rw [if_neg (by decide)] at hR
        simp only [go_sem, reduceIte, Nat.reduceEqDiff, Nat.reduceAdd]
        generalize M.set p (PP s a (4096 - (many : Int))) = M1 at hV1 hm1 hgr1
        have hgq1 := hV1.gq
        obtain ⟨r2, M2, k1, k2⟩ := HV f (by omega) M1 p a many (deep + 1) (by omega) hmany (by omega) (by have := hV1.ext.next; omega) hV1.gp
        simp only [go_sem, reduceIte, Nat.reduceEqDiff, Nat.reduceAdd, q62r4, hgq1]
        cases hpv : pGo s f .val a many (deep + 1) with
        | error e =>
          obtain ⟨w, k⟩ := e
          rw [hpv] at k2 hR
          obtain ⟨rfl, k3⟩ := k2
          refine callW_raise k1 ?_
          refine ⟨fun _ => by simp, ?_, hw _ _ _ _ hR (hV1.ext.trans k3)⟩
          intro q hq h1 h2
          simp only [List.mem_singleton] at hq
          subst hq
          simp at h2
        | ok e =>
          obtain ⟨T, j, n'⟩ := e
          rw [hpv] at k2 hR
          obtain ⟨v, rfl, x1, x2, x3⟩ := k2
          refine callW_ret k1 ?_
          obtain ⟨k0, t0, ka0, kb0, rfl, o1, o2⟩ := x1.ones
          have hV2 := hV1.call x2 x3
          have hgq2 := hV2.gq
          have hgr2 : M2.get r = z26 := by rw [x2.get r (by have := hV1.lt; omega) hrp]; exact hgr1
          have hm2 := hm1.ext x2
          have hgd := val_good (k := k0) (t := t0) o1 o2
          obtain ⟨a', M4, n1, n2, n3, n4, n5, n6⟩ := hm2.append (bytes := 72) (ys := [.agg [.int .i64 k0, .str t0, ka0, kb0]]) hV2.ext.ntok (by rw [hk.1]; simp [roomMax]; omega) hgd
          have hV4 := hV2.same n3 n4 (n5 p hV2.ext)
          have hgq4 := hV4.gq
          simp only [go_sem, reduceIte, Nat.reduceEqDiff, Nat.reduceAdd, o1, o2, elems, n1, hgq4, n2.sl.one, n2.sl.cells, pushH_true]
          refine ⟨?_, ?_⟩
          · intro y hy _ _
            simp only [List.mem_singleton] at hy
            subst hy
            intro _ m1 m2 e1 e2
            have e1' : some M1 = some m1 := e1
            have e2' : some M2 = some m2 := e2
            injection e1' with e1'
            injection e2' with e2'
            subst e1'; subst e2'
            have key : ∀ M' : Mem, M'.get q = lObj 5 .nilSl kb → (evalP (Opd.ev [.ptr q 3] [.ptr p 0, .int .i64 (deep + 1 : Nat), .ptr r 0, .ptr q 0, .bool true]) M' (.load false 1 (.loc 0))).map (·.1) = some kb := by
              intro M' h
              have L : M'.load false 1 (.ptr q 3) = some kb := by rw [load_ptr, h]; rfl
              simp only [evalP, ev_loc0, L, Option.map_some]
            exact ⟨key _ hgq1, key _ hgq2⟩
          · have hV5 := hV4.setq (lObj 5 .nilSl a')
            have hgr5 : (M4.set q (lObj 5 .nilSl a')).get r = z26 := by rw [get_set_other (by omega), n3]; exact hgr2
            have hm5 := n2.ext (p := q) ((ExtB.refl q M4).setp (lObj 5 .nilSl a'))
            obtain ⟨g1, g2, g3⟩ := pGo_ok hpv hmany
            simp only [go_sem, reduceIte, Nat.reduceEqDiff, Nat.reduceAdd]
            refine ih j n' (acc ++ [T]) _ a' _ _ (by omega) ?_ g3 ?_ g2 hV5 hgr5 hm5 (hk.push x1) hR
            · by_cases ha : acc = []
              · omega
              · have := m3 rfl (by simp [ha]); omega
            · rw [List.length_append, List.length_singleton]
              by_cases ha : acc = []
              · rw [ha, List.length_nil]; omega
              · have := m3 rfl (by simp [ha]); omega
theorem qlist_step {s : List UInt8} (hs : s.length < 2 ^ 30) {F : Nat} (HV : ∀ f, f < F → QVal s f) : QList s F := by
  intro m p i many deep hf hil hmany hdeep hpn hp
  refine call_either (R := PvR p m s (pGo s F (.list []) (i + 1) many deep)) xfok mixed q62at q62ok rfl ?_
  have hVr := VSt.begin (oq := z26) hpn hp
  have hgr := hVr.gq
  have hpr := hVr.gp
  have hlr := hVr.lt
  have er := hVr.ext
  have nr : (m.alloc z26).next = m.next + 1 := rfl
  have hVq : VSt p (m.next + 1) m (((m.alloc z26).alloc z26).set (m.next + 1) (lObj 5 .nilSl .nilSl)) (PP s i (4096 - (many : Int))) (lObj 5 .nilSl .nilSl) :=
    ⟨(er.alloc _).set (by omega) _, by rw [get_set_other (by omega), get_old (by omega)]; exact hpr, get_set_same, by omega, by omega, by simp [Mem.set, Mem.alloc]⟩
  have hgr2 : (((m.alloc z26).alloc z26).set (m.next + 1) (lObj 5 .nilSl .nilSl)).get m.next = z26 := by rw [get_set_other (by omega), get_old (by omega)]; exact hgr
  have st : ((m.alloc z26).alloc z26).get (m.next + 1) = z26 := get_new
  have w1 := wrap_succ (i := i) (by omega)
  have hgp := hVq.gp
  simp only [go_sem, reduceIte, Nat.reduceEqDiff, Nat.reduceAdd, q62, q62r0, q62r1, next_alloc, st]
  generalize ((m.alloc z26).alloc z26).set (m.next + 1) (lObj 5 .nilSl .nilSl) = M0 at hVq hgr2 hgp
  have hV1 := hVq.setp (PP s (i + 1) (4096 - (many : Int)))
  have hgr3 : (M0.set p (PP s (i + 1) (4096 - (many : Int)))).get m.next = z26 := by rw [get_set_other (by omega)]; exact hgr2
  simp only [go_sem, reduceIte, Nat.reduceEqDiff, Nat.reduceAdd, q62r2, hgp, w1]
  refine qlist_loop hs (m := m) (p := p) (r := m.next) (q := m.next + 1) (deep := deep) hdeep hpn (Nat.le_refl _) (by omega) HV (R := pGo s F (.list []) (i + 1) many deep) (fun M c T j k g1 g2 g3 g4 g5 g6 a0 a1 a4 => ?_) (fun M w k g hR hE => ?_) F (i + 1) many [] _ .nilSl [] _ (Nat.le_refl _) hf hmany (by simp) (by omega) hV1 hgr3 .nil .nil rfl
  · obtain ⟨k0, t, ka, kb, e, o1, o2⟩ := g4.ones
    injection e with e
    subst e
    simp only [go_sem, reduceIte, Nat.reduceEqDiff, Nat.reduceAdd, q62r6, g1, g2, o1, o2]
    rw [g3]
    refine ⟨_, rfl, g4, g5.set (Nat.le_refl _) _, ?_⟩
    rw [get_set_other (by omega)]; exact g6
  · simp only [go_sem, reduceIte, Nat.reduceEqDiff, Nat.reduceAdd]
    rw [hR]; exact ⟨rfl, hE⟩
end Go.Proofs.YtinlfdkalijffaaDoor.Am.Q
namespace Go.Proofs.YtinlfdkalijffaaDoor.Am.Q
open Go Go.Proofs Go.Proofs.YtinlfdkalijffaaDoor.Am
def metOf (ks : List (List UInt8)) : List (AV × AV) := ks.map fun k => (.str k, .bool true)
theorem keyEq_str {a b : List UInt8} : keyEq (.str a) (.str b) = some (a == b) := rfl
theorem find_met {key : List UInt8} : ∀ {ks : List (List UInt8)}, mapFind (.str key) (metOf ks) = some (if key ∈ ks then some (.bool true) else none)
  | [] => rfl
  | k :: ks => by
    have ih := find_met (key := key) (ks := ks)
    simp only [metOf, List.map_cons, mapFind, keyEq_str]
    by_cases h : key = k
    · simp [h]
    · have : (key == k) = false := by simp [h]
      rw [this]
      simp only [metOf] at ih
      simp [h, ih]
theorem put_met {key : List UInt8} : ∀ {ks : List (List UInt8)}, key ∉ ks → mapPut (.str key) (.bool true) (metOf ks) = metOf (ks ++ [key])
  | [], _ => rfl
  | k :: ks, hn => by
    have h : key ≠ k := fun e => hn (by simp [e])
    have ih := put_met (key := key) (ks := ks) (fun e => hn (by simp [e]))
    have hb : (key == k) = false := by simp [h]
    simp only [metOf, List.map_cons, mapPut, keyEq_str, hb, List.cons_append] at ih ⊢
    rw [if_neg (by simp), ih]
theorem look_met {M : Mem} {w : Nat} {ks : List (List UInt8)} {key : List UInt8} (h : M.get w = .map (metOf ks)) : lookupV M (.bool false) false (.map w) (.str key) = some (.bool (decide (key ∈ ks))) := by
  simp only [lookupV, h, find_met]
  by_cases hk : key ∈ ks <;> simp [hk]
theorem upd_met {M : Mem} {w : Nat} {ks : List (List UInt8)} {key : List UInt8} (h : M.get w = .map (metOf ks)) (hn : key ∉ ks) : mapUpdV M (.map w) (.str key) (.bool true) = some (M.set w (.map (metOf (ks ++ [key])))) := by
  simp only [mapUpdV, h]
  rw [if_pos ⟨rfl, by rw [find_met]; rfl, rfl⟩, put_met hn]
theorem pGo_tab2 {s : List UInt8} {f i many deep : Nat} {ks : List (List UInt8)} {acc : List VT} : pGo s (f + 1) (.tab ks acc) i many deep = (match moreS s i (decide (acc = [])) 125 with
    | .error e => .error e
    | .ok (b, a0) => if b = false then .ok (.node 6 [] ks acc, a0, many) else
      (match nxt s a0 with
        | .error e => .error e
        | .ok (a, q) => if q.toNat ≠ 34 then .error (3, a) else
          (match quote s a with
          | .error e => .error e
          | .ok (key, b) => if key ∈ ks then .error (7, a) else
            (match mustS s b 58 with
            | .error e => .error e
            | .ok (_, d) =>
              (match pGo s f .val d many (deep + 1) with
              | .error e => .error e
              | .ok (v, k, many') => pGo s f (.tab (ks ++ [key]) (acc ++ [v])) k many' deep))))) := by
  have tail : ∀ a0, ((match nxt s a0 with
        | .error e => .error e
        | .ok (a, q) => if q.toNat ≠ 34 then .error (3, a) else
          (match quote s a with
          | .error e => .error e
          | .ok (key, b) => if key ∈ ks then .error (7, a) else
            (match nxt s b with
            | .error e => .error e
            | .ok (d, o) => if o.toNat ≠ 58 then .error (3, d) else
              (match pGo s f .val (d + 1) many (deep + 1) with
              | .error e => .error e
              | .ok (v, k, many') => pGo s f (.tab (ks ++ [key]) (acc ++ [v])) k many' deep)))) : Except Flt (VT × Nat × Nat)) = (match nxt s a0 with
        | .error e => .error e
        | .ok (a, q) => if q.toNat ≠ 34 then .error (3, a) else
          (match quote s a with
          | .error e => .error e
          | .ok (key, b) => if key ∈ ks then .error (7, a) else
            (match mustS s b 58 with
            | .error e => .error e
            | .ok (_, d) =>
              (match pGo s f .val d many (deep + 1) with
              | .error e => .error e
              | .ok (v, k, many') => pGo s f (.tab (ks ++ [key]) (acc ++ [v])) k many' deep)))) := by
    intro a0
    cases nxt s a0 with
    | error e => rfl
    | ok x =>
      obtain ⟨a, q⟩ := x
      dsimp only
      by_cases h34 : q.toNat ≠ 34
      · rw [if_pos h34, if_pos h34]
      · rw [if_neg h34, if_neg h34]
        cases quote s a with
        | error e => rfl
        | ok x =>
          obtain ⟨key, b⟩ := x
          dsimp only
          by_cases hk : key ∈ ks
          · rw [if_pos hk, if_pos hk]
          · rw [if_neg hk, if_neg hk]
            unfold mustS
            cases nxt s b with
            | error e => rfl
            | ok x =>
              obtain ⟨d, o⟩ := x
              dsimp only
              by_cases h58 : o.toNat ≠ 58
              · rw [if_pos h58, if_pos h58]
              · rw [if_neg h58, if_neg h58]
  rw [pGo_tab]
  unfold moreS
  cases nxt s i with
  | error e => rfl
  | ok x =>
    obtain ⟨j, c⟩ := x
    dsimp only
    by_cases h93 : c.toNat = 125
    · rw [if_pos h93, if_pos h93]; rfl
    · rw [if_neg h93, if_neg h93]
      by_cases ha : acc = []
      · rw [if_neg (fun h => h.1 ha), if_pos ha, if_pos (dT ha)]
        exact tail j
      · by_cases h44 : c.toNat = 44
        · rw [if_neg (fun h => h.2 h44), if_neg ha, if_neg (by simp [ha]), if_neg (fun h => h h44)]
          exact tail (j + 1)
        · rw [if_pos ⟨ha, h44⟩, if_neg (by simp [ha]), if_pos h44]
structure TSt (p q r w : Nat) (m M : Mem) (s : List UInt8) (i many : Nat) (ka kb : AV) (met ks : List (List UInt8)) (xs : List AV) : Prop where
  vst : VSt p q m M (PP s i (4096 - (many : Int))) (lObj 6 ka kb)
  gr : M.get r = z26
  gw : M.get w = .map (metOf met)
  lw : w < M.next
  ma : Mine m M 9 1 ka (ks.map .str)
  mb : Mine m M 26 4 kb xs
  rq : r < q
  qw : q < w
  rm : m.next ≤ r
  pn : p < m.next
theorem TSt.call {p q r w : Nat} {m M M' : Mem} {s : List UInt8} {i i' many many' : Nat} {ka kb : AV} {met ks : List (List UInt8)} {xs : List AV} (h : TSt p q r w m M s i many ka kb met ks xs) (hE : ExtB p M M') (hg : M'.get p = PP s i' (4096 - (many' : Int))) : TSt p q r w m M' s i' many' ka kb met ks xs :=
  have h1 := h.rq
  have h2 := h.qw
  have h3 := h.rm
  have h4 := h.pn
  have h5 := h.lw
  ⟨h.vst.call hE hg, by rw [hE.get r (by omega) (by omega)]; exact h.gr, by rw [hE.get w h5 (by omega)]; exact h.gw, Nat.lt_of_lt_of_le h5 hE.next, h.ma.ext hE, h.mb.ext hE, h.rq, h.qw, h.rm, h.pn⟩
theorem TSt.setp {p q r w : Nat} {m M : Mem} {s : List UInt8} {i many : Nat} {ka kb : AV} {met ks : List (List UInt8)} {xs : List AV} (h : TSt p q r w m M s i many ka kb met ks xs) (i' : Nat) : TSt p q r w m (M.set p (PP s i' (4096 - (many : Int)))) s i' many ka kb met ks xs :=
  h.call ((ExtB.refl p M).setp _) get_set_same
theorem qtab_loop {s : List UInt8} (hs : s.length < 2 ^ 30) {m : Mem} {p r q w deep : Nat} (hdeep : deep < 64) {F : Nat} (HV : ∀ f, f < F → QVal s f) {R : Except Flt (VT × Nat × Nat)} {Q : AExit → List AV → Mem → Prop}
    (hx : ∀ M c T j k, M.get q = .cells 26 c → M.get r = z26 → R = .ok (T, j, k) → IsVal (.agg c) T → ExtB p m M → M.get p = PP s j (4096 - (k : Int)) → ∀ g0 g1 g4 g5 g6 g7 g8 g9, Q (.exit 0) [g0, g1, .ptr r 0, .ptr q 0, g4, g5, g6, g7, g8, g9] M)
    (hw : ∀ M w k g, R = .error (w, k) → ExtB p m M → Q (.pan (STOP w k)) g M) :
    ∀ (f i many : Nat) (ks : List (List UInt8)) (acc : List VT) (M : Mem) (ka kb : AV) (xs : List AV) (g5 g6 g7 g8 g9 : AV), f ≤ F → 2 * (s.length - i) + 2 ≤ f → many ≤ 4096 → acc.length ≤ i → ks.length ≤ i → i ≤ s.length → TSt p q r w m M s i many ka kb ks ks xs → KidsOf xs acc →
      R = pGo s f (.tab ks acc) i many deep → wl CS [5, 6, 7, 8, 9] q63l15 Q [.ptr p 0, .int .i64 (deep + 1 : Nat), .ptr r 0, .ptr q 0, .map w, g5, g6, g7, g8, g9] M := by
  intro f
  induction f with
  | zero => intro i many ks acc M ka kb xs g5 g6 g7 g8 g9 _ hf; omega
  | succ f ih =>
    intro i many ks acc M ka kb xs g5 g6 g7 g8 g9 hfF hf hmany hai hki hil hT hk hR
    have hgp := hT.vst.gp
    have hgq := hT.vst.gq
    have hsl := hT.mb.sl
    have hkids : IsVal (.agg [.int .i64 6, .str [], ka, kb]) (.node 6 [] ks acc) := .mk hT.ma.sl hsl hk.1 hk.2
    rw [pGo_tab2] at hR
    refine wl_step ?_
    obtain ⟨rr, M1, k1, k2⟩ := pmore_ok (m := M) (by omega) hgp (decide (acc = [])) 125
    simp only [go_sem, reduceIte, Nat.reduceEqDiff, Nat.reduceAdd, q63l15, q63r4, hgq, hsl.isLK, hsl.len, hk.first]
    cases hmo : moreS s i (decide (acc = [])) 125 with
    | error e =>
      obtain ⟨w', k⟩ := e
      rw [hmo] at k2 hR
      obtain ⟨rfl, k3⟩ := k2
      refine callW_raise k1 ?_
      simp only [go_sem, reduceIte, Nat.reduceEqDiff, Nat.reduceAdd]
      exact hw _ _ _ _ hR (hT.vst.ext.trans k3)
    | ok x =>
      obtain ⟨b, a0⟩ := x
      rw [hmo] at k2 hR
      obtain ⟨rfl, rfl⟩ := k2
      obtain ⟨m1, m2, m3, m4⟩ := moreS_ok hmo
      refine callW_ret k1 ?_
      have hT1 := hT.setp a0
      generalize M.set p (PP s a0 (4096 - (many : Int))) = M1 at hT1
      dsimp only at hR
      cases b with
      | false =>
        rw [if_pos rfl] at hR
        simp only [go_sem, reduceIte, Nat.reduceEqDiff, Nat.reduceAdd]
        exact hx _ _ _ _ _ hT1.vst.gq hT1.gr hR hkids hT1.vst.ext hT1.vst.gp _ _ _ _ _ _ _ _
      | true =>
        rw [if_neg (by decide)] at hR
        have hn := pnext_ok (m := M1) (by omega) hT1.vst.gp
        simp only [go_sem, reduceIte, Nat.reduceEqDiff, Nat.reduceAdd, q63r5]
        cases hx1 : nxt s a0 with
        | error e =>
          obtain ⟨w', k⟩ := e
          rw [hx1] at hR
          simp only [pnextR, hx1] at hn
          refine callW_raise hn ?_
          simp only [go_sem, reduceIte, Nat.reduceEqDiff, Nat.reduceAdd]
          exact hw _ _ _ _ hR (hT1.vst.ext.setp _)
        | ok e =>
          obtain ⟨a, c⟩ := e
          obtain ⟨d1, d2, d3, d4⟩ := nxt_ok hx1
          rw [hx1] at hR
          simp only [pnextR, hx1] at hn
          rw [← d4] at hn
          refine callW_ret hn ?_
          have hT2 := hT1.setp a
          generalize M1.set p (PP s a (4096 - (many : Int))) = M2 at hT2
          have hgp2 := hT2.vst.gp
          dsimp only at hR
          by_cases h34 : c.toNat = 34
          · rw [if_neg (by omega)] at hR
            have a34 : ((c.toNat : Int) != 34) = false := bnF (by omega)
            obtain ⟨r3, M3, k1, k2⟩ := pquo_ok (m := M2) (by omega) d2 hgp2
            simp only [go_sem, reduceIte, Nat.reduceEqDiff, Nat.reduceAdd, a34, q63r7, hgp2, q63r8]
            cases hqu : quote s a with
            | error x =>
              obtain ⟨w', k⟩ := x
              rw [hqu] at k2 hR
              obtain ⟨rfl, k3⟩ := k2
              refine callW_raise k1 ?_
              simp only [go_sem, reduceIte, Nat.reduceEqDiff, Nat.reduceAdd]
              exact hw _ _ _ _ hR (hT2.vst.ext.trans k3)
            | ok x =>
              obtain ⟨key, d⟩ := x
              rw [hqu] at k2 hR
              obtain ⟨rfl, k3, k4⟩ := k2
              have hq1 := quote_ok hqu
              refine callW_ret k1 ?_
              have hT3 := hT2.call k3 k4
              dsimp only at hR
              have kk : isKK .str (.str key) = true := rfl
              by_cases hin : key ∈ ks
              · rw [if_pos hin] at hR
                simp only [go_sem, reduceIte, Nat.reduceEqDiff, Nat.reduceAdd, q63r9, look_met hT3.gw, dT hin, kk, q63r10]
                refine callW_raise (pfail_ok p 7 a _) ?_
                simp only [go_sem, reduceIte, Nat.reduceEqDiff, Nat.reduceAdd]
                exact hw _ _ _ _ hR hT3.vst.ext
              · rw [if_neg hin] at hR
                simp only [go_sem, reduceIte, Nat.reduceEqDiff, Nat.reduceAdd, q63r9, look_met hT3.gw, dF hin, kk, q63r11, upd_met hT3.gw hin]
                have g1 := hT3.rq
                have g2 := hT3.qw
                have g3 := hT3.rm
                have g4 := hT3.pn
                have hT4 : TSt p q r w m (M3.set w (.map (metOf (ks ++ [key])))) s d many ka kb (ks ++ [key]) ks xs :=
                  ⟨hT3.vst.other (by omega) (by omega) (by omega) _, by rw [get_set_other (by omega)]; exact hT3.gr, get_set_same, hT3.lw, hT3.ma.ext (p := w) ((ExtB.refl w M3).setp _), hT3.mb.ext (p := w) ((ExtB.refl w M3).setp _), g1, g2, g3, g4⟩
                generalize M3.set w (.map (metOf (ks ++ [key]))) = M4 at hT4
                obtain ⟨r5, M5, k1, k2⟩ := pmust_ok (m := M4) (by omega) hT4.vst.gp 58
                simp only [go_sem, reduceIte, Nat.reduceEqDiff, Nat.reduceAdd, q63r12]
                cases hmu : mustS s d 58 with
                | error x =>
                  obtain ⟨w', k⟩ := x
                  rw [hmu] at k2 hR
                  obtain ⟨rfl, k3⟩ := k2
                  refine callW_raise k1 ?_
                  simp only [go_sem, reduceIte, Nat.reduceEqDiff, Nat.reduceAdd]
                  exact hw _ _ _ _ hR (hT4.vst.ext.trans k3)
                | ok x =>
                  obtain ⟨_, d1'⟩ := x
                  rw [hmu] at k2 hR
                  obtain ⟨rfl, rfl⟩ := k2
                  refine callW_ret k1 ?_
                  have hmu2 : d < d1' ∧ d1' ≤ s.length := by
                    unfold mustS at hmu
                    cases hx5 : nxt s d with
                    | error e => rw [hx5] at hmu; cases hmu
                    | ok e =>
                      obtain ⟨j5, c5⟩ := e
                      obtain ⟨y1, y2, y3, y4⟩ := nxt_ok hx5
                      rw [hx5] at hmu
                      dsimp only at hmu
                      split at hmu
                      · cases hmu
                      · cases hmu; omega
                  have hT5 := hT4.setp d1'
                  generalize M4.set p (PP s d1' (4096 - (many : Int))) = M5 at hT5
                  dsimp only at hR
                  -- the key
                  obtain ⟨ka', M7, n1, n2, n3, n4, n5, n6⟩ := hT5.ma.append (bytes := 16) (ys := [.str key]) hT5.vst.ext.ntok (by simp [roomMax]; omega) str_good
                  have hm7 := mine_keep hT5.ma n1 hT5.mb (by decide)
                  have hV7 := hT5.vst.same n3 n4 (n5 p hT5.vst.ext)
                  have hgq5 := hT5.vst.gq
                  have hgq7 := hV7.gq
                  have n2' : Mine m M7 9 1 ka' ((ks ++ [key]).map .str) := by simpa using n2
                  have ext8 := (ExtB.refl q M7).setp (lObj 6 ka' kb)
                  have hT8 : TSt p q r w m (M7.set q (lObj 6 ka' kb)) s d1' many ka' kb (ks ++ [key]) (ks ++ [key]) xs :=
                    ⟨hV7.setq _, by rw [get_set_other (by omega), n3]; exact hT5.gr, by rw [get_set_other (by omega), n3]; exact hT5.gw, by rw [show (M7.set q (lObj 6 ka' kb)).next = M7.next from rfl, n4]; exact hT5.lw, n2'.ext ext8, hm7.ext ext8, g1, g2, g3, g4⟩
                  simp only [go_sem, reduceIte, Nat.reduceEqDiff, Nat.reduceAdd, q63r13, hgq5, elems, n1, hgq7, n2'.sl.cells, n2'.sl.one]
                  generalize M7.set q (lObj 6 ka' kb) = M8 at hT8
                  -- the value
                  have hgq8 := hT8.vst.gq
                  obtain ⟨r2, M2', k1, k2⟩ := HV f (by omega) M8 p d1' many (deep + 1) (by omega) hmany (by omega) (by have := hT8.vst.ext.next; omega) hT8.vst.gp
                  simp only [go_sem, reduceIte, Nat.reduceEqDiff, Nat.reduceAdd, q63r14, hgq8]
                  cases hpv : pGo s f .val d1' many (deep + 1) with
                  | error e =>
                    obtain ⟨w', k⟩ := e
                    rw [hpv] at k2 hR
                    obtain ⟨rfl, k3⟩ := k2
                    refine callW_raise k1 ?_
                    refine ⟨fun _ => by simp, ?_, hw _ _ _ _ hR (hT8.vst.ext.trans k3)⟩
                    intro q hq h1 h2
                    simp only [List.mem_singleton] at hq
                    subst hq
                    simp at h2
                  | ok e =>
                    obtain ⟨T, j, n'⟩ := e
                    rw [hpv] at k2 hR
                    obtain ⟨v, rfl, x1, x2, x3⟩ := k2
                    refine callW_ret k1 ?_
                    obtain ⟨k0, t0, ka0, kb0, rfl, o1, o2⟩ := x1.ones
                    have hT9 := hT8.call x2 x3
                    have hgq9 := hT9.vst.gq
                    have hgd := val_good (k := k0) (t := t0) o1 o2
                    obtain ⟨a', Ma, l1, l2, l3, l4, l5, l6⟩ := hT9.mb.append (bytes := 72) (ys := [.agg [.int .i64 k0, .str t0, ka0, kb0]]) hT9.vst.ext.ntok (by rw [hk.1]; simp [roomMax]; omega) hgd
                    have hma := mine_keep hT9.mb l1 hT9.ma (by decide)
                    have hVa := hT9.vst.same l3 l4 (l5 p hT9.vst.ext)
                    have hgqa := hVa.gq
                    simp only [go_sem, reduceIte, Nat.reduceEqDiff, Nat.reduceAdd, o1, o2, elems, l1, hgqa, l2.sl.one, l2.sl.cells, pushH_true]
                    refine ⟨?_, ?_⟩
                    · intro y hy _ _
                      simp only [List.mem_singleton] at hy
                      subst hy
                      intro _ m1 m2 e1 e2
                      have e1' : some M8 = some m1 := e1
                      have e2' : some M2' = some m2 := e2
                      injection e1' with e1'
                      injection e2' with e2'
                      subst e1'; subst e2'
                      have key : ∀ (M' : Mem) (fr : List AV), M'.get q = lObj 6 ka' kb → (evalP (Opd.ev [.ptr q 3] fr) M' (.load false 1 (.loc 0))).map (·.1) = some kb := by
                        intro M' fr h
                        have L : M'.load false 1 (.ptr q 3) = some kb := by rw [load_ptr, h]; rfl
                        simp only [evalP, ev_loc0, L, Option.map_some]
                      exact ⟨key _ _ hgq8, key _ _ hgq9⟩
                    · have exta := (ExtB.refl q Ma).setp (lObj 6 ka' a')
                      have hTb : TSt p q r w m (Ma.set q (lObj 6 ka' a')) s j n' ka' a' (ks ++ [key]) (ks ++ [key]) (xs ++ [.agg [.int .i64 k0, .str t0, ka0, kb0]]) :=
                        ⟨hVa.setq _, by rw [get_set_other (by omega), l3]; exact hT9.gr, by rw [get_set_other (by omega), l3]; exact hT9.gw, by rw [show (Ma.set q (lObj 6 ka' a')).next = Ma.next from rfl, l4]; exact hT9.lw, hma.ext exta, l2.ext exta, g1, g2, g3, g4⟩
                      obtain ⟨z1, z2, z3⟩ := pGo_ok hpv hmany
                      simp only [go_sem, reduceIte, Nat.reduceEqDiff, Nat.reduceAdd]
                      exact ih j n' (ks ++ [key]) (acc ++ [T]) _ ka' a' _ _ _ _ _ _ (by omega) (by omega) z3 (by rw [List.length_append, List.length_singleton]; omega) (by rw [List.length_append, List.length_singleton]; omega) z2 hTb (hk.push x1) hR
          · rw [if_pos h34] at hR
            have a34 : ((c.toNat : Int) != 34) = true := bnT (by omega)
            simp only [go_sem, reduceIte, Nat.reduceEqDiff, Nat.reduceAdd, a34, q63r6, hgp2]
            refine callW_raise (pfail_ok p 3 a _) ?_
            simp only [go_sem, reduceIte, Nat.reduceEqDiff, Nat.reduceAdd]
            exact ⟨by simp, hw _ _ _ _ hR hT2.vst.ext⟩
theorem qtab_step {s : List UInt8} (hs : s.length < 2 ^ 30) {F : Nat} (HV : ∀ f, f < F → QVal s f) : QTab s F := by
  intro m p i many deep hf hil hmany hdeep hpn hp
  refine call_either (R := PvR p m s (pGo s F (.tab [] []) (i + 1) many deep)) xfok mixed q63at q63ok rfl ?_
  have hVr := VSt.begin (oq := z26) hpn hp
  have hgr := hVr.gq
  have hpr := hVr.gp
  have er := hVr.ext
  have nr : (m.alloc z26).next = m.next + 1 := rfl
  have nr3 : (((m.alloc z26).alloc z26).set (m.next + 1) (lObj 6 .nilSl .nilSl)).next = m.next + 2 := rfl
  have hVq : VSt p (m.next + 1) m ((((m.alloc z26).alloc z26).set (m.next + 1) (lObj 6 .nilSl .nilSl)).alloc (.map [])) (PP s i (4096 - (many : Int))) (lObj 6 .nilSl .nilSl) :=
    ⟨((er.alloc _).set (by omega) _).alloc _, by rw [get_old (by omega), get_set_other (by omega), get_old (by omega)]; exact hpr, by rw [get_old (by omega)]; exact get_set_same, by omega, by omega, by simp [Mem.set, Mem.alloc]⟩
  have hT0 : TSt p (m.next + 1) m.next (m.next + 2) m ((((m.alloc z26).alloc z26).set (m.next + 1) (lObj 6 .nilSl .nilSl)).alloc (.map [])) s i many .nilSl .nilSl [] [] [] :=
    ⟨hVq, by rw [get_old (by omega), get_set_other (by omega), get_old (by omega)]; exact hgr, get_new, by simp [Mem.set, Mem.alloc], .nil, .nil, by omega, by omega, Nat.le_refl _, hpn⟩
  have st : ((m.alloc z26).alloc z26).get (m.next + 1) = z26 := get_new
  have w1 := wrap_succ (i := i) (by omega)
  have hgp := hVq.gp
  simp only [go_sem, reduceIte, Nat.reduceEqDiff, Nat.reduceAdd, q63, q63r0, q63r1, next_alloc, st, q63r2]
  have hT1 := hT0.setp (i + 1)
  generalize (((m.alloc z26).alloc z26).set (m.next + 1) (lObj 6 .nilSl .nilSl)).alloc (.map []) = M0 at hT1 hgp
  simp only [go_sem, reduceIte, Nat.reduceEqDiff, Nat.reduceAdd, q63r3, hgp, w1]
  refine qtab_loop hs (m := m) (p := p) (r := m.next) (q := m.next + 1) (w := m.next + 2) (deep := deep) hdeep HV (R := pGo s F (.tab [] []) (i + 1) many deep) (fun M c T j k g1 g2 g3 g4 g5 g6 a0 a1 a4 a5 a6 a7 a8 a9 => ?_) (fun M w k g hR hE => ?_) F (i + 1) many [] [] _ .nilSl .nilSl [] _ _ _ _ _ (Nat.le_refl _) hf hmany (by simp) (by simp) (by omega) hT1 .nil rfl
  · obtain ⟨k0, t, ka, kb, e, o1, o2⟩ := g4.ones
    injection e with e
    subst e
    simp only [go_sem, reduceIte, Nat.reduceEqDiff, Nat.reduceAdd, q63r16, g1, g2, o1, o2]
    rw [g3]
    refine ⟨_, rfl, g4, g5.set (Nat.le_refl _) _, ?_⟩
    rw [get_set_other (by omega)]; exact g6
  · simp only [go_sem, reduceIte, Nat.reduceEqDiff, Nat.reduceAdd]
    rw [hR]; exact ⟨rfl, hE⟩
theorem qval_all {s : List UInt8} (hs : s.length < 2 ^ 30) : ∀ F f, f ≤ F → QVal s f
  | 0, f, hf => by
    obtain rfl : f = 0 := by omega
    intro m p i many deep h; omega
  | F + 1, f, hf => by
    cases f with
    | zero => intro m p i many deep h; omega
    | succ f => exact qval_step (by omega) (qlist_step hs fun g hg => qval_all hs F g (by omega)) (qtab_step hs fun g hg => qval_all hs F g (by omega))
theorem qval_ok {s : List UInt8} (hs : s.length < 2 ^ 30) (f : Nat) : QVal s f := qval_all hs f f (Nat.le_refl _)
end Go.Proofs.YtinlfdkalijffaaDoor.Am.Q
namespace Go.Proofs.YtinlfdkalijffaaDoor.Am.Q
open Go Go.Proofs Go.Proofs.YtinlfdkalijffaaDoor.Am
def contO (o : Option UInt8) : Bool := match o with | some b => b.toNat / 64 == 2 | none => false
def decO (c : UInt8) (o1 o2 o3 : Option UInt8) : Nat × Nat :=
  let v (o : Option UInt8) : Nat := (o.getD 0).toNat
  if c.toNat < 0x80 then (c.toNat, 1)
  else if c.toNat / 32 == 6 && contO o1 then
    if (c.toNat % 32) * 64 + v o1 % 64 ≥ 0x80 then ((c.toNat % 32) * 64 + v o1 % 64, 2) else (65533, 1)
  else if c.toNat / 16 == 14 && contO o1 && contO o2 then
    if (c.toNat % 16) * 4096 + (v o1 % 64) * 64 + v o2 % 64 ≥ 0x800 && Utf8.valid (((c.toNat % 16) * 4096 + (v o1 % 64) * 64 + v o2 % 64 : Nat) : Int) then ((c.toNat % 16) * 4096 + (v o1 % 64) * 64 + v o2 % 64, 3) else (65533, 1)
  else if c.toNat / 8 == 30 && contO o1 && contO o2 && contO o3 then
    if (c.toNat % 8) * 262144 + (v o1 % 64) * 4096 + (v o2 % 64) * 64 + v o3 % 64 ≥ 0x10000 && Utf8.valid (((c.toNat % 8) * 262144 + (v o1 % 64) * 4096 + (v o2 % 64) * 64 + v o3 % 64 : Nat) : Int) then ((c.toNat % 8) * 262144 + (v o1 % 64) * 4096 + (v o2 % 64) * 64 + v o3 % 64, 4) else (65533, 1)
  else (65533, 1)
theorem get_at {s : List UInt8} {i : Nat} : (ByteArray.mk s.toArray).get! i = (s[i]?).getD 0 := by
  show s.toArray[i]! = _
  rw [getElem!_def, List.getElem?_toArray]
  cases s[i]? <;> rfl
theorem cont_at {s : List UInt8} {i k : Nat} : (decide (i + k < (ByteArray.mk s.toArray).size) && (s[i + k]?.getD 0).toNat / 64 == 2) = contO s[i + k]? := by
  have e : (ByteArray.mk s.toArray).size = s.length := by simp [ByteArray.size]
  rw [e]
  by_cases h : i + k < s.length
  · rw [List.getElem?_eq_getElem h]; simp [h, contO]
  · rw [List.getElem?_eq_none_iff.2 (by omega)]; simp [h, contO]
theorem decode_at {s : List UInt8} {i : Nat} {c : UInt8} (hc : s[i]? = some c) : Utf8.decode ⟨s.toArray⟩ i = decO c s[i + 1]? s[i + 2]? s[i + 3]? := by
  unfold Utf8.decode decO
  simp only [cont_at, get_at, Nat.add_zero, hc, Option.getD_some, Utf8.runeError]
def goodO (c : UInt8) (k : Nat) (o : Option UInt8) : Bool := match o with | some b => uGood c.toNat k b.toNat | none => false
def goodS (c : UInt8) (o1 o2 o3 : Option UInt8) : Bool :=
  if c.toNat < 0x80 then true else if 0xC2 ≤ c.toNat ∧ c.toNat ≤ 0xDF then goodO c 1 o1 else if 0xE0 ≤ c.toNat ∧ c.toNat ≤ 0xEF then goodO c 1 o1 && goodO c 2 o2 else
    if 0xF0 ≤ c.toNat ∧ c.toNat ≤ 0xF4 then goodO c 1 o1 && goodO c 2 o2 && goodO c 3 o3 else false
theorem uCnt_stop {f n k : Nat} {r : List UInt8} (h : n ≤ k) : uCnt f n k r = k := by
  cases r with
  | nil => rfl
  | cons c r => simp only [uCnt]; rw [if_neg (by omega)]
theorem cnt_cons {f n k : Nat} {a : UInt8} {r : List UInt8} (hk : k < n) : uCnt f n k (a :: r) = if uGood f k a.toNat = true then uCnt f n (k + 1) r else k := by
  simp only [uCnt, hk, true_and]
theorem cnt2 {c : UInt8} {r : List UInt8} : uCnt c.toNat 2 1 r < 2 ↔ ¬ goodO c 1 r[0]? = true := by
  cases r with
  | nil => simp [uCnt, goodO]
  | cons a r =>
    rw [cnt_cons (by omega)]
    show _ ↔ ¬ uGood c.toNat 1 a.toNat = true
    by_cases hg : uGood c.toNat 1 a.toNat = true
    · rw [if_pos hg, uCnt_stop (by omega)]; simp [hg]
    · rw [if_neg hg]; simp [hg]
theorem cnt3 {c : UInt8} {r : List UInt8} : uCnt c.toNat 3 1 r < 3 ↔ ¬ (goodO c 1 r[0]? && goodO c 2 r[1]?) = true := by
  cases r with
  | nil => simp [uCnt, goodO]
  | cons a r =>
    rw [cnt_cons (by omega)]
    show _ ↔ ¬ (uGood c.toNat 1 a.toNat && goodO c 2 r[0]?) = true
    by_cases hg : uGood c.toNat 1 a.toNat = true
    · rw [if_pos hg]
      cases r with
      | nil => simp [uCnt, goodO]
      | cons b r =>
        rw [cnt_cons (by omega)]
        show _ ↔ ¬ (uGood c.toNat 1 a.toNat && uGood c.toNat 2 b.toNat) = true
        by_cases hb : uGood c.toNat 2 b.toNat = true
        · rw [if_pos hb, uCnt_stop (by omega)]; simp [hg, hb]
        · rw [if_neg hb]; simp [hb]
    · rw [if_neg hg]; simp [hg]
theorem cnt4 {c : UInt8} {r : List UInt8} : uCnt c.toNat 4 1 r < 4 ↔ ¬ (goodO c 1 r[0]? && goodO c 2 r[1]? && goodO c 3 r[2]?) = true := by
  cases r with
  | nil => simp [uCnt, goodO]
  | cons a r =>
    rw [cnt_cons (by omega)]
    show _ ↔ ¬ (uGood c.toNat 1 a.toNat && goodO c 2 r[0]? && goodO c 3 r[1]?) = true
    by_cases hg : uGood c.toNat 1 a.toNat = true
    · rw [if_pos hg]
      cases r with
      | nil => simp [uCnt, goodO]
      | cons b r =>
        rw [cnt_cons (by omega)]
        show _ ↔ ¬ (uGood c.toNat 1 a.toNat && uGood c.toNat 2 b.toNat && goodO c 3 r[0]?) = true
        by_cases hb : uGood c.toNat 2 b.toNat = true
        · rw [if_pos hb]
          cases r with
          | nil => simp [uCnt, goodO]
          | cons d r =>
            rw [cnt_cons (by omega)]
            show _ ↔ ¬ (uGood c.toNat 1 a.toNat && uGood c.toNat 2 b.toNat && uGood c.toNat 3 d.toNat) = true
            by_cases hd : uGood c.toNat 3 d.toNat = true
            · rw [if_pos hd, uCnt_stop (by omega)]; simp [hg, hb, hd]
            · rw [if_neg hd]; simp [hd]
        · rw [if_neg hb]; simp [hb]
    · rw [if_neg hg]; simp [hg]
theorem next_good {c : UInt8} {r : List UInt8} : (uNext (c :: r)).1 = goodS c r[0]? r[1]? r[2]? ∧ (goodS c r[0]? r[1]? r[2]? = true → (uNext (c :: r)).2.1 = uSize c.toNat) := by
  have key : ∀ n : Nat, uSize c.toNat = n → n ≠ 0 → (uCnt c.toNat n 1 r < n ↔ ¬ goodS c r[0]? r[1]? r[2]? = true) → (uNext (c :: r)).1 = goodS c r[0]? r[1]? r[2]? ∧ (goodS c r[0]? r[1]? r[2]? = true → (uNext (c :: r)).2.1 = uSize c.toNat) := by
    intro n hn h0 h
    simp only [uNext, hn]
    rw [if_neg h0]
    by_cases hg : goodS c r[0]? r[1]? r[2]? = true
    · rw [if_neg (fun h1 => h.1 h1 hg)]; exact ⟨hg.symm, fun _ => rfl⟩
    · rw [if_pos (h.2 hg)]; exact ⟨(Bool.eq_false_iff.2 hg).symm, fun h => absurd h hg⟩
  by_cases h1 : c.toNat < 0x80
  · refine key 1 (by simp [uSize, h1]) (by omega) ?_
    rw [uCnt_stop (by omega)]; simp [goodS, h1]
  · by_cases h2 : 0xC2 ≤ c.toNat ∧ c.toNat ≤ 0xDF
    · refine key 2 (by unfold uSize; rw [if_neg h1, if_pos h2]) (by omega) ?_
      rw [cnt2]; unfold goodS; rw [if_neg h1, if_pos h2]
    · by_cases h3 : 0xE0 ≤ c.toNat ∧ c.toNat ≤ 0xEF
      · refine key 3 (by unfold uSize; rw [if_neg h1, if_neg h2, if_pos h3]) (by omega) ?_
        rw [cnt3]; unfold goodS; rw [if_neg h1, if_neg h2, if_pos h3]
      · by_cases h4 : 0xF0 ≤ c.toNat ∧ c.toNat ≤ 0xF4
        · refine key 4 (by unfold uSize; rw [if_neg h1, if_neg h2, if_neg h3, if_pos h4]) (by omega) ?_
          rw [cnt4]; unfold goodS; rw [if_neg h1, if_neg h2, if_neg h3, if_pos h4]
        · have hu : uSize c.toNat = 0 := by unfold uSize; rw [if_neg h1, if_neg h2, if_neg h3, if_neg h4]
          have hg : goodS c r[0]? r[1]? r[2]? = false := by unfold goodS; rw [if_neg h1, if_neg h2, if_neg h3, if_neg h4]
          simp [uNext, hu, hg]
theorem u_eq {c : UInt8} {k : Nat} (hk : k < 256) : c = UInt8.ofNat k ↔ c.toNat = k := by
  constructor
  · intro h; rw [h]; simp; omega
  · intro h; apply UInt8.toNat_inj.1; rw [h]; simp; omega
theorem good_iff {f k b : Nat} : uGood f k b = true ↔ uLo f k ≤ b ∧ b ≤ uHi f k := by simp [uGood]
theorem lo1 {f : Nat} : uLo f 1 = if f = 224 then 160 else if f = 240 then 144 else 128 := by simp [uLo]
theorem hi1 {f : Nat} : uHi f 1 = if f = 237 then 159 else if f = 244 then 143 else 191 := by simp [uHi]
theorem lo2 {f : Nat} : uLo f 2 = 128 := by simp [uLo]
theorem hi2 {f : Nat} : uHi f 2 = 191 := by simp [uHi]
theorem lo3 {f : Nat} : uLo f 3 = 128 := by simp [uLo]
theorem hi3 {f : Nat} : uHi f 3 = 191 := by simp [uHi]
theorem cont_iff {b : UInt8} : contO (some b) = true ↔ 128 ≤ b.toNat ∧ b.toNat ≤ 191 := by
  simp only [contO, beq_iff_eq]; omega
theorem valid_iff {n : Nat} : Utf8.valid (n : Int) = true ↔ n < 0xD800 ∨ (0xE000 ≤ n ∧ n ≤ 0x10FFFF) := by
  simp [Utf8.valid]; omega
theorem dec_bad {c : UInt8} {o1 o2 o3 : Option UInt8} (h : goodS c o1 o2 o3 = false) : (decO c o1 o2 o3).1 = 65533 := by
  have h0 := c.toNat_lt
  unfold goodS at h
  by_cases h1 : c.toNat < 0x80
  · rw [if_pos h1] at h; cases h
  rw [if_neg h1] at h
  unfold decO
  simp only
  rw [if_neg h1]
  split
  · rename_i e
    simp only [Bool.and_eq_true, beq_iff_eq] at e
    split
    · rename_i e2
      rw [if_pos (by omega)] at h
      cases o1 with
      | none => have := e.2; simp [contO] at this
      | some b =>
        have hb := cont_iff.1 e.2
        have : goodO c 1 (some b) = true := by
          simp only [goodO, good_iff, lo1, hi1]
          rw [if_neg (by omega), if_neg (by omega), if_neg (by omega), if_neg (by omega)]; exact hb
        rw [this] at h; cases h
    · rfl
  · split
    · rename_i e
      simp only [Bool.and_eq_true, beq_iff_eq] at e
      split
      · rename_i e2
        simp only [Bool.and_eq_true, decide_eq_true_eq, valid_iff, ge_iff_le] at e2
        rw [if_neg (by omega), if_pos (by omega)] at h
        cases o1 with
        | none => have := e.1.2; simp [contO] at this
        | some b =>
          cases o2 with
          | none => have := e.2; simp [contO] at this
          | some d =>
            have hb := cont_iff.1 e.1.2
            have hd := cont_iff.1 e.2
            simp only [Option.getD_some] at e2
            have g1 : goodO c 1 (some b) = true := by
              simp only [goodO, good_iff, lo1, hi1]
              constructor <;> split <;> (try split) <;> omega
            have g2 : goodO c 2 (some d) = true := by
              simp only [goodO, good_iff, lo2, hi2]; exact hd
            rw [g1, g2] at h; cases h
      · rfl
    · split
      · rename_i e
        simp only [Bool.and_eq_true, beq_iff_eq] at e
        split
        · rename_i e2
          simp only [Bool.and_eq_true, decide_eq_true_eq, valid_iff, ge_iff_le] at e2
          cases o1 with
          | none => have := e.1.1.2; simp [contO] at this
          | some b =>
            cases o2 with
            | none => have := e.1.2; simp [contO] at this
            | some d =>
              cases o3 with
              | none => have := e.2; simp [contO] at this
              | some t =>
                have hb := cont_iff.1 e.1.1.2
                have hd := cont_iff.1 e.1.2
                have ht := cont_iff.1 e.2
                simp only [Option.getD_some] at e2
                rw [if_neg (by omega), if_neg (by omega), if_pos (by omega)] at h
                have g1 : goodO c 1 (some b) = true := by
                  simp only [goodO, good_iff, lo1, hi1]
                  constructor <;> split <;> (try split) <;> omega
                have g2 : goodO c 2 (some d) = true := by
                  simp only [goodO, good_iff, lo2, hi2]; exact hd
                have g3 : goodO c 3 (some t) = true := by
                  simp only [goodO, good_iff, lo3, hi3]; exact ht
                rw [g1, g2, g3] at h; cases h
        · rfl
      · rfl
theorem dec_good {c : UInt8} {o1 o2 o3 : Option UInt8} (h : goodS c o1 o2 o3 = true) : (decO c o1 o2 o3).2 = uSize c.toNat ∧ ((decO c o1 o2 o3).1 = 65533 → c = 239 ∧ o1 = some 191 ∧ o2 = some 189) := by
  have h0 := c.toNat_lt
  unfold goodS at h
  by_cases h1 : c.toNat < 0x80
  · unfold decO uSize
    simp only [if_pos h1]
    exact ⟨trivial, fun h => by omega⟩
  rw [if_neg h1] at h
  by_cases h2 : 0xC2 ≤ c.toNat ∧ c.toNat ≤ 0xDF
  · rw [if_pos h2] at h
    cases o1 with
    | none => cases h
    | some b =>
      simp only [goodO, good_iff, lo1, hi1] at h
      rw [if_neg (by omega), if_neg (by omega), if_neg (by omega), if_neg (by omega)] at h
      have hc : contO (some b) = true := cont_iff.2 h
      unfold decO uSize
      simp only [if_neg h1, if_pos h2, hc, Bool.and_true, Option.getD_some]
      rw [if_pos (by simp; omega), if_pos (by omega)]
      exact ⟨rfl, fun h => by dsimp only at h; omega⟩
  · rw [if_neg h2] at h
    by_cases h3 : 0xE0 ≤ c.toNat ∧ c.toNat ≤ 0xEF
    · rw [if_pos h3] at h
      simp only [Bool.and_eq_true] at h
      cases o1 with
      | none => cases h.1
      | some b =>
        cases o2 with
        | none => cases h.2
        | some d =>
          simp only [goodO, good_iff, lo1, hi1, lo2, hi2] at h
          obtain ⟨⟨p1, p2⟩, p3⟩ := h
          have q1 : 128 ≤ b.toNat ∧ (c.toNat = 224 → 160 ≤ b.toNat) := by
            split at p1
            · omega
            · split at p1 <;> omega
          have q2 : b.toNat ≤ 191 ∧ (c.toNat = 237 → b.toNat ≤ 159) := by
            split at p2
            · omega
            · split at p2 <;> omega
          have hc : contO (some b) = true := cont_iff.2 ⟨q1.1, q2.1⟩
          have hd : contO (some d) = true := cont_iff.2 p3
          unfold decO uSize
          simp only [if_neg h1, if_neg h2, if_pos h3, hc, hd, Bool.and_true, Option.getD_some]
          rw [if_neg (by simp; omega), if_pos (by simp; omega), if_pos (by
            simp only [Bool.and_eq_true, decide_eq_true_eq, valid_iff, ge_iff_le]; omega)]
          refine ⟨rfl, fun h => ?_⟩
          dsimp only at h
          refine ⟨(u_eq (k := 239) (by omega)).2 (by omega), ?_, ?_⟩
          · rw [(u_eq (c := b) (k := 191) (by omega)).2 (by omega)]; rfl
          · rw [(u_eq (c := d) (k := 189) (by omega)).2 (by omega)]; rfl
    · rw [if_neg h3] at h
      by_cases h4 : 0xF0 ≤ c.toNat ∧ c.toNat ≤ 0xF4
      · rw [if_pos h4] at h
        simp only [Bool.and_eq_true] at h
        cases o1 with
        | none => cases h.1.1
        | some b =>
          cases o2 with
          | none => cases h.1.2
          | some d =>
            cases o3 with
            | none => cases h.2
            | some t =>
              simp only [goodO, good_iff, lo1, hi1, lo2, hi2, lo3, hi3] at h
              obtain ⟨⟨⟨p1, p2⟩, p3⟩, p4⟩ := h
              have q1 : 128 ≤ b.toNat ∧ (c.toNat = 240 → 144 ≤ b.toNat) := by
                split at p1
                · omega
                · split at p1 <;> omega
              have q2 : b.toNat ≤ 191 ∧ (c.toNat = 244 → b.toNat ≤ 143) := by
                split at p2
                · omega
                · split at p2 <;> omega
              have hc : contO (some b) = true := cont_iff.2 ⟨q1.1, q2.1⟩
              have hd : contO (some d) = true := cont_iff.2 p3
              have ht : contO (some t) = true := cont_iff.2 p4
              unfold decO uSize
              simp only [if_neg h1, if_neg h2, if_neg h3, if_pos h4, hc, hd, ht, Bool.and_true, Option.getD_some]
              rw [if_neg (by simp; omega), if_neg (by simp; omega), if_pos (by simp; omega), if_pos (by
                simp only [Bool.and_eq_true, decide_eq_true_eq, valid_iff, ge_iff_le]; omega)]
              exact ⟨rfl, fun h => by dsimp only at h; omega⟩
      · rw [if_neg h4] at h; cases h
theorem bad_pre {c : UInt8} {o3 : Option UInt8} (hc : c = 239) : goodS c (some 191) (some 189) o3 = true := by
  subst hc; cases o3 <;> rfl
end Go.Proofs.YtinlfdkalijffaaDoor.Am.Q
namespace Go.Proofs.YtinlfdkalijffaaDoor.Am.Q
open Go Go.Proofs Go.Proofs.YtinlfdkalijffaaDoor.Am
theorem nextV_at {M : Mem} {it pos : Nat} {s : List UInt8} (hg : M.get it = .iter s pos) (h : pos < s.length) : nextV M (.ptr it 0) = some (.tup [.bool true, .int .i64 pos, .int .i32 (Utf8.decode ⟨s.toArray⟩ pos).1], M.set it (.iter s (pos + (Utf8.decode ⟨s.toArray⟩ pos).2))) := by
  simp only [nextV, hg]; rw [if_pos h]
theorem nextV_end {M : Mem} {it pos : Nat} {s : List UInt8} (hg : M.get it = .iter s pos) (h : ¬ pos < s.length) : nextV M (.ptr it 0) = some (.tup [.bool false], M) := by
  simp only [nextV, hg]; rw [if_neg h]
theorem hasPrefix_ok {s t : List UInt8} (m : Mem) : CS 38 [.str s, .str t] m (.ret (.bool (decide (t.length ≤ s.length) && (s.take t.length == t)))) m := by
  refine call_by xfok mixed q38at q38ok rfl ?_
  simp only [go_sem, reduceIte, Nat.reduceEqDiff, Nat.reduceAdd, q38, q38r0, q38r1]
  refine callW_ret (has_prefix m) ?_
  simp only [go_sem, reduceIte, Nat.reduceEqDiff, Nat.reduceAdd]
def pre3 (l : List UInt8) : Bool := decide (([239, 191, 189] : List UInt8).length ≤ l.length) && (l.take ([239, 191, 189] : List UInt8).length == [239, 191, 189])
theorem pre3_iff {c : UInt8} {r : List UInt8} : pre3 (c :: r) = true ↔ c = 239 ∧ r[0]? = some 191 ∧ r[1]? = some 189 := by
  cases r with
  | nil => simp [pre3]
  | cons a r =>
    cases r with
    | nil => simp [pre3]
    | cons b r => simp [pre3]
theorem step_good {c : UInt8} {r : List UInt8} (h : (uNext (c :: r)).1 = true) : (decO c r[0]? r[1]? r[2]?).2 = (uNext (c :: r)).2.1 ∧ ((decO c r[0]? r[1]? r[2]?).1 = 65533 → pre3 (c :: r) = true) := by
  obtain ⟨g1, g2⟩ := next_good (c := c) (r := r)
  rw [h] at g1
  have := dec_good g1.symm
  exact ⟨this.1.trans (g2 g1.symm).symm, fun e => pre3_iff.2 (this.2 e)⟩
theorem step_bad {c : UInt8} {r : List UInt8} (h : (uNext (c :: r)).1 = false) : (decO c r[0]? r[1]? r[2]?).1 = 65533 ∧ pre3 (c :: r) = false := by
  obtain ⟨g1, g2⟩ := next_good (c := c) (r := r)
  rw [h] at g1
  refine ⟨dec_bad g1.symm, ?_⟩
  cases hp : pre3 (c :: r) with
  | false => rfl
  | true =>
    obtain ⟨p1, p2, p3⟩ := pre3_iff.1 hp
    rw [p2, p3, bad_pre p1] at g1
    cases g1
theorem ptext_loop {m : Mem} {s : List UInt8} {it : Nat} (hs : s.length < 2 ^ 60) (hit : m.next ≤ it) {B : Bool} {Q : AExit → List AV → Mem → Prop} (hx : B = true → ∀ M, Ext m M → ∀ g0 g1 g2 g3 g4 g5 g6 g7, Q (.exit 0) [g0, g1, g2, g3, g4, g5, g6, g7] M) (hr : B = false → ∀ M, Ext m M → ∀ g0 g2 g3 g4 g5 g6 g7, Q .ret [g0, .bool false, g2, g3, g4, g5, g6, g7] M) :
    ∀ (f pos : Nat) (M : Mem) (g1 g2 g3 g5 g6 g7 : AV), s.length - pos ≤ f → Ext m M → M.get it = .iter s pos → B = isTF f (s.drop pos) → wl CS [1, 2, 3, 5, 6, 7] q22l6 Q [.str s, g1, g2, g3, .ptr it 0, g5, g6, g7] M := by
  intro f
  induction f with
  | zero =>
    intro pos M g1 g2 g3 g5 g6 g7 hf hE hg hB
    refine wl_step ?_
    simp only [go_sem, reduceIte, Nat.reduceEqDiff, Nat.reduceAdd, q22l6, q22r2, nextV_end hg (by omega)]
    exact hx (by rw [hB, List.drop_of_length_le (by omega)]; rfl) _ hE _ _ _ _ _ _ _ _
  | succ f ih =>
    intro pos M g1 g2 g3 g5 g6 g7 hf hE hg hB
    refine wl_step ?_
    by_cases hlt : pos < s.length
    · have hc : s[pos]? = some s[pos] := List.getElem?_eq_getElem hlt
      have hd := drop_at hc
      have hr0 : s[pos + 1]? = (s.drop (pos + 1))[0]? := by simp [List.getElem?_drop]
      have hr1 : s[pos + 2]? = (s.drop (pos + 1))[1]? := by simp [List.getElem?_drop]
      have hr2 : s[pos + 3]? = (s.drop (pos + 1))[2]? := by simp [List.getElem?_drop]
      have hdec := decode_at hc
      rw [hr0, hr1, hr2] at hdec
      rw [hd] at hB
      have hB' : B = ((uNext (s[pos] :: s.drop (pos + 1))).1 && isTF f ((s[pos] :: s.drop (pos + 1)).drop (uNext (s[pos] :: s.drop (pos + 1))).2.1)) := hB
      have hnx := nextV_at hg hlt
      rw [hdec] at hnx
      have hsl := slice_from (s := s) (kk := .i64) (k := pos) (by omega)
      rw [hd] at hsl
      obtain ⟨p1, p2⟩ := uNext_pos (c := s[pos]) (r := s.drop (pos + 1))
      have hpre := hasPrefix_ok (s := s[pos] :: s.drop (pos + 1)) (t := [239, 191, 189])
      have hpe : (decide (([239, 191, 189] : List UInt8).length ≤ (s[pos] :: s.drop (pos + 1)).length) && ((s[pos] :: s.drop (pos + 1)).take ([239, 191, 189] : List UInt8).length == [239, 191, 189])) = pre3 (s[pos] :: s.drop (pos + 1)) := rfl
      rw [hpe] at hpre
      have hdd : (s[pos] :: s.drop (pos + 1)).drop (uNext (s[pos] :: s.drop (pos + 1))).2.1 = s.drop (pos + (uNext (s[pos] :: s.drop (pos + 1))).2.1) := by rw [← hd, List.drop_drop]
      rw [hdd] at hB'
      generalize s[pos] = c at *
      generalize hrr : s.drop (pos + 1) = r at *
      cases hu : (uNext (c :: r)).1 with
      | true =>
        obtain ⟨k1, k2⟩ := step_good hu
        rw [hu, Bool.true_and] at hB'
        rw [k1] at hnx
        by_cases h65 : (decO c r[0]? r[1]? r[2]?).1 = 65533
        · have e1 : (((decO c r[0]? r[1]? r[2]?).1 : Int) == 65533) = true := bqT (by omega)
          rw [k2 h65] at hpre
          simp only [go_sem, reduceIte, Nat.reduceEqDiff, Nat.reduceAdd, q22l6, q22r2, hnx, q22r3, q22r4, e1, hsl]
          refine callW_ret (hpre _) ?_
          simp only [go_sem, reduceIte, Nat.reduceEqDiff, Nat.reduceAdd]
          exact ih _ _ _ _ _ _ _ _ (by omega) (hE.set hit _) get_set_same hB'
        · have e1 : (((decO c r[0]? r[1]? r[2]?).1 : Int) == 65533) = false := bqF (by omega)
          simp only [go_sem, reduceIte, Nat.reduceEqDiff, Nat.reduceAdd, q22l6, q22r2, hnx, q22r3, q22r4, e1]
          exact ih _ _ _ _ _ _ _ _ (by omega) (hE.set hit _) get_set_same hB'
      | false =>
        obtain ⟨k1, k2⟩ := step_bad hu
        rw [hu, Bool.false_and] at hB'
        have e1 : (((decO c r[0]? r[1]? r[2]?).1 : Int) == 65533) = true := bqT (by omega)
        rw [k2] at hpre
        simp only [go_sem, reduceIte, Nat.reduceEqDiff, Nat.reduceAdd, q22l6, q22r2, hnx, q22r3, q22r4, e1, hsl]
        refine callW_ret (hpre _) ?_
        simp only [go_sem, reduceIte, Nat.reduceEqDiff, Nat.reduceAdd, q22r5]
        exact hr hB' _ (hE.set hit _) _ _ _ _ _ _ _
    · simp only [go_sem, reduceIte, Nat.reduceEqDiff, Nat.reduceAdd, q22l6, q22r2, nextV_end hg hlt]
      exact hx (by rw [hB, List.drop_of_length_le (by omega)]; rfl) _ hE _ _ _ _ _ _ _ _
theorem ptext_ok {s : List UInt8} (hs : s.length < 2 ^ 60) (m : Mem) : ∃ v m', CS 22 [.str s] m (.ret v) m' ∧ v = .bool (isT s) ∧ Ext m m' := by
  refine call_some (R := fun v m' => v = .bool (isT s) ∧ Ext m m') xfok mixed q22at q22ok rfl ?_
  simp only [go_sem, reduceIte, Nat.reduceEqDiff, Nat.reduceAdd, q22, q22r0, q22r1]
  refine ptext_loop (m := m) (B := isT s) hs (Nat.le_refl _) (fun h M hE g0 g1 g2 g3 g4 g5 g6 g7 => ?_) (fun h M hE g0 g2 g3 g4 g5 g6 g7 => ?_) s.length 0 _ _ _ _ _ _ _ (by omega) (Ext.alloc _ _) get_new (by rw [List.drop_zero]; rfl)
  · simp only [go_sem, reduceIte, Nat.reduceEqDiff, Nat.reduceAdd, q22r7, h]
    exact hE
  · simp only [go_sem, reduceIte, Nat.reduceEqDiff, Nat.reduceAdd, h]
    exact hE
end Go.Proofs.YtinlfdkalijffaaDoor.Am.Q
namespace Go.Proofs.YtinlfdkalijffaaDoor.Am.Q
open Go Go.Proofs Go.Proofs.YtinlfdkalijffaaDoor.Am
def WhQ (s : List UInt8) (p a b : Nat) (m : Mem) (e : AExit) (fr : List AV) (M : Mem) : Prop :=
  (∃ x y, fr = [x, .ptr a 0, .ptr b 0, y]) ∧ ExtB p m M ∧ b < M.next ∧ M.get b = zFault ∧
  match parseS s with
  | .error (w, k) => e = .pan (STOP w k) ∧ ∃ c1 c2 c3 c4, M.get a = .cells 26 [c1, c2, c3, c4]
  | .ok T => e = .ret ∧ ∃ k t ka kb, M.get a = .cells 26 [.int .i64 k, .str t, ka, kb] ∧ one ka = true ∧ one kb = true ∧ IsVal (.agg [.int .i64 k, .str t, ka, kb]) T
theorem whole_rest {s : List UInt8} (hs : s.length < 2 ^ 30) {m : Mem} {p : Nat} (hp : m.get p = PP s 0 4096) (hpn : p < m.next) :
    wc CS q23.rest (WhQ s p m.next (m.next + 1) m) [.ptr p 0, .ptr m.next 0, .ptr (m.next + 1) 0, .u] ((m.alloc z26).alloc zFault) := by
  have g1 : ((m.alloc z26).alloc zFault).get m.next = z26 := by rw [get_old (by simp [Mem.alloc])]; exact get_new
  have g2 : ((m.alloc z26).alloc zFault).get (m.next + 1) = zFault := get_new
  have g3 : ((m.alloc z26).alloc zFault).get p = PP s 0 4096 := by rw [get_old (by simp [Mem.alloc]; omega), get_old (by omega)]; exact hp
  have E2 : ExtB p m ((m.alloc z26).alloc zFault) := ((ExtB.refl p m).alloc _).alloc _
  have n2 : ((m.alloc z26).alloc zFault).next = m.next + 2 := rfl
  generalize (m.alloc z26).alloc zFault = M1 at g1 g2 g3 E2 n2
  have hg3 : M1.get p = PP s 0 (4096 - ((0 : Nat) : Int)) := g3
  obtain ⟨r, M2, k1, k2⟩ := qval_ok (s := s) hs (2 * s.length + 1) M1 p 0 0 0 (by omega) (by omega) (by omega) (by omega) hg3
  have k1' : CS 40 [.ptr p 0, .int .i64 0] M1 r M2 := k1
  simp only [go_sem, reduceIte, Nat.reduceEqDiff, Nat.reduceAdd, q23, q23br0]
  have hPS : parseS s = (match pGo s (2 * s.length + 1) .val 0 0 0 with
    | .error e => .error e
    | .ok (v, i, _) => if skipN s i < s.length then .error (3, skipN s i) else .ok v) := rfl
  cases hpv : pGo s (2 * s.length + 1) .val 0 0 0 with
  | error e =>
    obtain ⟨w, k⟩ := e
    rw [hpv] at k2 hPS
    obtain ⟨rfl, k3⟩ := k2
    refine callW_raise k1' ?_
    simp only [go_sem, reduceIte, Nat.reduceEqDiff, Nat.reduceAdd]
    refine ⟨⟨_, _, rfl⟩, E2.trans k3, by have := k3.next; omega, by rw [k3.get _ (by omega) (by omega)]; exact g2, ?_⟩
    rw [hPS]
    exact ⟨rfl, _, _, _, _, by rw [k3.get _ (by omega) (by omega)]; exact g1⟩
  | ok e =>
    obtain ⟨T, j, n'⟩ := e
    rw [hpv] at k2 hPS
    obtain ⟨v, rfl, x1, x2, x3⟩ := k2
    refine callW_ret k1' ?_
    obtain ⟨k0, t0, ka, kb, rfl, o1, o2⟩ := x1.ones
    obtain ⟨z1, z2, z3⟩ := pGo_ok hpv (by omega)
    have b1 : M2.get m.next = z26 := by rw [x2.get _ (by omega) (by omega)]; exact g1
    have b2 : M2.get (m.next + 1) = zFault := by rw [x2.get _ (by omega) (by omega)]; exact g2
    simp only [go_sem, reduceIte, Nat.reduceEqDiff, Nat.reduceAdd, b1, o1, o2, q23br1]
    have c1 : (M2.set m.next (.cells 26 [.int .i64 k0, .str t0, ka, kb])).get m.next = .cells 26 [.int .i64 k0, .str t0, ka, kb] := get_set_same
    have c2 : (M2.set m.next (.cells 26 [.int .i64 k0, .str t0, ka, kb])).get (m.next + 1) = zFault := by rw [get_set_other (by omega)]; exact b2
    have c3 : (M2.set m.next (.cells 26 [.int .i64 k0, .str t0, ka, kb])).get p = PP s j (4096 - (n' : Int)) := by rw [get_set_other (by omega)]; exact x3
    have n3 : m.next + 2 ≤ (M2.set m.next (.cells 26 [.int .i64 k0, .str t0, ka, kb])).next := by have := x2.next; show _ ≤ M2.next; omega
    have E3 : ExtB p m (M2.set m.next (.cells 26 [.int .i64 k0, .str t0, ka, kb])) := (E2.trans x2).set (Nat.le_refl _) _
    generalize M2.set m.next (.cells 26 [.int .i64 k0, .str t0, ka, kb]) = M3 at c1 c2 c3 E3 n3
    refine callW_ret (pskip_ok (by omega) c3) ?_
    have d1 : (M3.set p (PP s (skipN s j) (4096 - (n' : Int)))).get m.next = .cells 26 [.int .i64 k0, .str t0, ka, kb] := by rw [get_set_other (by omega)]; exact c1
    have d2 : (M3.set p (PP s (skipN s j) (4096 - (n' : Int)))).get (m.next + 1) = zFault := by rw [get_set_other (by omega)]; exact c2
    have d3 : (M3.set p (PP s (skipN s j) (4096 - (n' : Int)))).get p = PP s (skipN s j) (4096 - (n' : Int)) := get_set_same
    have n4 : m.next + 2 ≤ (M3.set p (PP s (skipN s j) (4096 - (n' : Int)))).next := n3
    have E4 := E3.setp (PP s (skipN s j) (4096 - (n' : Int)))
    generalize M3.set p (PP s (skipN s j) (4096 - (n' : Int))) = M4 at d1 d2 d3 E4 n4
    dsimp only at hPS
    by_cases hlt : skipN s j < s.length
    · have e1 : decide (((skipN s j : Nat) : Int) < (s.length : Nat)) = true := dT (by omega)
      rw [if_pos hlt] at hPS
      simp only [go_sem, reduceIte, Nat.reduceEqDiff, Nat.reduceAdd, q23br2, d3, e1, q23br3]
      refine callW_raise (pfail_ok p 3 (skipN s j) _) ?_
      simp only [go_sem, reduceIte, Nat.reduceEqDiff, Nat.reduceAdd]
      refine ⟨by simp, ⟨_, _, rfl⟩, E4, by omega, d2, ?_⟩
      rw [hPS]
      exact ⟨rfl, _, _, _, _, d1⟩
    · have e1 : decide (((skipN s j : Nat) : Int) < (s.length : Nat)) = false := dF (by omega)
      rw [if_neg hlt] at hPS
      have f1 : (M4.set m.next (.cells 26 [.int .i64 k0, .str t0, ka, kb])).get (m.next + 1) = zFault := by rw [get_set_other (by omega)]; exact d2
      simp only [go_sem, reduceIte, Nat.reduceEqDiff, Nat.reduceAdd, q23br2, d3, e1, q23br4, d1, d2, o1, o2, f1, pushH_true]
      refine ⟨?_, ?_⟩
      · intro q hq h1 h2
        simp only [List.mem_singleton] at hq
        subst hq
        intro _ m1 m2 e1 e2
        have e1' : some M4 = some m1 := e1
        have e2' : some (M4.set m.next (.cells 26 [.int .i64 k0, .str t0, ka, kb])) = some m2 := e2
        injection e1' with e1'
        injection e2' with e2'
        subst e1'; subst e2'
        have key : ∀ (M' : Mem) (env fr : List AV), M'.get (m.next + 1) = zFault → fr.getD 2 .u = .ptr (m.next + 1) 0 → (evalP (Opd.ev env fr) M' (.load true 2 (.var 2))).map (·.1) = some (.agg [.int .i64 0, .int .i64 0]) := by
          intro M' env fr h hf
          have L : M'.load true 2 (.ptr (m.next + 1) 0) = some (.agg [.int .i64 0, .int .i64 0]) := by rw [load_ptr, h]; rfl
          have hv : Opd.ev env fr (.var 2) = .ptr (m.next + 1) 0 := hf
          simp only [evalP, hv, L, Option.map_some]
        exact ⟨key _ _ _ d2 rfl, key _ _ _ f1 rfl⟩
      · simp only [go_sem, reduceIte, Nat.reduceEqDiff, Nat.reduceAdd]
        refine ⟨⟨_, _, rfl⟩, (E4.set (Nat.le_refl _) _).set (by omega) _, by show _ < M4.next; omega, get_set_same, ?_⟩
        rw [hPS]
        exact ⟨rfl, k0, t0, ka, kb, by rw [get_set_other (by omega)]; exact get_set_same, o1, o2, x1⟩
def GQ (M3 : Mem) (e : AExit) (_fr : List AV) (M : Mem) : Prop := e = .normal ∧ M = M3
theorem whole_none {a b : Nat} {M : Mem} : wc CS q23.grest (GQ M) [.ptr a 0, .ptr b 0, .nilIface, .u, .u, .u, .u] M := by
  have s0 : eqSafeB M .nilIface .nilIface = true := rfl
  have s1 : eqV (.leaf .ifaceE) .nilIface .nilIface = some true := rfl
  simp only [go_sem, reduceIte, Nat.reduceEqDiff, Nat.reduceAdd, q23, q23gr0, s0, s1, show (true != true) = false from rfl]
  exact ⟨rfl, rfl⟩
theorem whole_some {a b k : Nat} {w : Int} {M : Mem} {c1 c2 c3 c4 : AV} (ha : M.get a = .cells 26 [c1, c2, c3, c4]) (hb : M.get b = zFault) (hab : a < b) (hbn : b < M.next) :
    wc CS q23.grest (GQ ((((M.alloc (.cells 74 [.int .i64 0, .int .i64 0])).set M.next (.cells 74 [.int .i64 w, .int .i64 k])).set a z26).set b (.cells 29 [.int .i64 w, .int .i64 k]))) [.ptr a 0, .ptr b 0, STOP w k, .u, .u, .u, .u] M := by
  have st : (M.alloc (.cells 74 [.int .i64 0, .int .i64 0])).get M.next = .cells 74 [.int .i64 0, .int .i64 0] := get_new
  have s0 : eqSafeB M (STOP w k) .nilIface = true := rfl
  have s1 : eqV (.leaf .ifaceE) (STOP w k) .nilIface = some false := rfl
  have s2 : tassertV 74 (.agg [.int .i64 0, .int .i64 0]) true (STOP w k) = some (.tup [.agg [.int .i64 w, .int .i64 k], .bool true]) := rfl
  have g1 : ((M.alloc (.cells 74 [.int .i64 0, .int .i64 0])).set M.next (.cells 74 [.int .i64 w, .int .i64 k])).get M.next = .cells 74 [.int .i64 w, .int .i64 k] := get_set_same
  have g2 : ((M.alloc (.cells 74 [.int .i64 0, .int .i64 0])).set M.next (.cells 74 [.int .i64 w, .int .i64 k])).get a = .cells 26 [c1, c2, c3, c4] := by rw [get_set_other (by omega), get_old (by omega)]; exact ha
  have g3 : ((M.alloc (.cells 74 [.int .i64 0, .int .i64 0])).set M.next (.cells 74 [.int .i64 w, .int .i64 k])).get b = zFault := by rw [get_set_other (by omega), get_old (by omega)]; exact hb
  simp only [go_sem, reduceIte, Nat.reduceEqDiff, Nat.reduceAdd, q23, q23gr0, q23gr1, st, s0, s1, s2, show (false != true) = true from rfl]
  generalize (M.alloc (.cells 74 [.int .i64 0, .int .i64 0])).set M.next (.cells 74 [.int .i64 w, .int .i64 k]) = M5 at g1 g2 g3
  have g4 : (M5.set a z26).get b = zFault := by rw [get_set_other (by omega)]; exact g3
  have g5 : (M5.set a z26).get M.next = .cells 74 [.int .i64 w, .int .i64 k] := by rw [get_set_other (by omega)]; exact g1
  simp only [go_sem, reduceIte, Nat.reduceEqDiff, Nat.reduceAdd, q23gr2, q23gr4, g1, g2, g4, pushH_true]
  refine ⟨?_, rfl, rfl⟩
  intro q hq h1 h2
  simp only [List.mem_singleton] at hq
  subst hq
  intro _ m1 m2 e1 e2
  have e1' : some M5 = some m1 := e1
  have e2' : some (M5.set a z26) = some m2 := e2
  injection e1' with e1'
  injection e2' with e2'
  subst e1'; subst e2'
  have key : ∀ (M' : Mem) (v : AV) (fr : List AV), M'.get M.next = .cells 74 [.int .i64 w, .int .i64 k] → (evalP (Opd.ev [.ptr M.next 0, v] fr) M' (.load true 2 (.loc 0))).map (·.1) = some (.agg [.int .i64 w, .int .i64 k]) := by
    intro M' v fr h
    have L : M'.load true 2 (.ptr M.next 0) = some (.agg [.int .i64 w, .int .i64 k]) := by rw [load_ptr, h]; rfl
    simp only [evalP, ev_loc0, L, Option.map_some]
  exact ⟨key _ _ _ g1, key _ _ _ g5⟩
def whS (s : List UInt8) : VT × Int × Nat :=
  match parseS s with
  | .error (w, k) => (VT.zero, w, k)
  | .ok v => (v, 0, 0)
def WhR (s : List UInt8) (p : Nat) (m : Mem) (v : AV) (m' : Mem) : Prop := ∃ a, v = .tup [a, .agg [.int .i64 (whS s).2.1, .int .i64 (whS s).2.2]] ∧ IsVal a (whS s).1 ∧ ExtB p m m'
theorem whole_head {m : Mem} {p : Nat} : wc CS q23.head (fun e fr M => e = .normal ∧ fr = [.ptr p 0, .ptr m.next 0, .ptr (m.next + 1) 0, .u] ∧ M = (m.alloc z26).alloc zFault) [.ptr p 0, .u, .u, .u] m := by
  simp only [go_sem, reduceIte, Nat.reduceEqDiff, Nat.reduceAdd, q23, q23hr0, next_alloc]
theorem whole_ok {s : List UInt8} (hs : s.length < 2 ^ 30) {m : Mem} {p : Nat} (hp : m.get p = PP s 0 4096) (hpn : p < m.next) : ∃ v m', CS 23 [.ptr p 0] m (.ret v) m' ∧ WhR s p m v m' := by
  obtain ⟨e1, fr1, m1, B1, rfl, rfl, rfl⟩ := wc_sound (whole_head (m := m) (p := p))
  obtain ⟨e2, fr2, m2, B2, hfr, hE, hbn, hb, hc⟩ := wc_sound (whole_rest hs hp hpn)
  obtain ⟨x, y, rfl⟩ := hfr
  cases hP : parseS s with
  | error e =>
    obtain ⟨w, k⟩ := e
    rw [hP] at hc
    obtain ⟨rfl, c1, c2, c3, c4, ha⟩ := hc
    have hW : whS s = (VT.zero, w, k) := by simp [whS, hP]
    obtain ⟨e3, fr3, m3, B3, rfl, rfl⟩ := wc_sound (whole_some (k := k) (w := w) ha hb (by omega) hbn)
    refine ⟨_, _, dfr_ret (q := q23) xfok mixed (fun _ _ _ _ _ h => h) q23at q23cl q23ok rfl B1 B2 (.inr rfl) B3 (.inl rfl) (vs := [.agg [.int .i64 0, .str [], .nilSl, .nilSl], .agg [.int .i64 w, .int .i64 k]]) ?_, ?_⟩
    · have h1 : ((((m2.alloc (.cells 74 [.int .i64 0, .int .i64 0])).set m2.next (.cells 74 [.int .i64 w, .int .i64 k])).set m.next z26).set (m.next + 1) (.cells 29 [.int .i64 w, .int .i64 k])).get (m.next + 1) = .cells 29 [.int .i64 w, .int .i64 k] := get_set_same
      have h2 : ((((m2.alloc (.cells 74 [.int .i64 0, .int .i64 0])).set m2.next (.cells 74 [.int .i64 w, .int .i64 k])).set m.next z26).set (m.next + 1) (.cells 29 [.int .i64 w, .int .i64 k])).get m.next = z26 := by rw [get_set_other (by omega)]; exact get_set_same
      simp only [go_sem, reduceIte, Nat.reduceEqDiff, Nat.reduceAdd, q23, h1, h2]
    · rw [WhR, hW]
      have hl := hE.next
      exact ⟨_, rfl, zero_val, (((hE.alloc _).set (by omega) _).set (Nat.le_refl _) _).set (by omega) _⟩
  | ok T =>
    rw [hP] at hc
    obtain ⟨rfl, k, t, ka, kb, ha, o1, o2, hv⟩ := hc
    have hW : whS s = (T, 0, 0) := by simp [whS, hP]
    obtain ⟨e3, fr3, m3, B3, rfl, rfl⟩ := wc_sound (whole_none (a := m.next) (b := m.next + 1) (M := m2))
    refine ⟨_, _, dfr_ret (q := q23) xfok mixed (fun _ _ _ _ _ h => h) q23at q23cl q23ok rfl B1 B2 (.inl ⟨.inr rfl, rfl⟩) B3 (.inl rfl) (vs := [.agg [.int .i64 k, .str t, ka, kb], .agg [.int .i64 0, .int .i64 0]]) ?_, ?_⟩
    · simp only [go_sem, reduceIte, Nat.reduceEqDiff, Nat.reduceAdd, q23, ha, hb]
    · rw [WhR, hW]
      exact ⟨_, rfl, hv, hE⟩
end Go.Proofs.YtinlfdkalijffaaDoor.Am.Q
namespace Go.Proofs.YtinlfdkalijffaaDoor.Am.Q
open Go Go.Proofs Go.Proofs.YtinlfdkalijffaaDoor.Am
theorem pparse_ok (s : List UInt8) (m : Mem) : ∃ v m', CS 10 [.str s] m (.ret v) m' ∧ ParR s m v m' := by
  refine call_some (R := ParR s m) xfok mixed q10at q10ok rfl ?_
  have g1 : ((m.alloc z26).alloc zFault).get m.next = z26 := by rw [get_old (by simp [Mem.alloc])]; exact get_new
  have g2 : ((m.alloc z26).alloc zFault).get (m.next + 1) = zFault := get_new
  have E2 : Ext m ((m.alloc z26).alloc zFault) := (Ext.alloc _ _).trans (Ext.alloc _ _)
  have n2 : ((m.alloc z26).alloc zFault).next = m.next + 2 := rfl
  by_cases hlen : 65536 < s.length
  · have e1 : decide ((s.length : Int) > 65536) = true := dT (by omega)
    have hT : parseT s = (VT.zero, 5, 0) := by simp [parseT, hlen]
    simp only [go_sem, reduceIte, Nat.reduceEqDiff, Nat.reduceAdd, q10, q10r0, q10r1, e1, q10r2, next_alloc, g1]
    have g3 : (((m.alloc z26).alloc zFault).set m.next z26).get (m.next + 1) = zFault := by rw [get_set_other (by omega)]; exact g2
    simp only [go_sem, reduceIte, Nat.reduceEqDiff, Nat.reduceAdd, g3]
    have g4 : ((((m.alloc z26).alloc zFault).set m.next z26).set (m.next + 1) (.cells 29 [.int .i64 5, .int .i64 0])).get m.next = z26 := by rw [get_set_other (by omega)]; exact get_set_same
    simp only [go_sem, reduceIte, Nat.reduceEqDiff, Nat.reduceAdd, g4]
    exact ⟨_, by rw [hT]; rfl, by rw [hT]; exact zero_val, (E2.set (Nat.le_refl _) _).set (by omega) _⟩
  · have e1 : decide ((s.length : Int) > 65536) = false := dF (by omega)
    simp only [go_sem, reduceIte, Nat.reduceEqDiff, Nat.reduceAdd, q10, q10r0, q10r1, e1, q10r3, next_alloc]
    obtain ⟨v, M2, k1, rfl, hE⟩ := ptext_ok (s := s) (by omega) ((m.alloc z26).alloc zFault)
    refine callW_ret k1 ?_
    have g1' : M2.get m.next = z26 := by rw [hE.get _ (by omega)]; exact g1
    have g2' : M2.get (m.next + 1) = zFault := by rw [hE.get _ (by omega)]; exact g2
    have E3 := E2.trans hE
    have n3 : m.next + 2 ≤ M2.next := by have := hE.next; omega
    cases ht : isT s with
    | false =>
      have hT : parseT s = (VT.zero, 9, 0) := by simp [parseT, hlen, ht]
      simp only [go_sem, reduceIte, Nat.reduceEqDiff, Nat.reduceAdd, q10r4, g1']
      have g3 : (M2.set m.next z26).get (m.next + 1) = zFault := by rw [get_set_other (by omega)]; exact g2'
      simp only [go_sem, reduceIte, Nat.reduceEqDiff, Nat.reduceAdd, g3]
      have g4 : ((M2.set m.next z26).set (m.next + 1) (.cells 29 [.int .i64 9, .int .i64 0])).get m.next = z26 := by rw [get_set_other (by omega)]; exact get_set_same
      simp only [go_sem, reduceIte, Nat.reduceEqDiff, Nat.reduceAdd, g4]
      exact ⟨_, by rw [hT]; rfl, by rw [hT]; exact zero_val, (E3.set (Nat.le_refl _) _).set (by omega) _⟩
    | true =>
      have hT : parseT s = whS s := by unfold parseT whS; rw [if_neg hlen, if_neg (by simp [ht])]; cases parseS s <;> rfl
      simp only [go_sem, reduceIte, Nat.reduceEqDiff, Nat.reduceAdd, q10r5]
      have hp : (M2.alloc (PP s 0 4096)).get M2.next = PP s 0 4096 := get_new
      obtain ⟨v, M4, k1, a, rfl, x1, x2⟩ := whole_ok (s := s) (by omega) (m := M2.alloc (PP s 0 4096)) (p := M2.next) hp (by rw [next_alloc]; omega)
      simp only [go_sem, reduceIte, Nat.reduceEqDiff, Nat.reduceAdd, q10r6]
      refine callW_ret k1 ?_
      have n4 : (M2.alloc (PP s 0 4096)).next = M2.next + 1 := rfl
      have h1 : M4.get m.next = z26 := by rw [x2.get _ (by omega) (by omega), get_old (by omega)]; exact g1'
      have h2 : M4.get (m.next + 1) = zFault := by rw [x2.get _ (by omega) (by omega), get_old (by omega)]; exact g2'
      obtain ⟨k0, t0, ka, kb, rfl, o1, o2⟩ := x1.ones
      have h3 : (M4.set m.next (.cells 26 [.int .i64 k0, .str t0, ka, kb])).get (m.next + 1) = zFault := by rw [get_set_other (by omega)]; exact h2
      have h4 : ∀ c, ((M4.set m.next (.cells 26 [.int .i64 k0, .str t0, ka, kb])).set (m.next + 1) c).get m.next = .cells 26 [.int .i64 k0, .str t0, ka, kb] := by intro c; rw [get_set_other (by omega)]; exact get_set_same
      simp only [go_sem, reduceIte, Nat.reduceEqDiff, Nat.reduceAdd, h1, h2, o1, o2, h3, h4]
      have E4 : Ext m M4 := extB_ext ((ext_extB (p := M2.next) (E3.trans (Ext.alloc _ _))).trans x2) (by omega)
      exact ⟨_, by rw [hT], by rw [hT]; exact x1, (E4.set (Nat.le_refl _) _).set (by omega) _⟩
end Go.Proofs.YtinlfdkalijffaaDoor.Am.Q
namespace Go.Proofs.YtinlfdkalijffaaDoor.Am.Q
open Go Go.Proofs Go.Proofs.YtinlfdkalijffaaDoor.Am
theorem mustS_ok {s : List UInt8} {i e : Nat} {x : Unit} {j : Nat} (h : mustS s i e = .ok (x, j)) : i < j ∧ j ≤ s.length := by
  unfold mustS at h
  cases hx : nxt s i with
  | error x => rw [hx] at h; cases h
  | ok x =>
    obtain ⟨a, c⟩ := x
    obtain ⟨h1, h2, h3, h4⟩ := nxt_ok hx
    rw [hx] at h
    dsimp only at h
    split at h
    · cases h
    · cases h; omega
end Go.Proofs.YtinlfdkalijffaaDoor.Am.Q
