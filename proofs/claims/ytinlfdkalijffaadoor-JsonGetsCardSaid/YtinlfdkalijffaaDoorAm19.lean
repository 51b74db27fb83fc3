/-
  THE ABSTRACT MACHINE, 19: how code is gone through: a set of rules for simp; slices as lists.
-/
import Derived.Test.YtinlfdkalijffaaDoorAm18
set_option linter.unusedSimpArgs false
set_option linter.unusedVariables false
namespace Go.Proofs.YtinlfdkalijffaaDoor.Am
open Go Go.RowKit

/-- A slice (or nil) with these elements. -/
def SlOf (sz : Nat) (x : AV) (xs : List AV) : Prop := (x = .nilSl ∧ xs = []) ∨ ∃ o, x = .sl o sz xs
theorem SlOf.isLK {sz : Nat} {x : AV} {xs : List AV} (h : SlOf sz x xs) : Am.isLK .sli x = true := by
  rcases h with ⟨rfl, rfl⟩ | ⟨o, rfl⟩ <;> rfl
theorem SlOf.len {sz : Nat} {x : AV} {xs : List AV} (h : SlOf sz x xs) (m : Mem) : lenV m x = some (.int .i64 xs.length) := by
  rcases h with ⟨rfl, rfl⟩ | ⟨o, rfl⟩ <;> rfl
theorem SlOf.idx {sz : Nat} {x : AV} {xs : List AV} (h : SlOf sz x xs) {k : IntKind} {i : Int} {y : AV} (hi : 0 ≤ i) (hy : xs[i.toNat]? = some y) : idxAddrV sz x (.int k i) = some (.sptr y.cells 0) := by
  rcases h with ⟨rfl, rfl⟩ | ⟨o, rfl⟩
  · simp at hy
  · simp [idxAddrV, hi, hy]
theorem SlOf.elems {sz : Nat} {x : AV} {xs : List AV} (h : SlOf sz x xs) : Am.elems x = some xs := by
  rcases h with ⟨rfl, rfl⟩ | ⟨o, rfl⟩ <;> rfl

theorem stable_none {os : List (AOp × Option (Opd × Bool))} {exp : List (Nat × Opd)} {d : Bool} {okp : List Nat} {ps : List (List Nat)} {env fr : List AV} {h : List Mem} : Stable { ops := os, exp := exp, draws := d, pairs := [], okPan := okp, preds := ps } env fr h = True :=
  eq_true (stable_nil rfl)
theorem pushH_false {m : Mem} {h : List Mem} : pushH false m h = h := rfl
theorem ev_loc0 {v : AV} {env fr : List AV} : Opd.ev (v :: env) fr (.loc 0) = v := rfl
theorem ev_locS {v : AV} {env fr : List AV} {n : Nat} : Opd.ev (v :: env) fr (.loc (n + 1)) = Opd.ev env fr (.loc n) := rfl
theorem ev_var0 {env fr : List AV} {v : AV} : Opd.ev env (v :: fr) (.var 0) = v := rfl
theorem ev_varS {env fr : List AV} {v : AV} {n : Nat} : Opd.ev env (v :: fr) (.var (n + 1)) = Opd.ev env fr (.var n) := rfl
theorem ev_cst {env fr : List AV} {v : AV} : Opd.ev env fr (.cst v) = v := rfl
theorem kills_cons {j : Nat} {js : List Nat} {fr : List AV} : kills (j :: js) fr = (kills js fr).set j .u := rfl
theorem kills_nil {fr : List AV} : kills [] fr = fr := rfl
theorem exports_cons {env fr : List AV} {j : Nat} {x : Opd} {es : List (Nat × Opd)} : exports env fr ((j, x) :: es) = (exports env fr es).set j (x.ev env fr) := rfl
theorem exports_nil {env fr : List AV} : exports env fr [] = fr := rfl
theorem set0 {v y : AV} {l : List AV} : (y :: l).set 0 v = v :: l := rfl
theorem setS {v y : AV} {l : List AV} {n : Nat} : (y :: l).set (n + 1) v = y :: l.set n v := rfl
theorem wants_none {ρ : Opd → AV} : wants ρ none = some true := rfl
theorem wants_bool {ρ : Opd → AV} {x : Opd} {b c : Bool} (h : ρ x = .bool c) : wants ρ (some (x, b)) = some (c == b) := by simp [wants, h]
theorem endsIn_n {rs : List ARes} {R Z : AV → Mem → Prop} {fr : List AV} {m : Mem} : endsIn rs R Z .normal fr m = ∃ vs, resultsOf fr m rs = some vs ∧ R (oneOr vs) m := rfl
theorem endsIn_r {rs : List ARes} {R Z : AV → Mem → Prop} {fr : List AV} {m : Mem} : endsIn rs R Z .ret fr m = ∃ vs, resultsOf fr m rs = some vs ∧ R (oneOr vs) m := rfl
theorem endsIn_p {rs : List ARes} {R Z : AV → Mem → Prop} {fr : List AV} {m : Mem} {v : AV} : endsIn rs R Z (.pan v) fr m = Z v m := rfl
theorem part_f {n off : Nat} {cs : List AV} : part false n cs off = cs[off]? := rfl
theorem part_1 {a : AV} : part true 1 [a] 0 = some (.agg [a]) := rfl
theorem part_2 {a b : AV} : part true 2 [a, b] 0 = some (.agg [a, b]) := rfl
theorem part_3 {a b c : AV} : part true 3 [a, b, c] 0 = some (.agg [a, b, c]) := rfl
theorem part_4 {a b c d : AV} : part true 4 [a, b, c, d] 0 = some (.agg [a, b, c, d]) := rfl
def loadObj (o : AObj) (g : Bool) (n off : Nat) : Option AV :=
  match o with
  | .cells _ cs => part g n cs off
  | _ => none
theorem loadObj_cells {t : TypeId} {cs : List AV} {g : Bool} {n off : Nat} : loadObj (.cells t cs) g n off = part g n cs off := rfl
theorem load_ptr {m : Mem} {g : Bool} {n id off : Nat} : m.load g n (.ptr id off) = loadObj (m.get id) g n off := by
  simp only [Mem.load, loadObj]; split <;> simp_all
theorem load_sptr {m : Mem} {g : Bool} {n off : Nat} {cs : List AV} : m.load g n (.sptr cs off) = part g n cs off := rfl
/-- Writing. -/
def storeAll (xs : List AV) : Bool := xs.all scal
theorem store_4 {m : Mem} {id : Nat} {t : TypeId} {c0 c1 c2 c3 x0 x1 x2 x3 : AV} (h : m.get id = .cells t [c0, c1, c2, c3]) (hs : storeAll [x0, x1, x2, x3] = true) : m.store 4 (.ptr id 0) (.agg [x0, x1, x2, x3]) = some (m.set id (.cells t [x0, x1, x2, x3])) := by
  simp only [storeAll] at hs
  simp [Mem.store, h, AV.cells, hs, setCells]
theorem get_set_same {m : Mem} {i : Nat} {o : AObj} : (m.set i o).get i = o := by simp [Mem.set]
theorem get_set_other {m : Mem} {i j : Nat} {o : AObj} (h : j ≠ i) : (m.set i o).get j = m.get j := by simp [Mem.set, h]
theorem get_new {m : Mem} {o : AObj} : (m.alloc o).get m.next = o := by simp [Mem.alloc]
theorem get_old {m : Mem} {o : AObj} {i : Nat} (h : i ≠ m.next) : (m.alloc o).get i = m.get i := by simp [Mem.alloc, h]
theorem next_alloc {m : Mem} {o : AObj} : (m.alloc o).next = m.next + 1 := rfl
theorem next_set {m : Mem} {i : Nat} {o : AObj} : (m.set i o).next = m.next := rfl
theorem SlOf.scal {sz : Nat} {x : AV} {xs : List AV} (h : SlOf sz x xs) : Am.scal x = true := by
  rcases h with ⟨rfl, rfl⟩ | ⟨o, rfl⟩ <;> rfl
theorem ex_some {α : Type} {a : α} {Q : α → Prop} : (∃ b, some a = some b ∧ Q b) = Q a := by simp

/-! ### the set of rules -/
attribute [go_sem] wc_skip wc_exit wc_ret wc_seq wc_block wc_cond wc_loop wc_region wo_nil wo_call wo_callV wo_pan wo_guard wo_move wo_pick wo_alloc wo_box wo_build wo_buildSl wo_load wo_store wo_nilck wo_bin wo_eq wo_not wo_neg wo_inv wo_convI wo_bytesOf wo_strOf wo_runeStr wo_mkIface wo_mkFn wo_mkMap wo_sliceS wo_sliceL wo_fieldAddr wo_field wo_idxAddr wo_idxAddrA wo_idxS wo_idxA wo_lookup wo_mapUpd wo_rangeS wo_nextS wo_tassert wo_extract wo_len wo_min wo_max wo_append wo_convP wo_convU wo_sliceData wo_unsafeStr wo_idxByte seqQ_n seqQ_x seqQ_r seqQ_p loopQ_n loopQ_x loopQ_r loopQ_p blockQ_n blockQ_x blockQ_r blockQ_p endsIn_n endsIn_r endsIn_p bindW_some wantW_true wantW_false boolW_true boolW_false panW_iface callVW_some regN_eq regP_eq regP_dr Nat.zero_add Bool.false_eq_true if_false ex_some evalP ev_loc0 ev_locS ev_var0 ev_varS ev_cst pushH_false kills_cons kills_nil exports_cons exports_nil set0 setS true_and and_true List.map_cons List.map_nil Option.map_some Option.map_none List.isEmpty_nil List.isEmpty_cons Bool.not_true Bool.not_false binV strV intV resultsOf ARes.get oneOr List.append_nil List.cons_append List.nil_append List.replicate List.getD_cons_zero List.getD_cons_succ if_true AV.cells load_ptr load_sptr loadObj_cells part_f part_1 part_2 part_3 part_4 List.getElem?_cons_zero List.getElem?_cons_succ fieldAddrV nilckV callOf wants beq_self_eq_true Bool.true_beq Bool.false_beq
end Go.Proofs.YtinlfdkalijffaaDoor.Am
