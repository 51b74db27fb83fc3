/-
  THE ABSTRACT MACHINE, 10: maps, and ranging over a string: against the model's own run.
-/
import Derived.Test.YtinlfdkalijffaaDoorAm9
set_option linter.unusedSimpArgs false
set_option linter.unusedVariables false
namespace Go.Proofs.YtinlfdkalijffaaDoor.Am
open Go Go.RowKit

section
variable {G : Nat → Option (List AV)} {w0 : World} {C : Cx} {m : Mem} {w : World} {P : Program}

theorem mkMap_ok (hI : Inv G w0 C m w) {t : TypeId} : Res G w0 C (m.alloc (.map [])) (.map m.next) ((do pure (.value (← Instr.makeMap t none)) : Sem Next).run P w) := by
  refine Res.made (w' := w.alloc (.map #[] 0)) (C' := C.addI m.next w.heap.size) (cv := .map (some w.heap.size)) ?_ (C.le_addI _ _) (hI.alloc_obj fun C' _ => ⟨#[], 0, heap_alloc_new _ _, rfl, fun i hi => absurd hi (by simp)⟩) (.map _ _ (.inr ⟨rfl, rfl⟩))
  simp [Instr.makeMap]

def kindFits (d : TypeDesc) (k : AV) : Bool :=
  match d, k with
  | .int _, .int _ _ => true
  | .string, .str _ => true
  | .bool, .bool _ => true
  | _, _ => false

theorem keyEq_sameNow {k k' : AV} {a b : Value} (hk : Rep C k a) (hk' : Rep C k' b) {r : Bool} (h : keyEq k k' = some r) {d : TypeDesc} (hd : kindFits d k = true) : Instr.sameNow d a b = some r := by
  cases hk with
  | int q n =>
    cases hk' with
    | int q' n' =>
      simp only [keyEq] at h
      split at h
      · rename_i hkk; subst hkk; injection h with h; subst h
        cases d <;> simp [kindFits] at hd <;> simp [Instr.sameNow]
      · cases h
    | _ => simp [keyEq] at h
  | str l s1 e1 =>
    cases hk' with
    | str l' s2 e2 =>
      simp only [keyEq, Option.some.injEq] at h; subst h
      cases d <;> simp [kindFits] at hd <;> simp [Instr.sameNow, beq_str e1 e2]
    | _ => simp [keyEq] at h
  | bool p =>
    cases hk' with
    | bool p' =>
      simp only [keyEq, Option.some.injEq] at h; subst h
      cases d <;> simp [kindFits] at hd <;> simp [Instr.sameNow]
    | _ => simp [keyEq] at h
  | _ => cases k' <;> simp [keyEq] at h

/-- The entries of a map and its list. -/
def Entries (C : Cx) (es : List (AV × AV)) (ents : List MapEntry) : Prop :=
  ents.length = es.length ∧ ∀ i, i < es.length → isKey (es.getD i (.u, .u)).1 = true ∧ Rep C (es.getD i (.u, .u)).1 (ents.getD i default).key ∧ Rep C (es.getD i (.u, .u)).2 (ents.getD i default).val

theorem Entries.tail {e : AV × AV} {es : List (AV × AV)} {x : MapEntry} {ents : List MapEntry} (h : Entries C (e :: es) (x :: ents)) : (isKey e.1 = true ∧ Rep C e.1 x.key ∧ Rep C e.2 x.val) ∧ Entries C es ents := by
  refine ⟨by simpa using h.2 0 (by simp), by simpa using h.1, fun i hi => ?_⟩
  have := h.2 (i + 1) (by simpa using hi)
  simpa using this

theorem findNow_run {k : AV} {a : Value} (hk : Rep C k a) {d : TypeDesc} (hd : kindFits d k = true) : ∀ {es : List (AV × AV)} {ents : List MapEntry} (n : Nat) {r : Option AV}, Entries C es ents → mapFind k es = some r →
    match r with
    | some v => ∃ i, i < es.length ∧ (∃ k', es[i]? = some (k', v) ∧ keyEq k k' = some true) ∧ (∀ j, j < i → ∃ e : AV × AV, es[j]? = some e ∧ keyEq k e.1 = some false) ∧ ∃ cv, Instr.findNow d a ents n = some (some (n + i, cv)) ∧ Rep C v cv ∧ (ents.getD i default).val = cv
    | none => Instr.findNow d a ents n = some none ∧ ∀ (j : Nat) (e : AV × AV), es[j]? = some e → keyEq k e.1 = some false
  | [], ents, n, r, he, h => by
    simp only [mapFind, Option.some.injEq] at h; subst h
    have : ents = [] := List.eq_nil_of_length_eq_zero (by simpa using he.1)
    subst this
    exact ⟨rfl, fun j e h => by simp at h⟩
  | (k', v') :: es, [], n, r, he, h => by simp [Entries] at he
  | (k', v') :: es, x :: ents, n, r, he, h => by
    obtain ⟨⟨q1, q2, q3⟩, he'⟩ := he.tail
    simp only [mapFind] at h
    split at h
    · rename_i hq
      injection h with h; subst h
      refine ⟨0, by simp, ⟨k', rfl, hq⟩, fun j hj => absurd hj (by omega), x.val, ?_, q3, rfl⟩
      simp only [Instr.findNow, keyEq_sameNow hk q2 hq hd]; rfl
    · rename_i hq
      have ih := findNow_run hk hd (n + 1) he' h
      have hstep : Instr.findNow d a (x :: ents) n = Instr.findNow d a ents (n + 1) := by
        simp only [Instr.findNow, keyEq_sameNow hk q2 hq hd]
      cases r with
      | none =>
        refine ⟨by rw [hstep]; exact ih.1, fun j e hj => ?_⟩
        cases j with
        | zero => simp at hj; subst hj; exact hq
        | succ j => exact ih.2 j e (by simpa using hj)
      | some v =>
        obtain ⟨i, h1, ⟨k2, h2, h3⟩, h4, cv, h5, h6, h7⟩ := ih
        refine ⟨i + 1, by simpa using h1, ⟨k2, by simpa using h2, h3⟩, fun j hj => ?_, cv, by rw [hstep, h5]; congr 3; omega, h6, by simpa using h7⟩
        cases j with
        | zero => exact ⟨_, rfl, hq⟩
        | succ j => simpa using h4 j (by omega)
    · cases h

def kkOk (d : TypeDesc) (kd : KK) : Bool :=
  match d, kd with
  | .int _, .int => true
  | .string, .str => true
  | .bool, .bool => true
  | _, _ => false
theorem kind_fits {d : TypeDesc} {kd : KK} {k : AV} (h : isKK kd k = true) (hd : kkOk d kd = true) : kindFits d k = true := by
  cases kd <;> cases k <;> simp [isKK] at h <;> cases d <;> simp [kkOk] at hd <;> rfl
theorem run_checkKey {e : Bool} {n : Nat} {t : TypeId} {d : TypeDesc} (hu : P.underlying t = some d) {k : AV} (hd : kindFits d k = true) (a : Value) : (Instr.checkKey e (n + 1) t a).run P w = .ok () w := by
  unfold kindFits at hd
  split at hd
  · simp [Instr.checkKey, run_underlying hu]
  · simp [Instr.checkKey, run_underlying hu]
  · simp [Instr.checkKey, run_underlying hu]
  · cases hd

theorem map_obj (hI : Inv G w0 C m w) {id b : Nat} (hb : C.I id b) {es : List (AV × AV)} (hc : m.get id = .map es) : ∃ ents clk, w.heap[b]? = some (.map ents clk) ∧ Entries C es ents.toList ∧ (getObj b).run P w = .ok (.map ents clk) w := by
  obtain ⟨_, _, _, ho⟩ := hI.obj id b hb
  rw [hc] at ho
  obtain ⟨ents, clk, h1, h2, h3⟩ := ho
  refine ⟨ents, clk, h1, ⟨by simpa using h2, fun i hi => ?_⟩, by simp [getObj, Sem.run, h1]⟩
  have := h3 i hi
  simpa [Array.getD_eq_getD_getElem?, List.getD_eq_getElem?_getD] using this

theorem lookup_ok (hI : Inv G w0 C m w) {x k v z : AV} {a c : Value} (hx : Rep C x a) (hk : Rep C k c) {t kt et : TypeId} {d : TypeDesc} {ok : Bool} (ht : P.underlying t = some (.map kt et)) (hd : P.underlying kt = some d) (hfit : kindFits d k = true) (hz : zeroOk P et z = true)
    (h : lookupV m z ok x k = some v) : Res G w0 C m v ((do pure (.value (← Instr.lookup t a c ok)) : Sem Next).run P w) := by
  obtain ⟨zv, z1, z2⟩ := zeroOk_run (w := w) hz
  have hzr := cstOk_rep C z2
  have pair : ∀ (p q : AV) (c e : Value), Rep C p c → Rep C q e → Rep C (.tup [p, q]) (.tuple #[c, e]) := by
    intro p q c e hp hq
    refine .tup _ _ rfl fun i hi => ?_
    match i, hi with
    | 0, _ => exact hp
    | 1, _ => exact hq
  cases hx with
  | nilMap =>
    simp only [lookupV, Option.some.injEq] at h; subst h
    refine Res.quiet hI (cv := if ok then .tuple #[zv, .bool false] else zv) ?_ (by cases ok <;> first | exact hzr | exact pair _ _ _ _ hzr (.bool _))
    simp only [Instr.lookup, Sem.run_bind, run_underlying ht, Result.andThen_ok, Sem.run_pure, run_checkKey hd hfit c, Instr.findKey, run_underlying hd, Instr.findNow, z1]
  | map id b hb =>
    simp only [lookupV] at h
    split at h
    · rename_i es hes
      obtain ⟨ents, clk, h1, h2, h3⟩ := map_obj (P := P) hI hb hes
      split at h
      · rename_i fv hf
        injection h with h; subst h
        obtain ⟨i, _, _, _, cv, f1, f2, _⟩ := findNow_run hk hfit 0 h2 hf
        refine Res.quiet hI (cv := if ok then .tuple #[cv, .bool true] else cv) ?_ (by cases ok <;> first | exact f2 | exact pair _ _ _ _ f2 (.bool _))
        simp only [Instr.lookup, Sem.run_bind, run_underlying ht, Result.andThen_ok, Sem.run_pure, h3, run_checkKey hd hfit c, Instr.findKey, run_underlying hd, f1]
      · rename_i hf
        injection h with h; subst h
        obtain ⟨f1, _⟩ := findNow_run hk hfit 0 h2 hf
        refine Res.quiet hI (cv := if ok then .tuple #[zv, .bool false] else zv) ?_ (by cases ok <;> first | exact hzr | exact pair _ _ _ _ hzr (.bool _))
        simp only [Instr.lookup, Sem.run_bind, run_underlying ht, Result.andThen_ok, Sem.run_pure, h3, run_checkKey hd hfit c, Instr.findKey, run_underlying hd, f1, z1]
      · cases h
    · cases h
  | _ => simp [lookupV] at h

theorem keyEq_true {k k' : AV} (h : keyEq k k' = some true) : k = k' := by
  unfold keyEq at h
  split at h
  · split at h
    · rename_i hkk; subst hkk; injection h with h; rw [eq_of_beq h]
    · cases h
  · injection h with h; rw [eq_of_beq h]
  · injection h with h; rw [eq_of_beq h]
  · cases h
theorem key_same {k : AV} {a b : Value} (hk : Rep C k a) (hk' : Rep C k b) (h : isKey k = true) : Instr.sameBits 10000 a b = true := by
  cases hk <;> simp [isKey] at h <;> cases hk'
  · simp [Instr.sameBits]
  · simp [Instr.sameBits]
  · rename_i l s1 e1 s2 e2
    have := beq_str e1 e2
    simp [Instr.sameBits, this]

theorem mapPut_hit {k v : AV} : ∀ {es : List (AV × AV)} {i : Nat} {k' y : AV}, es[i]? = some (k', y) → keyEq k k' = some true → (∀ j, j < i → ∃ e : AV × AV, es[j]? = some e ∧ keyEq k e.1 = some false) → mapPut k v es = es.set i (k, v)
  | [], i, k', y, h, _, _ => by simp at h
  | (k0, u0) :: es, i, k', y, h, hk, hb => by
    cases i with
    | zero =>
      simp only [List.getElem?_cons_zero, Option.some.injEq, Prod.mk.injEq] at h
      obtain ⟨rfl, rfl⟩ := h
      simp [mapPut, hk]
    | succ i =>
      obtain ⟨e, h1, h2⟩ := hb 0 (by omega)
      simp only [List.getElem?_cons_zero, Option.some.injEq] at h1; subst h1
      simp only [mapPut]
      rw [if_neg (by rw [h2]; simp), mapPut_hit (by simpa using h) hk (fun j hj => by simpa using hb (j + 1) (by omega))]
      rfl
theorem mapPut_miss {k v : AV} : ∀ {es : List (AV × AV)}, (∀ (j : Nat) (e : AV × AV), es[j]? = some e → keyEq k e.1 = some false) → mapPut k v es = es ++ [(k, v)]
  | [], _ => rfl
  | (k0, u0) :: es, h => by
    simp only [mapPut]
    rw [if_neg (by rw [h 0 _ rfl]; simp), mapPut_miss (fun j e he => h (j + 1) e (by simpa using he))]
    rfl

theorem mapUpd_ok (hI : Inv G w0 C m w) {x k v : AV} {a c vv : Value} (hx : Rep C x a) (hk : Rep C k c) (hv : Rep C v vv) {t kt et : TypeId} {d : TypeDesc} (ht : P.underlying t = some (.map kt et)) (hd : P.underlying kt = some d) (hfit : kindFits d k = true)
    {m1 : Mem} (h : mapUpdV m x k v = some m1) : Res G w0 C m1 (.tup []) ((do Instr.mapUpdate t a c vv; pure .skip : Sem Next).run P w) := by
  cases hx with
  | map id b hb =>
    simp only [mapUpdV] at h
    split at h
    · rename_i es hes
      split at h
      · rename_i hc
        obtain ⟨c1, c2, c3⟩ := hc
        injection h with h; subst h
        obtain ⟨ents, clk, h1, h2, h3⟩ := map_obj (P := P) hI hb hes
        obtain ⟨q1, q2, q3, _⟩ := hI.obj id b hb
        have hset : ∀ (o : Obj), (setObj b o).run P w = .ok () { w with heap := w.heap.setIfInBounds b o } := fun o => by simp [setObj, Sem.run, h1]
        have hbelow : ∀ o, Below w0.heap.size w0 { w with heap := w.heap.setIfInBounds b o } := fun o =>
          hI.below.trans ⟨rfl, rfl, rfl, by simp, fun i hi => by simp only [Array.getElem?_setIfInBounds]; rw [if_neg (by omega)]⟩
        have hother : ∀ o k, k ≠ b → ({ w with heap := w.heap.setIfInBounds b o } : World).heap[k]? = w.heap[k]? := fun o k hk => by
          simp only [Array.getElem?_setIfInBounds]; rw [if_neg (Ne.symm hk)]
        have hsame : ∀ o, ({ w with heap := w.heap.setIfInBounds b o } : World).heap[b]? = some o := fun o => by
          simp only [Array.getElem?_setIfInBounds]; simp [q3]
        cases hf : mapFind k es with
        | none => rw [hf] at c2; simp at c2
        | some r =>
          have hfr := findNow_run hk hfit 0 h2 hf
          cases r with
          | some old =>
            obtain ⟨i, f1, ⟨k', f2, f3⟩, f4, cv, f5, f6, f7⟩ := hfr
            have hkk := keyEq_true f3
            subst hkk
            rw [Nat.zero_add] at f5
            have hil : i < ents.size := by rw [← Array.length_toList, h2.1]; exact f1
            obtain ⟨e1, e2, e3⟩ := h2.2 i f1
            have ek : (es.getD i (.u, .u)).1 = k := by rw [getD_eq f2]
            rw [ek] at e1 e2
            have hkey : ents[i]? = some (ents.toList.getD i default) := by
              rw [Array.getElem?_eq_getElem hil]; simp [List.getD, hil]
            have hsb := key_same e2 hk e1
            refine Res.done (w' := { w with heap := w.heap.setIfInBounds b (.map (ents.modify i fun e => { e with key := c, val := vv }) clk) }) ?_ (.refl C)
              (hI.write_obj hb (by rw [hes]; simp) (hbelow _) (by simp) (hother _) ?_)
            · simp only [Instr.mapUpdate, Sem.run_bind, run_underlying ht, Result.andThen_ok, h3, run_checkKey hd hfit c, Instr.findKey, run_underlying hd, f5, Sem.run_pure, hkey, Option.map_some, Option.getD_some, Instr.keyThatStays, Sem.run_ite, hsb, if_true, hset]
            · rw [mapPut_hit f2 f3 f4]
              refine ⟨_, clk, hsame _, by simp; exact h2.1, fun j hj => ?_⟩
              simp only [List.length_set] at hj
              have hjl : j < ents.size := by rw [← Array.length_toList, h2.1]; exact hj
              by_cases ej : j = i
              · subst ej
                have g1 : (es.set j (k, v)).getD j (.u, .u) = (k, v) := by simp [List.getD, List.getElem?_set_self hj]
                have g2 : (ents.modify j fun e => { e with key := c, val := vv }).getD j default = { ents.toList.getD j default with key := c, val := vv } := by
                  rw [Array.getD_eq_getD_getElem?, Array.getElem?_modify, if_pos rfl, Array.getElem?_eq_getElem hjl]
                  simp [List.getD, hjl]
                rw [g1, g2]; exact ⟨c1, hk, hv⟩
              · have g1 : (es.set i (k, v)).getD j (.u, .u) = es.getD j (.u, .u) := by simp [List.getD, List.getElem?_set_ne (Ne.symm ej)]
                have g2 : (ents.modify i fun e => { e with key := c, val := vv }).getD j default = ents.toList.getD j default := by
                  simp [Array.getD_eq_getD_getElem?, Array.getElem?_modify, Ne.symm ej, List.getD]
                rw [g1, g2]; exact h2.2 j hj
          | none =>
            obtain ⟨f1, f2⟩ := hfr
            refine Res.done (w' := { w with heap := w.heap.setIfInBounds b (.map (ents.push { key := c, val := vv, born := clk }) (clk + 1)) }) ?_ (.refl C)
              (hI.write_obj hb (by rw [hes]; simp) (hbelow _) (by simp) (hother _) ?_)
            · simp only [Instr.mapUpdate, Sem.run_bind, run_underlying ht, Result.andThen_ok, h3, run_checkKey hd hfit c, Instr.findKey, run_underlying hd, f1, Sem.run_pure, hset]
            · rw [mapPut_miss f2]
              have hlen : ents.size = es.length := by rw [← Array.length_toList]; exact h2.1
              refine ⟨_, clk + 1, hsame _, by simp; exact hlen, fun j hj => ?_⟩
              simp only [List.length_append, List.length_cons, List.length_nil] at hj
              by_cases ej : j < es.length
              · have g1 : (es ++ [(k, v)]).getD j (.u, .u) = es.getD j (.u, .u) := by simp [List.getD, List.getElem?_append_left ej]
                have g2 : (ents.push { key := c, val := vv, born := clk }).getD j default = ents.toList.getD j default := by
                  have : j ≠ ents.size := by omega
                  simp [Array.getD_eq_getD_getElem?, Array.getElem?_push, this, List.getD]
                rw [g1, g2]; exact h2.2 j ej
              · have ej' : j = es.length := by omega
                subst ej'
                have g1 : (es ++ [(k, v)]).getD es.length (.u, .u) = (k, v) := by simp [List.getD]
                have g2 : (ents.push { key := c, val := vv, born := clk }).getD es.length default = { key := c, val := vv, born := clk } := by
                  simp [Array.getD_eq_getD_getElem?, ← hlen]
                rw [g1, g2]; exact ⟨c1, hk, hv⟩
      · cases h
    · cases h
  | _ => simp [mapUpdV] at h

/-! ### ranging over a string -/
theorem rangeS_ok (hI : Inv G w0 C m w) {x : AV} {a : Value} (hx : Rep C x a) {t : TypeId} {s : List UInt8} (ht : P.underlying t = some .string) (h : x = .str s) :
    Res G w0 C (m.alloc (.iter s 0)) (.ptr m.next 0) ((do pure (.value (← Instr.range t a)) : Sem Next).run P w) := by
  subst h
  cases hx with
  | str _ b e =>
    refine Res.made (w' := w.alloc (.stringIter b 0)) (C' := C.addI m.next w.heap.size) (cv := .pointer (some ⟨w.heap.size, 0, none⟩)) ?_ (C.le_addI _ _) (hI.alloc_obj fun C' _ => ⟨b, heap_alloc_new _ _, e⟩) (rep_new _ _ _)
    simp [Instr.range, run_underlying ht]

theorem nextS_ok (hI : Inv G w0 C m w) {x v : AV} {a : Value} (hx : Rep C x a) {ty : TypeId} {m1 : Mem} (h : nextV m x = some (v, m1)) :
    Res G w0 C m1 v ((do pure (.value (← Instr.next a true ty)) : Sem Next).run P w) := by
  cases hx with
  | ptr id off b hb =>
    unfold nextV at h
    split at h
    · rename_i id' he
      injection he with e1 e2
      subst e1; subst e2
      split at h
      · rename_i s pos hes
        obtain ⟨q1, q2, q3, ho⟩ := hI.obj id b hb
        rw [hes] at ho
        obtain ⟨bs, h1, h2⟩ := ho
        have hg : (getObj b).run P w = .ok (.stringIter bs pos) w := by simp [getObj, Sem.run, h1]
        have hsz : bs.size = s.length := by subst h2; simp
        have hbs : (⟨s.toArray⟩ : ByteArray) = bs := by subst h2; simp
        split at h
        · rename_i hlt
          simp only [Option.some.injEq, Prod.mk.injEq] at h
          obtain ⟨rfl, rfl⟩ := h
          rw [hbs]
          have hset : ∀ (o : Obj), (setObj b o).run P w = .ok () { w with heap := w.heap.setIfInBounds b o } := fun o => by simp [setObj, Sem.run, h1]
          refine Res.made (w' := { w with heap := w.heap.setIfInBounds b (.stringIter bs (pos + (Utf8.decode bs pos).2)) }) (C' := C) (cv := .tuple #[.bool true, goInt pos, .int .i32 (Utf8.decode bs pos).1]) ?_ (.refl C)
            (hI.write_obj hb (by rw [hes]; simp) (hI.below.trans ⟨rfl, rfl, rfl, by simp, fun i hi => by simp only [Array.getElem?_setIfInBounds]; rw [if_neg (by omega)]⟩) (by simp) (fun k hk => by simp only [Array.getElem?_setIfInBounds]; rw [if_neg (Ne.symm hk)])
              ⟨bs, by simp only [Array.getElem?_setIfInBounds]; simp [q3], h2⟩) ?_
          · have hlt' : pos < bs.size := by omega
            simp only [Instr.next, Sem.run_bind, hg, Result.andThen_ok, Sem.run_ite, if_pos hlt', hset, Sem.run_pure]
          · refine .tup _ _ rfl fun i hi => ?_
            match i, hi with
            | 0, _ => exact .bool _
            | 1, _ => exact .int _ _
            | 2, _ => exact .int _ _
        · rename_i hlt
          simp only [Option.some.injEq, Prod.mk.injEq] at h
          obtain ⟨rfl, rfl⟩ := h
          refine Res.quiet hI (cv := .tuple #[.bool false]) ?_ (.tup _ _ rfl fun i hi => ?_)
          · have hlt' : ¬ pos < bs.size := by omega
            simp only [Instr.next, Sem.run_bind, hg, Result.andThen_ok, Sem.run_ite, if_neg hlt', Sem.run_pure]
          · match i, hi with
            | 0, _ => exact .bool _
      · cases h
    · cases h
  | _ => simp [nextV] at h
end
end Go.Proofs.YtinlfdkalijffaaDoor.Am
