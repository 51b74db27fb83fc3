/-
  THE ABSTRACT MACHINE, 18: what code comes to, as a proposition that is reckoned along the code's text.
-/
import Derived.Test.YtinlfdkalijffaaDoorAm17
set_option linter.unusedSimpArgs false
set_option linter.unusedVariables false
namespace Go.Proofs.YtinlfdkalijffaaDoor.Am
open Go Go.RowKit

/-! ### glue, all of it data: nothing of what follows lies under a binder -/
section
variable (K : FuncId → List AV → Mem → Rs → Mem → Prop)

structure Rg where
  r : ARegion
  Q : AExit → List AV → Mem → Prop
  fr : List AV
def regN (g : Rg) (env : List AV) (h : List Mem) (m' : Mem) : Prop := Stable g.r env g.fr (pushH (!g.r.pairs.isEmpty) m' h) ∧ g.Q .normal (exports env g.fr g.r.exp) m'
def regP (g : Rg) (v : AV) (env : List AV) (h : List Mem) (m' : Mem) : Prop := (g.r.draws = true → env.length ∈ g.r.okPan) ∧ Stable g.r env g.fr h ∧ g.Q (.pan v) g.fr m'

/-- A region's operations from here on. -/
def wo (g : Rg) (fr : List AV) (d : Bool) : List (AOp × Option (Opd × Bool)) → List AV → List Mem → Mem → Prop
  | [], env, h, m => regN g env h m
  | (.call f args, gd) :: os, env, h, m => ∃ b, wants (Opd.ev env fr) gd = some b ∧ (if b = true then
      ∃ r m1, K f (args.map (Opd.ev env fr)) m r m1 ∧ ((∃ v, r = .ret v ∧ wo g fr d os (v :: env) (pushH d m h) m1) ∨ (∃ v, r = .raise v ∧ regP g v env (pushH d m h) m1))
      else wo g fr d os (.tup [] :: env) (pushH d m h) m)
  | (.callV x args, gd) :: os, env, h, m => ∃ b, wants (Opd.ev env fr) gd = some b ∧ (if b = true then
      ∃ f as, callOf (Opd.ev env fr) (.callV x args) = some (f, as) ∧ ∃ r m1, K f as m r m1 ∧ ((∃ v, r = .ret v ∧ wo g fr d os (v :: env) (pushH d m h) m1) ∨ (∃ v, r = .raise v ∧ regP g v env (pushH d m h) m1))
      else wo g fr d os (.tup [] :: env) (pushH d m h) m)
  | (.panic x, gd) :: os, env, h, m => ∃ b, wants (Opd.ev env fr) gd = some b ∧ (if b = true then
      ∃ t v, Opd.ev env fr x = .iface t v ∧ regP g (.iface t v) env (pushH d m h) m
      else wo g fr d os (.tup [] :: env) (pushH d m h) m)
  | (o, gd) :: os, env, h, m => ∃ b, wants (Opd.ev env fr) gd = some b ∧ (if b = true then
      ∃ v m1, evalP (Opd.ev env fr) m o = some (v, m1) ∧ wo g fr d os (v :: env) (pushH d m h) m1
      else wo g fr d os (.tup [] :: env) (pushH d m h) m)

/-- A loop, from its head. -/
def wl (ks : List Nat) (a : ACode) (Q : AExit → List AV → Mem → Prop) (fr : List AV) (m : Mem) : Prop :=
  ∃ e fr' m', Big K (.code (.loop ks a) fr) m (.exit e fr') m' ∧ Q e fr' m'

def wc : ACode → (AExit → List AV → Mem → Prop) → List AV → Mem → Prop
  | .skip, Q, fr, m => Q .normal fr m
  | .exit id, Q, fr, m => Q (.exit id) fr m
  | .ret, Q, fr, m => Q .ret fr m
  | .stuck, _, _, _ => False
  | .seq a b, Q, fr, m => wc a (fun e fr' m' => match e with | .normal => wc b Q fr' m' | .exit id => Q (.exit id) fr' m' | .ret => Q .ret fr' m' | .pan v => Q (.pan v) fr' m') fr m
  | .cond c a b, Q, fr, m => ∃ t, c.ev [] fr = .bool t ∧ (if t = true then wc a Q fr m else wc b Q fr m)
  | .block id a, Q, fr, m => wc a (fun e fr' m' => match e with | .exit id' => if id' = id then Q .normal fr' m' else Q (.exit id') fr' m' | .normal => Q .normal fr' m' | .ret => Q .ret fr' m' | .pan v => Q (.pan v) fr' m') fr m
  | .loop ks a, Q, fr, m => wl K ks a Q fr m
  | .region r, Q, fr, m => wo K ⟨r, Q, fr⟩ fr (!r.pairs.isEmpty) r.ops [] [] m

def seqQ (b : ACode) (Q : AExit → List AV → Mem → Prop) : AExit → List AV → Mem → Prop
  | .normal, fr, m => wc K b Q fr m
  | .exit id, fr, m => Q (.exit id) fr m
  | .ret, fr, m => Q .ret fr m
  | .pan v, fr, m => Q (.pan v) fr m
def loopQ (ks : List Nat) (a : ACode) (Q : AExit → List AV → Mem → Prop) : AExit → List AV → Mem → Prop
  | .normal, fr, m => wl K ks a Q (kills ks fr) m
  | .exit id, fr, m => Q (.exit id) fr m
  | .ret, fr, m => Q .ret fr m
  | .pan v, fr, m => Q (.pan v) fr m
def blockQ (id : Nat) (Q : AExit → List AV → Mem → Prop) : AExit → List AV → Mem → Prop
  | .normal, fr, m => Q .normal fr m
  | .exit id', fr, m => if id' = id then Q .normal fr m else Q (.exit id') fr m
  | .ret, fr, m => Q .ret fr m
  | .pan v, fr, m => Q (.pan v) fr m

/-- The operations behind one whose value is told. -/
def bindW (x : Option (AV × Mem)) (g : Rg) (fr : List AV) (d : Bool) (os : List (AOp × Option (Opd × Bool))) (env : List AV) (h : List Mem) : Prop := ∃ v m1, x = some (v, m1) ∧ wo K g fr d os (v :: env) h m1
def wantW (x : Option Bool) (o : AOp) (g : Rg) (fr : List AV) (d : Bool) (os : List (AOp × Option (Opd × Bool))) (env : List AV) (h : List Mem) (m : Mem) : Prop :=
  ∃ b, x = some b ∧ (if b = true then wo K g fr d ((o, none) :: os) env h m else wo K g fr d os (.tup [] :: env) (pushH d m h) m)
def callW (f : FuncId) (args : List AV) (g : Rg) (fr : List AV) (d : Bool) (os : List (AOp × Option (Opd × Bool))) (env : List AV) (h : List Mem) (m : Mem) : Prop :=
  ∃ r m1, K f args m r m1 ∧ ((∃ v, r = .ret v ∧ wo K g fr d os (v :: env) (pushH d m h) m1) ∨ (∃ v, r = .raise v ∧ regP g v env (pushH d m h) m1))
def callVW (x : Option (FuncId × List AV)) (g : Rg) (fr : List AV) (d : Bool) (os : List (AOp × Option (Opd × Bool))) (env : List AV) (h : List Mem) (m : Mem) : Prop :=
  ∃ f args, x = some (f, args) ∧ callW K f args g fr d os env h m
def panW (x : AV) (g : Rg) (env : List AV) (h : List Mem) (m : Mem) : Prop := ∃ t v, x = .iface t v ∧ regP g (.iface t v) env h m
def boolW (x : AV) (a b : ACode) (Q : AExit → List AV → Mem → Prop) (fr : List AV) (m : Mem) : Prop := ∃ t, x = .bool t ∧ (if t = true then wc K a Q fr m else wc K b Q fr m)
end

section
variable {K : FuncId → List AV → Mem → Rs → Mem → Prop}
theorem wo_sound {fr : List AV} {d : Bool} {q : Rg} : ∀ {os : List (AOp × Option (Opd × Bool))} {env : List AV} {h : List Mem} {m : Mem}, wo K q fr d os env h m →
    (∃ env' h' m', Big K (.ops os env fr d h) m (.env env' h') m' ∧ regN q env' h' m') ∨ (∃ v env' h' m', Big K (.ops os env fr d h) m (.pan v env' h') m' ∧ regP q v env' h' m') := by
  intro os
  induction os with
  | nil => intro env h m hw; exact .inl ⟨env, h, m, .opsNil, hw⟩
  | cons og os ih =>
    intro env h m hw
    obtain ⟨o, g⟩ := og
    have skip : wants (Opd.ev env fr) g = some false → wo K q fr d os (.tup [] :: env) (pushH d m h) m → (∃ env' h' m', Big K (.ops ((o, g) :: os) env fr d h) m (.env env' h') m' ∧ regN q env' h' m') ∨ (∃ v env' h' m', Big K (.ops ((o, g) :: os) env fr d h) m (.pan v env' h') m' ∧ regP q v env' h' m') := by
      intro h1 h2
      rcases ih h2 with ⟨e, h', m', k1, k2⟩ | ⟨v, e, h', m', k1, k2⟩
      · exact .inl ⟨e, h', m', .opsSkip h1 k1, k2⟩
      · exact .inr ⟨v, e, h', m', .opsSkip h1 k1, k2⟩
    have callc : ∀ {f args}, wants (Opd.ev env fr) g = some true → callOf (Opd.ev env fr) o = some (f, args) → (∃ r m1, K f args m r m1 ∧ ((∃ v, r = .ret v ∧ wo K q fr d os (v :: env) (pushH d m h) m1) ∨ (∃ v, r = .raise v ∧ regP q v env (pushH d m h) m1))) →
        (∃ env' h' m', Big K (.ops ((o, g) :: os) env fr d h) m (.env env' h') m' ∧ regN q env' h' m') ∨ (∃ v env' h' m', Big K (.ops ((o, g) :: os) env fr d h) m (.pan v env' h') m' ∧ regP q v env' h' m') := by
      intro f args h1 h2 ⟨r, m1, h3, h4⟩
      rcases h4 with ⟨v, rfl, h4⟩ | ⟨v, rfl, h4⟩
      · rcases ih h4 with ⟨e, h', m', k1, k2⟩ | ⟨v, e, h', m', k1, k2⟩
        · exact .inl ⟨e, h', m', .opsC h1 h2 h3 k1, k2⟩
        · exact .inr ⟨v, e, h', m', .opsC h1 h2 h3 k1, k2⟩
      · exact .inr ⟨v, env, _, m1, .opsCP h1 h2 h3, h4⟩
    have evalc : wants (Opd.ev env fr) g = some true → (∃ v m1, evalP (Opd.ev env fr) m o = some (v, m1) ∧ wo K q fr d os (v :: env) (pushH d m h) m1) →
        (∃ env' h' m', Big K (.ops ((o, g) :: os) env fr d h) m (.env env' h') m' ∧ regN q env' h' m') ∨ (∃ v env' h' m', Big K (.ops ((o, g) :: os) env fr d h) m (.pan v env' h') m' ∧ regP q v env' h' m') := by
      intro h1 ⟨v, m1, h2, h3⟩
      rcases ih h3 with ⟨e, h', m', k1, k2⟩ | ⟨v, e, h', m', k1, k2⟩
      · exact .inl ⟨e, h', m', .opsP h1 h2 k1, k2⟩
      · exact .inr ⟨v, e, h', m', .opsP h1 h2 k1, k2⟩
    cases o with
    | call f args =>
      simp only [wo] at hw
      obtain ⟨b, h1, h2⟩ := hw
      cases b
      · exact skip h1 (by simpa using h2)
      · simp only [if_true] at h2; exact callc h1 rfl h2
    | callV f args =>
      simp only [wo] at hw
      obtain ⟨b, h1, h2⟩ := hw
      cases b
      · exact skip h1 (by simpa using h2)
      · simp only [if_true] at h2
        obtain ⟨f', as, h2, h3⟩ := h2
        exact callc h1 h2 h3
    | panic x =>
      simp only [wo] at hw
      obtain ⟨b, h1, h2⟩ := hw
      cases b
      · exact skip h1 (by simpa using h2)
      · simp only [if_true] at h2
        obtain ⟨t, v, h2, h3⟩ := h2
        exact .inr ⟨_, env, _, m, .opsPan h1 h2, h3⟩
    | _ =>
      simp only [wo] at hw
      obtain ⟨b, h1, h2⟩ := hw
      cases b
      · exact skip h1 (by simpa using h2)
      · simp only [if_true] at h2
        exact evalc h1 h2
theorem wc_sound : ∀ {c : ACode} {Q : AExit → List AV → Mem → Prop} {fr : List AV} {m : Mem}, wc K c Q fr m → ∃ e fr' m', Big K (.code c fr) m (.exit e fr') m' ∧ Q e fr' m'
  | .skip, Q, fr, m, h => ⟨_, _, _, .skip, h⟩
  | .exit id, Q, fr, m, h => ⟨_, _, _, .exit, h⟩
  | .ret, Q, fr, m, h => ⟨_, _, _, .ret, h⟩
  | .stuck, Q, fr, m, h => h.elim
  | .seq a b, Q, fr, m, h => by
    simp only [wc] at h
    obtain ⟨e, fr', m', k1, k2⟩ := wc_sound (c := a) h
    cases e with
    | normal =>
      obtain ⟨e2, fr2, m2, l1, l2⟩ := wc_sound (c := b) k2
      exact ⟨e2, fr2, m2, .seqN k1 l1, l2⟩
    | exit id => exact ⟨_, _, _, .seqX k1 (by simp), k2⟩
    | ret => exact ⟨_, _, _, .seqX k1 (by simp), k2⟩
    | pan v => exact ⟨_, _, _, .seqX k1 (by simp), k2⟩
  | .cond c a b, Q, fr, m, h => by
    simp only [wc] at h
    obtain ⟨t, h1, h2⟩ := h
    cases t
    · obtain ⟨e, fr', m', k1, k2⟩ := wc_sound (c := b) (by simpa using h2)
      exact ⟨e, fr', m', .cond h1 (by simpa using k1), k2⟩
    · obtain ⟨e, fr', m', k1, k2⟩ := wc_sound (c := a) (by simpa using h2)
      exact ⟨e, fr', m', .cond h1 (by simpa using k1), k2⟩
  | .block id a, Q, fr, m, h => by
    simp only [wc] at h
    obtain ⟨e, fr', m', k1, k2⟩ := wc_sound (c := a) h
    cases e with
    | normal => exact ⟨_, _, _, .blockX k1 (by simp), k2⟩
    | ret => exact ⟨_, _, _, .blockX k1 (by simp), k2⟩
    | pan v => exact ⟨_, _, _, .blockX k1 (by simp), k2⟩
    | exit id' =>
      simp only at k2
      split at k2
      · rename_i e; subst e; exact ⟨_, _, _, .blockN k1, k2⟩
      · rename_i hne; exact ⟨_, _, _, .blockX k1 (fun h => hne (by injection h)), k2⟩
  | .loop ks a, Q, fr, m, h => h
  | .region r, Q, fr, m, h => by
    simp only [wc] at h
    rcases wo_sound h with ⟨env, h', m', k1, k2, k3⟩ | ⟨v, env, h', m', k1, k2, k3, k4⟩
    · exact ⟨_, _, _, .region k1 k2, k3⟩
    · exact ⟨_, _, _, .regionP k1 k2 k3, k4⟩

/-- A loop goes round once, and on. -/
theorem wl_step {ks : List Nat} {a : ACode} {Q : AExit → List AV → Mem → Prop} {fr : List AV} {m : Mem} (h : wc K a (loopQ K ks a Q) fr m) : wl K ks a Q fr m := by
  obtain ⟨e, fr', m', k1, k2⟩ := wc_sound h
  cases e with
  | normal =>
    obtain ⟨e2, fr2, m2, l1, l2⟩ := k2
    exact ⟨e2, fr2, m2, .loopN k1 l1, l2⟩
  | exit id => exact ⟨_, _, _, .loopX k1 (by simp), k2⟩
  | ret => exact ⟨_, _, _, .loopX k1 (by simp), k2⟩
  | pan v => exact ⟨_, _, _, .loopX k1 (by simp), k2⟩

/-! ### rules -/
theorem wc_skip {Q : AExit → List AV → Mem → Prop} {fr : List AV} {m : Mem} : wc K .skip Q fr m = Q .normal fr m := rfl
theorem wc_exit {id : Nat} {Q : AExit → List AV → Mem → Prop} {fr : List AV} {m : Mem} : wc K (.exit id) Q fr m = Q (.exit id) fr m := rfl
theorem wc_ret {Q : AExit → List AV → Mem → Prop} {fr : List AV} {m : Mem} : wc K .ret Q fr m = Q .ret fr m := rfl
theorem wc_seq {a b : ACode} {Q : AExit → List AV → Mem → Prop} {fr : List AV} {m : Mem} : wc K (.seq a b) Q fr m = wc K a (seqQ K b Q) fr m := by
  have : (fun e fr' m' => match e with | .normal => wc K b Q fr' m' | .exit id => Q (.exit id) fr' m' | .ret => Q .ret fr' m' | .pan v => Q (.pan v) fr' m') = seqQ K b Q := by
    funext e fr m; cases e <;> rfl
  simp only [wc]; rw [this]
theorem wc_block {id : Nat} {a : ACode} {Q : AExit → List AV → Mem → Prop} {fr : List AV} {m : Mem} : wc K (.block id a) Q fr m = wc K a (blockQ id Q) fr m := by
  have : (fun e fr' m' => match e with | .exit id' => if id' = id then Q .normal fr' m' else Q (.exit id') fr' m' | .normal => Q .normal fr' m' | .ret => Q .ret fr' m' | .pan v => Q (.pan v) fr' m') = blockQ id Q := by
    funext e fr m; cases e <;> rfl
  simp only [wc]; rw [this]
theorem wc_cond {c : Opd} {a b : ACode} {Q : AExit → List AV → Mem → Prop} {fr : List AV} {m : Mem} : wc K (.cond c a b) Q fr m = boolW K (c.ev [] fr) a b Q fr m := rfl
theorem wc_loop {ks : List Nat} {a : ACode} {Q : AExit → List AV → Mem → Prop} {fr : List AV} {m : Mem} : wc K (.loop ks a) Q fr m = wl K ks a Q fr m := rfl
theorem wc_region {r : ARegion} {Q : AExit → List AV → Mem → Prop} {fr : List AV} {m : Mem} : wc K (.region r) Q fr m = wo K ⟨r, Q, fr⟩ fr (!r.pairs.isEmpty) r.ops [] [] m := rfl
theorem wo_nil {g : Rg} {fr env : List AV} {d : Bool} {h : List Mem} {m : Mem} : wo K g fr d [] env h m = regN g env h m := rfl
theorem seqQ_n {b : ACode} {Q : AExit → List AV → Mem → Prop} {fr : List AV} {m : Mem} : seqQ K b Q .normal fr m = wc K b Q fr m := rfl
theorem seqQ_x {b : ACode} {Q : AExit → List AV → Mem → Prop} {fr : List AV} {m : Mem} {id : Nat} : seqQ K b Q (.exit id) fr m = Q (.exit id) fr m := rfl
theorem seqQ_r {b : ACode} {Q : AExit → List AV → Mem → Prop} {fr : List AV} {m : Mem} : seqQ K b Q .ret fr m = Q .ret fr m := rfl
theorem seqQ_p {b : ACode} {Q : AExit → List AV → Mem → Prop} {fr : List AV} {m : Mem} {v : AV} : seqQ K b Q (.pan v) fr m = Q (.pan v) fr m := rfl
theorem loopQ_n {ks : List Nat} {b : ACode} {Q : AExit → List AV → Mem → Prop} {fr : List AV} {m : Mem} : loopQ K ks b Q .normal fr m = wl K ks b Q (kills ks fr) m := rfl
theorem loopQ_x {ks : List Nat} {b : ACode} {Q : AExit → List AV → Mem → Prop} {fr : List AV} {m : Mem} {id : Nat} : loopQ K ks b Q (.exit id) fr m = Q (.exit id) fr m := rfl
theorem loopQ_r {ks : List Nat} {b : ACode} {Q : AExit → List AV → Mem → Prop} {fr : List AV} {m : Mem} : loopQ K ks b Q .ret fr m = Q .ret fr m := rfl
theorem loopQ_p {ks : List Nat} {b : ACode} {Q : AExit → List AV → Mem → Prop} {fr : List AV} {m : Mem} {v : AV} : loopQ K ks b Q (.pan v) fr m = Q (.pan v) fr m := rfl
theorem blockQ_n {id : Nat} {Q : AExit → List AV → Mem → Prop} {fr : List AV} {m : Mem} : blockQ id Q .normal fr m = Q .normal fr m := rfl
theorem blockQ_x {id id' : Nat} {Q : AExit → List AV → Mem → Prop} {fr : List AV} {m : Mem} : blockQ id Q (.exit id') fr m = Q (if id' = id then .normal else .exit id') fr m := by
  simp only [blockQ]; split <;> rfl
theorem blockQ_r {id : Nat} {Q : AExit → List AV → Mem → Prop} {fr : List AV} {m : Mem} : blockQ id Q .ret fr m = Q .ret fr m := rfl
theorem blockQ_p {id : Nat} {Q : AExit → List AV → Mem → Prop} {fr : List AV} {m : Mem} {v : AV} : blockQ id Q (.pan v) fr m = Q (.pan v) fr m := rfl
theorem bindW_some {v : AV} {m : Mem} {g : Rg} {fr : List AV} {d : Bool} {os : List (AOp × Option (Opd × Bool))} {env : List AV} {h : List Mem} : bindW K (some (v, m)) g fr d os env h = wo K g fr d os (v :: env) h m :=
  propext ⟨fun ⟨_, _, h, k⟩ => by injection h with h; injection h with h1 h2; subst h1; subst h2; exact k, fun h => ⟨_, _, rfl, h⟩⟩
theorem wantW_true {o : AOp} {g : Rg} {fr : List AV} {d : Bool} {os : List (AOp × Option (Opd × Bool))} {env : List AV} {h : List Mem} {m : Mem} : wantW K (some true) o g fr d os env h m = wo K g fr d ((o, none) :: os) env h m := by simp [wantW]
theorem wantW_false {o : AOp} {g : Rg} {fr : List AV} {d : Bool} {os : List (AOp × Option (Opd × Bool))} {env : List AV} {h : List Mem} {m : Mem} : wantW K (some false) o g fr d os env h m = wo K g fr d os (.tup [] :: env) (pushH d m h) m := by simp [wantW]
theorem wantW_intro {b : Bool} {o : AOp} {g : Rg} {fr : List AV} {d : Bool} {os : List (AOp × Option (Opd × Bool))} {env : List AV} {h : List Mem} {m : Mem} (h1 : b = true → wo K g fr d ((o, none) :: os) env h m) (h2 : b = false → wo K g fr d os (.tup [] :: env) (pushH d m h) m) : wantW K (some b) o g fr d os env h m := by
  cases b
  · rw [wantW_false]; exact h2 rfl
  · rw [wantW_true]; exact h1 rfl
theorem boolW_true {a b : ACode} {Q : AExit → List AV → Mem → Prop} {fr : List AV} {m : Mem} : boolW K (.bool true) a b Q fr m = wc K a Q fr m := by simp [boolW]
theorem boolW_false {a b : ACode} {Q : AExit → List AV → Mem → Prop} {fr : List AV} {m : Mem} : boolW K (.bool false) a b Q fr m = wc K b Q fr m := by simp [boolW]
theorem boolW_intro {t : Bool} {a b : ACode} {Q : AExit → List AV → Mem → Prop} {fr : List AV} {m : Mem} (h1 : t = true → wc K a Q fr m) (h2 : t = false → wc K b Q fr m) : boolW K (.bool t) a b Q fr m := by
  cases t
  · rw [boolW_false]; exact h2 rfl
  · rw [boolW_true]; exact h1 rfl
theorem panW_iface {t : TypeId} {v : AV} {g : Rg} {env : List AV} {h : List Mem} {m : Mem} : panW (.iface t v) g env h m = regP g (.iface t v) env h m :=
  propext ⟨fun ⟨_, _, h, k⟩ => by injection h with h1 h2; subst h1; subst h2; exact k, fun h => ⟨_, _, rfl, h⟩⟩
theorem callVW_some {f : FuncId} {args : List AV} {g : Rg} {fr : List AV} {d : Bool} {os : List (AOp × Option (Opd × Bool))} {env : List AV} {h : List Mem} {m : Mem} : callVW K (some (f, args)) g fr d os env h m = callW K f args g fr d os env h m :=
  propext ⟨fun ⟨_, _, h, k⟩ => by injection h with h; injection h with h1 h2; subst h1; subst h2; exact k, fun h => ⟨_, _, rfl, h⟩⟩
theorem callW_ret {f : FuncId} {args : List AV} {g : Rg} {fr : List AV} {d : Bool} {os : List (AOp × Option (Opd × Bool))} {env : List AV} {h : List Mem} {m m1 : Mem} {v : AV} (hc : K f args m (.ret v) m1) (hk : wo K g fr d os (v :: env) (pushH d m h) m1) : callW K f args g fr d os env h m := ⟨_, _, hc, .inl ⟨_, rfl, hk⟩⟩
theorem callW_raise {f : FuncId} {args : List AV} {g : Rg} {fr : List AV} {d : Bool} {os : List (AOp × Option (Opd × Bool))} {env : List AV} {h : List Mem} {m m1 : Mem} {v : AV} (hc : K f args m (.raise v) m1) (hk : regP g v env (pushH d m h) m1) : callW K f args g fr d os env h m := ⟨_, _, hc, .inr ⟨_, rfl, hk⟩⟩
theorem wo_call {f : FuncId} {args : List Opd} {g : Rg} {fr : List AV} {d : Bool} {os : List (AOp × Option (Opd × Bool))} {env : List AV} {h : List Mem} {m : Mem} : wo K g fr d ((.call f args, none) :: os) env h m = callW K f (args.map (Opd.ev env fr)) g fr d os env h m := by
  simp [wo, wants, callW]
theorem wo_callV {x : Opd} {args : List Opd} {g : Rg} {fr : List AV} {d : Bool} {os : List (AOp × Option (Opd × Bool))} {env : List AV} {h : List Mem} {m : Mem} : wo K g fr d ((.callV x args, none) :: os) env h m = callVW K (callOf (Opd.ev env fr) (.callV x args)) g fr d os env h m := by
  simp [wo, wants, callW, callVW]
theorem wo_pan {x : Opd} {g : Rg} {fr : List AV} {d : Bool} {os : List (AOp × Option (Opd × Bool))} {env : List AV} {h : List Mem} {m : Mem} : wo K g fr d ((.panic x, none) :: os) env h m = panW (Opd.ev env fr x) g env (pushH d m h) m := by
  simp [wo, wants, panW]
theorem wo_guard {o : AOp} {gd : Opd × Bool} {g : Rg} {fr : List AV} {d : Bool} {os : List (AOp × Option (Opd × Bool))} {env : List AV} {h : List Mem} {m : Mem} : wo K g fr d ((o, some gd) :: os) env h m = wantW K (wants (Opd.ev env fr) (some gd)) o g fr d os env h m := by
  cases o <;> simp [wo, wants, wantW]
theorem wo_move {x : Opd} {g : Rg} {fr : List AV} {d : Bool} {os : List (AOp × Option (Opd × Bool))} {env : List AV} {h : List Mem} {m' : Mem} : wo K g fr d (((AOp.move x), none) :: os) env h m' = bindW K (evalP (Opd.ev env fr) m' (AOp.move x)) g fr d os env (pushH d m' h) := by simp [wo, wants, bindW]
theorem wo_pick {c a b : Opd} {g : Rg} {fr : List AV} {d : Bool} {os : List (AOp × Option (Opd × Bool))} {env : List AV} {h : List Mem} {m' : Mem} : wo K g fr d (((AOp.pick c a b), none) :: os) env h m' = bindW K (evalP (Opd.ev env fr) m' (AOp.pick c a b)) g fr d os env (pushH d m' h) := by simp [wo, wants, bindW]
theorem wo_alloc {t : TypeId} {z : List AV} {g : Rg} {fr : List AV} {d : Bool} {os : List (AOp × Option (Opd × Bool))} {env : List AV} {h : List Mem} {m' : Mem} : wo K g fr d (((AOp.alloc t z), none) :: os) env h m' = bindW K (evalP (Opd.ev env fr) m' (AOp.alloc t z)) g fr d os env (pushH d m' h) := by simp [wo, wants, bindW]
theorem wo_box {t : TypeId} {x : Opd} {g : Rg} {fr : List AV} {d : Bool} {os : List (AOp × Option (Opd × Bool))} {env : List AV} {h : List Mem} {m' : Mem} : wo K g fr d (((AOp.box t x), none) :: os) env h m' = bindW K (evalP (Opd.ev env fr) m' (AOp.box t x)) g fr d os env (pushH d m' h) := by simp [wo, wants, bindW]
theorem wo_build {z : List AV} {ps : List (Nat × Nat × Opd)} {g : Rg} {fr : List AV} {d : Bool} {os : List (AOp × Option (Opd × Bool))} {env : List AV} {h : List Mem} {m' : Mem} : wo K g fr d (((AOp.build z ps), none) :: os) env h m' = bindW K (evalP (Opd.ev env fr) m' (AOp.build z ps)) g fr d os env (pushH d m' h) := by simp [wo, wants, bindW]
theorem wo_buildSl {sz : Nat} {z : AV} {n : Nat} {ps : List (Nat × Opd)} {g : Rg} {fr : List AV} {d : Bool} {os : List (AOp × Option (Opd × Bool))} {env : List AV} {h : List Mem} {m' : Mem} : wo K g fr d (((AOp.buildSl sz z n ps), none) :: os) env h m' = bindW K (evalP (Opd.ev env fr) m' (AOp.buildSl sz z n ps)) g fr d os env (pushH d m' h) := by simp [wo, wants, bindW]
theorem wo_load {isAgg : Bool} {n : Nat} {a : Opd} {g : Rg} {fr : List AV} {d : Bool} {os : List (AOp × Option (Opd × Bool))} {env : List AV} {h : List Mem} {m' : Mem} : wo K g fr d (((AOp.load isAgg n a), none) :: os) env h m' = bindW K (evalP (Opd.ev env fr) m' (AOp.load isAgg n a)) g fr d os env (pushH d m' h) := by simp [wo, wants, bindW]
theorem wo_store {n : Nat} {a x : Opd} {g : Rg} {fr : List AV} {d : Bool} {os : List (AOp × Option (Opd × Bool))} {env : List AV} {h : List Mem} {m' : Mem} : wo K g fr d (((AOp.store n a x), none) :: os) env h m' = bindW K (evalP (Opd.ev env fr) m' (AOp.store n a x)) g fr d os env (pushH d m' h) := by simp [wo, wants, bindW]
theorem wo_nilck {x : Opd} {g : Rg} {fr : List AV} {d : Bool} {os : List (AOp × Option (Opd × Bool))} {env : List AV} {h : List Mem} {m' : Mem} : wo K g fr d (((AOp.nilck x), none) :: os) env h m' = bindW K (evalP (Opd.ev env fr) m' (AOp.nilck x)) g fr d os env (pushH d m' h) := by simp [wo, wants, bindW]
theorem wo_bin {op : BinOp} {x y : Opd} {g : Rg} {fr : List AV} {d : Bool} {os : List (AOp × Option (Opd × Bool))} {env : List AV} {h : List Mem} {m' : Mem} : wo K g fr d (((AOp.bin op x y), none) :: os) env h m' = bindW K (evalP (Opd.ev env fr) m' (AOp.bin op x y)) g fr d os env (pushH d m' h) := by simp [wo, wants, bindW]
theorem wo_eq {neg : Bool} {t : EqT} {x y : Opd} {g : Rg} {fr : List AV} {d : Bool} {os : List (AOp × Option (Opd × Bool))} {env : List AV} {h : List Mem} {m' : Mem} : wo K g fr d (((AOp.eq neg t x y), none) :: os) env h m' = bindW K (evalP (Opd.ev env fr) m' (AOp.eq neg t x y)) g fr d os env (pushH d m' h) := by simp [wo, wants, bindW]
theorem wo_not {x : Opd} {g : Rg} {fr : List AV} {d : Bool} {os : List (AOp × Option (Opd × Bool))} {env : List AV} {h : List Mem} {m' : Mem} : wo K g fr d (((AOp.not x), none) :: os) env h m' = bindW K (evalP (Opd.ev env fr) m' (AOp.not x)) g fr d os env (pushH d m' h) := by simp [wo, wants, bindW]
theorem wo_neg {x : Opd} {g : Rg} {fr : List AV} {d : Bool} {os : List (AOp × Option (Opd × Bool))} {env : List AV} {h : List Mem} {m' : Mem} : wo K g fr d (((AOp.neg x), none) :: os) env h m' = bindW K (evalP (Opd.ev env fr) m' (AOp.neg x)) g fr d os env (pushH d m' h) := by simp [wo, wants, bindW]
theorem wo_inv {x : Opd} {g : Rg} {fr : List AV} {d : Bool} {os : List (AOp × Option (Opd × Bool))} {env : List AV} {h : List Mem} {m' : Mem} : wo K g fr d (((AOp.inv x), none) :: os) env h m' = bindW K (evalP (Opd.ev env fr) m' (AOp.inv x)) g fr d os env (pushH d m' h) := by simp [wo, wants, bindW]
theorem wo_convI {k : IntKind} {x : Opd} {g : Rg} {fr : List AV} {d : Bool} {os : List (AOp × Option (Opd × Bool))} {env : List AV} {h : List Mem} {m' : Mem} : wo K g fr d (((AOp.convI k x), none) :: os) env h m' = bindW K (evalP (Opd.ev env fr) m' (AOp.convI k x)) g fr d os env (pushH d m' h) := by simp [wo, wants, bindW]
theorem wo_bytesOf {e : TypeId} {x : Opd} {g : Rg} {fr : List AV} {d : Bool} {os : List (AOp × Option (Opd × Bool))} {env : List AV} {h : List Mem} {m' : Mem} : wo K g fr d (((AOp.bytesOf e x), none) :: os) env h m' = bindW K (evalP (Opd.ev env fr) m' (AOp.bytesOf e x)) g fr d os env (pushH d m' h) := by simp [wo, wants, bindW]
theorem wo_strOf {x : Opd} {g : Rg} {fr : List AV} {d : Bool} {os : List (AOp × Option (Opd × Bool))} {env : List AV} {h : List Mem} {m' : Mem} : wo K g fr d (((AOp.strOf x), none) :: os) env h m' = bindW K (evalP (Opd.ev env fr) m' (AOp.strOf x)) g fr d os env (pushH d m' h) := by simp [wo, wants, bindW]
theorem wo_runeStr {x : Opd} {g : Rg} {fr : List AV} {d : Bool} {os : List (AOp × Option (Opd × Bool))} {env : List AV} {h : List Mem} {m' : Mem} : wo K g fr d (((AOp.runeStr x), none) :: os) env h m' = bindW K (evalP (Opd.ev env fr) m' (AOp.runeStr x)) g fr d os env (pushH d m' h) := by simp [wo, wants, bindW]
theorem wo_mkIface {t : TypeId} {x : Opd} {g : Rg} {fr : List AV} {d : Bool} {os : List (AOp × Option (Opd × Bool))} {env : List AV} {h : List Mem} {m' : Mem} : wo K g fr d (((AOp.mkIface t x), none) :: os) env h m' = bindW K (evalP (Opd.ev env fr) m' (AOp.mkIface t x)) g fr d os env (pushH d m' h) := by simp [wo, wants, bindW]
theorem wo_mkFn {f : Fn} {first cap : List Opd} {g : Rg} {fr : List AV} {d : Bool} {os : List (AOp × Option (Opd × Bool))} {env : List AV} {h : List Mem} {m' : Mem} : wo K g fr d (((AOp.mkFn f first cap), none) :: os) env h m' = bindW K (evalP (Opd.ev env fr) m' (AOp.mkFn f first cap)) g fr d os env (pushH d m' h) := by simp [wo, wants, bindW]
theorem wo_mkMap  {g : Rg} {fr : List AV} {d : Bool} {os : List (AOp × Option (Opd × Bool))} {env : List AV} {h : List Mem} {m' : Mem} : wo K g fr d (((AOp.mkMap), none) :: os) env h m' = bindW K (evalP (Opd.ev env fr) m' (AOp.mkMap)) g fr d os env (pushH d m' h) := by simp [wo, wants, bindW]
theorem wo_sliceS {x : Opd} {lo hi : Option Opd} {g : Rg} {fr : List AV} {d : Bool} {os : List (AOp × Option (Opd × Bool))} {env : List AV} {h : List Mem} {m' : Mem} : wo K g fr d (((AOp.sliceS x lo hi), none) :: os) env h m' = bindW K (evalP (Opd.ev env fr) m' (AOp.sliceS x lo hi)) g fr d os env (pushH d m' h) := by simp [wo, wants, bindW]
theorem wo_sliceL {sz : Nat} {x : Opd} {lo hi mx : Option Opd} {g : Rg} {fr : List AV} {d : Bool} {os : List (AOp × Option (Opd × Bool))} {env : List AV} {h : List Mem} {m' : Mem} : wo K g fr d (((AOp.sliceL sz x lo hi mx), none) :: os) env h m' = bindW K (evalP (Opd.ev env fr) m' (AOp.sliceL sz x lo hi mx)) g fr d os env (pushH d m' h) := by simp [wo, wants, bindW]
theorem wo_fieldAddr {off : Nat} {x : Opd} {g : Rg} {fr : List AV} {d : Bool} {os : List (AOp × Option (Opd × Bool))} {env : List AV} {h : List Mem} {m' : Mem} : wo K g fr d (((AOp.fieldAddr off x), none) :: os) env h m' = bindW K (evalP (Opd.ev env fr) m' (AOp.fieldAddr off x)) g fr d os env (pushH d m' h) := by simp [wo, wants, bindW]
theorem wo_field {isAgg : Bool} {n off : Nat} {x : Opd} {g : Rg} {fr : List AV} {d : Bool} {os : List (AOp × Option (Opd × Bool))} {env : List AV} {h : List Mem} {m' : Mem} : wo K g fr d (((AOp.field isAgg n off x), none) :: os) env h m' = bindW K (evalP (Opd.ev env fr) m' (AOp.field isAgg n off x)) g fr d os env (pushH d m' h) := by simp [wo, wants, bindW]
theorem wo_idxAddr {sz : Nat} {x i : Opd} {g : Rg} {fr : List AV} {d : Bool} {os : List (AOp × Option (Opd × Bool))} {env : List AV} {h : List Mem} {m' : Mem} : wo K g fr d (((AOp.idxAddr sz x i), none) :: os) env h m' = bindW K (evalP (Opd.ev env fr) m' (AOp.idxAddr sz x i)) g fr d os env (pushH d m' h) := by simp [wo, wants, bindW]
theorem wo_idxAddrA {len sz : Nat} {x i : Opd} {g : Rg} {fr : List AV} {d : Bool} {os : List (AOp × Option (Opd × Bool))} {env : List AV} {h : List Mem} {m' : Mem} : wo K g fr d (((AOp.idxAddrA len sz x i), none) :: os) env h m' = bindW K (evalP (Opd.ev env fr) m' (AOp.idxAddrA len sz x i)) g fr d os env (pushH d m' h) := by simp [wo, wants, bindW]
theorem wo_idxS {x i : Opd} {g : Rg} {fr : List AV} {d : Bool} {os : List (AOp × Option (Opd × Bool))} {env : List AV} {h : List Mem} {m' : Mem} : wo K g fr d (((AOp.idxS x i), none) :: os) env h m' = bindW K (evalP (Opd.ev env fr) m' (AOp.idxS x i)) g fr d os env (pushH d m' h) := by simp [wo, wants, bindW]
theorem wo_idxA {isAgg : Bool} {len sz : Nat} {x i : Opd} {g : Rg} {fr : List AV} {d : Bool} {os : List (AOp × Option (Opd × Bool))} {env : List AV} {h : List Mem} {m' : Mem} : wo K g fr d (((AOp.idxA isAgg len sz x i), none) :: os) env h m' = bindW K (evalP (Opd.ev env fr) m' (AOp.idxA isAgg len sz x i)) g fr d os env (pushH d m' h) := by simp [wo, wants, bindW]
theorem wo_lookup {kd : KK} {z : AV} {ok : Bool} {x k : Opd} {g : Rg} {fr : List AV} {d : Bool} {os : List (AOp × Option (Opd × Bool))} {env : List AV} {h : List Mem} {m' : Mem} : wo K g fr d (((AOp.lookup kd z ok x k), none) :: os) env h m' = bindW K (evalP (Opd.ev env fr) m' (AOp.lookup kd z ok x k)) g fr d os env (pushH d m' h) := by simp [wo, wants, bindW]
theorem wo_mapUpd {kd : KK} {x k v : Opd} {g : Rg} {fr : List AV} {d : Bool} {os : List (AOp × Option (Opd × Bool))} {env : List AV} {h : List Mem} {m' : Mem} : wo K g fr d (((AOp.mapUpd kd x k v), none) :: os) env h m' = bindW K (evalP (Opd.ev env fr) m' (AOp.mapUpd kd x k v)) g fr d os env (pushH d m' h) := by simp [wo, wants, bindW]
theorem wo_rangeS {x : Opd} {g : Rg} {fr : List AV} {d : Bool} {os : List (AOp × Option (Opd × Bool))} {env : List AV} {h : List Mem} {m' : Mem} : wo K g fr d (((AOp.rangeS x), none) :: os) env h m' = bindW K (evalP (Opd.ev env fr) m' (AOp.rangeS x)) g fr d os env (pushH d m' h) := by simp [wo, wants, bindW]
theorem wo_nextS {x : Opd} {g : Rg} {fr : List AV} {d : Bool} {os : List (AOp × Option (Opd × Bool))} {env : List AV} {h : List Mem} {m' : Mem} : wo K g fr d (((AOp.nextS x), none) :: os) env h m' = bindW K (evalP (Opd.ev env fr) m' (AOp.nextS x)) g fr d os env (pushH d m' h) := by simp [wo, wants, bindW]
theorem wo_tassert {t : TypeId} {z : AV} {ok : Bool} {x : Opd} {g : Rg} {fr : List AV} {d : Bool} {os : List (AOp × Option (Opd × Bool))} {env : List AV} {h : List Mem} {m' : Mem} : wo K g fr d (((AOp.tassert t z ok x), none) :: os) env h m' = bindW K (evalP (Opd.ev env fr) m' (AOp.tassert t z ok x)) g fr d os env (pushH d m' h) := by simp [wo, wants, bindW]
theorem wo_extract {i : Nat} {x : Opd} {g : Rg} {fr : List AV} {d : Bool} {os : List (AOp × Option (Opd × Bool))} {env : List AV} {h : List Mem} {m' : Mem} : wo K g fr d (((AOp.extract i x), none) :: os) env h m' = bindW K (evalP (Opd.ev env fr) m' (AOp.extract i x)) g fr d os env (pushH d m' h) := by simp [wo, wants, bindW]
theorem wo_len {k : LK} {x : Opd} {g : Rg} {fr : List AV} {d : Bool} {os : List (AOp × Option (Opd × Bool))} {env : List AV} {h : List Mem} {m' : Mem} : wo K g fr d (((AOp.len k x), none) :: os) env h m' = bindW K (evalP (Opd.ev env fr) m' (AOp.len k x)) g fr d os env (pushH d m' h) := by simp [wo, wants, bindW]
theorem wo_min {x y : Opd} {g : Rg} {fr : List AV} {d : Bool} {os : List (AOp × Option (Opd × Bool))} {env : List AV} {h : List Mem} {m' : Mem} : wo K g fr d (((AOp.min x y), none) :: os) env h m' = bindW K (evalP (Opd.ev env fr) m' (AOp.min x y)) g fr d os env (pushH d m' h) := by simp [wo, wants, bindW]
theorem wo_max {x y : Opd} {g : Rg} {fr : List AV} {d : Bool} {os : List (AOp × Option (Opd × Bool))} {env : List AV} {h : List Mem} {m' : Mem} : wo K g fr d (((AOp.max x y), none) :: os) env h m' = bindW K (evalP (Opd.ev env fr) m' (AOp.max x y)) g fr d os env (pushH d m' h) := by simp [wo, wants, bindW]
theorem wo_append {e : TypeId} {sz bytes : Nat} {a b : Opd} {g : Rg} {fr : List AV} {d : Bool} {os : List (AOp × Option (Opd × Bool))} {env : List AV} {h : List Mem} {m' : Mem} : wo K g fr d (((AOp.append e sz bytes a b), none) :: os) env h m' = bindW K (evalP (Opd.ev env fr) m' (AOp.append e sz bytes a b)) g fr d os env (pushH d m' h) := by simp [wo, wants, bindW]
theorem wo_convP {x : Opd} {g : Rg} {fr : List AV} {d : Bool} {os : List (AOp × Option (Opd × Bool))} {env : List AV} {h : List Mem} {m' : Mem} : wo K g fr d (((AOp.convP x), none) :: os) env h m' = bindW K (evalP (Opd.ev env fr) m' (AOp.convP x)) g fr d os env (pushH d m' h) := by simp [wo, wants, bindW]
theorem wo_convU {alts : List (TypeId × Nat × Nat)} {x : Opd} {g : Rg} {fr : List AV} {d : Bool} {os : List (AOp × Option (Opd × Bool))} {env : List AV} {h : List Mem} {m' : Mem} : wo K g fr d (((AOp.convU alts x), none) :: os) env h m' = bindW K (evalP (Opd.ev env fr) m' (AOp.convU alts x)) g fr d os env (pushH d m' h) := by simp [wo, wants, bindW]
theorem wo_sliceData {x : Opd} {g : Rg} {fr : List AV} {d : Bool} {os : List (AOp × Option (Opd × Bool))} {env : List AV} {h : List Mem} {m' : Mem} : wo K g fr d (((AOp.sliceData x), none) :: os) env h m' = bindW K (evalP (Opd.ev env fr) m' (AOp.sliceData x)) g fr d os env (pushH d m' h) := by simp [wo, wants, bindW]
theorem wo_unsafeStr {u' : TypeId} {x n : Opd} {g : Rg} {fr : List AV} {d : Bool} {os : List (AOp × Option (Opd × Bool))} {env : List AV} {h : List Mem} {m' : Mem} : wo K g fr d (((AOp.unsafeStr u' x n), none) :: os) env h m' = bindW K (evalP (Opd.ev env fr) m' (AOp.unsafeStr u' x n)) g fr d os env (pushH d m' h) := by simp [wo, wants, bindW]
theorem wo_idxByte {x c : Opd} {g : Rg} {fr : List AV} {d : Bool} {os : List (AOp × Option (Opd × Bool))} {env : List AV} {h : List Mem} {m' : Mem} : wo K g fr d (((AOp.idxByte x c), none) :: os) env h m' = bindW K (evalP (Opd.ev env fr) m' (AOp.idxByte x c)) g fr d os env (pushH d m' h) := by simp [wo, wants, bindW]
theorem regN_eq {os : List (AOp × Option (Opd × Bool))} {exp : List (Nat × Opd)} {d : Bool} {okp : List Nat} {ps : List (List Nat)} {Q : AExit → List AV → Mem → Prop} {fr env : List AV} {h : List Mem} {m : Mem} :
    regN ⟨{ ops := os, exp := exp, draws := d, pairs := [], okPan := okp, preds := ps }, Q, fr⟩ env h m = Q .normal (exports env fr exp) m := propext ⟨fun h => h.2, fun h => ⟨(fun p hp => by cases hp), h⟩⟩
theorem regP_eq {os : List (AOp × Option (Opd × Bool))} {exp : List (Nat × Opd)} {okp : List Nat} {ps : List (List Nat)} {Q : AExit → List AV → Mem → Prop} {fr env : List AV} {v : AV} {h : List Mem} {m : Mem} :
    regP ⟨{ ops := os, exp := exp, draws := false, pairs := [], okPan := okp, preds := ps }, Q, fr⟩ v env h m = Q (.pan v) fr m := propext ⟨fun h => h.2.2, fun h => ⟨fun e => (by cases e), (fun p hp => by cases hp), h⟩⟩
theorem regP_dr {os : List (AOp × Option (Opd × Bool))} {exp : List (Nat × Opd)} {okp : List Nat} {ps : List (List Nat)} {Q : AExit → List AV → Mem → Prop} {fr env : List AV} {v : AV} {h : List Mem} {m : Mem} :
    regP ⟨{ ops := os, exp := exp, draws := true, pairs := [], okPan := okp, preds := ps }, Q, fr⟩ v env h m = (env.length ∈ okp ∧ Q (.pan v) fr m) := propext ⟨fun h => ⟨h.1 rfl, h.2.2⟩, fun h => ⟨fun _ => h.1, (fun p hp => by cases hp), h.2⟩⟩
/-! what holds of more holds of less -/
theorem stable_nil {r : ARegion} {env fr : List AV} {h : List Mem} (hp : r.pairs = []) : Stable r env fr h := fun p hp' => by rw [hp] at hp'; cases hp'
end

/-- What a function's end asks. -/
def endsIn (rs : List ARes) (R : AV → Mem → Prop) (Z : AV → Mem → Prop) : AExit → List AV → Mem → Prop
  | .normal, fr, m => ∃ vs, resultsOf fr m rs = some vs ∧ R (oneOr vs) m
  | .ret, fr, m => ∃ vs, resultsOf fr m rs = some vs ∧ R (oneOr vs) m
  | .pan v, _, m => Z v m
  | .exit _, _, _ => False
def noPan : AV → Mem → Prop := fun _ _ => False

/-- A call, by its function's text: it returns. -/
theorem call_by {P : Program} {xf : FuncId → Nat} {G : Nat → Option (List AV)} (hX : XfOk P xf) (hm : P.follows .mixedOrders = true) {f : FuncId} {fn : Func} {q : AFn} (hfn : P.funcs[f]? = some fn) (hok : fnOk P xf G fn q = true)
    {args : List AV} {m m' : Mem} {v : AV} (hl : args.length = q.nparams) (h : wc (CallSound P G) q.body (endsIn q.results (fun v' m1 => v' = v ∧ m1 = m') noPan) (args ++ List.replicate (q.nslots - q.nparams) .u) m) :
    CallSound P G f args m (.ret v) m' := by
  obtain ⟨e, fr', m1, k1, k2⟩ := wc_sound h
  cases e with
  | normal => obtain ⟨vs, l1, rfl, rfl⟩ := k2; exact call_ret hX hm (fun _ _ _ _ _ h => h) hfn hok hl k1 (.inl rfl) l1
  | ret => obtain ⟨vs, l1, rfl, rfl⟩ := k2; exact call_ret hX hm (fun _ _ _ _ _ h => h) hfn hok hl k1 (.inr rfl) l1
  | pan v => exact k2.elim
  | exit id => exact k2.elim
theorem call_by_pan {P : Program} {xf : FuncId → Nat} {G : Nat → Option (List AV)} (hX : XfOk P xf) (hm : P.follows .mixedOrders = true) {f : FuncId} {fn : Func} {q : AFn} (hfn : P.funcs[f]? = some fn) (hok : fnOk P xf G fn q = true)
    {args : List AV} {m m' : Mem} {v : AV} (hl : args.length = q.nparams) (h : wc (CallSound P G) q.body (endsIn q.results (fun _ _ => False) (fun v' m1 => v' = v ∧ m1 = m')) (args ++ List.replicate (q.nslots - q.nparams) .u) m) :
    CallSound P G f args m (.raise v) m' := by
  obtain ⟨e, fr', m1, k1, k2⟩ := wc_sound h
  cases e with
  | normal => obtain ⟨vs, l1, k⟩ := k2; exact k.elim
  | ret => obtain ⟨vs, l1, k⟩ := k2; exact k.elim
  | pan v => obtain ⟨rfl, rfl⟩ := k2; exact call_pan hX hm (fun _ _ _ _ _ h => h) hfn hok hl k1
  | exit id => exact k2.elim
/-- A call, by its function's text: it returns something with R, in some memory, from an empty one. -/
theorem call_some {P : Program} {xf : FuncId → Nat} {G : Nat → Option (List AV)} (hX : XfOk P xf) (hm : P.follows .mixedOrders = true) {f : FuncId} {fn : Func} {q : AFn} (hfn : P.funcs[f]? = some fn) (hok : fnOk P xf G fn q = true)
    {args : List AV} {m : Mem} {R : AV → Mem → Prop} (hl : args.length = q.nparams) (h : wc (CallSound P G) q.body (endsIn q.results R noPan) (args ++ List.replicate (q.nslots - q.nparams) .u) m) :
    ∃ v m', CallSound P G f args m (.ret v) m' ∧ R v m' := by
  obtain ⟨e, fr', m1, k1, k2⟩ := wc_sound h
  cases e with
  | normal => obtain ⟨vs, l1, k⟩ := k2; exact ⟨_, _, call_ret hX hm (fun _ _ _ _ _ h => h) hfn hok hl k1 (.inl rfl) l1, k⟩
  | ret => obtain ⟨vs, l1, k⟩ := k2; exact ⟨_, _, call_ret hX hm (fun _ _ _ _ _ h => h) hfn hok hl k1 (.inr rfl) l1, k⟩
  | pan v => exact k2.elim
  | exit id => exact k2.elim
end Go.Proofs.YtinlfdkalijffaaDoor.Am
